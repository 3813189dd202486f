/- Texts of this claim, joined. -/
import Derived.Test.YtednmmcdjhfflaaR5
/- What an analysis is asked, where it lies frozen. -/
namespace Go.Proofs.Ytednmmcdjhfflaa.Vai
open Go
set_option linter.unusedVariables false
set_option linter.unusedSimpArgs false
theorem Wk.fp {z z' o : Nat} {cs ds : List AV} (hz : z' ≤ z) (h : WkL cs ds) : Wk (.fp z cs o) (.fp z' ds o) := by
  rintro ρ v ⟨k, off, ob, h1, ⟨z'', h2, h3⟩, h4⟩
  exact ⟨k, off, ob, h1, ⟨z'', h2, by omega⟩, h.relC h4⟩
theorem Wk.any (x : AV) : Wk x .any := fun _ _ _ => trivial
structure PA where
  how : Int
  h : Mach
  acc : List (List Int)
  w : List Int
  said : List (List Int)
  ov : Bool
  sp : Bool
  pl : Int
  ak : Int
def atV : Bool → Bool → Int → AV
  | false, _, p => .ifc 167 (.agg [.int .i64 p])
  | true, b, p => .ifc 180 (.agg [.bool b, .int .i64 p])
def deAt : AV → Option (Bool × Bool × Int)
  | .ifc t (.agg [.int .i64 p]) => if t = 167 then some (false, false, p) else none
  | .ifc t (.agg [.bool b, .int .i64 p]) => if t = 180 then some (true, b, p) else none
  | _ => none
theorem deAt_en {x : AV} {b c : Bool} {p : Int} (h : deAt x = some (b, c, p)) : x = atV b c p := by
  unfold deAt at h
  split at h
  · split at h
    · rename_i ht; cases h; subst ht; rfl
    · cases h
  · split at h
    · rename_i ht; cases h; subst ht; rfl
    · cases h
  · cases h
abbrev paC (a : PA) : List AV := [.int .i64 a.how, .int .i64 a.h.kind, .int .i64 a.h.K, .int .i64 a.h.O, .int .i64 a.h.N, rowI 0 a.h.nx, rowI 0 a.h.ot, rowW 0 a.acc, rowI 0 a.w, rowW 0 a.said, .any, atV a.ov a.sp a.pl, .any, .int .i64 a.ak]
def dePA : AV → Option PA
  | .fp _ [.int .i64 how, .int .i64 k, .int .i64 K, .int .i64 o, .int .i64 n, x, y, ac, w, sd, _, at_, _, .int .i64 ak] 0 =>
    match (cRo 0).de x, (cRo 0).de y, (cWo 0).de ac, (cRo 0).de w, (cWo 0).de sd, deAt at_ with
    | some x, some y, some ac, some w, some sd, some (b, c, p) => some ⟨how, ⟨k, K, o, n, x, y⟩, ac, w, sd, b, c, p, ak⟩
    | _, _, _, _, _, _ => none
  | _ => none
def cPA : Cod PA := ⟨dePA, fun a => .fp 0 (paC a) 0, fun a x h => by
  unfold dePA at h
  split at h
  · split at h
    · rename_i h1 h2 h3 h4 h5 h6
      cases h
      rw [deAt_en h6]
      exact Wk.fp (Nat.zero_le _) ⟨Wk.refl _, Wk.refl _, Wk.refl _, Wk.refl _, Wk.refl _, (cRo 0).wk _ _ h1, (cRo 0).wk _ _ h2, (cWo 0).wk _ _ h3, (cRo 0).wk _ _ h4, (cWo 0).wk _ _ h5, Wk.any _, Wk.refl _, Wk.any _, Wk.refl _, trivial⟩
    · cases h
  · cases h⟩
theorem en_PA {a : PA} : cPA.en a = .fp 0 (paC a) 0 := rfl
theorem de_PA {z : Nat} {how k K o n ak : Int} {x y ac w sd u at_ t : AV} : cPA.de (.fp z [.int .i64 how, .int .i64 k, .int .i64 K, .int .i64 o, .int .i64 n, x, y, ac, w, sd, u, at_, t, .int .i64 ak] 0) =
    ((cRo 0).de x).bind fun x => ((cRo 0).de y).bind fun y => ((cWo 0).de ac).bind fun ac => ((cRo 0).de w).bind fun w => ((cWo 0).de sd).bind fun sd => (deAt at_).map fun b => ⟨how, ⟨k, K, o, n, x, y⟩, ac, w, sd, b.1, b.2.1, b.2.2, ak⟩ := by
  show (match (cRo 0).de x, (cRo 0).de y, (cWo 0).de ac, (cRo 0).de w, (cWo 0).de sd, deAt at_ with
    | some x, some y, some ac, some w, some sd, some (b, c, p) => some _
    | _, _, _, _, _, _ => none) = _
  cases (cRo 0).de x <;> cases (cRo 0).de y <;> cases (cWo 0).de ac <;> cases (cRo 0).de w <;> cases (cWo 0).de sd <;> cases deAt at_ <;> rfl
def PA.ra (a : PA) : RA := ⟨a.how, a.h, a.acc, a.w, a.said, ⟨0, 0, 0, 0, false, 0⟩, false, false, 0⟩
theorem aeq_fp {z o : Nat} {cs : List AV} : aeq .ptr (.fp z cs o) .nilp = some false := rfl
theorem mx_pos {x : Int} (h : 0 ≤ x) : foldMn true (.int .i64 x) [.int .i64 0] = some (.int .i64 x) := by
  show foldMn true (.int .i64 (if 0 > x then 0 else x)) [] = _
  rw [if_neg (by omega)]; rfl
theorem mx_neg {x : Int} (h : ¬ 0 ≤ x) : foldMn true (.int .i64 x) [.int .i64 0] = some (.int .i64 0) := by
  show foldMn true (.int .i64 (if 0 > x then 0 else x)) [] = _
  rw [if_pos (by omega)]; rfl
theorem isInt_i {x : Int} : isInt (.int .i64 x) = true := rfl
def psizeS := sp2 cPA cIn fun a n => some (.int .i64 (if a.h.kind = 1 then 1 else n))
theorem psize_ok : PureS P 117 psizeS := PureS.of2 fun a n r hr => by
  cases hr
  refine ⟨pure_run orders G26_fine (L := 1) (d := 1) fn117 rfl ?_, rfl⟩
  simp (disch := omega) only [↓e117, a117, params, en_PA, Nat.zero_add, en_I, ↓e117_1, a117_1, ↓WC_seq, ↓WC_reg, ↓WO_cons, aop_mv, AX.ev, Fr.put, AllK_one, panK_int, ↓WO_nil, ↓thenK_norm, get_cons', nat_ne, ↓reduceIte, panK_fp, aop_nck, aop_fad, Nat.add_zero, aop_ld1, withS, ld1_fp, List.getElem?_cons_succ, List.getElem?_cons_zero, aop_bin, abin, isShift, kindBeq, aint, ieq_dec, cond_true, cond_false, panK_bool, ↓WC_cond]
  refine condK_dec ?_ ?_ <;> intro h2 <;> simp (disch := omega) only [↓WC_seq, ↓WC_reg, ↓WO_cons, dect, get_cons', nat_ne, ↓reduceIte, aop_mv, AX.ev, Fr.put, AllK_one, panK_int, ↓WO_nil, ↓thenK_norm, ↓WC_ret, ↓thenK_ret, ↓endP_ret, resV, Option.map_some, Option.some.injEq, resOne, exists_eq_left', ↓WC_skip, decf]
  · rw [if_pos h2]; exact Frz.scal rfl
  · rw [if_neg h2]; exact Frz.scal rfl
noncomputable def pendS := sp2 (cRo 0) cIn fun out n => gd (out.length ≤ 1000000000000 ∧ 0 ≤ n ∧ n ≤ 1000000000000) (rowI 1 (out.drop (out.length - n.toNat)))
theorem pend_ok : PureS P 116 pendS := PureS.of2 fun out n r hr => by
  obtain ⟨⟨hl, h0, h1⟩, rfl⟩ := gd_say hr
  refine ⟨pure_run orders G26_fine (L := 1) (d := 1) fn116 rfl ?_, inz_rowI1⟩
  by_cases h2 : 0 ≤ (out.length : Int) - n
  · simp (disch := omega) only [↓e116, a116, params, en_R, Nat.zero_add, en_I, ↓e116_1, a116_1, ↓WC_ret, ↓endP_ret, resV, Option.map_some, Option.some.injEq, resOne, exists_eq_left', ↓WC_reg, ↓WO_cons, aop_mv, AX.ev, Fr.put, AllK_one, panK_nils, ↓WO_nil, ↓thenK_norm, get_cons', nat_ne, ↓reduceIte, panK_row, aop_len0, withS, lenA_row, panK_int, aop_bin, abin, isShift, kindBeq, aint, wrap64_id, cond_true, cond_false, aop_mx, isInt_i, AX.evs, mx_pos h2, aop_slc, Option.map_none, slcI_lo, aop_call, call_giv1 G26_90, cloneS, pureG_eq, AV.scalL, AV.scalar, scal_ints, Bool.and_true, sp1, de_R0, Option.bind_some]
    have e : ((out.length : Int) - n).toNat = out.length - n.toNat := by omega
    have g : (out.drop (out.length - n.toNat)).length ≤ 1000000000000 := by rw [List.length_drop]; omega
    rw [e]
    simp (disch := omega) only [gd_pos g, spK_some, AllK_one, panK_row, ↓WO_cons, get_cons', nat_ne, ↓reduceIte, aop_mv, AX.ev, Fr.put, ↓WO_nil, ↓thenK_norm]
    exact Frz.rowI
  · simp (disch := omega) only [↓e116, a116, params, en_R, Nat.zero_add, en_I, ↓e116_1, a116_1, ↓WC_ret, ↓endP_ret, resV, Option.map_some, Option.some.injEq, resOne, exists_eq_left', ↓WC_reg, ↓WO_cons, aop_mv, AX.ev, Fr.put, AllK_one, panK_nils, ↓WO_nil, ↓thenK_norm, get_cons', nat_ne, ↓reduceIte, panK_row, aop_len0, withS, lenA_row, panK_int, aop_bin, abin, isShift, kindBeq, aint, wrap64_id, cond_true, cond_false, aop_mx, isInt_i, AX.evs, mx_neg h2, aop_slc, Option.map_none, slcI_lo, Int.toNat_zero, List.drop_zero, aop_call, call_giv1 G26_90, cloneS, pureG_eq, AV.scalL, AV.scalar, scal_ints, Bool.and_true, sp1, de_R0, Option.bind_some, gd_pos, spK_some]
    rw [show out.length - n.toNat = 0 by omega, List.drop_zero]
    exact Frz.rowI
def pspurS := sp1 cPA fun a => some (.bool (a.ov && a.sp))
theorem pspur_ok : PureS P 55 pspurS := PureS.of1 fun a r hr => by
  cases hr
  refine ⟨pure_run orders G26_fine (L := 1) (d := 1) fn55 rfl ?_, rfl⟩
  obtain ⟨how, h, acc, w, said, ov, sp, pl, ak⟩ := a
  cases ov
  · simp (disch := omega) only [↓e55, a55, params, en_PA, ↓e55_1, a55_1, ↓e55_2, a55_2, ↓e55_3, a55_3, ↓WC_ret, ↓endP_ret, resV, Option.map_some, Option.some.injEq, resOne, exists_eq_left', ↓WC_reg, ↓WO_cons, aop_mv, AX.ev, Fr.put, AllK_one, ↓WC_seq, panK_bool, ↓WO_nil, ↓thenK_norm, get_cons', nat_ne, ↓reduceIte, panK_fp, aop_eq, aeq_fp, Bool.not_false, cond_false, ↓WC_cond, condK_false, ↓WC_skip, aop_nck, aop_fad, Nat.zero_add, aop_ld1, withS, ld1_fp, List.getElem?_cons_succ, atV, List.getElem?_cons_zero, panK_ifc, aop_tas, beq_dec, decide_false, cond_true, panK_tup, aop_xt, panK_agg, aop_alloc, E0_n, List.length_cons, List.length_nil, Nat.reduceAdd, AS.newRow, panK_ptr, aop_st, AS.st, cells_agg, decide_true, stl_get, AS.get_push, stO_cells, ble_dec, Nat.le_refl, Bool.and_true, List.all_cons, one_bool, one_int, List.all_nil, setL, consS_eq, undefA, ↓WO_if, undK_bool, aop_pick]
    exact Frz.scal rfl
  · simp (disch := omega) only [↓e55, a55, params, en_PA, ↓e55_1, a55_1, ↓e55_2, a55_2, ↓e55_3, a55_3, ↓WC_ret, ↓endP_ret, resV, Option.map_some, Option.some.injEq, resOne, Bool.true_and, exists_eq_left', ↓WC_reg, ↓WO_cons, aop_mv, AX.ev, Fr.put, AllK_one, ↓WC_seq, panK_bool, ↓WO_nil, ↓thenK_norm, get_cons', nat_ne, ↓reduceIte, panK_fp, aop_eq, aeq_fp, Bool.not_false, cond_false, ↓WC_cond, condK_false, ↓WC_skip, aop_nck, aop_fad, Nat.zero_add, aop_ld1, withS, ld1_fp, List.getElem?_cons_succ, atV, List.getElem?_cons_zero, panK_ifc, aop_tas, beq_dec, decide_true, cond_true, panK_tup, aop_xt, panK_agg, aop_alloc, E0_n, List.length_cons, List.length_nil, Nat.reduceAdd, AS.newRow, panK_ptr, aop_st, AS.st, cells_agg, stl_get, AS.get_push, stO_cells, ble_dec, Nat.le_refl, Bool.and_true, List.all_cons, one_bool, one_int, List.all_nil, setL, consS_eq, undefA, ↓WO_if, undK_bool, condK_true, Nat.add_zero, ld1_ptr, AS.get_put, ldO_cells, blt_dec, Nat.reduceLT, aop_pick]
    exact Frz.scal rfl
def paskedS := sp1 cPA fun a => some (.int .i64 a.ak)
theorem pasked_ok : PureS P 56 paskedS := PureS.of1 fun a r hr => by
  cases hr
  refine ⟨pure_run orders G26_fine (L := 1) (d := 1) fn56 rfl ?_, rfl⟩
  simp (disch := omega) only [↓e56, a56, params, en_PA, ↓e56_1, a56_1, ↓e56_2, a56_2, ↓WC_ret, ↓endP_ret, resV, Option.map_some, Option.some.injEq, resOne, exists_eq_left', ↓WC_reg, ↓WO_cons, aop_mv, AX.ev, Fr.put, AllK_one, ↓WC_seq, panK_int, ↓WO_nil, ↓thenK_norm, get_cons', nat_ne, ↓reduceIte, panK_fp, aop_eq, aeq_fp, Bool.not_false, cond_false, panK_bool, ↓WC_cond, condK_false, ↓WC_skip, aop_nck, aop_fad, Nat.zero_add, aop_ld1, withS, ld1_fp, List.getElem?_cons_succ, List.getElem?_cons_zero]
  exact Frz.scal rfl
noncomputable def G27 : Giv := addG 56 (pureG paskedS) (addG 55 (pureG pspurS) (addG 116 (pureG pendS) (addG 117 (pureG psizeS) (G26))))
theorem G27_fine : Fine P G27 := ((((G26_fine).pure psize_ok).pure pend_ok).pure pspur_ok).pure pasked_ok
theorem G27_110 : G27 110 = some (pureG pstateS) := rfl
theorem G27_152 : G27 152 = some (pureG pfromS) := rfl
theorem Rm.rng {k K o n : Int} {nx ot : List Int} (h : Rm k K o n nx ot) : InR nx ∧ InR ot := by
  have h1 := h.inx; have h2 := h.iot; have := h.n2; have := h.o2
  exact ⟨fun x hx => by have := h1 x hx; omega, fun x hx => by have := h2 x hx; omega⟩
theorem wordE_ok {w : List Int} {k : Int} (h1 : 1 ≤ k) (h2 : k ≤ 64) (h3 : w.length ≤ 4096) (h4 : InB w k) : wordE w k = 0 := by
  unfold wordE
  rw [if_neg (by omega), if_neg (by omega), if_pos h4]
noncomputable def pfrS := sp2 cPA cIn fun a i => gd (a.ra.Ok ∧ 0 ≤ i ∧ i ≤ a.w.length) (.tup [.int .i64 (a.ra.at i), rowI 1 (a.ra.mine i)])
theorem inz_ir {z : Nat} {xs : List Int} {i : Int} : (AV.tup [.int .i64 i, rowI 1 xs]).inz 0 = true := by simp only [AV.inz, AV.inzL, inz_ints]; rfl
theorem pfr_ok : PureS P 112 pfrS := PureS.of2 fun a i r hr => by
  obtain ⟨⟨hk, h0, h1⟩, rfl⟩ := gd_say hr
  refine ⟨pure_run orders G27_fine (L := 1) (d := 1) fn112 rfl ?_, inz_ir (z := 0)⟩
  have hm := hk.m
  have hw := hk.w
  have hwl := hk.wl
  obtain ⟨q1, q2⟩ := hk.at i
  obtain ⟨how, ⟨k, K, o, n, nx, ot⟩, acc, w, said, ov, sp, pl, ak⟩ := a
  simp only [PA.ra, RA.at, RA.mine] at hm hw hwl q1 q2 h1 ⊢
  have hE : machE k K o n nx ot = 0 := machE_zero.mpr hm
  obtain ⟨r1, r2⟩ := Rm.rng hm
  have hK1 := Rm.K1 hm
  have hK2 := Rm.K2 hm
  have g1 : InR nx ∧ InR ot ∧ machE k K o n nx ot = 0 := ⟨r1, r2, hE⟩
  have g2 : InR nx ∧ InR ot ∧ machE k K o n nx ot = 0 ∧ 0 ≤ (Mach.mk k K o n nx ot).go 0 (w.take i.toNat) ∧ (Mach.mk k K o n nx ot).go 0 (w.take i.toNat) < n := ⟨r1, r2, hE, q1, q2⟩
  have e1 : wordE (w.take i.toNat) K = 0 := wordE_ok hK1 hK2 (by rw [List.length_take]; omega) (hw.take _)
  have e2 : wordE (w.drop i.toNat) K = 0 := wordE_ok hK1 hK2 (by rw [List.length_drop]; omega) (hw.drop _)
  simp (disch := omega) only [↓e112, a112, params, en_PA, Nat.zero_add, en_I, ↓e112_1, a112_1, ↓e112_2, a112_2, ↓WC_seq, ↓WC_reg, ↓WO_cons, aop_mv, AX.ev, Fr.put, AllK_one, ↓WC_draw, ↓WD_cons, Fr.keep, get_cons', ↓reduceIte, sik, AOp.acts, AOp.reads, cond_false, List.all_nil, Nat.reduceAdd, One_one, panK_int, panK_nils, ↓WO_nil, ↓thenK_norm, nat_ne, np_fp, chkK_true, aop_nck, List.all_cons, dchk_11, Bool.and_true, aop_fad, aop_ldn, withS, ldn_fp, List.length_cons, List.length_nil, ble_dec, Nat.reduceLeDiff, decide_true, List.drop_succ_cons, List.drop_zero, List.take_succ_cons, List.take_zero, cond_true, np_agg, dchk_21, dchk_12, aop_ld1, ld1_fp, List.getElem?_cons_succ, List.getElem?_cons_zero, np_row, dchk_22, np_int, aop_slc, Option.map_none, Option.map_some, slcI_hi, aop_call, AX.evs, call_giv1 G27_110, pstateS, pureG_eq, AV.scalL, AV.scalar, scal_ints, sp2, de_Me, de_R0, Option.bind_some, e1, gd_pos g1, spK_some, np_tup, dchk_32, List.contains_cons, Nat.reduceBEq, beq_self_eq_true, List.contains_nil, Bool.or_false, Bool.or_true, same_eq, isSame_one, AV.beq, beq_dec, beqL_ints, dchk_31, AV.beqL, kindBeq, intBeq_self, dchk_13, aop_xt, ↓WD_nil, slcI_lo, call_giv1 G27_152, pfromS, sp3, de_I, e2, gd_pos g2, panK_row, ↓WC_ret, ↓endP_ret, resV, Option.some.injEq, resOne, exists_eq_left']
  exact Frz.tup ⟨Frz.scal rfl, Frz.rowI, trivial⟩
noncomputable def G28 : Giv := addG 112 (pureG pfrS) (G27)
theorem G28_fine : Fine P G28 := (G27_fine).pure pfr_ok
theorem G28_112 : G28 112 = some (pureG pfrS) := rfl
theorem G28_113 : G28 113 = some (pureG pjoinS) := rfl
theorem G28_90 : G28 90 = some (pureG cloneS) := rfl
end Go.Proofs.Ytednmmcdjhfflaa.Vai

/- What an analysis asks and has found, where it lies frozen. -/
namespace Go.Proofs.Ytednmmcdjhfflaa.Vai
open Go
set_option linter.unusedVariables false
set_option linter.unusedSimpArgs false
theorem de_W2 {z z1 z2 n1 n2 : Nat} {u v : List Int} : (cWo 0).de (.row z 1 2 [.row z1 1 n1 (ints u), .row z2 1 n2 (ints v)]) = some [u, v] := by
  have h1 : (cRo 0).de (.row z1 1 n1 (ints u)) = some u := de_R0
  have h2 : (cRo 0).de (.row z2 1 n2 (ints v)) = some v := de_R0
  show mapQ (cRo 0).de [.row z1 1 n1 (ints u), .row z2 1 n2 (ints v)] = some [u, v]
  simp only [mapQ, h1, h2]
theorem deAt_ask {p : Int} : deAt (.ifc 167 (.agg [.int .i64 p])) = some (false, false, p) := rfl
theorem deAt_end {b : Bool} {p : Int} : deAt (.ifc 180 (.agg [.bool b, .int .i64 p])) = some (true, b, p) := rfl
def PA.ask (a : PA) : List Int × Bool := if a.ov = true then ([], false) else if a.pl < 0 then (a.w, true) else (a.ra.word a.pl, true)
noncomputable def paskS := sp1 cPA fun a => gd (a.ra.Ok ∧ (a.ov = false → a.pl ≤ a.w.length)) (.tup [rowI 1 a.ask.1, .bool a.ask.2])
set_option maxRecDepth 4000 in
theorem pask_ok : PureS P 50 paskS := PureS.of1 fun a r hr => by
  obtain ⟨⟨hk, hp⟩, rfl⟩ := gd_say hr
  refine ⟨pure_run orders G28_fine (L := 1) (d := 1) fn50 rfl ?_, inz_tb (z := 0)⟩
  have hwl := hk.wl
  have hal := hk.al
  obtain ⟨q1, q2⟩ := hk.at a.pl
  obtain ⟨p1, p2⟩ := hk.acc q1 q2
  obtain ⟨how, ⟨k, K, o, n, nx, ot⟩, acc, w, said, ov, sp, pl, ak⟩ := a
  unfold PA.ask
  simp only [PA.ra] at *
  cases ov with
  | true =>
    simp (disch := omega) only [↓e50, a50, params, en_PA, ↓e50_1, a50_1, ↓e50_2, a50_2, ↓e50_3, a50_3, ↓e50_4, a50_4, ↓e50_6, a50_6, ↓e50_7, a50_7, ↓WC_ret, ↓endP_ret, resV, Option.map_some, Option.some.injEq, resOne, ↓reduceIte, exists_eq_left', ↓WC_draw, ↓WD_cons, Fr.keep, aop_mv, AX.ev, get_cons', sik, AOp.acts, AOp.reads, cond_false, List.all_nil, Nat.reduceAdd, Fr.put, One_one, ↓WC_reg, ↓WO_cons, AllK_one, ↓WC_seq, aop_fad, Nat.add_zero, panK_nils, panK_bool, ↓WO_nil, ↓thenK_norm, nat_ne, panK_fp, aop_eq, aeq_fp, Bool.not_false, ↓WC_cond, condK_false, ↓WC_skip, aop_nck, Nat.zero_add, aop_ld1, withS, ld1_fp, List.getElem?_cons_succ, atV, List.getElem?_cons_zero, panK_ifc, aop_tas, beq_dec, decide_false, cond_true, panK_tup, aop_xt, panK_agg, aop_alloc, E0_n, List.length_cons, List.length_nil, AS.newRow, panK_ptr, aop_st, AS.st, cells_agg, decide_true, stl_get, AS.get_push, stO_cells, ble_dec, Nat.le_refl, Bool.and_true, List.all_cons, one_int, setL, consS_eq, undefA, aop_un, aun, condK_true, ↓thenK_ret]
    exact Frz.tb (Frz.nils 1 1)
  | false =>
    have hp := hp rfl
    by_cases h0 : pl < 0
    · have g : w.length ≤ 1000000000000 := by omega
      simp (disch := omega) only [↓e50, a50, params, en_PA, ↓e50_1, a50_1, ↓e50_2, a50_2, ↓e50_3, a50_3, ↓e50_4, a50_4, ↓e50_6, a50_6, ↓e50_7, a50_7, ↓WC_ret, ↓endP_ret, resV, Option.map_some, Option.some.injEq, resOne, h0, ↓reduceIte, exists_eq_left', ↓WC_draw, ↓WD_cons, Fr.keep, aop_mv, AX.ev, get_cons', sik, AOp.acts, AOp.reads, cond_false, List.all_nil, Nat.reduceAdd, Fr.put, One_one, ↓WC_reg, ↓WO_cons, AllK_one, ↓WC_seq, aop_fad, Nat.add_zero, panK_nils, panK_bool, ↓WO_nil, ↓thenK_norm, nat_ne, panK_fp, aop_eq, aeq_fp, Bool.not_false, ↓WC_cond, condK_false, ↓WC_skip, aop_nck, Nat.zero_add, aop_ld1, withS, ld1_fp, List.getElem?_cons_succ, atV, List.getElem?_cons_zero, panK_ifc, aop_tas, beq_dec, decide_true, cond_true, panK_tup, aop_xt, panK_agg, aop_alloc, E0_n, List.length_cons, List.length_nil, AS.newRow, panK_ptr, aop_st, AS.st, cells_agg, stl_get, AS.get_push, stO_cells, ble_dec, Nat.le_refl, Bool.and_true, List.all_cons, one_int, setL, consS_eq, undefA, aop_un, aun, Bool.not_true, ld1_ptr, AS.get_put, ldO_cells, blt_dec, Nat.reduceLT, panK_int, aop_bin, abin, isShift, kindBeq, aint, ↓e50_5, a50_5, condK_true, panK_row, aop_call, AX.evs, call_giv1 G28_90, cloneS, pureG_eq, AV.scalL, AV.scalar, scal_ints, sp1, de_R0, Option.bind_some, gd_pos g, spK_some, ↓thenK_ret]
      exact Frz.tb Frz.rowI
    · have g : (RA.mk how ⟨k, K, o, n, nx, ot⟩ acc w said ⟨0, 0, 0, 0, false, 0⟩ false false 0).Ok ∧ 0 ≤ pl ∧ pl ≤ w.length := ⟨hk, by omega, by omega⟩
      have g2 : ([acc.getD ((RA.mk how ⟨k, K, o, n, nx, ot⟩ acc w said ⟨0, 0, 0, 0, false, 0⟩ false false 0).at pl).toNat [], w.drop pl.toNat] : List (List Int)).flatten.length ≤ 1000000000000 ∧ ([acc.getD ((RA.mk how ⟨k, K, o, n, nx, ot⟩ acc w said ⟨0, 0, 0, 0, false, 0⟩ false false 0).at pl).toNat [], w.drop pl.toNat] : List (List Int)).length ≤ 1000000000000 := by
        refine ⟨?_, by simp⟩
        simp only [List.flatten_cons, List.flatten_nil, List.append_nil, List.length_append, List.length_drop]
        omega
      simp (disch := omega) only [↓e50, a50, params, en_PA, ↓e50_1, a50_1, ↓e50_2, a50_2, ↓e50_3, a50_3, ↓e50_4, a50_4, ↓e50_6, a50_6, ↓e50_7, a50_7, ↓WC_ret, ↓endP_ret, resV, Option.map_some, Option.some.injEq, resOne, h0, ↓reduceIte, exists_eq_left', ↓WC_draw, ↓WD_cons, Fr.keep, aop_mv, AX.ev, get_cons', sik, AOp.acts, AOp.reads, cond_false, List.all_nil, Nat.reduceAdd, Fr.put, One_one, ↓WC_reg, ↓WO_cons, AllK_one, ↓WC_seq, aop_fad, Nat.add_zero, panK_nils, panK_bool, ↓WO_nil, ↓thenK_norm, nat_ne, panK_fp, aop_eq, aeq_fp, Bool.not_false, ↓WC_cond, condK_false, ↓WC_skip, aop_nck, Nat.zero_add, aop_ld1, withS, ld1_fp, List.getElem?_cons_succ, atV, List.getElem?_cons_zero, panK_ifc, aop_tas, beq_dec, decide_true, cond_true, panK_tup, aop_xt, panK_agg, aop_alloc, E0_n, List.length_cons, List.length_nil, AS.newRow, panK_ptr, aop_st, AS.st, cells_agg, stl_get, AS.get_push, stO_cells, ble_dec, Nat.le_refl, Bool.and_true, List.all_cons, one_int, setL, consS_eq, undefA, aop_un, aun, Bool.not_true, ld1_ptr, AS.get_put, ldO_cells, blt_dec, Nat.reduceLT, panK_int, aop_bin, abin, isShift, kindBeq, aint, decide_false, ↓e50_5, a50_5, aop_call, AX.evs, call_giv1 G28_112, pfrS, PA.ra, pureG_eq, AV.scalL, AV.scalar, scal_ints, scal_rows, sp2, de_PA, de_R0, de_W0, deAt_ask, Option.bind_some, de_I, gd_pos g, spK_some, mapO_cons, mapO_nil, panK_row, np_fp, chkK_true, dchk_11, np_row, dchk_21, np_int, dchk_12, aop_ixs, ixs_row, Nat.mul_one, rows_get, dchk_22, np_ptr, aop_slc, Option.map_none, slcI_lo, aop_bslice, fillL, cells_row, Nat.reduceLeDiff, AS.n_put, AS.n_push, np_slice, dchk_32, List.contains_cons, Nat.reduceBEq, beq_self_eq_true, List.contains_nil, Bool.or_false, Bool.or_true, same_eq, isSame_one, AV.beq, beqL_ints, intBeq_self, dchk_31, beqL_rows, call_giv1 G28_113, pjoinS, concS, sp1, frzF_slice, frzS_cells, List.drop_zero, List.take_succ_cons, List.take_zero, frzF_row, de_W2, gd_pos, spB_some, AV.inz, inz_ints, dchk_33, dchk_13, np_bool, ↓WD_nil]
      unfold RA.word
      simp only [List.flatten_cons, List.flatten_nil, List.append_nil]
      exact Frz.tb Frz.rowI
noncomputable def poverA := sp1 (⟨fun | .agg [.int .i64 k] => some k | _ => none, fun k => .agg [.int .i64 k], fun a x h => by
  split at h
  · cases h; exact Wk.refl _
  · cases h⟩ : Cod Int) fun _ => some (.bool false)
noncomputable def poverE := sp1 (⟨fun | .agg [.bool b, .int .i64 k] => some (b, k) | _ => none, fun k => .agg [.bool k.1, .int .i64 k.2], fun a x h => by
  split at h
  · cases h; exact Wk.refl _
  · cases h⟩ : Cod (Bool × Int)) fun _ => some (.bool true)
theorem povera_ok : PureS P 199 poverA := PureS.of1 fun a r hr => by
  cases hr
  refine ⟨pure_run orders G28_fine (L := 1) (d := 1) fn199 rfl ?_, rfl⟩
  simp (disch := omega) only [↓e199, a199, params, ↓WC_seq, ↓WC_reg, ↓WO_cons, aop_mv, AX.ev, Fr.put, AllK_one, panK_bool, ↓WO_nil, ↓thenK_norm, ↓WC_ret, ↓endP_ret, resV, get_cons', ↓reduceIte, Option.map_some, Option.some.injEq, resOne, exists_eq_left', aop_box, cells_agg, E0_n, List.length_cons, List.length_nil, Nat.zero_add, AS.newRow, panK_ptr]
  exact Frz.scal rfl
theorem povere_ok : PureS P 201 poverE := PureS.of1 fun a r hr => by
  cases hr
  refine ⟨pure_run orders G28_fine (L := 1) (d := 1) fn201 rfl ?_, rfl⟩
  simp (disch := omega) only [↓e201, a201, params, ↓WC_seq, ↓WC_reg, ↓WO_cons, aop_mv, AX.ev, Fr.put, AllK_one, panK_bool, ↓WO_nil, ↓thenK_norm, ↓WC_ret, ↓endP_ret, resV, get_cons', ↓reduceIte, Option.map_some, Option.some.injEq, resOne, exists_eq_left', aop_box, cells_agg, E0_n, List.length_cons, List.length_nil, Nat.zero_add, Nat.reduceAdd, AS.newRow, panK_ptr]
  exact Frz.scal rfl
theorem meth_ask : (ctxE Try.prog kpN fun _ => none).meth 167 "tutor/rivest.over" = some 199 := by kernel_rfl
theorem meth_end : (ctxE Try.prog kpN fun _ => none).meth 180 "tutor/rivest.over" = some 201 := by kernel_rfl
noncomputable def G29 : Giv := addG 201 (pureG poverE) (addG 199 (pureG poverA) (addG 50 (pureG paskS) (G28)))
theorem G29_fine : Fine P G29 := (((G28_fine).pure pask_ok).pure povera_ok).pure povere_ok
theorem G29_199 : G29 199 = some (pureG poverA) := rfl
theorem G29_201 : G29 201 = some (pureG poverE) := rfl
theorem G29_112 : G29 112 = some (pureG pfrS) := rfl
theorem G29_117 : G29 117 = some (pureG psizeS) := rfl
theorem G29_116 : G29 116 = some (pureG pendS) := rfl
theorem G29_55 : G29 55 = some (pureG pspurS) := rfl
theorem G29_113 : G29 113 = some (pureG pjoinS) := rfl
theorem G29_90 : G29 90 = some (pureG cloneS) := rfl
end Go.Proofs.Ytednmmcdjhfflaa.Vai

/- What the program's analysis has found, where it lies frozen. -/
namespace Go.Proofs.Ytednmmcdjhfflaa.Vai
open Go
set_option linter.unusedVariables false
set_option linter.unusedSimpArgs false
def PA.Fd (a : PA) : Prop := a.ov = true → a.sp = false → 0 ≤ a.pl ∧ a.pl + 1 < a.said.length ∧ a.pl < a.w.length ∧ a.said.length ≤ 5000 ∧ (a.said.getD a.pl.toNat []).length ≤ 1000000000000 ∧ (a.said.getD (a.pl + 1).toNat []).length ≤ 1000000000000
def PA.sz (a : PA) (n : Nat) : Nat := if a.h.kind = 1 then 1 else n
def PA.cut (a : PA) : Cut := ⟨a.ra.at (a.pl + 1), a.acc.getD (a.ra.at a.pl).toNat [] ++ (a.w.drop a.pl.toNat).take 1, a.w.drop (a.pl + 1).toNat, if a.pl + 1 = a.said.length - 1 then a.ra.mine (a.pl + 1) else a.said.getD (a.pl + 1).toNat [], (a.said.getD a.pl.toNat []).drop ((a.said.getD a.pl.toNat []).length - a.sz (a.w.drop (a.pl + 1).toNat).length)⟩
def PA.found (a : PA) : Cut × Bool := if a.ov = false ∨ a.sp = true then (⟨0, [], [], [], []⟩, false) else (a.cut, true)
noncomputable def pfoundS := sp1 cPA fun a => gd (a.ra.Ok ∧ a.Fd) (.tup [cutV 1 a.found.1, .bool a.found.2])
theorem poverA_eq {p : Int} : poverA [.agg [.int .i64 p]] = some (.bool false) := rfl
theorem poverE_eq {b : Bool} {p : Int} : poverE [.agg [.bool b, .int .i64 p]] = some (.bool true) := rfl
set_option maxRecDepth 8000 in
set_option maxHeartbeats 4000000 in
theorem pfound_ok : PureS P 52 pfoundS := PureS.of1 fun a r hr => by
  obtain ⟨⟨hk, hf⟩, rfl⟩ := gd_say hr
  clear hr
  refine ⟨pure_run orders G29_fine (L := 1) (d := 1) fn52 rfl ?_, inz_cut⟩
  have hwl := hk.wl
  have hal := hk.al
  obtain ⟨q1, q2⟩ := hk.at a.pl
  obtain ⟨p1, p2⟩ := hk.acc q1 q2
  have hmine : ∀ i, (a.ra.mine i).length ≤ 1000000000000 := fun i => by
    unfold RA.mine; rw [goO_len]; split
    · omega
    · rw [List.length_drop]; have : a.ra.w.length ≤ 4096 := hwl; omega
  obtain ⟨how, ⟨k, K, o, n, nx, ot⟩, acc, w, said, ov, sp, pl, ak⟩ := a
  unfold PA.found
  cases ov with
  | false =>
    rw [if_pos (.inl rfl)]
    simp (disch := omega) only [↓e52, a52, params, en_PA, ↓e52_1, a52_1, ↓e52_2, a52_2, ↓e52_3, a52_3, ↓e52_4, a52_4, ↓e52_5, a52_5, ↓e52_6, a52_6, ↓e52_7, a52_7, ↓e52_8, a52_8, ↓WC_ret, ↓endP_ret, resV, Option.map_some, resOne, ↓WC_draw, ↓WD_cons, Fr.keep, aop_mv, AX.ev, get_cons', ↓reduceIte, sik, AOp.acts, AOp.reads, cond_false, List.all_nil, Nat.reduceAdd, Fr.put, One_one, ↓WC_seq, ↓WC_reg, ↓WO_cons, AllK_one, aop_alloc, E0_n, List.length_cons, List.length_nil, Nat.zero_add, AS.newRow, panK_ptr, panK_bool, ↓WO_nil, ↓thenK_norm, nat_ne, panK_fp, aop_eq, aeq_fp, Bool.not_false, ↓WO_unless, undefA, undK_bool, condK_false, aop_nck, aop_fad, aop_ld1, withS, ld1_fp, List.getElem?_cons_succ, atV, List.getElem?_cons_zero, panK_ifc, aop_inv, meth_ask, AX.evs, call_giv1 G29_199, pureG_eq, AV.scalL, AV.scalar, Bool.and_true, poverA_eq, spK_some, cond_true, aop_un, aun, aop_pick, condK_true, ↓WC_cond, aop_build, fillL, panK_agg, aop_st, AS.st, cells_agg, beq_dec, decide_true, stl_get, AS.get_push, stO_cells, ble_dec, Nat.le_refl, List.all_cons, one_int, one_nils, setL, consS_eq, panK_tup, ↓thenK_ret, ldn_ptr, AS.get_put, ldlO_cells, List.drop_zero, List.take_succ_cons, List.take_zero, Option.some.injEq, exists_eq_left']
    exact Frz.cut0
  | true =>
    cases sp with
    | true =>
      rw [if_pos (.inr rfl)]
      simp (disch := omega) only [↓e52, a52, params, en_PA, ↓e52_1, a52_1, ↓e52_2, a52_2, ↓e52_3, a52_3, ↓e52_4, a52_4, ↓e52_5, a52_5, ↓e52_6, a52_6, ↓e52_7, a52_7, ↓e52_8, a52_8, ↓WC_ret, ↓endP_ret, resV, Option.map_some, resOne, ↓WC_draw, ↓WD_cons, Fr.keep, aop_mv, AX.ev, get_cons', ↓reduceIte, sik, AOp.acts, AOp.reads, cond_false, List.all_nil, Nat.reduceAdd, Fr.put, One_one, ↓WC_seq, ↓WC_reg, ↓WO_cons, AllK_one, aop_alloc, E0_n, List.length_cons, List.length_nil, Nat.zero_add, AS.newRow, panK_ptr, panK_bool, ↓WO_nil, ↓thenK_norm, nat_ne, panK_fp, aop_eq, aeq_fp, Bool.not_false, ↓WO_unless, undefA, undK_bool, condK_false, aop_nck, aop_fad, aop_ld1, withS, ld1_fp, List.getElem?_cons_succ, atV, List.getElem?_cons_zero, panK_ifc, aop_inv, meth_end, AX.evs, call_giv1 G29_201, pureG_eq, AV.scalL, AV.scalar, Bool.and_true, poverE_eq, spK_some, cond_true, aop_un, aun, Bool.not_true, aop_pick, aop_call, call_giv1 G29_55, pspurS, scal_ints, scal_rows, sp1, de_PA, de_R0, de_W0, deAt_end, Option.bind_some, ↓WC_cond, condK_true, aop_build, fillL, panK_agg, aop_st, AS.st, cells_agg, beq_dec, decide_true, stl_get, AS.get_push, stO_cells, ble_dec, Nat.le_refl, List.all_cons, one_int, one_nils, setL, consS_eq, panK_tup, ↓thenK_ret, ldn_ptr, AS.get_put, ldlO_cells, List.drop_zero, List.take_succ_cons, List.take_zero, Option.some.injEq, exists_eq_left']
      exact Frz.cut0
    | false =>
      obtain ⟨h1, h2, h3, h4, h5, h6⟩ := hf rfl rfl
      rw [if_neg (by simp)]
      simp only [PA.ra] at *
      have hwl' : w.length ≤ 4096 := hwl
      have g1 : (RA.mk how ⟨k, K, o, n, nx, ot⟩ acc w said ⟨0, 0, 0, 0, false, 0⟩ false false 0).Ok ∧ 0 ≤ pl ∧ pl ≤ w.length := ⟨hk, by omega, by omega⟩
      have g2 : (RA.mk how ⟨k, K, o, n, nx, ot⟩ acc w said ⟨0, 0, 0, 0, false, 0⟩ false false 0).Ok ∧ 0 ≤ pl + 1 ∧ pl + 1 ≤ w.length := ⟨hk, by omega, by omega⟩
      have e1 : (pl + 1).toNat - pl.toNat = 1 := by omega
      have g3 : ([acc.getD ((RA.mk how ⟨k, K, o, n, nx, ot⟩ acc w said ⟨0, 0, 0, 0, false, 0⟩ false false 0).at pl).toNat [], (w.drop pl.toNat).take 1] : List (List Int)).flatten.length ≤ 1000000000000 ∧ ([acc.getD ((RA.mk how ⟨k, K, o, n, nx, ot⟩ acc w said ⟨0, 0, 0, 0, false, 0⟩ false false 0).at pl).toNat [], (w.drop pl.toNat).take 1] : List (List Int)).length ≤ 1000000000000 := by
        refine ⟨?_, by simp⟩
        simp only [List.flatten_cons, List.flatten_nil, List.append_nil, List.length_append, List.length_take]
        omega
      have g4 : (w.drop (pl + 1).toNat).length ≤ 1000000000000 := by rw [List.length_drop]; omega
      have g5 : (said.getD pl.toNat []).length ≤ 1000000000000 ∧ 0 ≤ (if k = 1 then (1 : Int) else ((w.drop (pl + 1).toNat).length : Nat)) ∧ (if k = 1 then (1 : Int) else ((w.drop (pl + 1).toNat).length : Nat)) ≤ 1000000000000 := by
        refine ⟨h5, ?_, ?_⟩ <;> split <;> omega
      have g6 := hmine (pl + 1)
      have e2 : (if k = 1 then (1 : Int) else ((w.drop (pl + 1).toNat).length : Nat)).toNat = if k = 1 then 1 else (w.drop (pl + 1).toNat).length := by split <;> simp
      by_cases c6 : pl + 1 = said.length - 1
      · simp (disch := omega) only [↓e52, a52, params, en_PA, ↓e52_1, a52_1, ↓e52_2, a52_2, ↓e52_3, a52_3, ↓e52_4, a52_4, ↓e52_5, a52_5, ↓e52_6, a52_6, ↓e52_7, a52_7, ↓e52_8, a52_8, ↓WC_ret, ↓endP_ret, resV, Option.map_some, resOne, ↓WC_draw, ↓WD_cons, Fr.keep, aop_mv, AX.ev, get_cons', ↓reduceIte, sik, AOp.acts, AOp.reads, cond_false, List.all_nil, Nat.reduceAdd, Fr.put, One_one, ↓WC_seq, ↓WC_reg, ↓WO_cons, AllK_one, aop_alloc, E0_n, List.length_cons, List.length_nil, Nat.zero_add, AS.newRow, panK_ptr, panK_bool, ↓WO_nil, ↓thenK_norm, nat_ne, panK_fp, aop_eq, aeq_fp, Bool.not_false, ↓WO_unless, undefA, undK_bool, condK_false, aop_nck, aop_fad, aop_ld1, withS, ld1_fp, List.getElem?_cons_succ, atV, List.getElem?_cons_zero, panK_ifc, aop_inv, meth_end, AX.evs, call_giv1 G29_201, pureG_eq, AV.scalL, AV.scalar, Bool.and_true, poverE_eq, spK_some, mapO_cons, mapO_nil, cond_true, aop_un, aun, Bool.not_true, aop_pick, aop_call, call_giv1 G29_55, pspurS, scal_ints, scal_rows, sp1, de_PA, de_R0, de_W0, deAt_end, Option.bind_some, Bool.and_false, ↓WC_cond, ↓WC_skip, aop_tas, beq_dec, decide_true, panK_agg, aop_fld, panK_int, call_giv1 G29_112, pfrS, PA.ra, sp2, de_I, gd_pos g1, panK_tup, aop_xt, panK_row, aop_bin, abin, isShift, kindBeq, aint, wrap64_id, gd_pos g2, aop_slc, Option.map_none, slcI_lo, aop_ixs, ixs_row, Nat.mul_one, rows_get, aop_len0, lenA_row, ieq_dec, dect, condK_true, np_int, chkK_true, List.all_cons, np_fp, dchk_11, np_row, dchk_21, dchk_12, dchk_22, slcI_lh, e1, aop_bslice, fillL, cells_row, ble_dec, Nat.reduceLeDiff, setL, consS_eq, Nat.le_refl, AS.n_push, np_slice, dchk_32, List.contains_cons, Nat.reduceBEq, beq_self_eq_true, List.contains_nil, Bool.or_false, Bool.or_true, same_eq, isSame_one, AV.beq, beqL_ints, dchk_31, beqL_rows, call_giv1 G29_113, pjoinS, concS, frzF_slice, AS.get_push, frzS_cells, List.drop_zero, List.take_succ_cons, List.take_zero, frzF_row, de_W2, gd_pos, spB_some, AV.inz, inz_ints, dchk_33, dchk_13, call_giv1 G29_90, cloneS, gd_pos g4, gd_pos g6, dchk_23, intBeq_self, call_giv1 G29_117, psizeS, call_giv1 G29_116, pendS, gd_pos g5, aop_build, cells_int, np_agg, aop_st, AS.st, cells_agg, stl_get, stO_cells, one_int, one_row, np_tup, np_bool, ↓WD_nil, ldn_ptr, AS.get_put, ldlO_cells, Option.some.injEq, exists_eq_left']
        refine Frz.cut ?_ rfl rfl
        simp only [PA.cut, PA.ra, PA.sz, if_pos c6, List.flatten_cons, List.flatten_nil, List.append_nil, e2]
      · simp (disch := omega) only [↓e52, a52, params, en_PA, ↓e52_1, a52_1, ↓e52_2, a52_2, ↓e52_3, a52_3, ↓e52_4, a52_4, ↓e52_5, a52_5, ↓e52_6, a52_6, ↓e52_7, a52_7, ↓e52_8, a52_8, ↓WC_ret, ↓endP_ret, resV, Option.map_some, resOne, ↓WC_draw, ↓WD_cons, Fr.keep, aop_mv, AX.ev, get_cons', ↓reduceIte, sik, AOp.acts, AOp.reads, cond_false, List.all_nil, Nat.reduceAdd, Fr.put, One_one, ↓WC_seq, ↓WC_reg, ↓WO_cons, AllK_one, aop_alloc, E0_n, List.length_cons, List.length_nil, Nat.zero_add, AS.newRow, panK_ptr, panK_bool, ↓WO_nil, ↓thenK_norm, nat_ne, panK_fp, aop_eq, aeq_fp, Bool.not_false, ↓WO_unless, undefA, undK_bool, condK_false, aop_nck, aop_fad, aop_ld1, withS, ld1_fp, List.getElem?_cons_succ, atV, List.getElem?_cons_zero, panK_ifc, aop_inv, meth_end, AX.evs, call_giv1 G29_201, pureG_eq, AV.scalL, AV.scalar, Bool.and_true, poverE_eq, spK_some, mapO_cons, mapO_nil, cond_true, aop_un, aun, Bool.not_true, aop_pick, aop_call, call_giv1 G29_55, pspurS, scal_ints, scal_rows, sp1, de_PA, de_R0, de_W0, deAt_end, Option.bind_some, Bool.and_false, ↓WC_cond, ↓WC_skip, aop_tas, beq_dec, decide_true, panK_agg, aop_fld, panK_int, call_giv1 G29_112, pfrS, PA.ra, sp2, de_I, gd_pos g1, panK_tup, aop_xt, panK_row, aop_bin, abin, isShift, kindBeq, aint, wrap64_id, gd_pos g2, aop_slc, Option.map_none, slcI_lo, aop_ixs, ixs_row, Nat.mul_one, rows_get, aop_len0, lenA_row, ieq_dec, decf, np_int, chkK_true, List.all_cons, np_fp, dchk_11, np_row, dchk_21, dchk_12, dchk_22, slcI_lh, e1, aop_bslice, fillL, cells_row, ble_dec, Nat.reduceLeDiff, setL, consS_eq, Nat.le_refl, AS.n_push, np_slice, dchk_32, List.contains_cons, Nat.reduceBEq, beq_self_eq_true, List.contains_nil, Bool.or_false, Bool.or_true, same_eq, isSame_one, AV.beq, beqL_ints, dchk_31, beqL_rows, call_giv1 G29_113, pjoinS, concS, frzF_slice, AS.get_push, frzS_cells, List.drop_zero, List.take_succ_cons, List.take_zero, frzF_row, de_W2, gd_pos, spB_some, AV.inz, inz_ints, dchk_33, dchk_13, call_giv1 G29_90, cloneS, gd_pos g4, gd_pos h6, dchk_23, intBeq_self, call_giv1 G29_117, psizeS, call_giv1 G29_116, pendS, gd_pos g5, aop_build, cells_int, np_agg, aop_st, AS.st, cells_agg, stl_get, stO_cells, one_int, one_row, np_tup, np_bool, ↓WD_nil, ldn_ptr, AS.get_put, ldlO_cells, Option.some.injEq, exists_eq_left']
        refine Frz.cut ?_ rfl rfl
        simp only [PA.cut, PA.ra, PA.sz, if_neg c6, List.flatten_cons, List.flatten_nil, List.append_nil, e2]
noncomputable def G30 : Giv := addG 52 (pureG pfoundS) (G29)
theorem G30_fine : Fine P G30 := (G29_fine).pure pfound_ok
theorem G30_110 : G30 110 = some (pureG pstateS) := rfl
theorem G30_109 : G30 109 = some (pureG pcheckS) := rfl
theorem G30_90 : G30 90 = some (pureG cloneS) := rfl
theorem G30_89 : G30 89 = some (pureG wcheckS) := rfl
end Go.Proofs.Ytednmmcdjhfflaa.Vai
