/- The program's search for a place, where it lies frozen. -/
import Derived.Test.YtednmmcdjhfflaaR9
namespace Go.Proofs.Ytednmmcdjhfflaa.Vai
open Go
set_option linter.unusedVariables false
set_option linter.unusedSimpArgs false
theorem Wk.ifc {t : TypeId} {x y : AV} (h : Wk x y) : Wk (.ifc t x) (.ifc t y) := by
  rintro ρ v ⟨u, h1, h2⟩
  exact ⟨u, h ρ u h1, h2⟩
def cUn : Cod Unit := ⟨fun | .agg [] => some () | _ => none, fun _ => .agg [], fun a x h => by
  split at h
  · exact Wk.refl _
  · cases h⟩
def cSp : Cod (Int × Int) := ⟨fun | .agg [.int .i64 a, .int .i64 b] => some (a, b) | _ => none, fun s => .agg [.int .i64 s.1, .int .i64 s.2], fun a x h => by
  split at h
  · cases h; exact Wk.refl _
  · cases h⟩
def cEx : Cod (Int × Bool) := ⟨fun | .fp _ [.int .i64 a, .bool b] 0 => some (a, b) | _ => none, fun s => .fp 0 [.int .i64 s.1, .bool s.2] 0, fun a x h => by
  split at h
  · cases h; exact Wk.fp (Nat.zero_le _) (WkL.refl _)
  · cases h⟩
theorem en_Un {u : Unit} : cUn.en u = .agg [] := rfl
theorem en_Sp {s : Int × Int} : cSp.en s = .agg [.int .i64 s.1, .int .i64 s.2] := rfl
theorem en_Ex {s : Int × Bool} : cEx.en s = .fp 0 [.int .i64 s.1, .bool s.2] 0 := rfl
theorem de_Un : cUn.de (.agg []) = some () := rfl
theorem de_Sp {a b : Int} : cSp.de (.agg [.int .i64 a, .int .i64 b]) = some (a, b) := rfl
theorem de_Ex {z : Nat} {a : Int} {b : Bool} : cEx.de (.fp z [.int .i64 a, .bool b] 0) = some (a, b) := rfl
inductive Way where
  | lin
  | bin
  | exp (st : Int) (no : Bool)
def wayF : Way → AV
  | .lin => .ifc 249 (.agg [])
  | .bin => .ifc 250 (.agg [])
  | .exp st no => .ifc 251 (.fp 0 [.int .i64 st, .bool no] 0)
def deWay : AV → Option Way
  | .ifc t (.agg []) => if t = 249 then some .lin else if t = 250 then some .bin else none
  | .ifc t (.fp _ [.int .i64 st, .bool no] 0) => if t = 251 then some (.exp st no) else none
  | _ => none
theorem deWay_wk {x : AV} {w : Way} (h : deWay x = some w) : Wk x (wayF w) := by
  unfold deWay at h
  split at h
  · split at h
    · rename_i ht; cases h; subst ht; exact Wk.refl _
    · split at h
      · rename_i ht; cases h; subst ht; exact Wk.refl _
      · cases h
  · split at h
    · rename_i ht; cases h; subst ht; exact Wk.ifc (Wk.fp (Nat.zero_le _) (WkL.refl _))
    · cases h
  · cases h
structure PS where
  way : Way
  low : Int
  high : Int
  asked : Int
abbrev psC (s : PS) : List AV := [wayF s.way, .int .i64 s.low, .int .i64 s.high, .int .i64 s.asked]
def dePS : AV → Option PS
  | .fp _ [w, .int .i64 a, .int .i64 b, .int .i64 c] 0 => (deWay w).map fun w => ⟨w, a, b, c⟩
  | _ => none
def cPS : Cod PS := ⟨dePS, fun s => .fp 0 (psC s) 0, fun a x h => by
  unfold dePS at h
  split at h
  · simp only [Option.map_eq_some_iff] at h
    obtain ⟨w, h1, rfl⟩ := h
    exact Wk.fp (Nat.zero_le _) ⟨deWay_wk h1, Wk.refl _, Wk.refl _, Wk.refl _, trivial⟩
  · cases h⟩
theorem en_PS {s : PS} : cPS.en s = .fp 0 (psC s) 0 := rfl
theorem de_PS {z : Nat} {w : AV} {a b c : Int} : cPS.de (.fp z [w, .int .i64 a, .int .i64 b, .int .i64 c] 0) = (deWay w).map fun w => ⟨w, a, b, c⟩ := rfl
theorem deWay_l : deWay (.ifc 249 (.agg [])) = some .lin := rfl
theorem deWay_b : deWay (.ifc 250 (.agg [])) = some .bin := rfl
theorem deWay_e {z : Nat} {st : Int} {no : Bool} : deWay (.ifc 251 (.fp z [.int .i64 st, .bool no] 0)) = some (.exp st no) := rfl
def Way.next (w : Way) (l h : Int) : Int := match w with
  | .lin => l + 1
  | .bin => l + (h - l).tdiv 2
  | .exp st no => if no = true then l + (h - l).tdiv 2 else if l + 1 > h - st then l + 1 else h - st
def SpB (s : Int × Int) : Prop := 0 ≤ s.1 ∧ s.1 ≤ 1000000 ∧ 0 ≤ s.2 ∧ s.2 ≤ 1000000
noncomputable def pnxlS := sp2 cUn cSp fun _ s => gd (SpB s) (.int .i64 (Way.next .lin s.1 s.2))
noncomputable def pnxbS := sp2 cUn cSp fun _ s => gd (SpB s) (.int .i64 (Way.next .bin s.1 s.2))
theorem pnxl_ok : PureS P 208 pnxlS := PureS.of2 fun u s r hr => by
  obtain ⟨⟨h1, h2, h3, h4⟩, rfl⟩ := gd_say hr
  obtain ⟨a, b⟩ := s
  refine ⟨pure_run orders G31_fine (L := 1) (d := 1) fn208 rfl ?_, rfl⟩
  simp only [Way.next] at *
  simp (disch := omega) only [↓e208, a208, params, en_Un, Nat.zero_add, en_Sp, ↓WC_seq, ↓WC_reg, ↓WO_cons, aop_fad, AX.ev, Nat.add_zero, Fr.put, aop_box, get_cons', ↓reduceIte, cells_agg, E0_n, List.length_nil, AS.newRow, AllK_one, panK_ptr, nat_ne, AS.n_push, List.length_cons, Nat.reduceAdd, aop_mv, panK_int, ↓WO_nil, ↓thenK_norm, aop_ld1, withS, ld1_ptr, AS.get_push, ldO_cells, ble_dec, Nat.le_refl, decide_true, Bool.and_true, blt_dec, Nat.reduceLT, List.getElem?_cons_zero, cond_true, aop_bin, abin, isShift, kindBeq, aint, wrap64_id, cond_false, ↓WC_ret, ↓endP_ret, resV, Option.map_some, Option.some.injEq, resOne, exists_eq_left']
  exact Frz.scal rfl
theorem tdiv2_bd {x : Int} (h1 : -1000000 ≤ x) (h2 : x ≤ 1000000) : -1000000 ≤ x.tdiv 2 ∧ x.tdiv 2 ≤ 1000000 := by
  rcases Int.le_total 0 x with h | h
  · rw [Int.tdiv_eq_ediv_of_nonneg h]; omega
  · have : x.tdiv 2 = -((-x).tdiv 2) := by rw [Int.neg_tdiv]; omega
    rw [this, Int.tdiv_eq_ediv_of_nonneg (by omega)]; omega
theorem pnxb_ok : PureS P 210 pnxbS := PureS.of2 fun u s r hr => by
  obtain ⟨⟨h1, h2, h3, h4⟩, rfl⟩ := gd_say hr
  obtain ⟨a, b⟩ := s
  refine ⟨pure_run orders G31_fine (L := 1) (d := 1) fn210 rfl ?_, rfl⟩
  simp only [Way.next] at *
  have ht := tdiv2_bd (x := b - a) (by omega) (by omega)
  simp (disch := omega) only [↓e210, a210, params, en_Un, Nat.zero_add, en_Sp, ↓e210_1, a210_1, ↓WC_ret, ↓endP_ret, resV, Option.map_some, Option.some.injEq, resOne, exists_eq_left', ↓WC_reg, ↓WO_cons, aop_fad, AX.ev, Nat.add_zero, Fr.put, aop_box, get_cons', ↓reduceIte, cells_agg, E0_n, List.length_nil, AS.newRow, AllK_one, panK_ptr, nat_ne, AS.n_push, List.length_cons, Nat.reduceAdd, aop_mv, panK_int, ↓WO_nil, ↓thenK_norm, aop_ld1, withS, ld1_ptr, AS.get_push, ldO_cells, ble_dec, Nat.le_refl, decide_true, Bool.and_true, blt_dec, Nat.reduceLT, List.getElem?_cons_zero, cond_true, List.getElem?_cons_succ, aop_bin, abin, isShift, kindBeq, aint, wrap64_id, cond_false, Int.reduceEq]
  exact Frz.scal rfl
noncomputable def G32 : Giv := addG 210 (pureG pnxbS) (addG 208 (pureG pnxlS) (G31))
theorem G32_fine : Fine P G32 := ((G31_fine).pure pnxl_ok).pure pnxb_ok
theorem G32_210 : G32 210 = some (pureG pnxbS) := rfl
def StB (st : Int) : Prop := -4611686018427387904 ≤ st ∧ st ≤ 4611686018427387904
noncomputable def pnxeS := sp2 cEx cSp fun x s => gd (SpB s ∧ StB x.1) (.int .i64 (Way.next (.exp x.1 x.2) s.1 s.2))
theorem mx_two {x y : Int} : foldMn true (.int .i64 x) [.int .i64 y] = some (.int .i64 (if y > x then y else x)) := rfl
theorem pnxe_ok : PureS P 212 pnxeS := PureS.of2 fun x s r hr => by
  obtain ⟨⟨hb, h5, h6⟩, rfl⟩ := gd_say hr
  obtain ⟨a, b⟩ := s
  obtain ⟨st, no⟩ := x
  obtain ⟨h1, h2, h3, h4⟩ := id hb
  refine ⟨pure_run orders G32_fine (L := 1) (d := 1) fn212 rfl ?_, rfl⟩
  simp only [Way.next] at *
  cases no with
  | true =>
    rw [if_pos rfl]
    simp (disch := omega) only [↓e212, a212, params, en_Ex, Nat.zero_add, en_Sp, ↓e212_1, a212_1, ↓e212_3, a212_3, ↓WC_ret, ↓endP_ret, resV, Option.map_some, Option.some.injEq, resOne, exists_eq_left', ↓WC_draw, ↓WD_cons, Fr.keep, aop_fad, AX.ev, get_cons', ↓reduceIte, sik, AOp.acts, AOp.reads, cond_false, List.all_nil, Nat.reduceAdd, Fr.put, ↓WC_seq, ↓WC_reg, ↓WO_cons, aop_mv, AllK_one, aop_box, nat_ne, cells_agg, E0_n, List.length_cons, List.length_nil, AS.newRow, panK_ptr, panK_int, ↓WO_nil, ↓thenK_norm, panK_fp, aop_nck, aop_ld1, withS, ld1_fp, List.getElem?_cons_succ, List.getElem?_cons_zero, panK_bool, ↓e212_2, a212_2, ↓WC_cond, condK_true, aop_build, fillL, panK_agg, aop_ldn, ldn_ptr, AS.get_push, ldlO_cells, ble_dec, Nat.le_refl, decide_true, Bool.and_true, List.drop_zero, List.take_succ_cons, List.take_zero, cond_true, aop_call, AX.evs, call_giv1 G32_210, pnxbS, Way.next, pureG_eq, AV.scalL, AV.scalar, sp2, de_Un, de_Sp, Option.bind_some, gd_pos hb, spK_some, ↓thenK_ret]
    exact Frz.scal rfl
  | false =>
    rw [if_neg (by decide)]
    simp (disch := omega) only [↓e212, a212, params, en_Ex, Nat.zero_add, en_Sp, ↓e212_1, a212_1, ↓e212_3, a212_3, ↓WC_ret, ↓endP_ret, resV, Option.map_some, Option.some.injEq, resOne, exists_eq_left', ↓WC_draw, ↓WD_cons, Fr.keep, aop_fad, AX.ev, get_cons', ↓reduceIte, sik, AOp.acts, AOp.reads, cond_false, List.all_nil, Nat.reduceAdd, Fr.put, ↓WC_seq, ↓WC_reg, ↓WO_cons, aop_mv, AllK_one, aop_box, nat_ne, cells_agg, E0_n, List.length_cons, List.length_nil, AS.newRow, panK_ptr, panK_int, ↓WO_nil, ↓thenK_norm, panK_fp, aop_nck, aop_ld1, withS, ld1_fp, List.getElem?_cons_succ, List.getElem?_cons_zero, panK_bool, ↓e212_2, a212_2, ↓WC_cond, condK_false, ↓WC_skip, One_one, np_ptr, chkK_true, ld1_ptr, AS.get_push, ldO_cells, ble_dec, Nat.le_refl, decide_true, Bool.and_true, blt_dec, Nat.reduceLT, cond_true, List.all_cons, np_int, dchk_21, np_fp, dchk_12, dchk_11, Nat.add_zero, dchk_22, aop_bin, abin, isShift, kindBeq, aint, wrap64_id, aop_mx, isInt_i, AX.evs, mx_two, ↓WD_nil]
    exact Frz.scal rfl
def pendedS := sp1 cPS fun s => some (.bool (decide (s.high = IntKind.wrap .i64 (s.low + 1))))
theorem pended_ok : PureS P 181 pendedS := PureS.of1 fun s r hr => by
  cases hr
  refine ⟨pure_run orders G32_fine (L := 1) (d := 1) fn181 rfl ?_, rfl⟩
  simp (disch := omega) only [↓e181, a181, params, en_PS, ↓e181_1, a181_1, ↓WC_ret, ↓endP_ret, resV, Option.map_some, Option.some.injEq, resOne, exists_eq_left', ↓WC_draw, ↓WD_cons, Fr.keep, aop_mv, AX.ev, get_cons', ↓reduceIte, sik, AOp.acts, AOp.reads, cond_false, List.all_nil, Nat.reduceAdd, Fr.put, One_one, ↓WC_reg, ↓WO_cons, AllK_one, panK_bool, ↓WO_nil, ↓thenK_norm, nat_ne, np_fp, chkK_true, aop_nck, List.all_cons, dchk_11, Bool.and_true, aop_fad, Nat.zero_add, aop_ld1, withS, ld1_fp, List.getElem?_cons_succ, List.getElem?_cons_zero, cond_true, np_int, dchk_21, dchk_12, Nat.add_zero, dchk_22, aop_bin, abin, isShift, kindBeq, aint, ieq_dec, np_bool, ↓WD_nil]
  exact Frz.scal rfl
noncomputable def G33 : Giv := addG 181 (pureG pendedS) (addG 212 (pureG pnxeS) (G32))
theorem G33_fine : Fine P G33 := ((G32_fine).pure pnxe_ok).pure pended_ok
theorem G33_212 : G33 212 = some (pureG pnxeS) := rfl
theorem G33_181 : G33 181 = some (pureG pendedS) := rfl
theorem G33_208 : G33 208 = some (pureG pnxlS) := rfl
theorem G33_210 : G33 210 = some (pureG pnxbS) := rfl
theorem meth_nl : (ctxE Try.prog kpN fun _ => none).meth 249 "tutor/point.next" = some 208 := by kernel_rfl
theorem meth_nb : (ctxE Try.prog kpN fun _ => none).meth 250 "tutor/point.next" = some 210 := by kernel_rfl
theorem meth_ne : (ctxE Try.prog kpN fun _ => none).meth 251 "tutor/point.next" = some 212 := by kernel_rfl
def Way.B : Way → Prop
  | .exp st _ => StB st
  | _ => True
structure PS.B (s : PS) : Prop where
  sp : SpB (s.low, s.high)
  w : s.way.B
def PS.ask (s : PS) : Int × Bool := if s.high = s.low + 1 then (0, false) else (s.way.next s.low s.high, true)
noncomputable def psaskS := sp1 cPS fun s => gd s.B (.tup [.int .i64 s.ask.1, .bool s.ask.2])
noncomputable def psfoundS := sp1 cPS fun s => gd s.B (.tup [.int .i64 (if s.high = s.low + 1 then s.low else 0), .bool (decide (s.high = s.low + 1))])
theorem psask_ok : PureS P 175 psaskS := PureS.of1 fun s r hr => by
  obtain ⟨hb, rfl⟩ := gd_say hr
  refine ⟨pure_run orders G33_fine (L := 1) (d := 1) fn175 rfl ?_, rfl⟩
  obtain ⟨⟨h1, h2, h3, h4⟩, hw⟩ := id hb
  obtain ⟨way, low, high, asked⟩ := s
  have hsp := hb.sp
  simp only [PS.ask] at *
  by_cases hc : high = low + 1
  · rw [if_pos hc]
    cases way <;> simp (disch := omega) only [↓e175, a175, params, hc, en_PS, ↓e175_1, a175_1, ↓e175_2, a175_2, ↓WC_ret, ↓endP_ret, resV, Option.map_some, Option.some.injEq, resOne, exists_eq_left', ↓WC_draw, ↓WD_cons, Fr.keep, aop_mv, AX.ev, get_cons', ↓reduceIte, sik, AOp.acts, AOp.reads, cond_false, List.all_nil, Nat.reduceAdd, Fr.put, One_one, ↓WC_seq, ↓WC_reg, ↓WO_cons, AllK_one, panK_int, panK_bool, ↓WO_nil, ↓thenK_norm, nat_ne, panK_fp, aop_eq, aeq_fp, Bool.not_false, ↓WO_unless, undefA, undK_bool, condK_false, aop_call, AX.evs, call_giv1 G33_181, pendedS, pureG_eq, AV.scalL, AV.scalar, wayF, Bool.and_true, sp1, de_PS, deWay_l, Option.bind_some, wrap64_id, decide_true, spK_some, cond_true, aop_pick, ↓WC_cond, condK_true, ↓thenK_ret, deWay_b, deWay_e]
    all_goals exact Frz.scal rfl
  · rw [if_neg hc]
    have hc' : (high = low + 1) = False := eq_false hc
    cases way with
    | lin =>
      simp (disch := omega) only [↓e175, a175, params, en_PS, ↓e175_1, a175_1, ↓e175_2, a175_2, ↓WC_ret, ↓endP_ret, resV, Option.map_some, Option.some.injEq, resOne, exists_eq_left', ↓WC_draw, ↓WD_cons, Fr.keep, aop_mv, AX.ev, get_cons', ↓reduceIte, sik, AOp.acts, AOp.reads, cond_false, List.all_nil, Nat.reduceAdd, Fr.put, One_one, ↓WC_seq, ↓WC_reg, ↓WO_cons, AllK_one, panK_int, panK_bool, ↓WO_nil, ↓thenK_norm, nat_ne, panK_fp, aop_eq, aeq_fp, Bool.not_false, ↓WO_unless, undefA, undK_bool, condK_false, aop_call, AX.evs, call_giv1 G33_181, pendedS, pureG_eq, AV.scalL, AV.scalar, wayF, Bool.and_true, sp1, de_PS, deWay_l, Option.bind_some, wrap64_id, hc', decide_false, spK_some, cond_true, aop_pick, ↓WC_cond, ↓WC_skip, np_fp, chkK_true, aop_nck, List.all_cons, dchk_11, aop_fad, Nat.add_zero, aop_ld1, withS, ld1_fp, List.getElem?_cons_zero, np_ifc, dchk_21, dchk_12, Nat.zero_add, aop_ldn, ldn_fp, List.length_cons, List.length_nil, ble_dec, Nat.reduceLeDiff, decide_true, List.drop_succ_cons, List.drop_zero, List.take_succ_cons, List.take_zero, np_agg, dchk_22, aop_inv, meth_nl, call_giv1 G33_208, pnxlS, sp2, de_Un, de_Sp, gd_pos hsp, np_int, dchk_31, dchk_32, List.contains_cons, Nat.reduceBEq, beq_self_eq_true, List.contains_nil, Bool.or_false, Bool.or_true, same_eq, isSame_one, AV.beq, AV.beqL, kindBeq, intBeq_self, beq_dec, dchk_13, np_bool, ↓WD_nil]
      exact Frz.scal rfl
    | bin =>
      simp (disch := omega) only [↓e175, a175, params, en_PS, ↓e175_1, a175_1, ↓e175_2, a175_2, ↓WC_ret, ↓endP_ret, resV, Option.map_some, Option.some.injEq, resOne, exists_eq_left', ↓WC_draw, ↓WD_cons, Fr.keep, aop_mv, AX.ev, get_cons', ↓reduceIte, sik, AOp.acts, AOp.reads, cond_false, List.all_nil, Nat.reduceAdd, Fr.put, One_one, ↓WC_seq, ↓WC_reg, ↓WO_cons, AllK_one, panK_int, panK_bool, ↓WO_nil, ↓thenK_norm, nat_ne, panK_fp, aop_eq, aeq_fp, Bool.not_false, ↓WO_unless, undefA, undK_bool, condK_false, aop_call, AX.evs, call_giv1 G33_181, pendedS, pureG_eq, AV.scalL, AV.scalar, wayF, Bool.and_true, sp1, de_PS, deWay_b, Option.bind_some, wrap64_id, hc', decide_false, spK_some, cond_true, aop_pick, ↓WC_cond, ↓WC_skip, np_fp, chkK_true, aop_nck, List.all_cons, dchk_11, aop_fad, Nat.add_zero, aop_ld1, withS, ld1_fp, List.getElem?_cons_zero, np_ifc, dchk_21, dchk_12, Nat.zero_add, aop_ldn, ldn_fp, List.length_cons, List.length_nil, ble_dec, Nat.reduceLeDiff, decide_true, List.drop_succ_cons, List.drop_zero, List.take_succ_cons, List.take_zero, np_agg, dchk_22, aop_inv, meth_nb, call_giv1 G33_210, pnxbS, sp2, de_Un, de_Sp, gd_pos hsp, np_int, dchk_31, dchk_32, List.contains_cons, Nat.reduceBEq, beq_self_eq_true, List.contains_nil, Bool.or_false, Bool.or_true, same_eq, isSame_one, AV.beq, AV.beqL, kindBeq, intBeq_self, beq_dec, dchk_13, np_bool, ↓WD_nil]
      exact Frz.scal rfl
    | exp st no =>
      have g : SpB (low, high) ∧ StB st := ⟨hsp, hw⟩
      simp (disch := omega) only [↓e175, a175, params, en_PS, ↓e175_1, a175_1, ↓e175_2, a175_2, ↓WC_ret, ↓endP_ret, resV, Option.map_some, Option.some.injEq, resOne, exists_eq_left', ↓WC_draw, ↓WD_cons, Fr.keep, aop_mv, AX.ev, get_cons', ↓reduceIte, sik, AOp.acts, AOp.reads, cond_false, List.all_nil, Nat.reduceAdd, Fr.put, One_one, ↓WC_seq, ↓WC_reg, ↓WO_cons, AllK_one, panK_int, panK_bool, ↓WO_nil, ↓thenK_norm, nat_ne, panK_fp, aop_eq, aeq_fp, Bool.not_false, ↓WO_unless, undefA, undK_bool, condK_false, aop_call, AX.evs, call_giv1 G33_181, pendedS, pureG_eq, AV.scalL, AV.scalar, wayF, Bool.and_true, sp1, de_PS, deWay_e, Option.bind_some, wrap64_id, hc', decide_false, spK_some, cond_true, aop_pick, ↓WC_cond, ↓WC_skip, np_fp, chkK_true, aop_nck, List.all_cons, dchk_11, aop_fad, Nat.add_zero, aop_ld1, withS, ld1_fp, List.getElem?_cons_zero, np_ifc, dchk_21, dchk_12, Nat.zero_add, aop_ldn, ldn_fp, List.length_cons, List.length_nil, ble_dec, Nat.reduceLeDiff, decide_true, List.drop_succ_cons, List.drop_zero, List.take_succ_cons, List.take_zero, np_agg, dchk_22, aop_inv, meth_ne, call_giv1 G33_212, pnxeS, sp2, de_Ex, de_Sp, gd_pos g, np_int, dchk_31, dchk_32, List.contains_cons, Nat.reduceBEq, beq_self_eq_true, List.contains_nil, Bool.or_false, Bool.or_true, same_eq, isSame_one, AV.beq, AV.beqL, kindBeq, intBeq_self, beq_dec, dchk_13, np_bool, ↓WD_nil]
      exact Frz.scal rfl
theorem psfound_ok : PureS P 176 psfoundS := PureS.of1 fun s r hr => by
  obtain ⟨hb, rfl⟩ := gd_say hr
  refine ⟨pure_run orders G33_fine (L := 1) (d := 1) fn176 rfl ?_, rfl⟩
  obtain ⟨⟨h1, h2, h3, h4⟩, hw⟩ := id hb
  obtain ⟨way, low, high, asked⟩ := s
  simp only at *
  by_cases hc : high = low + 1
  · rw [if_pos hc]
    cases way <;> simp (disch := omega) only [↓e176, a176, params, hc, en_PS, ↓e176_1, a176_1, ↓e176_2, a176_2, ↓WC_ret, ↓endP_ret, resV, Option.map_some, Option.some.injEq, resOne, decide_true, exists_eq_left', ↓WC_reg, ↓WO_cons, aop_mv, AX.ev, Fr.put, AllK_one, ↓WC_seq, panK_int, panK_bool, ↓WO_nil, ↓thenK_norm, get_cons', nat_ne, ↓reduceIte, panK_fp, aop_eq, aeq_fp, Bool.not_false, cond_false, ↓WO_unless, undefA, undK_bool, condK_false, aop_call, AX.evs, call_giv1 G33_181, pendedS, pureG_eq, AV.scalL, AV.scalar, wayF, Bool.and_true, sp1, de_PS, deWay_l, Option.bind_some, wrap64_id, spK_some, cond_true, aop_un, withS, aun, Bool.not_true, aop_pick, ↓WC_cond, ↓WC_skip, aop_nck, aop_fad, Nat.zero_add, Nat.add_zero, aop_ld1, ld1_fp, List.getElem?_cons_succ, List.getElem?_cons_zero, deWay_b, deWay_e]
    all_goals exact Frz.scal rfl
  · rw [if_neg hc]
    have hc' : (high = low + 1) = False := eq_false hc
    cases way <;> simp (disch := omega) only [↓e176, a176, params, en_PS, ↓e176_1, a176_1, ↓e176_2, a176_2, ↓WC_ret, ↓endP_ret, resV, Option.map_some, Option.some.injEq, resOne, hc', decide_false, exists_eq_left', ↓WC_reg, ↓WO_cons, aop_mv, AX.ev, Fr.put, AllK_one, ↓WC_seq, panK_int, panK_bool, ↓WO_nil, ↓thenK_norm, get_cons', nat_ne, ↓reduceIte, panK_fp, aop_eq, aeq_fp, Bool.not_false, cond_false, ↓WO_unless, undefA, undK_bool, condK_false, aop_call, AX.evs, call_giv1 G33_181, pendedS, pureG_eq, AV.scalL, AV.scalar, wayF, Bool.and_true, sp1, de_PS, deWay_l, Option.bind_some, wrap64_id, spK_some, cond_true, aop_un, withS, aun, aop_pick, ↓WC_cond, condK_true, ↓thenK_ret, deWay_b, deWay_e]
    all_goals exact Frz.scal rfl
noncomputable def G34 : Giv := addG 176 (pureG psfoundS) (addG 175 (pureG psaskS) (G33))
theorem G34_fine : Fine P G34 := ((G33_fine).pure psask_ok).pure psfound_ok
end Go.Proofs.Ytednmmcdjhfflaa.Vai
