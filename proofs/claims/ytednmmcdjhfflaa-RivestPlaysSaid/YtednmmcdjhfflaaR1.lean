/- An analysis of a counterexample, as the reference goes. -/
import Derived.Test.YtednmmcdjhfflaaB8
import Derived.Test.YtednmmcdjhfflaaCodeR
namespace Go.Proofs.Ytednmmcdjhfflaa.Vai
open Go
set_option linter.unusedVariables false
set_option linter.unusedSimpArgs false
structure RA where
  how : Int
  h : Mach
  acc : List (List Int)
  w : List Int
  said : List (List Int)
  s : Sr
  begun : Bool
  spur : Bool
  asked : Int
abbrev raC (z : Nat) (a : RA) : List AV := [.int .i64 a.how, .int .i64 a.h.kind, .int .i64 a.h.K, .int .i64 a.h.O, .int .i64 a.h.N, rowI z a.h.nx, rowI z a.h.ot, rowW z a.acc, rowI z a.w, rowW z a.said, .int .i64 a.s.how, .int .i64 a.s.low, .int .i64 a.s.high, .int .i64 a.s.step, .bool a.s.no, .int .i64 a.s.asked, .bool a.begun, .bool a.spur, .int .i64 a.asked]
def deRA (z : Nat) : AV → Option RA
  | .agg [.int .i64 how, .int .i64 k, .int .i64 K, .int .i64 o, .int .i64 n, x, y, ac, w, sd, .int .i64 s1, .int .i64 s2, .int .i64 s3, .int .i64 s4, .bool s5, .int .i64 s6, .bool b1, .bool b2, .int .i64 ak] =>
    match (cRo z).de x, (cRo z).de y, (cWo z).de ac, (cRo z).de w, (cWo z).de sd with
    | some x, some y, some ac, some w, some sd => some ⟨how, ⟨k, K, o, n, x, y⟩, ac, w, sd, ⟨s1, s2, s3, s4, s5, s6⟩, b1, b2, ak⟩
    | _, _, _, _, _ => none
  | _ => none
def cRA (z : Nat) : Cod RA := ⟨deRA z, fun a => .agg (raC z a), fun a x h => by
  unfold deRA at h
  split at h
  · split at h
    · rename_i h1 h2 h3 h4 h5
      cases h
      exact Wk.agg ⟨Wk.refl _, Wk.refl _, Wk.refl _, Wk.refl _, Wk.refl _, (cRo z).wk _ _ h1, (cRo z).wk _ _ h2, (cWo z).wk _ _ h3, (cRo z).wk _ _ h4, (cWo z).wk _ _ h5, Wk.refl _, Wk.refl _, Wk.refl _, Wk.refl _, Wk.refl _, Wk.refl _, Wk.refl _, Wk.refl _, Wk.refl _, trivial⟩
    · cases h
  · cases h⟩
theorem en_RA {z : Nat} {a : RA} : (cRA z).en a = .agg (raC z a) := rfl
theorem de_RA {z : Nat} {how k K o n s1 s2 s3 s4 s6 ak : Int} {s5 b1 b2 : Bool} {x y ac w sd : AV} : (cRA z).de (.agg [.int .i64 how, .int .i64 k, .int .i64 K, .int .i64 o, .int .i64 n, x, y, ac, w, sd, .int .i64 s1, .int .i64 s2, .int .i64 s3, .int .i64 s4, .bool s5, .int .i64 s6, .bool b1, .bool b2, .int .i64 ak]) =
    ((cRo z).de x).bind fun x => ((cRo z).de y).bind fun y => ((cWo z).de ac).bind fun ac => ((cRo z).de w).bind fun w => ((cWo z).de sd).map fun sd => ⟨how, ⟨k, K, o, n, x, y⟩, ac, w, sd, ⟨s1, s2, s3, s4, s5, s6⟩, b1, b2, ak⟩ := by
  show (match (cRo z).de x, (cRo z).de y, (cWo z).de ac, (cRo z).de w, (cWo z).de sd with
    | some x, some y, some ac, some w, some sd => some _
    | _, _, _, _, _ => none) = _
  cases (cRo z).de x <;> cases (cRo z).de y <;> cases (cWo z).de ac <;> cases (cRo z).de w <;> cases (cWo z).de sd <;> rfl
structure RA.Ok (a : RA) : Prop where
  m : a.h.R
  w : InB a.w a.h.K
  wl : a.w.length ≤ 4096
  al : (a.acc.length : Int) = a.h.N
  aw : ∀ u ∈ a.acc, InB u a.h.K ∧ u.length ≤ 4096
theorem RA.Ok.acc {a : RA} (h : a.Ok) {i : Int} (h0 : 0 ≤ i) (h1 : i < a.h.N) : InB (a.acc.getD i.toNat []) a.h.K ∧ (a.acc.getD i.toNat []).length ≤ 4096 := by
  have := h.al
  rw [List.getD_eq_getElem?_getD, List.getElem?_eq_getElem (by omega)]
  exact h.aw _ (List.getElem_mem _)
def RA.at (a : RA) (i : Int) : Int := a.h.go 0 (a.w.take i.toNat)
theorem RA.Ok.at {a : RA} (h : a.Ok) (i : Int) : 0 ≤ a.at i ∧ a.at i < a.h.N := by
  have := h.m.n1
  exact goS_bd h.m _ 0 (by omega) (by omega) (h.w.take _)
def RA.word (a : RA) (i : Int) : List Int := a.acc.getD (a.at i).toNat [] ++ a.w.drop i.toNat
def RA.mine (a : RA) (i : Int) : List Int := a.h.out (a.at i) (a.w.drop i.toNat)
theorem scal_raC {z : Nat} {a : RA} : AV.scalar (.agg (raC z a)) = true := by simp only [AV.scalar, AV.scalL, scal_ints, scal_rows]; rfl
noncomputable def rwordS := sp2 (cRA 0) cIn fun a i => gd (a.Ok ∧ 0 ≤ i ∧ i ≤ a.w.length) (rowI 1 (a.word i))
section
variable {S : AS} {z n : Nat} {xs : List Int} {l : List (List Int)} {i j : Int}
theorem slcI_lo (hn : n = xs.length) (h0 : 0 ≤ i) (h1 : i ≤ n) : S.slc 1 (.row z 1 n (ints xs)) (some (.int .i64 i)) none none = some (.row z 1 (xs.drop i.toNat).length (ints (xs.drop i.toNat))) := by
  subst hn
  rw [slc_row (l := i.toNat) (h := xs.length) (optN_int h0) rfl (by omega) (Nat.le_refl _)]
  rw [Nat.mul_one, Nat.mul_one, ints_drop, ints_take, List.take_of_length_le (by rw [List.length_drop]; omega), List.length_drop]
theorem slcI_hi (hn : n = xs.length) (h0 : 0 ≤ j) (h1 : j ≤ n) : S.slc 1 (.row z 1 n (ints xs)) none (some (.int .i64 j)) none = some (.row z 1 (xs.take j.toNat).length (ints (xs.take j.toNat))) := by
  subst hn
  rw [slc_row (l := 0) (h := j.toNat) rfl (optN_int h0) (by omega) (by omega)]
  rw [Nat.zero_mul, List.drop_zero, Nat.mul_one, Nat.sub_zero, ints_take, List.length_take, Nat.min_eq_left (by omega)]
theorem slcI_lh (hn : n = xs.length) (h0 : 0 ≤ i) (h1 : i ≤ j) (h2 : j ≤ n) : S.slc 1 (.row z 1 n (ints xs)) (some (.int .i64 i)) (some (.int .i64 j)) none = some (.row z 1 ((xs.drop i.toNat).take (j.toNat - i.toNat)).length (ints ((xs.drop i.toNat).take (j.toNat - i.toNat)))) := by
  subst hn
  rw [slc_row (l := i.toNat) (h := j.toNat) (optN_int h0) (optN_int (by omega)) (by omega) (by omega)]
  rw [Nat.mul_one, Nat.mul_one, ints_drop, ints_take, List.length_take, List.length_drop, Nat.min_eq_left (by omega)]
end
theorem rword_ok : PureS P 115 rwordS := PureS.of2 fun a i r hr => by
  obtain ⟨⟨hk, h0, h1⟩, rfl⟩ := gd_say hr
  obtain ⟨q1, q2⟩ := hk.at i
  obtain ⟨p1, p2⟩ := hk.acc q1 q2
  have hl := hk.wl
  have hal := hk.al
  have hn := hk.m.n1
  have hmR := hk.m
  have hw0 := hk.w
  refine ⟨pure_run orders G18_fine (L := 1) (d := 1) fn115 rfl ?_, inz_rowI1⟩
  unfold RA.word
  simp only [RA.at] at q1 q2 p1 p2 ⊢
  obtain ⟨how, ⟨k, K, o, n, nx, ot⟩, acc, w, said, s, b1, b2, ak⟩ := a
  simp only at *
  have g1 : (Mach.mk k K o n nx ot).R ∧ InB (w.take i.toNat) K ∧ (0 : Int) ≤ 0 ∧ 0 < n ∧ (w.take i.toNat).length ≤ 1000000000000 := ⟨hmR, hw0.take _, by omega, by omega, by rw [List.length_take]; omega⟩
  have g2 : (acc.getD ((Mach.mk k K o n nx ot).go 0 (w.take i.toNat)).toNat []).length + (w.drop i.toNat).length ≤ 1000000000000 := by rw [List.length_drop]; omega
  simp (disch := omega) only [↓e115, a115, params, en_RA, Nat.zero_add, en_I, ↓e115_1, a115_1, ↓e115_2, a115_2, ↓WC_ret, ↓endP_ret, resV, Option.map_some, Option.some.injEq, resOne, exists_eq_left', ↓WC_draw, ↓WD_cons, Fr.keep, aop_fad, AX.ev, get_cons', ↓reduceIte, sik, AOp.acts, AOp.reads, cond_false, List.all_nil, Nat.reduceAdd, Fr.put, ↓WC_reg, ↓WO_cons, aop_box, cells_agg, E0_n, List.length_cons, List.length_nil, AS.newRow, AllK_one, panK_ptr, aop_mv, panK_nils, ↓WO_nil, ↓thenK_norm, nat_ne, One_one, np_ptr, chkK_true, aop_ldn, withS, ldn_ptr, AS.get_push, ldlO_cells, ble_dec, Nat.le_refl, decide_true, Bool.and_true, Nat.reduceLeDiff, List.drop_succ_cons, List.drop_zero, List.take_succ_cons, List.take_zero, cond_true, List.all_cons, np_agg, dchk_21, dchk_12, dchk_11, aop_ld1, ld1_ptr, ldO_cells, blt_dec, Nat.reduceLT, List.getElem?_cons_succ, List.getElem?_cons_zero, np_row, dchk_22, np_int, aop_slc, Option.map_none, slcI_hi, aop_call, AX.evs, call_giv1 G18_41, goSp, pureG_eq, AV.scalL, AV.scalar, scal_ints, sp3, de_Me, de_R0, Option.bind_some, de_I, gd_pos g1, spK_some, np_tup, dchk_32, List.contains_cons, Nat.reduceBEq, beq_self_eq_true, List.contains_nil, Bool.or_false, Bool.or_true, same_eq, isSame_one, AV.beq, beq_dec, beqL_ints, dchk_31, AV.beqL, kindBeq, intBeq_self, dchk_13, aop_xt, ↓WD_nil, aop_ixs, ixs_row, Nat.mul_one, np_fp, ld1_fp, rows_get, slcI_lo, call_giv1 G18_97, joinS, sp2, gd_pos g2, beqL_rows]
  exact Frz.rowI
noncomputable def rmineS := sp2 (cRA 0) cIn fun a i => gd (a.Ok ∧ 0 ≤ i ∧ i ≤ a.w.length) (rowI 1 (a.mine i))
theorem rmine_ok : PureS P 118 rmineS := PureS.of2 fun a i r hr => by
  obtain ⟨⟨hk, h0, h1⟩, rfl⟩ := gd_say hr
  obtain ⟨q1, q2⟩ := hk.at i
  have hl := hk.wl
  have hn := hk.m.n1
  have hmR := hk.m
  have hw0 := hk.w
  refine ⟨pure_run orders G18_fine (L := 1) (d := 1) fn118 rfl ?_, inz_rowI1⟩
  unfold RA.mine
  simp only [RA.at] at q1 q2 ⊢
  obtain ⟨how, ⟨k, K, o, n, nx, ot⟩, acc, w, said, s, b1, b2, ak⟩ := a
  simp only at *
  have g1 : (Mach.mk k K o n nx ot).R ∧ InB (w.take i.toNat) K ∧ (0 : Int) ≤ 0 ∧ 0 < n ∧ (w.take i.toNat).length ≤ 1000000000000 := ⟨hmR, hw0.take _, by omega, by omega, by rw [List.length_take]; omega⟩
  have g2 : (Mach.mk k K o n nx ot).R ∧ InB (w.drop i.toNat) K ∧ 0 ≤ (Mach.mk k K o n nx ot).go 0 (w.take i.toNat) ∧ (Mach.mk k K o n nx ot).go 0 (w.take i.toNat) < n ∧ (w.drop i.toNat).length ≤ 1000000000000 := ⟨hmR, hw0.drop _, q1, q2, by rw [List.length_drop]; omega⟩
  simp (disch := omega) only [↓e118, a118, params, en_RA, Nat.zero_add, en_I, ↓e118_1, a118_1, ↓e118_2, a118_2, ↓WC_seq, ↓WC_reg, ↓WO_cons, aop_mv, AX.ev, Fr.put, AllK_one, ↓WC_draw, ↓WD_cons, Fr.keep, aop_fad, get_cons', ↓reduceIte, sik, AOp.acts, AOp.reads, cond_false, List.all_nil, Nat.reduceAdd, aop_box, cells_agg, E0_n, List.length_cons, List.length_nil, AS.newRow, panK_ptr, panK_nils, ↓WO_nil, ↓thenK_norm, nat_ne, One_one, np_ptr, chkK_true, aop_ldn, withS, ldn_ptr, AS.get_push, ldlO_cells, ble_dec, Nat.le_refl, decide_true, Bool.and_true, Nat.reduceLeDiff, List.drop_succ_cons, List.drop_zero, List.take_succ_cons, List.take_zero, cond_true, Option.map_some, List.all_cons, np_agg, dchk_21, dchk_12, dchk_11, aop_ld1, ld1_ptr, ldO_cells, blt_dec, Nat.reduceLT, List.getElem?_cons_succ, List.getElem?_cons_zero, np_row, dchk_22, np_int, aop_slc, Option.map_none, slcI_hi, aop_call, AX.evs, call_giv1 G18_41, goSp, pureG_eq, AV.scalL, AV.scalar, scal_ints, sp3, de_Me, de_R0, Option.bind_some, de_I, gd_pos g1, spK_some, np_tup, dchk_32, List.contains_cons, Nat.reduceBEq, beq_self_eq_true, List.contains_nil, Bool.or_false, Bool.or_true, same_eq, isSame_one, AV.beq, beq_dec, beqL_ints, dchk_31, AV.beqL, kindBeq, intBeq_self, dchk_13, aop_xt, ↓WD_nil, slcI_lo, gd_pos g2, panK_row, ↓WC_ret, ↓endP_ret, resV, Option.some.injEq, resOne, exists_eq_left']
  exact Frz.rowI
noncomputable def G19 : Giv := addG 118 (pureG rmineS) (addG 115 (pureG rwordS) (G18))
theorem G19_fine : Fine P G19 := ((G18_fine).pure rword_ok).pure rmine_ok
theorem G19_115 : G19 115 = some (pureG rwordS) := rfl
theorem G19_114 : G19 114 = some (pureG rsAskS) := rfl
theorem G19_30 : G19 30 = some (pureG sameS) := rfl
def RA.ask (a : RA) : List Int × Bool := if a.begun = false then (a.w, true) else if a.spur = true then ([], false) else if (srAsk a.s).2 = false then ([], false) else (a.word (srAsk a.s).1, true)
structure RA.Ok2 (a : RA) : Prop where
  ok : a.Ok
  sb : a.s.B
  pl : a.begun = true → a.spur = false → 0 ≤ a.s.low ∧ a.s.low < a.s.high ∧ a.s.high ≤ a.w.length ∧ ((srAsk a.s).2 = true → a.s.low < (srAsk a.s).1 ∧ (srAsk a.s).1 < a.s.high)
noncomputable def raskS := sp1 (cRA 1) fun a => gd a.Ok2 (.tup [rowI 1 a.ask.1, .bool a.ask.2])
theorem inz_tb {z : Nat} {xs : List Int} {b : Bool} : (AV.tup [rowI 1 xs, .bool b]).inz 0 = true := by simp only [AV.inz, AV.inzL, inz_ints]; rfl
theorem rask_ok : PureS P 51 raskS := PureS.of1 fun a r hr => by
  obtain ⟨hk, rfl⟩ := gd_say hr
  refine ⟨pure_run orders G19_fine (L := 1) (d := 1) fn51 rfl ?_, inz_tb (z := 0)⟩
  unfold RA.ask
  cases hb : a.begun with
  | false =>
    obtain ⟨how, ⟨k, K, o, n, nx, ot⟩, acc, w, said, s, b1, b2, ak⟩ := a
    simp only at hb
    subst hb
    simp (disch := omega) only [↓e51, a51, params, en_RA, ↓e51_1, a51_1, ↓e51_3, a51_3, ↓e51_4, a51_4, ↓e51_5, a51_5, ↓e51_6, a51_6, ↓WC_ret, ↓endP_ret, resV, Option.map_some, Option.some.injEq, resOne, ↓reduceIte, exists_eq_left', ↓WC_reg, ↓WO_cons, aop_ldn, withS, AX.ev, Fr.put, ↓WC_seq, aop_mv, AllK_one, aop_fad, aop_box, get_cons', cells_agg, E0_n, List.length_cons, List.length_nil, Nat.zero_add, Nat.reduceAdd, AS.newRow, panK_ptr, panK_nils, panK_bool, ↓WO_nil, ↓thenK_norm, nat_ne, aop_ld1, ld1_ptr, AS.get_push, ldO_cells, ble_dec, Nat.le_refl, decide_true, Bool.and_true, blt_dec, Nat.reduceLT, List.getElem?_cons_succ, List.getElem?_cons_zero, cond_true, aop_un, aun, Bool.not_false, ↓e51_2, a51_2, ↓WC_cond, condK_true, panK_row, ↓thenK_ret]
    exact Frz.tb Frz.rowI
  | true =>
    cases hs : a.spur with
    | true =>
      obtain ⟨how, ⟨k, K, o, n, nx, ot⟩, acc, w, said, s, b1, b2, ak⟩ := a
      simp only at hb hs
      subst hb; subst hs
      simp (disch := omega) only [↓e51, a51, params, en_RA, ↓e51_1, a51_1, ↓e51_3, a51_3, ↓e51_4, a51_4, ↓e51_5, a51_5, ↓e51_6, a51_6, ↓WC_ret, ↓endP_ret, resV, Option.map_some, Option.some.injEq, resOne, ↓reduceIte, exists_eq_left', ↓WC_reg, ↓WO_cons, aop_ldn, withS, AX.ev, Fr.put, ↓WC_seq, aop_mv, AllK_one, aop_fad, aop_box, get_cons', cells_agg, E0_n, List.length_cons, List.length_nil, Nat.zero_add, Nat.reduceAdd, AS.newRow, panK_ptr, panK_nils, panK_bool, ↓WO_nil, ↓thenK_norm, nat_ne, aop_ld1, ld1_ptr, AS.get_push, ldO_cells, ble_dec, Nat.le_refl, decide_true, Bool.and_true, blt_dec, Nat.reduceLT, List.getElem?_cons_succ, List.getElem?_cons_zero, cond_true, aop_un, aun, Bool.not_true, ↓e51_2, a51_2, ↓WC_cond, condK_false, ↓WC_skip, condK_true, ↓thenK_ret]
      exact Frz.tb (Frz.nils 1 1)
    | false =>
      obtain ⟨p1, p2, p3, p4⟩ := hk.pl hb hs
      have hsb := hk.sb
      cases hm : (srAsk a.s).2 with
      | false =>
        obtain ⟨how, ⟨k, K, o, n, nx, ot⟩, acc, w, said, ⟨s1, s2, s3, s4, s5, s6⟩, b1, b2, ak⟩ := a
        simp only at hb hs hm hsb
        subst hb; subst hs
        simp (disch := omega) only [↓e51, a51, params, en_RA, ↓e51_1, a51_1, ↓e51_3, a51_3, ↓e51_4, a51_4, ↓e51_5, a51_5, ↓e51_6, a51_6, ↓WC_ret, ↓endP_ret, resV, Option.map_some, Option.some.injEq, resOne, ↓reduceIte, exists_eq_left', ↓WC_reg, ↓WO_cons, aop_ldn, withS, AX.ev, Fr.put, ↓WC_seq, aop_mv, AllK_one, aop_fad, aop_box, get_cons', cells_agg, E0_n, List.length_cons, List.length_nil, Nat.zero_add, Nat.reduceAdd, AS.newRow, panK_ptr, panK_nils, panK_bool, ↓WO_nil, ↓thenK_norm, nat_ne, aop_ld1, ld1_ptr, AS.get_push, ldO_cells, ble_dec, Nat.le_refl, decide_true, Bool.and_true, blt_dec, Nat.reduceLT, List.getElem?_cons_succ, List.getElem?_cons_zero, cond_true, aop_un, aun, Bool.not_true, ↓e51_2, a51_2, ↓WC_cond, condK_false, ↓WC_skip, ldn_ptr, ldlO_cells, Nat.reduceLeDiff, List.drop_succ_cons, List.drop_zero, List.take_succ_cons, List.take_zero, panK_agg, aop_call, AX.evs, call_giv1 G19_114, rsAskS, pureG_eq, AV.scalL, AV.scalar, sp1, de_Sr, Option.bind_some, hm, gd_pos hsb, spK_some, panK_tup, aop_xt, panK_int, Bool.not_false, condK_true, ↓thenK_ret]
        exact Frz.tb (Frz.nils 1 1)
      | true =>
        obtain ⟨c1, c2⟩ := p4 hm
        have g1 : a.Ok ∧ 0 ≤ (srAsk a.s).1 ∧ (srAsk a.s).1 ≤ a.w.length := ⟨hk.ok, by omega, by omega⟩
        obtain ⟨how, ⟨k, K, o, n, nx, ot⟩, acc, w, said, ⟨s1, s2, s3, s4, s5, s6⟩, b1, b2, ak⟩ := a
        simp only at hb hs hm hsb
        subst hb; subst hs
        simp (disch := omega) only [↓e51, a51, params, en_RA, ↓e51_1, a51_1, ↓e51_3, a51_3, ↓e51_4, a51_4, ↓e51_5, a51_5, ↓e51_6, a51_6, ↓WC_ret, ↓endP_ret, resV, Option.map_some, Option.some.injEq, resOne, exists_eq_left', ↓WC_reg, ↓WO_cons, aop_ldn, withS, AX.ev, Fr.put, ↓WC_seq, aop_mv, AllK_one, aop_fad, aop_box, get_cons', ↓reduceIte, cells_agg, E0_n, List.length_cons, List.length_nil, Nat.zero_add, Nat.reduceAdd, AS.newRow, panK_ptr, panK_nils, panK_bool, ↓WO_nil, ↓thenK_norm, nat_ne, aop_ld1, ld1_ptr, AS.get_push, ldO_cells, ble_dec, Nat.le_refl, decide_true, Bool.and_true, blt_dec, Nat.reduceLT, List.getElem?_cons_succ, List.getElem?_cons_zero, cond_true, aop_un, aun, Bool.not_true, ↓e51_2, a51_2, ↓WC_cond, condK_false, ↓WC_skip, ldn_ptr, ldlO_cells, Nat.reduceLeDiff, List.drop_succ_cons, List.drop_zero, List.take_succ_cons, List.take_zero, panK_agg, aop_call, AX.evs, call_giv1 G19_114, rsAskS, pureG_eq, AV.scalL, AV.scalar, sp1, de_Sr, Option.bind_some, hm, gd_pos hsb, spK_some, panK_tup, aop_xt, panK_int, call_giv1 G19_115, rwordS, scal_ints, scal_rows, sp2, de_RA, de_R0, de_W, de_I, gd_pos g1, panK_row]
        exact Frz.tb Frz.rowI
structure Cut where
  st : Int
  acc : List Int
  suf : List Int
  was : List Int
  now : List Int
theorem Cut.eq_iff {a b : Cut} : a = b ↔ a.st = b.st ∧ a.acc = b.acc ∧ a.suf = b.suf ∧ a.was = b.was ∧ a.now = b.now := by
  obtain ⟨_, _, _, _, _⟩ := a
  obtain ⟨_, _, _, _, _⟩ := b
  simp
instance : DecidableEq Cut := fun a b => decidable_of_iff _ Cut.eq_iff.symm
abbrev cutV (z : Nat) (c : Cut) : AV := .agg [.int .i64 c.st, rowI z c.acc, rowI z c.suf, rowI z c.was, rowI z c.now]
def deCut (z : Nat) : AV → Option Cut
  | .agg [.int .i64 s, a, b, c, d] => match (cRo z).de a, (cRo z).de b, (cRo z).de c, (cRo z).de d with
    | some a, some b, some c, some d => some ⟨s, a, b, c, d⟩
    | _, _, _, _ => none
  | _ => none
def cCut (z : Nat) : Cod Cut := ⟨deCut z, cutV z, fun a x h => by
  unfold deCut at h
  split at h
  · split at h
    · rename_i h1 h2 h3 h4
      cases h
      exact Wk.agg ⟨Wk.refl _, (cRo z).wk _ _ h1, (cRo z).wk _ _ h2, (cRo z).wk _ _ h3, (cRo z).wk _ _ h4, trivial⟩
    · cases h
  · cases h⟩
theorem en_Cut {z : Nat} {c : Cut} : (cCut z).en c = cutV z c := rfl
theorem de_Cut {z : Nat} {s : Int} {a b c d : AV} : (cCut z).de (.agg [.int .i64 s, a, b, c, d]) = ((cRo z).de a).bind fun a => ((cRo z).de b).bind fun b => ((cRo z).de c).bind fun c => ((cRo z).de d).map fun d => ⟨s, a, b, c, d⟩ := by
  show (match (cRo z).de a, (cRo z).de b, (cRo z).de c, (cRo z).de d with
    | some a, some b, some c, some d => some _
    | _, _, _, _ => none) = _
  cases (cRo z).de a <;> cases (cRo z).de b <;> cases (cRo z).de c <;> cases (cRo z).de d <;> rfl
noncomputable def csameS := sp2 (cCut 0) (cCut 0) fun a b => gd (a.acc.length ≤ 1000000000000 ∧ a.suf.length ≤ 1000000000000 ∧ a.was.length ≤ 1000000000000 ∧ a.now.length ≤ 1000000000000) (.bool (decide (a = b)))
theorem csame_ok : PureS P 54 csameS := PureS.of2 fun a b r hr => by
  obtain ⟨⟨l1, l2, l3, l4⟩, rfl⟩ := gd_say hr
  refine ⟨pure_run orders G19_fine (L := 1) (d := 1) fn54 rfl ?_, rfl⟩
  obtain ⟨a1, a2, a3, a4, a5⟩ := a
  obtain ⟨b1, b2, b3, b4, b5⟩ := b
  simp (disch := omega) only [↓e54, a54, params, en_Cut, Nat.zero_add, ↓e54_1, a54_1, ↓WC_ret, ↓endP_ret, resV, Option.map_some, Option.some.injEq, resOne, exists_eq_left', ↓WC_reg, ↓WO_cons, aop_fad, AX.ev, Nat.add_zero, Fr.put, aop_box, get_cons', ↓reduceIte, cells_agg, E0_n, List.length_cons, List.length_nil, Nat.reduceAdd, AS.newRow, AllK_one, panK_ptr, nat_ne, AS.n_push, aop_mv, panK_bool, ↓WO_nil, ↓thenK_norm, aop_ld1, withS, ld1_ptr, AS.get_push, ldO_cells, ble_dec, Nat.le_refl, decide_true, Bool.and_true, blt_dec, Nat.reduceLT, List.getElem?_cons_zero, cond_true, panK_int, aop_bin, abin, isShift, kindBeq, aint, ieq_dec, cond_false, ↓WO_if, undefA, undK_bool]
  simp only at l1 l2 l3 l4
  repeat' (refine condK_dec ?_ ?_ <;> intro h <;> simp (disch := omega) only [dect, aop_fad, AX.ev, get_cons', nat_ne, ↓reduceIte, Nat.zero_add, AllK_one, panK_ptr, ↓WO_if, undefA, Fr.put, undK_bool, condK_true, aop_ld1, withS, ld1_ptr, AS.get_push, AS.n_push, E0_n, ldO_cells, ble_dec, Nat.le_refl, decide_true, Bool.and_true, blt_dec, Nat.reduceLT, List.getElem?_cons_succ, List.getElem?_cons_zero, cond_true, panK_row, aop_call, AX.evs, call_giv1 G19_30, sameS, pureG_eq, AV.scalL, AV.scalar, scal_ints, sp2, de_R0, Option.bind_some, gd_pos l1, spK_some, panK_bool, ↓WO_cons, aop_pick, aop_mv, decf, condK_false, ↓WO_nil, ↓thenK_norm, gd_pos l2, gd_pos l3, gd_pos l4])
  all_goals
    simp only [Cut.eq_iff, *, true_and, false_and, decide_false]
    exact Frz.scal rfl
noncomputable def G20 : Giv := addG 54 (pureG csameS) (addG 51 (pureG raskS) (G19))
theorem G20_fine : Fine P G20 := ((G19_fine).pure rask_ok).pure csame_ok
theorem G20_41 : G20 41 = some (pureG goSp) := rfl
theorem G20_108 : G20 108 = some (pureG mcheckS) := rfl
theorem G20_61 : G20 61 = some (pureG wcheckS) := rfl
end Go.Proofs.Ytednmmcdjhfflaa.Vai
