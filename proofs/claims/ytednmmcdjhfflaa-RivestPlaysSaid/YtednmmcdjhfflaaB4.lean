/- What a machine says of a word, as the reference says it. -/
import Derived.Test.YtednmmcdjhfflaaB3
namespace Go.Proofs.Ytednmmcdjhfflaa.Vai
open Go
set_option linter.unusedVariables false
set_option linter.unusedSimpArgs false
noncomputable def G4 : Giv := addG 41 (pureG goSp) (addG 34 (pureG rightS) (G3))
theorem G4_fine : Fine P G4 := ((G3_fine).pure right_ok).pure go_ok
theorem G4_41 : G4 41 = some (pureG goSp) := rfl
theorem G4_108 : G4 108 = some (pureG mcheckS) := rfl
theorem G4_61 : G4 61 = some (pureG wcheckS) := rfl
theorem inz_rowI1 {xs : List Int} : (rowI 1 xs).inz 0 = true := inz_rowI (by omega)
theorem Frz.rowI {z z' : Nat} {S : AS} {xs : List Int} : Frz z S (rowI z' xs) (rowI z' xs) := Frz.scal scal_rowI
noncomputable def go2Sp := sp3 (cMa 0) (cRo 0) (cRo 0) fun m u w => gd (m.R ∧ InB u m.K ∧ InB w m.K ∧ u.length ≤ 1000000000000 ∧ w.length ≤ 1000000000000) (rowI 1 (m.out (m.go 0 u) w))
theorem go2_ok : PureS P 40 go2Sp := PureS.of3 fun m u w r hr => by
  obtain ⟨⟨hm, hu, hw, hl1, hl2⟩, rfl⟩ := gd_say hr
  have hn := hm.n1
  obtain ⟨q1, q2⟩ := goS_bd hm u 0 (by omega) (by omega) hu
  have g1 : m.R ∧ InB u m.K ∧ (0 : Int) ≤ 0 ∧ 0 < m.N ∧ u.length ≤ 1000000000000 := ⟨hm, hu, by omega, by omega, hl1⟩
  have g2 : m.R ∧ InB w m.K ∧ 0 ≤ m.go 0 u ∧ m.go 0 u < m.N ∧ w.length ≤ 1000000000000 := ⟨hm, hw, q1, q2, hl2⟩
  refine ⟨pure_run orders G4_fine (L := 1) (d := 1) fn40 rfl ?_, inz_rowI1⟩
  obtain ⟨k, K, o, n, nx, ot⟩ := m
  simp (disch := omega) only [↓e40, a40, params, en_M, Nat.zero_add, en_R, Nat.reduceAdd, ↓e40_1, a40_1, ↓e40_2, a40_2, ↓WC_seq, ↓WC_reg, ↓WO_cons, aop_mv, AX.ev, Fr.put, AllK_one, aop_ldn, withS, aop_box, get_cons', ↓reduceIte, cells_agg, E0_n, List.length_cons, List.length_nil, AS.newRow, panK_ptr, panK_nils, ↓WO_nil, ↓thenK_norm, nat_ne, ldn_ptr, AS.get_push, ldlO_cells, ble_dec, Nat.le_refl, decide_true, Bool.and_true, List.drop_zero, List.take_succ_cons, List.take_zero, cond_true, Option.map_some, panK_agg, panK_row, aop_call, AX.evs, call_giv1 G4_41, goSp, pureG_eq, AV.scalL, AV.scalar, scal_ints, sp3, de_Me, de_R0, Option.bind_some, de_I, gd_pos g1, spK_some, panK_tup, aop_xt, List.getElem?_cons_zero, panK_int, List.getElem?_cons_succ, gd_pos g2, ↓WC_ret, ↓endP_ret, resV, Option.some.injEq, resOne, exists_eq_left']
  exact Frz.rowI
def runE (m : Mach) (w : List Int) : Int := if machE m.kind m.K m.O m.N m.nx m.ot = 0 then wordE w m.K else machE m.kind m.K m.O m.N m.nx m.ot
def runO (m : Mach) (w : List Int) : List Int := if runE m w = 0 then m.out 0 w else []
theorem wordE_zero {w : List Int} {K : Int} : wordE w K = 0 ↔ (1 ≤ K ∧ K ≤ 64) ∧ InB w K ∧ w.length ≤ 4096 := by
  unfold wordE
  split
  · constructor <;> intro h <;> omega
  split
  · constructor <;> intro h <;> omega
  split
  · rename_i h1 h2 h3; exact ⟨fun _ => ⟨by omega, h3, by omega⟩, fun _ => rfl⟩
  · rename_i h1 h2 h3; exact ⟨fun h => by omega, fun h => absurd h.2.1 h3⟩
def fromS := sp3 (cMa 0) cIn (cRo 0) fun m s w => if s = 0 then some (.tup [.any, rowI 1 (runO m w), .int .i64 (runE m w)]) else none
theorem from_ok : PureS P 120 fromS := PureS.of3 fun m s w r hr => by
  by_cases hs : s = 0
  rotate_left
  · rw [if_neg hs] at hr; cases hr
  rw [if_pos hs] at hr
  subst hs
  cases hr
  refine ⟨pure_run orders G4_fine (L := 1) (d := 1) fn120 rfl ?_, by simp only [AV.inz, AV.inzL, inz_ints]; rfl⟩
  obtain ⟨k, K, o, n, nx, ot⟩ := m
  simp (disch := omega) only [↓e120, a120, params, en_M, Nat.zero_add, en_I, Nat.reduceAdd, en_R, ↓e120_1, a120_1, ↓e120_2, a120_2, ↓e120_4, a120_4, ↓e120_5, a120_5, ↓e120_6, a120_6, ↓e120_8, a120_8, ↓e120_9, a120_9, ↓WC_ret, ↓endP_ret, resV, Option.map_some, Option.some.injEq, resOne, exists_eq_left', ↓WC_reg, ↓WO_cons, aop_mv, AX.ev, Fr.put, AllK_one, aop_ldn, withS, ↓WC_seq, aop_box, get_cons', ↓reduceIte, cells_agg, E0_n, List.length_cons, List.length_nil, AS.newRow, panK_ptr, panK_int, panK_nils, ↓WO_nil, ↓thenK_norm, nat_ne, ldn_ptr, AS.get_push, ldlO_cells, ble_dec, Nat.le_refl, decide_true, Bool.and_true, List.drop_zero, List.take_succ_cons, List.take_zero, cond_true, panK_agg, aop_call, AX.evs, call_giv1 G4_108, mcheckS, pureG_eq, AV.scalL, AV.scalar, scal_ints, sp1, de_Me, de_R0, Option.bind_some, spK_some, panK_tup, aop_xt, List.getElem?_cons_zero, panK_any, List.getElem?_cons_succ, aop_bin, abin, isShift, kindBeq, aint, ine_dec, cond_false, panK_bool, ↓e120_3, a120_3, ↓WC_cond, condK_not]
  have e0 : machE k K o n nx ot = 0 → wordE w K = 0 → runE ⟨k, K, o, n, nx, ot⟩ w = 0 := fun h1 h2 => by unfold runE; rw [if_pos h1, h2]
  have e1 : machE k K o n nx ot = 0 → runE ⟨k, K, o, n, nx, ot⟩ w = wordE w K := fun h1 => by unfold runE; rw [if_pos h1]
  have e2 : ¬ machE k K o n nx ot = 0 → runE ⟨k, K, o, n, nx, ot⟩ w = machE k K o n nx ot := fun h1 => by unfold runE; rw [if_neg h1]
  refine condK_dec ?_ ?_ <;> intro h1 <;> simp (disch := omega) only [↓WC_skip, ↓thenK_norm, dect, Bool.not_true, get_cons', nat_ne, ↓reduceIte, panK_int, ↓WO_cons, aop_bin, withS, abin, AX.ev, isShift, kindBeq, aint, Int.reduceLT, decide_false, cond_true, cond_false, Fr.put, AllK_one, panK_bool, aop_mv, ↓WO_unless, undefA, undK_bool, condK_false, aop_fad, Nat.zero_add, panK_ptr, aop_ld1, ld1_ptr, AS.get_push, E0_n, ldO_cells, ble_dec, Nat.le_refl, decide_true, Bool.and_true, blt_dec, Nat.reduceLT, List.getElem?_cons_succ, List.getElem?_cons_zero, aop_pick, ↓WO_nil, ↓WC_cond, ↓WC_seq, ↓WC_reg, decf, Bool.not_false, panK_nils, ↓WC_ret, ↓thenK_ret, ↓endP_ret, resV, Option.map_some, Option.some.injEq, resOne, exists_eq_left']
  rotate_left
  · have e := e2 h1
    have : runO ⟨k, K, o, n, nx, ot⟩ w = [] := by unfold runO; rw [if_neg (by rw [e]; exact h1)]
    rw [this, e]
    exact Frz.tup ⟨Frz.any, Frz.nils 1 1, Frz.scal rfl, trivial⟩
  have hm := machE_zero.mp h1
  have hn := hm.n1
  simp (disch := omega) only [decf, condK_false, ↓WC_skip, ↓thenK_norm, dect, Bool.not_true, get_cons', nat_ne, ↓reduceIte, panK_row, ↓WO_cons, aop_fad, AX.ev, Nat.zero_add, Fr.put, AllK_one, panK_ptr, aop_ld1, withS, ld1_ptr, AS.get_push, E0_n, ldO_cells, ble_dec, Nat.le_refl, decide_true, Bool.and_true, blt_dec, Nat.reduceLT, List.getElem?_cons_succ, List.getElem?_cons_zero, cond_true, panK_int, aop_call, AX.evs, call_giv1 G4_61, wcheckS, pureG_eq, AV.scalL, AV.scalar, scal_ints, sp2, de_R0, de_I, Option.bind_some, spK_some, panK_tup, aop_mv, aop_xt, panK_any, ↓WO_nil, aop_bin, abin, isShift, kindBeq, aint, ine_dec, cond_false, panK_bool, ↓e120_7, a120_7, ↓WC_cond, condK_not]
  refine condK_dec ?_ ?_ <;> intro h2 <;> simp (disch := omega) only [↓WC_skip, ↓thenK_norm, dect, Bool.not_true, get_cons', nat_ne, ↓reduceIte, ldn_ptr, AS.get_push, E0_n, ldlO_cells, ble_dec, Nat.le_refl, decide_true, Bool.and_true, Nat.zero_add, List.drop_zero, List.take_succ_cons, List.take_zero, cond_true, Option.map_some, AllK_one, panK_agg, ↓WO_cons, aop_mv, AX.ev, Fr.put, panK_int, panK_row, aop_call, AX.evs, call_giv1 G4_41, goSp, pureG_eq, AV.scalL, AV.scalar, scal_ints, sp3, de_Me, de_R0, Option.bind_some, de_I, ↓WC_seq, ↓WC_reg, decf, Bool.not_false, panK_nils, ↓WO_nil, ↓WC_ret, ↓thenK_ret, ↓endP_ret, resV, Option.some.injEq, resOne, exists_eq_left']
  rotate_left
  · have e := e1 h1
    have : runO ⟨k, K, o, n, nx, ot⟩ w = [] := by unfold runO; rw [if_neg (by rw [e]; exact h2)]
    rw [this, e]
    exact Frz.tup ⟨Frz.any, Frz.nils 1 1, Frz.scal rfl, trivial⟩
  obtain ⟨_, hw, hl⟩ := wordE_zero.mp h2
  have g1 : (Mach.mk k K o n nx ot).R ∧ InB w K ∧ (0 : Int) ≤ 0 ∧ 0 < n ∧ w.length ≤ 1000000000000 := ⟨hm, hw, by omega, by omega, by omega⟩
  simp (disch := omega) only [gd_pos g1, spK_some, AllK_one, panK_tup, ↓WO_cons, dect, Bool.not_true, aop_mv, AX.ev, get_cons', ↓reduceIte, Fr.put, aop_xt, withS, List.getElem?_cons_zero, panK_int, nat_ne, List.getElem?_cons_succ, panK_row, ↓WO_nil, ↓thenK_norm]
  have e := e0 h1 h2
  have : runO ⟨k, K, o, n, nx, ot⟩ w = (Mach.mk k K o n nx ot).out 0 w := by unfold runO; rw [if_pos e]
  rw [this, e]
  exact Frz.tup ⟨Frz.any, Frz.rowI, Frz.scal rfl, trivial⟩
noncomputable def G5 : Giv := addG 120 (pureG fromS) (addG 40 (pureG go2Sp) (G4))
theorem G5_fine : Fine P G5 := ((G4_fine).pure go2_ok).pure from_ok
theorem G5_120 : G5 120 = some (pureG fromS) := rfl
theorem G5_30 : G5 30 = some (pureG sameS) := rfl
def runS := sp2 (cMa 0) (cRo 0) fun m w => some (.tup [rowI 1 (runO m w), .int .i64 (runE m w)])
theorem run_ok : PureS P 57 runS := PureS.of2 fun m w r hr => by
  cases hr
  refine ⟨pure_run orders G5_fine (L := 1) (d := 1) fn57 rfl ?_, by simp only [AV.inz, AV.inzL, inz_ints]; rfl⟩
  obtain ⟨k, K, o, n, nx, ot⟩ := m
  simp (disch := omega) only [↓e57, a57, params, en_M, Nat.zero_add, en_R, ↓e57_1, a57_1, ↓WC_seq, ↓WC_reg, ↓WO_cons, aop_mv, AX.ev, Fr.put, AllK_one, aop_ldn, withS, aop_box, get_cons', ↓reduceIte, cells_agg, E0_n, List.length_cons, List.length_nil, Nat.reduceAdd, AS.newRow, panK_ptr, panK_nils, panK_int, ↓WO_nil, ↓thenK_norm, nat_ne, ldn_ptr, AS.get_push, ldlO_cells, ble_dec, Nat.le_refl, decide_true, Bool.and_true, List.drop_zero, List.take_succ_cons, List.take_zero, cond_true, Option.map_some, panK_agg, panK_row, aop_call, AX.evs, call_giv1 G5_120, fromS, pureG_eq, AV.scalL, AV.scalar, scal_ints, sp3, de_Me, de_R0, Option.bind_some, de_I, spK_some, panK_tup, aop_xt, List.getElem?_cons_zero, panK_any, List.getElem?_cons_succ, ↓WC_ret, ↓endP_ret, resV, Option.some.injEq, resOne, exists_eq_left']
  exact Frz.tup ⟨Frz.rowI, Frz.scal rfl, trivial⟩
theorem Mach.eq_iff {a b : Mach} : a = b ↔ a.kind = b.kind ∧ a.K = b.K ∧ a.O = b.O ∧ a.N = b.N ∧ a.nx = b.nx ∧ a.ot = b.ot := by
  obtain ⟨_, _, _, _, _, _⟩ := a
  obtain ⟨_, _, _, _, _, _⟩ := b
  simp
instance : DecidableEq Mach := fun a b => decidable_of_iff _ Mach.eq_iff.symm
noncomputable def msameS := sp2 (cMa 0) (cMa 0) fun a b => gd (a.nx.length ≤ 1000000000000 ∧ a.ot.length ≤ 1000000000000) (.bool (decide (a = b)))
theorem msame_ok : PureS P 49 msameS := PureS.of2 fun a b r hr => by
  obtain ⟨⟨hl1, hl2⟩, rfl⟩ := gd_say hr
  refine ⟨pure_run orders G5_fine (L := 1) (d := 1) fn49 rfl ?_, rfl⟩
  obtain ⟨k, K, o, n, nx, ot⟩ := a
  obtain ⟨k', K', o', n', nx', ot'⟩ := b
  simp (disch := omega) only [↓e49, a49, params, en_M, Nat.zero_add, ↓e49_1, a49_1, ↓WC_ret, ↓endP_ret, resV, Option.map_some, Option.some.injEq, resOne, exists_eq_left', ↓WC_reg, ↓WO_cons, aop_fad, AX.ev, Nat.add_zero, Fr.put, aop_box, get_cons', ↓reduceIte, cells_agg, E0_n, List.length_cons, List.length_nil, Nat.reduceAdd, AS.newRow, AllK_one, panK_ptr, nat_ne, AS.n_push, aop_mv, panK_bool, ↓WO_nil, ↓thenK_norm, aop_ld1, withS, ld1_ptr, AS.get_push, ldO_cells, ble_dec, Nat.le_refl, decide_true, Bool.and_true, blt_dec, Nat.reduceLT, List.getElem?_cons_zero, cond_true, panK_int, aop_bin, abin, isShift, kindBeq, aint, ieq_dec, cond_false, ↓WO_if, undefA, undK_bool]
  simp only at hl1 hl2
  repeat' (refine condK_dec ?_ ?_ <;> intro h <;> simp (disch := omega) only [dect, aop_fad, AX.ev, get_cons', nat_ne, ↓reduceIte, Nat.zero_add, AllK_one, panK_ptr, ↓WO_if, undefA, Fr.put, undK_bool, condK_true, aop_ld1, withS, ld1_ptr, AS.get_push, AS.n_push, E0_n, ldO_cells, ble_dec, Nat.le_refl, decide_true, Bool.and_true, blt_dec, Nat.reduceLT, List.getElem?_cons_succ, List.getElem?_cons_zero, cond_true, panK_int, aop_bin, abin, isShift, kindBeq, aint, ieq_dec, cond_false, panK_bool, ↓WO_cons, aop_pick, aop_mv, decf, condK_false, ↓WO_nil, ↓thenK_norm, panK_row, aop_call, AX.evs, call_giv1 G5_30, sameS, pureG_eq, AV.scalL, AV.scalar, scal_ints, sp2, de_R0, Option.bind_some, gd_pos hl1, spK_some, gd_pos hl2])
  all_goals
    simp only [Mach.eq_iff, *, true_and, false_and, decide_false]
    exact Frz.scal rfl
noncomputable def mcopyS := sp1 (cMa 0) fun a => gd (a.nx.length ≤ 1000000000000 ∧ a.ot.length ≤ 1000000000000) (machV 1 a)
theorem mcopy_ok : PureS P 45 mcopyS := PureS.of1 fun a r hr => by
  obtain ⟨⟨hl1, hl2⟩, rfl⟩ := gd_say hr
  refine ⟨pure_run orders G5_fine (L := 1) (d := 1) fn45 rfl ?_, by simp only [AV.inz, AV.inzL, inz_ints]; rfl⟩
  obtain ⟨k, K, o, n, nx, ot⟩ := a
  simp only at hl1 hl2
  simp (disch := omega) only [↓e45, a45, params, en_M, ↓e45_1, a45_1, ↓e45_2, a45_2, ↓WC_seq, ↓WC_reg, ↓WO_cons, aop_ldn, withS, AX.ev, Fr.put, aop_bslice, fillL, AS.newRow, AllK_one, panK_slice, aop_fad, get_cons', nat_ne, ↓reduceIte, aop_box, cells_agg, E0_n, List.length_cons, List.length_nil, Nat.zero_add, Nat.reduceAdd, panK_ptr, aop_alloc, AS.n_push, ↓WO_nil, ↓thenK_norm, aop_ld1, ld1_ptr, AS.get_push, ldO_cells, ble_dec, Nat.le_refl, decide_true, Bool.and_true, blt_dec, Nat.reduceLT, List.getElem?_cons_succ, List.getElem?_cons_zero, cond_true, panK_row, aop_app]
  refine AllK.clone fun a1 S1 g1 i1 => ?_
  have n1 := i1.n; have w1 := i1.wf
  simp (disch := omega) only [g1.pan, ↓WO_cons, aop_fad, AX.ev, get_cons', nat_ne, ↓reduceIte, Nat.zero_add, Fr.put, AllK_one, panK_ptr, aop_st, AS.st, g1.cells, List.length_cons, List.length_nil, beq_dec, decide_true, stl_get, i1.get, AS.get_push, AS.n_push, E0_n, stO_cells, Nat.reduceAdd, ble_dec, Nat.reduceLeDiff, Bool.and_true, List.all_cons, g1.one, List.all_nil, setL, consS_eq, cond_true, Option.map_some, undefA, panK_tup, ↓WO_nil, ↓thenK_norm, AS.n_put, aop_ld1, withS, ld1_ptr, AS.get_put, ldO_cells, Nat.le_refl, blt_dec, Nat.reduceLT, List.getElem?_cons_succ, List.getElem?_cons_zero, panK_row, aop_app]
  have w1' : Wf (S1.put 0 (.cells [.int .i64 k, .int .i64 K, .int .i64 o, .int .i64 n, a1, rowI 0 ot] 6 0 0 false false)) := w1.put (by omega) _
  have g1' := g1.put (v := 0) (.cells [.int .i64 k, .int .i64 K, .int .i64 o, .int .i64 n, a1, rowI 0 ot] 6 0 0 false false) (by omega)
  refine AllK.clone (fun a2 S2 g2 i2 => ?_) (hS := w1')
  have n2 := i2.n; have w2 := i2.wf
  have g1' := g1'.go i2 w1'
  simp (disch := omega) only [g2.pan, ↓WO_cons, aop_fad, AX.ev, get_cons', nat_ne, ↓reduceIte, Nat.zero_add, Fr.put, AllK_one, panK_ptr, aop_st, AS.st, g2.cells, List.length_cons, List.length_nil, beq_dec, decide_true, stl_get, i2.get, AS.get_put, stO_cells, Nat.reduceAdd, ble_dec, Nat.le_refl, Bool.and_true, List.all_cons, g2.one, List.all_nil, setL, consS_eq, cond_true, Option.map_some, undefA, panK_tup, ↓WO_nil, ↓thenK_norm, ldn_ptr, ldlO_cells, List.drop_zero, List.take_succ_cons, List.take_zero, panK_agg, cells_agg, i1.get, AS.get_push, AS.n_push, E0_n, one_int, g1.one, ↓WC_ret, ↓endP_ret, resV, Option.some.injEq, resOne, exists_eq_left']
  exact Frz.agg ⟨Frz.scal rfl, Frz.scal rfl, Frz.scal rfl, Frz.scal rfl, GwI.frz ((g1'.put _ (by omega)).put _ (by omega)), GwI.frz ((g2.put _ (by omega)).put _ (by omega)), trivial⟩
noncomputable def G6 : Giv := addG 45 (pureG mcopyS) (addG 49 (pureG msameS) (addG 57 (pureG runS) (G5)))
theorem G6_fine : Fine P G6 := (((G5_fine).pure run_ok).pure msame_ok).pure mcopy_ok
end Go.Proofs.Ytednmmcdjhfflaa.Vai
