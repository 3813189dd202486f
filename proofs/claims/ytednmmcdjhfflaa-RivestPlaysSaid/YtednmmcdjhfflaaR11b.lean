/- Contracts of what the laws of analyses use beside. -/
import Derived.Test.YtednmmcdjhfflaaR11
import Derived.Test.YtednmmcdjhfflaaRL
namespace Go.Proofs.Ytednmmcdjhfflaa.Vai
open Go
set_option linter.unusedVariables false
set_option linter.unusedSimpArgs false
def numS := sp1 cIn fun n => some (.int .i64 n)
theorem num_ok : PureS P 48 numS := PureS.of1 fun n r hr => by
  cases hr
  refine ⟨pure_run orders G36_fine (L := 1) (d := 1) fn48 rfl ?_, rfl⟩
  simp (disch := omega) only [↓e48, a48, params, en_I, ↓WC_seq, ↓WC_reg, ↓WO_cons, aop_mv, AX.ev, Fr.put, AllK_one, panK_int, ↓WO_nil, ↓thenK_norm, get_cons', nat_ne, ↓reduceIte, ↓WC_ret, ↓endP_ret, resV, Option.map_some, Option.some.injEq, resOne, exists_eq_left']
  exact Frz.scal rfl
def muchB (h : Mach) (acc : List (List Int)) (w : List Int) : Bool := decide (h.N > 20 ∨ (h.nx.length : Int) > 70000 ∨ (h.ot.length : Int) > 70000) || decide (acc.length > 30) || (decide (w.length > 40) && decide (w.length ≤ 4096)) || decide (w.length > 5000) || acc.any fun u => decide (u.length > 60)
noncomputable def muchS := sp3 (cMa 0) (cWo 0) (cRo 0) fun h acc w => gd (acc.length ≤ 9223372036854775807 ∧ w.length ≤ 9223372036854775807) (.bool (muchB h acc w))
set_option maxRecDepth 4000 in
theorem much_ok : PureS P 43 muchS := PureS.of3 fun h acc w r hr => by
  obtain ⟨⟨g1, g2⟩, rfl⟩ := gd_say hr
  refine ⟨pure_run orders G36_fine (L := 100) (d := 1) fn43 rfl ?_, rfl⟩
  obtain ⟨k, K, o, n, nx, ot⟩ := h
  by_cases c1 : n > 20 ∨ (nx.length : Int) > 70000 ∨ (ot.length : Int) > 70000
  · have : muchB ⟨k, K, o, n, nx, ot⟩ acc w = true := by unfold muchB; rw [decide_eq_true c1]; rfl
    rw [this]
    have c1' : (n > 20 ∨ (nx.length : Int) > 70000 ∨ (ot.length : Int) > 70000) = True := eq_true c1
    simp (disch := omega) only [↓e43, a43, params, en_M, Nat.zero_add, en_W, Nat.reduceAdd, en_R, ↓e43_1, a43_1, ↓e43_2, a43_2, ↓WC_seq, ↓WC_reg, ↓WO_cons, aop_mv, AX.ev, Fr.put, AllK_one, panK_bool, ↓WO_nil, ↓thenK_norm, ↓WC_ret, ↓endP_ret, resV, get_cons', ↓reduceIte, Option.map_some, Option.some.injEq, resOne, exists_eq_left', panK_int, ↓e43_3, a43_3, ↓WC_block, ↓WC_loop, Fr.keep, nat_ne, aop_ldn, withS, aop_box, cells_agg, E0_n, List.length_cons, List.length_nil, AS.newRow, panK_ptr, ldn_ptr, AS.get_push, ldlO_cells, ble_dec, Nat.le_refl, decide_true, Bool.and_true, List.drop_zero, List.take_succ_cons, List.take_zero, cond_true, panK_agg, aop_call, AX.evs, call_giv1 G36_33, bigS, pureG_eq, AV.scalL, AV.scalar, scal_ints, sp2, de_Me, de_R0, Option.bind_some, de_I, c1', spK_some, ↓WO_unless, undefA, undK_bool, condK_true, aop_pick, ↓WO_if, undK_tup, ↓WC_cond, ↓thenK_ret]
    exact Frz.scal rfl
  have c1' : (n > 20 ∨ (nx.length : Int) > 70000 ∨ (ot.length : Int) > 70000) = False := eq_false c1
  by_cases c2 : acc.length > 30
  · have : muchB ⟨k, K, o, n, nx, ot⟩ acc w = true := by unfold muchB; rw [decide_eq_true c2]; simp
    rw [this]
    simp (disch := omega) only [↓e43, a43, params, en_M, Nat.zero_add, en_W, Nat.reduceAdd, en_R, ↓e43_1, a43_1, ↓e43_2, a43_2, ↓WC_seq, ↓WC_reg, ↓WO_cons, aop_mv, AX.ev, Fr.put, AllK_one, panK_bool, ↓WO_nil, ↓thenK_norm, ↓WC_ret, ↓endP_ret, resV, get_cons', ↓reduceIte, Option.map_some, Option.some.injEq, resOne, exists_eq_left', panK_int, ↓e43_3, a43_3, ↓WC_block, ↓WC_loop, Fr.keep, nat_ne, aop_ldn, withS, aop_box, cells_agg, E0_n, List.length_cons, List.length_nil, AS.newRow, panK_ptr, ldn_ptr, AS.get_push, ldlO_cells, ble_dec, Nat.le_refl, decide_true, Bool.and_true, List.drop_zero, List.take_succ_cons, List.take_zero, cond_true, panK_agg, aop_call, AX.evs, call_giv1 G36_33, bigS, pureG_eq, AV.scalL, AV.scalar, scal_ints, sp2, de_Me, de_R0, Option.bind_some, de_I, c1', decide_false, spK_some, ↓WO_unless, undefA, undK_bool, condK_false, panK_row, aop_len0, lenA_row, aop_bin, abin, isShift, kindBeq, aint, dect, cond_false, aop_pick, condK_true, ↓WO_if, undK_tup, ↓WC_cond, ↓thenK_ret]
    exact Frz.scal rfl
  by_cases c3 : w.length > 40 ∧ w.length ≤ 4096
  · have : muchB ⟨k, K, o, n, nx, ot⟩ acc w = true := by unfold muchB; rw [decide_eq_true c3.1, decide_eq_true c3.2]; simp
    rw [this]
    obtain ⟨c3a, c3b⟩ := c3
    simp (disch := omega) only [↓e43, a43, params, en_M, Nat.zero_add, en_W, Nat.reduceAdd, en_R, ↓e43_1, a43_1, ↓e43_2, a43_2, ↓WC_seq, ↓WC_reg, ↓WO_cons, aop_mv, AX.ev, Fr.put, AllK_one, panK_bool, ↓WO_nil, ↓thenK_norm, ↓WC_ret, ↓endP_ret, resV, get_cons', ↓reduceIte, Option.map_some, Option.some.injEq, resOne, exists_eq_left', panK_int, ↓e43_3, a43_3, ↓WC_block, ↓WC_loop, Fr.keep, nat_ne, aop_ldn, withS, aop_box, cells_agg, E0_n, List.length_cons, List.length_nil, AS.newRow, panK_ptr, ldn_ptr, AS.get_push, ldlO_cells, ble_dec, Nat.le_refl, decide_true, Bool.and_true, List.drop_zero, List.take_succ_cons, List.take_zero, cond_true, panK_agg, aop_call, AX.evs, call_giv1 G36_33, bigS, pureG_eq, AV.scalL, AV.scalar, scal_ints, sp2, de_Me, de_R0, Option.bind_some, de_I, c1', decide_false, spK_some, ↓WO_unless, undefA, undK_bool, condK_false, panK_row, aop_len0, lenA_row, aop_bin, abin, isShift, kindBeq, aint, decf, cond_false, aop_pick, dect, ↓WO_if, condK_true, ↓WC_cond, ↓thenK_ret]
    exact Frz.scal rfl
  by_cases c4 : w.length > 5000
  · have : muchB ⟨k, K, o, n, nx, ot⟩ acc w = true := by unfold muchB; rw [decide_eq_true c4]; simp
    rw [this]
    simp (disch := omega) only [↓e43, a43, params, en_M, Nat.zero_add, en_W, Nat.reduceAdd, en_R, ↓e43_1, a43_1, ↓e43_2, a43_2, ↓WC_seq, ↓WC_reg, ↓WO_cons, aop_mv, AX.ev, Fr.put, AllK_one, panK_bool, ↓WO_nil, ↓thenK_norm, ↓WC_ret, ↓endP_ret, resV, get_cons', ↓reduceIte, Option.map_some, Option.some.injEq, resOne, exists_eq_left', panK_int, ↓e43_3, a43_3, ↓WC_block, ↓WC_loop, Fr.keep, nat_ne, aop_ldn, withS, aop_box, cells_agg, E0_n, List.length_cons, List.length_nil, AS.newRow, panK_ptr, ldn_ptr, AS.get_push, ldlO_cells, ble_dec, Nat.le_refl, decide_true, Bool.and_true, List.drop_zero, List.take_succ_cons, List.take_zero, cond_true, panK_agg, aop_call, AX.evs, call_giv1 G36_33, bigS, pureG_eq, AV.scalL, AV.scalar, scal_ints, sp2, de_Me, de_R0, Option.bind_some, de_I, c1', decide_false, spK_some, ↓WO_unless, undefA, undK_bool, condK_false, panK_row, aop_len0, lenA_row, aop_bin, abin, isShift, kindBeq, aint, decf, cond_false, aop_pick, dect, ↓WO_if, condK_true, ↓WC_cond, ↓thenK_ret]
    exact Frz.scal rfl
  have hm : muchB ⟨k, K, o, n, nx, ot⟩ acc w = acc.any fun u => decide (u.length > 60) := by
    unfold muchB
    rw [decide_eq_false c1, decide_eq_false c2, decide_eq_false c4]
    have : (decide (w.length > 40) && decide (w.length ≤ 4096)) = false := by
      rw [Bool.and_eq_false_iff, decide_eq_false_iff_not, decide_eq_false_iff_not]; omega
    rw [this]; rfl
  rw [hm]
  have hwl : (w.length : Int) ≤ 40 ∨ 4096 < (w.length : Int) := by omega
  rcases hwl with hwl | hwl
  all_goals
    simp (disch := omega) only [↓e43, a43, params, en_M, Nat.zero_add, en_W, Nat.reduceAdd, en_R, ↓e43_1, a43_1, ↓e43_2, a43_2, ↓WC_seq, ↓WC_reg, ↓WO_cons, aop_mv, AX.ev, Fr.put, AllK_one, panK_bool, ↓WO_nil, ↓thenK_norm, ↓WC_ret, ↓endP_ret, resV, get_cons', ↓reduceIte, Option.map_some, Option.some.injEq, resOne, exists_eq_left', panK_int, ↓e43_3, a43_3, ↓WC_block, ↓WC_loop, Fr.keep, nat_ne, aop_ldn, withS, aop_box, cells_agg, E0_n, List.length_cons, List.length_nil, AS.newRow, panK_ptr, ldn_ptr, AS.get_push, ldlO_cells, ble_dec, Nat.le_refl, decide_true, Bool.and_true, List.drop_zero, List.take_succ_cons, List.take_zero, cond_true, panK_agg, aop_call, AX.evs, call_giv1 G36_33, bigS, pureG_eq, AV.scalL, AV.scalar, scal_ints, sp2, de_Me, de_R0, Option.bind_some, de_I, c1', decide_false, spK_some, ↓WO_unless, undefA, undK_bool, condK_false, panK_row, aop_len0, lenA_row, aop_bin, abin, isShift, kindBeq, aint, decf, cond_false, aop_pick, ↓WO_if, ↓WC_cond, ↓WC_skip, dect, condK_true]
    refine loop_all (fun m F S => ∃ i : Nat, i + m = acc.length ∧ (acc.any fun u => decide (u.length > 60)) = ((acc.drop i).any fun u => decide (u.length > 60)) ∧ F.get 1 = rowW 0 acc ∧ F.get 7 = .int .i64 i) ?_ ⟨0, Nat.zero_add _, rfl, rfl, rfl⟩ (by omega)
    rintro m F S ⟨i, hi, ha, f1, f7⟩
    simp (disch := omega) only [↓e43_4, a43_4, ↓e43_5, a43_5, ↓WC_reg, ↓WO_cons, aop_mv, AX.ev, Fr.keep, Fr.put, AllK_one, get_cons', nat_ne, ↓reduceIte, ↓WC_block, ↓WC_seq, f7, panK_int, f1, panK_row, aop_len0, withS, lenA_row, aop_bin, abin, isShift, kindBeq, aint, cond_true, cond_false, panK_bool, ↓WO_nil, ↓thenK_norm, ↓WC_cond]
    refine condK_dec ?_ ?_ <;> intro h4 <;> simp (disch := omega) only [↓WC_skip, ↓thenK_norm, dect, get_cons', nat_ne, ↓reduceIte, f1, panK_row, ↓WO_cons, aop_mv, AX.ev, f7, Fr.put, AllK_one, panK_int, aop_ixs, withS, ixs_row, Int.toNat_natCast, Nat.mul_one, panK_fp, aop_ld1, ld1_fp, rows_get, aop_len0, lenA_row, aop_bin, abin, isShift, kindBeq, aint, cond_true, cond_false, panK_bool, ↓WO_nil, ↓WC_cond, ↓WC_exit, ↓thenK_exit, ↓blkK_exit]
    · have hil : i < acc.length := by omega
      have hd : acc.drop i = acc.getD i [] :: acc.drop (i + 1) := by rw [List.drop_eq_getElem_cons hil, List.getD_eq_getElem?_getD, List.getElem?_eq_getElem hil]; rfl
      refine condK_dec ?_ ?_ <;> intro h5 <;> simp (disch := omega) only [↓WC_seq, ↓WC_reg, ↓WO_cons, dect, get_cons', nat_ne, ↓reduceIte, f1, aop_mv, AX.ev, Fr.put, AllK_one, panK_bool, ↓WO_nil, ↓thenK_norm, ↓WC_ret, ↓blkK_ret, ↓thenK_ret, ↓endP_ret, resV, Option.map_some, Option.some.injEq, resOne, exists_eq_left', ↓WC_skip, ↓blkK_norm, decf, f7, panK_int, aop_bin, withS, abin, isShift, kindBeq, aint, wrap64_id, cond_true, cond_false, true_and]
      · rw [ha, hd, List.any_cons, decide_eq_true (show (acc.getD i []).length > 60 by omega)]
        exact Frz.scal rfl
      · exact ⟨m - 1, by omega, i + 1, by omega, by rw [ha, hd, List.any_cons, decide_eq_false (show ¬ (acc.getD i []).length > 60 by omega), Bool.false_or], rfl⟩
    · rw [ha, List.drop_of_length_le (by omega)]
      exact Frz.scal rfl
noncomputable def G37 : Giv := addG 44 (pureG liveS) (addG 43 (pureG muchS) (addG 48 (pureG numS) (G36)))
theorem G37_fine : Fine P G37 := (((G36_fine).pure num_ok).pure much_ok).pure live_ok
theorem G37_48 : G37 48 = some (pureG numS) := rfl
theorem G37_43 : G37 43 = some (pureG muchS) := rfl
theorem G37_44 : G37 44 = some (pureG liveS) := rfl
theorem G37_174 : G37 174 = some (stG pstellG) := rfl
theorem G37_153 : G37 153 = some (stG psnewG) := rfl
theorem G37_175 : G37 175 = some (pureG psaskS) := rfl
theorem G37_176 : G37 176 = some (pureG psfoundS) := rfl
theorem G37_46 : G37 46 = some (stG pnewG) := rfl
theorem G37_52 : G37 52 = some (pureG pfoundS) := rfl
theorem G37_50 : G37 50 = some (pureG paskS) := rfl
theorem G37_112 : G37 112 = some (pureG pfrS) := rfl
theorem G37_117 : G37 117 = some (pureG psizeS) := rfl
theorem G37_116 : G37 116 = some (pureG pendS) := rfl
theorem G37_55 : G37 55 = some (pureG pspurS) := rfl
theorem G37_56 : G37 56 = some (pureG paskedS) := rfl
theorem G37_53 : G37 53 = some (pureG rfoundS) := rfl
theorem G37_59 : G37 59 = some (pureG rtellS) := rfl
theorem G37_47 : G37 47 = some (pureG rnewS) := rfl
theorem G37_51 : G37 51 = some (pureG raskS) := rfl
theorem G37_54 : G37 54 = some (pureG csameS) := rfl
theorem G37_91 : G37 91 = some (pureG tcheckS) := rfl
theorem G37_57 : G37 57 = some (pureG runS) := rfl
theorem G37_49 : G37 49 = some (pureG msameS) := rfl
theorem G37_45 : G37 45 = some (pureG mcopyS) := rfl
theorem G37_33 : G37 33 = some (pureG bigS) := rfl
theorem G37_30 : G37 30 = some (pureG sameS) := rfl
theorem G37_101 : G37 101 = some (pureG sameS) := rfl
end Go.Proofs.Ytednmmcdjhfflaa.Vai
