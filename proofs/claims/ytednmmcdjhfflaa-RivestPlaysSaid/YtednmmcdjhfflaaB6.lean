/- Machines, as the program looks at them. -/
import Derived.Test.YtednmmcdjhfflaaB5
namespace Go.Proofs.Ytednmmcdjhfflaa.Vai
open Go
set_option linter.unusedVariables false
set_option linter.unusedSimpArgs false
def InR (xs : List Int) : Prop := ∀ x ∈ xs, -9223372036854775808 ≤ x ∧ x ≤ 9223372036854775807
theorem wrapu {x : Int} (h0 : -9223372036854775808 ≤ x) (h1 : x ≤ 9223372036854775807) : IntKind.wrap .u64 x = if x < 0 then x + 18446744073709551616 else x := by
  have e : IntKind.wrap .u64 x = x % 18446744073709551616 := by
    unfold IntKind.wrap
    simp [IntKind.bits, IntKind.signed]
  rw [e]
  split <;> omega
theorem u64_ge {x n : Int} (h0 : -9223372036854775808 ≤ x) (h1 : x ≤ 9223372036854775807) (h2 : 0 ≤ n) (h3 : n ≤ 9223372036854775807) : decide (IntKind.wrap .u64 x ≥ IntKind.wrap .u64 n) = decide (x < 0 ∨ x ≥ n) := by
  rw [decide_eq_decide, wrapu h0 h1, wrapu (by omega) h3]
  split <;> split <;> omega
theorem getD_inR {xs : List Int} (h : InR xs) {i : Nat} (hi : i < xs.length) : -9223372036854775808 ≤ xs.getD i 0 ∧ xs.getD i 0 ≤ 9223372036854775807 := by
  rw [List.getD_eq_getElem?_getD, List.getElem?_eq_getElem hi]
  exact h _ (List.getElem_mem hi)
noncomputable def bynS := sp2 (cRo 0) cIn fun xs n => gd (xs.length ≤ 1000000000000 ∧ InR xs ∧ 0 ≤ n ∧ n ≤ 9223372036854775807) (.int .i64 (fidx xs n))
theorem beyond_ok : PureS P 151 bynS := PureS.of2 fun xs k r hr => by
  obtain ⟨⟨hl, hx, hk0, hk1⟩, rfl⟩ := gd_say hr
  refine ⟨pure_run orders G11_fine (L := xs.length + 1) (d := 1) fn151 rfl ?_, rfl⟩
  simp (disch := omega) only [↓e151, a151, params, en_R, Nat.zero_add, en_I, ↓e151_1, a151_1, ↓WC_seq, ↓WC_reg, ↓WO_cons, Int.reduceNeg, aop_mv, AX.ev, Fr.put, AllK_one, panK_int, ↓WO_nil, ↓thenK_norm, ↓WC_ret, ↓endP_ret, resV, get_cons', ↓reduceIte, Option.map_some, Option.some.injEq, resOne, exists_eq_left', nat_ne, panK_row, aop_len0, withS, lenA_row, ↓e151_2, a151_2, ↓WC_block, ↓WC_loop, Fr.keep]
  refine loop_all (fun m F S => ∃ i : Nat, i + m = xs.length ∧ InB (xs.take i) k ∧ F.get 0 = rowI 0 xs ∧ F.get 1 = .int .i64 k ∧ F.get 4 = .int .i64 0 ∧ F.get 7 = .int .i64 xs.length ∧ F.get 8 = .int .i64 i ∧ S = E0) ?_ ⟨0, Nat.zero_add _, (fun x hx => by cases hx), rfl, rfl, rfl, rfl, rfl, rfl⟩ (by omega)
  rintro m F S ⟨i, hi, he, f0, f1, f4, f7, f8, rfl⟩
  simp (disch := omega) only [↓e151_3, a151_3, ↓e151_4, a151_4, ↓e151_5, a151_5, ↓WC_reg, ↓WO_cons, aop_bin, withS, abin, AX.ev, isShift, kindBeq, aint, cond_false, ble_dec, Fr.keep, Int.reduceNeg, Fr.put, get_cons', ↓reduceIte, nat_ne, ↓WC_block, ↓WC_seq, aop_mv, AllK_one, ↓WC_cond, f8, f7, cond_true, panK_bool, ↓WO_nil, ↓thenK_norm]
  refine condK_dec ?_ ?_ <;> intro h4
  · obtain ⟨q1, q2⟩ := getD_inR hx (i := i) (by omega)
    have hu := u64_ge q1 q2 hk0 hk1
    simp (disch := omega) only [↓WC_skip, ↓thenK_norm, dect, get_cons', nat_ne, ↓reduceIte, f8, Int.reduceNeg, panK_int, ↓WO_cons, aop_mv, AX.ev, Fr.put, AllK_one, ↓WO_nil, ↓e151_6, a151_6, ↓WC_cond, ↓WC_reg, f0, panK_row, aop_ixs, withS, ixs_row, Int.toNat_natCast, Nat.mul_one, panK_fp, aop_ld1, ld1_fp, ints_get, aop_cvi, f1, aop_bin, abin, isShift, kindBeq, aint, hu, cond_true, cond_false, panK_bool]
    refine condK_dec ?_ ?_ <;> intro h5 <;> simp (disch := omega) only [↓WC_seq, ↓WC_reg, ↓WO_cons, dect, aop_mv, AX.ev, get_cons', nat_ne, ↓reduceIte, Int.reduceNeg, Fr.put, AllK_one, panK_int, ↓WO_nil, ↓thenK_norm, ↓WC_ret, ↓blkK_ret, ↓thenK_ret, ↓endP_ret, resV, Option.map_some, Option.some.injEq, resOne, exists_eq_left', ↓WC_skip, ↓blkK_norm, decf, f8, wrap64_id, cond_true, f0, f1, f4, f7, and_true, true_and]
    · exact Frz.io (fidx_some he (by omega) h5).symm
    · exact ⟨m - 1, by omega, i + 1, by omega, inB_take_succ (by omega) he (by omega) (by omega), rfl⟩
  · simp (disch := omega) only [↓WC_exit, ↓thenK_exit, ↓blkK_exit, ↓reduceIte, ↓thenK_norm, Int.reduceNeg]
    exact Frz.io (fidx_none he (by omega)).symm
def saysS := sp1 (cMa 0) fun m => some (.int .i64 (if m.kind = 1 then m.N else IntKind.wrap .i64 (m.N * m.K)))
theorem says_ok : PureS P 173 saysS := PureS.of1 fun m r hr => by
  cases hr
  obtain ⟨k, K, o, n, nx, ot⟩ := m
  refine ⟨pure_run orders G11_fine (L := 1) (d := 1) fn173 rfl ?_, rfl⟩
  simp (disch := omega) only [↓e173, a173, params, en_M, ↓e173_1, a173_1, ↓e173_2, a173_2, ↓WC_ret, ↓endP_ret, resV, Option.map_some, Option.some.injEq, resOne, exists_eq_left', ↓WC_reg, ↓WO_cons, aop_fad, AX.ev, Fr.put, ↓WC_seq, Nat.add_zero, aop_box, get_cons', ↓reduceIte, cells_agg, E0_n, List.length_cons, List.length_nil, Nat.zero_add, Nat.reduceAdd, AS.newRow, AllK_one, panK_ptr, aop_mv, panK_int, ↓WO_nil, ↓thenK_norm, nat_ne, aop_ld1, withS, ld1_ptr, AS.get_push, ldO_cells, ble_dec, Nat.le_refl, decide_true, Bool.and_true, blt_dec, Nat.reduceLT, List.getElem?_cons_zero, cond_true, aop_bin, abin, isShift, kindBeq, aint, ieq_dec, cond_false, panK_bool, ↓WC_cond]
  refine condK_dec ?_ ?_ <;> intro h <;> simp (disch := omega) only [↓WC_seq, ↓WC_reg, ↓WO_cons, dect, aop_fad, AX.ev, get_cons', nat_ne, ↓reduceIte, Nat.zero_add, Fr.put, AllK_one, panK_ptr, aop_ld1, withS, ld1_ptr, AS.get_push, E0_n, ldO_cells, ble_dec, Nat.le_refl, decide_true, Bool.and_true, blt_dec, Nat.reduceLT, List.getElem?_cons_succ, List.getElem?_cons_zero, cond_true, panK_int, aop_mv, ↓WO_nil, ↓thenK_norm, ↓WC_ret, ↓thenK_ret, ↓endP_ret, resV, Option.map_some, Option.some.injEq, resOne, wrap64_id, exists_eq_left', ↓WC_skip, decf, aop_bin, abin, isShift, kindBeq, aint, cond_false]
  · exact Frz.io (by rw [if_pos h])
  · exact Frz.io (by rw [if_neg h])
noncomputable def G12 : Giv := addG 173 (pureG saysS) (addG 151 (pureG bynS) (G11))
theorem G12_fine : Fine P G12 := ((G11_fine).pure beyond_ok).pure says_ok
theorem G12_173 : G12 173 = some (pureG saysS) := rfl
def headE (k K o n : Int) (nx ot : List Int) : Int :=
  if k ≠ 1 ∧ k ≠ 2 then 30 else if K < 1 ∨ K > 64 then 1 else if (k = 1 ∧ o ≠ 2) ∨ o < 1 ∨ o > 64 then 33 else if n < 1 ∨ n > 1024 then 3
  else if (nx.length : Int) ≠ n * K ∨ (ot.length : Int) ≠ (if k = 2 then n * K else n) then 31 else 0
theorem machE_head (k K o n : Int) (nx ot : List Int) : machE k K o n nx ot = if headE k K o n nx ot ≠ 0 then headE k K o n nx ot else if ¬ InB nx n then 32 else if ¬ InB ot o then 33 else 0 := by
  unfold machE headE
  by_cases h1 : k ≠ 1 ∧ k ≠ 2
  · rw [if_pos h1, if_pos h1]; rfl
  rw [if_neg h1, if_neg h1]
  by_cases h2 : K < 1 ∨ K > 64
  · rw [if_pos h2, if_pos h2]; rfl
  rw [if_neg h2, if_neg h2]
  by_cases h3 : (k = 1 ∧ o ≠ 2) ∨ o < 1 ∨ o > 64
  · rw [if_pos h3, if_pos h3]; rfl
  rw [if_neg h3, if_neg h3]
  by_cases h4 : n < 1 ∨ n > 1024
  · rw [if_pos h4, if_pos h4]; rfl
  rw [if_neg h4, if_neg h4]
  generalize (if k = 2 then n * K else n) = q
  by_cases h5 : (nx.length : Int) ≠ n * K ∨ (ot.length : Int) ≠ q
  · rw [if_pos h5, if_pos h5]; rfl
  rw [if_neg h5, if_neg h5]
  rfl
def headS := sp1 (cMa 0) fun m => some (.int .i64 (headE m.kind m.K m.O m.N m.nx m.ot))
set_option maxHeartbeats 4000000 in
theorem head_ok : PureS P 150 headS := PureS.of1 fun m r hr => by
  cases hr
  obtain ⟨k, K, o, n, nx, ot⟩ := m
  refine ⟨pure_run orders G12_fine (L := 1) (d := 1) fn150 rfl ?_, rfl⟩
  simp only [en_M]
  unfold headE
  split
  · simp (disch := omega) only [↓e150, a150, params, ↓e150_1, a150_1, ↓WC_seq, ↓WC_reg, ↓WO_cons, aop_mv, AX.ev, Fr.put, AllK_one, panK_int, ↓WO_nil, ↓thenK_norm, ↓WC_ret, ↓endP_ret, resV, get_cons', ↓reduceIte, Option.map_some, Option.some.injEq, resOne, exists_eq_left', ↓WC_block, aop_fad, Nat.add_zero, aop_box, cells_agg, E0_n, List.length_cons, List.length_nil, Nat.zero_add, Nat.reduceAdd, AS.newRow, panK_ptr, nat_ne, aop_ld1, withS, ld1_ptr, AS.get_push, ldO_cells, ble_dec, Nat.le_refl, decide_true, Bool.and_true, blt_dec, Nat.reduceLT, List.getElem?_cons_zero, cond_true, aop_bin, abin, isShift, kindBeq, aint, ine_dec, decf, Bool.not_false, cond_false, panK_bool, ↓WO_if, undefA, undK_bool, condK_true, aop_pick, ↓WC_cond, ↓WC_exit, ↓thenK_exit, ↓blkK_exit, ↓thenK_ret, ↓blkK_ret]; exact Frz.io rfl
  split
  · simp (disch := omega) only [↓e150, a150, params, ↓e150_1, a150_1, ↓WC_seq, ↓WC_reg, ↓WO_cons, aop_mv, AX.ev, Fr.put, AllK_one, panK_int, ↓WO_nil, ↓thenK_norm, ↓WC_ret, ↓endP_ret, resV, get_cons', ↓reduceIte, Option.map_some, Option.some.injEq, resOne, exists_eq_left', ↓WC_block, aop_fad, Nat.add_zero, aop_box, cells_agg, E0_n, List.length_cons, List.length_nil, Nat.zero_add, Nat.reduceAdd, AS.newRow, panK_ptr, nat_ne, aop_ld1, withS, ld1_ptr, AS.get_push, ldO_cells, ble_dec, Nat.le_refl, decide_true, Bool.and_true, blt_dec, Nat.reduceLT, List.getElem?_cons_zero, cond_true, aop_bin, abin, isShift, kindBeq, aint, ine_dec, cond_false, panK_bool, ↓WO_if, undefA, undK_bool, condK_not]; repeat' (refine condK_dec ?_ ?_ <;> intro h <;> simp (disch := omega) only [↓WO_if, dect, Bool.not_true, get_cons', nat_ne, ↓reduceIte, undefA, Fr.put, undK_bool, condK_false, ↓WO_cons, aop_pick, AX.ev, AllK_one, panK_bool, aop_mv, ↓WO_nil, ↓thenK_norm, ↓WC_cond, ↓WC_skip, ↓e150_2, a150_2, ↓e150_4, a150_4, ↓e150_5, a150_5, ↓e150_7, a150_7, ↓e150_9, a150_9, ↓WC_exit, ↓blkK_exit, ↓thenK_exit, ↓WC_seq, ↓WC_reg, panK_int, ↓WC_ret, ↓thenK_ret, ↓blkK_ret, ↓endP_ret, resV, Option.map_some, Option.some.injEq, resOne, exists_eq_left', aop_fad, Nat.add_zero, Nat.zero_add, panK_ptr, aop_ld1, withS, ld1_ptr, AS.get_push, E0_n, ldO_cells, ble_dec, Nat.le_refl, decide_true, Bool.and_true, blt_dec, Nat.reduceLT, List.getElem?_cons_succ, List.getElem?_cons_zero, cond_true, aop_bin, abin, isShift, kindBeq, aint, cond_false, ↓e150_3, a150_3, decf, Bool.not_false, condK_true, ine_dec])
    all_goals first | exact Frz.io rfl | omega
  split
  · simp (disch := omega) only [↓e150, a150, params, ↓e150_1, a150_1, ↓WC_seq, ↓WC_reg, ↓WO_cons, aop_mv, AX.ev, Fr.put, AllK_one, panK_int, ↓WO_nil, ↓thenK_norm, ↓WC_ret, ↓endP_ret, resV, get_cons', ↓reduceIte, Option.map_some, Option.some.injEq, resOne, exists_eq_left', ↓WC_block, aop_fad, Nat.add_zero, aop_box, cells_agg, E0_n, List.length_cons, List.length_nil, Nat.zero_add, Nat.reduceAdd, AS.newRow, panK_ptr, nat_ne, aop_ld1, withS, ld1_ptr, AS.get_push, ldO_cells, ble_dec, Nat.le_refl, decide_true, Bool.and_true, blt_dec, Nat.reduceLT, List.getElem?_cons_zero, cond_true, aop_bin, abin, isShift, kindBeq, aint, ine_dec, cond_false, panK_bool, ↓WO_if, undefA, undK_bool, condK_not]; repeat' (refine condK_dec ?_ ?_ <;> intro h <;> simp (disch := omega) only [↓WO_if, dect, Bool.not_true, get_cons', nat_ne, ↓reduceIte, undefA, Fr.put, undK_bool, condK_false, ↓WO_cons, aop_pick, AX.ev, AllK_one, panK_bool, aop_mv, ↓WO_nil, ↓thenK_norm, ↓WC_cond, ↓WC_skip, ↓e150_2, a150_2, ↓e150_4, a150_4, ↓e150_5, a150_5, ↓e150_7, a150_7, ↓e150_9, a150_9, ↓WC_exit, ↓blkK_exit, ↓thenK_exit, ↓WC_seq, ↓WC_reg, panK_int, ↓WC_ret, ↓thenK_ret, ↓blkK_ret, ↓endP_ret, resV, Option.map_some, Option.some.injEq, resOne, exists_eq_left', aop_fad, Nat.add_zero, Nat.zero_add, panK_ptr, aop_ld1, withS, ld1_ptr, AS.get_push, E0_n, ldO_cells, ble_dec, Nat.le_refl, decide_true, Bool.and_true, blt_dec, Nat.reduceLT, List.getElem?_cons_succ, List.getElem?_cons_zero, cond_true, aop_bin, abin, isShift, kindBeq, aint, decf, cond_false, ↓e150_3, a150_3, ieq_dec, condK_true, ine_dec, Bool.not_false, ↓blkK_norm, ↓e150_6, a150_6])
    all_goals first | exact Frz.io rfl | omega
  split
  · simp (disch := omega) only [↓e150, a150, params, ↓e150_1, a150_1, ↓WC_seq, ↓WC_reg, ↓WO_cons, aop_mv, AX.ev, Fr.put, AllK_one, panK_int, ↓WO_nil, ↓thenK_norm, ↓WC_ret, ↓endP_ret, resV, get_cons', ↓reduceIte, Option.map_some, Option.some.injEq, resOne, exists_eq_left', ↓WC_block, aop_fad, Nat.add_zero, aop_box, cells_agg, E0_n, List.length_cons, List.length_nil, Nat.zero_add, Nat.reduceAdd, AS.newRow, panK_ptr, nat_ne, aop_ld1, withS, ld1_ptr, AS.get_push, ldO_cells, ble_dec, Nat.le_refl, decide_true, Bool.and_true, blt_dec, Nat.reduceLT, List.getElem?_cons_zero, cond_true, aop_bin, abin, isShift, kindBeq, aint, ine_dec, cond_false, panK_bool, ↓WO_if, undefA, undK_bool, condK_not]; repeat' (refine condK_dec ?_ ?_ <;> intro h <;> simp (disch := omega) only [↓WO_if, dect, Bool.not_true, get_cons', nat_ne, ↓reduceIte, undefA, Fr.put, undK_bool, condK_false, ↓WO_cons, aop_pick, AX.ev, AllK_one, panK_bool, aop_mv, ↓WO_nil, ↓thenK_norm, ↓WC_cond, ↓WC_skip, ↓e150_2, a150_2, ↓e150_4, a150_4, ↓e150_5, a150_5, ↓e150_7, a150_7, ↓e150_9, a150_9, ↓WC_exit, ↓blkK_exit, ↓thenK_exit, ↓WC_seq, ↓WC_reg, panK_int, ↓WC_ret, ↓thenK_ret, ↓blkK_ret, ↓endP_ret, resV, Option.map_some, Option.some.injEq, resOne, exists_eq_left', aop_fad, Nat.add_zero, Nat.zero_add, panK_ptr, aop_ld1, withS, ld1_ptr, AS.get_push, E0_n, ldO_cells, ble_dec, Nat.le_refl, decide_true, Bool.and_true, blt_dec, Nat.reduceLT, List.getElem?_cons_succ, List.getElem?_cons_zero, cond_true, aop_bin, abin, isShift, kindBeq, aint, decf, cond_false, ↓e150_3, a150_3, ieq_dec, condK_true, ine_dec, ↓e150_6, a150_6, ↓e150_8, a150_8, Bool.not_false])
    all_goals first | exact Frz.io rfl | omega
  have hb := mul_bd (a := n) (b := K) (A := 1024) (B := 64) (by omega) (by omega) (by omega) (by omega)
  have hif : (if k = 1 then n else IntKind.wrap .i64 (n * K)) = if k = 2 then n * K else n := by
    rw [wrap64_id (by omega) (by omega)]
    split <;> split <;> omega
  simp (disch := omega) only [↓e150, a150, params, ↓e150_1, a150_1, ↓WC_seq, ↓WC_reg, ↓WO_cons, aop_mv, AX.ev, Fr.put, AllK_one, panK_int, ↓WO_nil, ↓thenK_norm, ↓WC_ret, ↓endP_ret, resV, get_cons', ↓reduceIte, Option.map_some, Option.some.injEq, resOne, exists_eq_left', ↓WC_block, aop_fad, Nat.add_zero, aop_box, cells_agg, E0_n, List.length_cons, List.length_nil, Nat.zero_add, Nat.reduceAdd, AS.newRow, panK_ptr, nat_ne, aop_ld1, withS, ld1_ptr, AS.get_push, ldO_cells, ble_dec, Nat.le_refl, decide_true, Bool.and_true, blt_dec, Nat.reduceLT, List.getElem?_cons_zero, cond_true, aop_bin, abin, isShift, kindBeq, aint, ine_dec, cond_false, panK_bool, ↓WO_if, undefA, undK_bool, condK_not]; repeat' (refine condK_dec ?_ ?_ <;> intro h <;> simp (disch := omega) only [↓WO_if, dect, Bool.not_true, get_cons', nat_ne, ↓reduceIte, undefA, Fr.put, undK_bool, condK_false, ↓WO_cons, aop_pick, AX.ev, AllK_one, panK_bool, aop_mv, ↓WO_nil, ↓thenK_norm, ↓WC_cond, ↓WC_skip, ↓e150_2, a150_2, ↓e150_4, a150_4, ↓e150_5, a150_5, ↓e150_7, a150_7, ↓e150_9, a150_9, ↓WC_exit, ↓blkK_exit, ↓thenK_exit, ↓WC_seq, ↓WC_reg, panK_int, ↓WC_ret, ↓thenK_ret, ↓blkK_ret, ↓endP_ret, resV, Option.map_some, Option.some.injEq, resOne, exists_eq_left', aop_fad, Nat.add_zero, Nat.zero_add, panK_ptr, aop_ld1, withS, ld1_ptr, AS.get_push, E0_n, ldO_cells, ble_dec, Nat.le_refl, decide_true, Bool.and_true, blt_dec, Nat.reduceLT, List.getElem?_cons_succ, List.getElem?_cons_zero, cond_true, aop_bin, abin, isShift, kindBeq, aint, decf, cond_false, ↓e150_3, a150_3, ieq_dec, condK_true, ine_dec, ↓e150_6, a150_6, ↓e150_8, a150_8, panK_row, aop_len0, lenA_row, wrap64_id, ↓e150_10, a150_10, condK_not, Bool.not_false, ↓WC_draw, ↓WD_cons, Fr.keep, sik, AOp.acts, AOp.reads, List.all_nil, Nat.reduceAdd, One_one, np_ptr, chkK_true, List.all_cons, np_row, dchk_21, np_int, dchk_22, aop_ldn, ldn_ptr, ldlO_cells, List.drop_zero, List.take_succ_cons, List.take_zero, np_agg, aop_call, AX.evs, call_giv1 G12_173, saysS, pureG_eq, AV.scalL, AV.scalar, scal_ints, sp1, de_Me, de_R0, Option.bind_some, spK_some, dchk_32, List.contains_cons, beq_self_eq_true, List.contains_nil, Bool.or_false, same_eq, isSame_one, AV.beq, AV.beqL, intBeq_self, beq_dec, beqL_ints, Bool.or_true, Nat.reduceBEq, dchk_31, np_bool, dchk_13, dchk_12, dchk_11, ↓WD_nil])
  all_goals first
    | exact Frz.io (by rw [if_pos (by omega)])
    | exact Frz.io (by rw [if_neg (by omega)])
    | omega
end Go.Proofs.Ytednmmcdjhfflaa.Vai
