/- Rows of whole numbers, words: what is said of them. -/
import Derived.Test.YtednmmcdjhfflaaCode
namespace Go.Proofs.Ytednmmcdjhfflaa.Vai
open Go
set_option linter.unusedVariables false
set_option linter.unusedSimpArgs false
theorem orders : (Try.prog).follows .mixedOrders = true := rfl
noncomputable abbrev P := (Try.prog)
def G0 : Giv := fun _ => none
theorem G0_fine : Fine P G0 := Fine.none
theorem take_snoc {xs : List Int} {i : Nat} (hx : i < xs.length) : xs.take (i + 1) = xs.take i ++ [xs.getD i 0] := by
  rw [List.take_add_one, List.getD_eq_getElem?_getD, List.getElem?_eq_getElem hx]; rfl
theorem take_succ_iff {xs ys : List Int} {i : Nat} (hx : i < xs.length) (hy : i < ys.length) (h : xs.take i = ys.take i) : xs.take (i + 1) = ys.take (i + 1) ↔ xs.getD i 0 = ys.getD i 0 := by
  rw [take_snoc hx, take_snoc hy, h]
  simp
noncomputable def sameS := sp2 (cRo 0) (cRo 0) fun xs ys => gd (xs.length ≤ 1000000000000) (.bool (decide (xs = ys)))
theorem same_ok : PureS P 30 sameS := PureS.of2 fun xs ys r hr => by
  obtain ⟨hx, rfl⟩ := gd_say hr
  refine ⟨pure_run orders G0_fine (L := xs.length + 1) (d := 1) fn30 rfl ?_, rfl⟩
  simp (disch := omega) only [↓e30, a30, params, en_R, Nat.zero_add, ↓e30_1, a30_1, ↓e30_2, a30_2, ↓WC_seq, ↓WC_reg, ↓WO_cons, aop_mv, AX.ev, Fr.put, AllK_one, panK_bool, ↓WO_nil, ↓thenK_norm, ↓WC_ret, ↓endP_ret, resV, get_cons', ↓reduceIte, Option.map_some, Option.some.injEq, resOne, exists_eq_left', panK_int, ↓e30_3, a30_3, ↓WC_block, ↓WC_loop, Fr.keep, nat_ne, panK_row, aop_len0, withS, lenA_row, aop_bin, abin, isShift, kindBeq, aint, ine_dec, cond_true, cond_false, ↓WC_cond, condK_not]
  refine condK_dec ?_ ?_ <;> intro h <;> simp (disch := omega) only [↓WC_skip, ↓thenK_norm, dect, Bool.not_true, get_cons', nat_ne, ↓reduceIte, ↓WC_seq, ↓WC_reg, ↓WO_cons, decf, Bool.not_false, aop_mv, AX.ev, Fr.put, AllK_one, panK_bool, ↓WO_nil, ↓WC_ret, ↓thenK_ret, ↓endP_ret, resV, Option.map_some, Option.some.injEq, resOne, exists_eq_left']
  rotate_left
  · have : ¬ xs = ys := by rintro rfl; exact h rfl
    rw [decide_eq_false this]
    exact Frz.scal rfl
  refine loop_all (fun m F S => ∃ i : Nat, i + m = xs.length ∧ xs.take i = ys.take i ∧ F.get 0 = rowI 0 xs ∧ F.get 1 = rowI 0 ys ∧ F.get 4 = .bool false ∧ F.get 5 = .int .i64 i ∧ S = E0) ?_ ⟨0, Nat.zero_add _, rfl, rfl, rfl, rfl, rfl, rfl⟩ (by omega)
  rintro m F S ⟨i, hi, he, f0, f1, f4, f5, rfl⟩
  simp (disch := omega) only [↓e30_4, a30_4, ↓e30_5, a30_5, ↓WC_reg, ↓WO_cons, aop_mv, AX.ev, Fr.keep, Fr.put, AllK_one, get_cons', ↓reduceIte, nat_ne, ↓WC_block, ↓WC_seq, ↓WC_draw, ↓WD_cons, sik, AOp.acts, AOp.reads, cond_false, List.all_nil, Nat.reduceAdd, One_one, f5, panK_int, f0, panK_row, aop_len0, withS, lenA_row, aop_bin, abin, isShift, kindBeq, aint, cond_true, panK_bool, ↓WO_nil, ↓thenK_norm, ↓WC_cond]
  refine condK_dec ?_ ?_ <;> intro h1 <;> simp (disch := omega) only [↓WC_skip, ↓thenK_norm, dect, get_cons', nat_ne, ↓reduceIte, f0, np_row, chkK_true, ↓WD_cons, Fr.keep, f5, aop_mv, AX.ev, sik, AOp.acts, AOp.reads, cond_false, List.all_cons, List.all_nil, Nat.reduceAdd, Fr.put, One_one, np_int, dchk_11, Bool.and_true, aop_ixs, withS, ixs_row, Int.toNat_natCast, Nat.mul_one, np_fp, aop_ld1, ld1_fp, ints_get, cond_true, dchk_21, f1, dchk_12, dchk_22, aop_bin, abin, isShift, kindBeq, aint, ine_dec, np_bool, ↓WD_nil, ↓WC_cond, condK_not, ↓WC_exit, ↓thenK_exit, ↓blkK_exit]
  · refine condK_dec ?_ ?_ <;> intro h2 <;> simp (disch := omega) only [↓WC_skip, ↓blkK_norm, ↓thenK_norm, dect, Bool.not_true, get_cons', nat_ne, ↓reduceIte, f0, f5, panK_int, ↓WO_cons, aop_bin, withS, abin, AX.ev, isShift, kindBeq, aint, wrap64_id, cond_true, cond_false, Fr.put, AllK_one, aop_mv, ↓WO_nil, f1, f4, and_true, true_and, ↓WC_seq, ↓WC_reg, decf, Bool.not_false, panK_bool, ↓WC_ret, ↓blkK_ret, ↓thenK_ret, ↓endP_ret, resV, Option.map_some, Option.some.injEq, resOne, exists_eq_left']
    rotate_left
    · have : ¬ xs = ys := by rintro rfl; exact h2 rfl
      rw [decide_eq_false this]
      exact Frz.scal rfl
    · exact ⟨m - 1, by omega, i + 1, by omega, (take_succ_iff (by omega) (by omega) he).mpr h2, rfl⟩
  · have : xs = ys := by
      have e1 : i = xs.length := by omega
      rw [e1, List.take_length, List.take_of_length_le (by omega)] at he
      exact he
    rw [decide_eq_true this]
    exact Frz.scal rfl
theorem equal_ok : PureS P 101 sameS := PureS.of2 fun xs ys r hr => by
  obtain ⟨hx, rfl⟩ := gd_say hr
  refine ⟨pure_run orders G0_fine (L := xs.length + 1) (d := 1) fn101 rfl ?_, rfl⟩
  simp (disch := omega) only [↓e101, a101, params, en_R, Nat.zero_add, ↓e101_1, a101_1, ↓e101_2, a101_2, ↓WC_seq, ↓WC_reg, ↓WO_cons, aop_mv, AX.ev, Fr.put, AllK_one, panK_bool, ↓WO_nil, ↓thenK_norm, ↓WC_ret, ↓endP_ret, resV, get_cons', ↓reduceIte, Option.map_some, Option.some.injEq, resOne, exists_eq_left', nat_ne, panK_row, aop_len0, withS, lenA_row, panK_int, aop_bin, abin, isShift, kindBeq, aint, ine_dec, cond_true, cond_false, ↓WC_cond, condK_not]
  refine condK_dec ?_ ?_ <;> intro h <;> simp (disch := omega) only [↓WC_skip, ↓thenK_norm, dect, Bool.not_true, get_cons', nat_ne, ↓reduceIte, panK_row, ↓WO_cons, aop_len0, withS, AX.ev, lenA_row, Fr.put, AllK_one, panK_int, aop_mv, ↓WO_nil, ↓e101_3, a101_3, ↓WC_block, ↓WC_loop, Fr.keep, ↓WC_seq, ↓WC_reg, decf, Bool.not_false, panK_bool, ↓WC_ret, ↓thenK_ret, ↓endP_ret, resV, Option.map_some, Option.some.injEq, resOne, exists_eq_left']
  rotate_left
  · have : ¬ xs = ys := by rintro rfl; exact h rfl
    rw [decide_eq_false this]
    exact Frz.scal rfl
  refine loop_all (fun m F S => ∃ i : Nat, i + m = xs.length ∧ xs.take i = ys.take i ∧ F.get 0 = rowI 0 xs ∧ F.get 1 = rowI 0 ys ∧ F.get 4 = .bool false ∧ F.get 12 = .int .i64 xs.length ∧ F.get 13 = .int .i64 i ∧ S = E0) ?_ ⟨0, Nat.zero_add _, rfl, rfl, rfl, rfl, rfl, rfl, rfl⟩ (by omega)
  rintro m F S ⟨i, hi, he, f0, f1, f4, f5, f6, rfl⟩
  simp (disch := omega) only [↓e101_4, a101_4, ↓e101_5, a101_5, ↓e101_6, a101_6, ↓WC_reg, ↓WO_cons, aop_bin, withS, abin, AX.ev, isShift, kindBeq, aint, cond_false, ble_dec, Fr.keep, Fr.put, get_cons', ↓reduceIte, nat_ne, ↓WC_block, ↓WC_seq, aop_mv, AllK_one, ↓WC_cond, f6, f5, cond_true, panK_bool, ↓WO_nil, ↓thenK_norm]
  refine condK_dec ?_ ?_ <;> intro h1 <;> simp (disch := omega) only [↓WC_skip, ↓thenK_norm, dect, get_cons', nat_ne, ↓reduceIte, f6, panK_int, ↓WO_cons, aop_mv, AX.ev, Fr.put, AllK_one, ↓WO_nil, ↓e101_7, a101_7, ↓WC_cond, ↓WC_draw, ↓WD_cons, Fr.keep, f0, sik, AOp.acts, AOp.reads, cond_false, List.all_nil, Nat.reduceAdd, One_one, np_row, chkK_true, List.all_cons, np_int, dchk_11, Bool.and_true, aop_ixs, withS, ixs_row, Int.toNat_natCast, Nat.mul_one, np_fp, aop_ld1, ld1_fp, ints_get, cond_true, dchk_21, f1, dchk_12, dchk_22, aop_bin, abin, isShift, kindBeq, aint, ine_dec, np_bool, ↓WD_nil, condK_not, ↓WC_exit, ↓thenK_exit, ↓blkK_exit]
  · refine condK_dec ?_ ?_ <;> intro h2 <;> simp (disch := omega) only [↓WC_skip, ↓blkK_norm, ↓thenK_norm, dect, Bool.not_true, get_cons', nat_ne, ↓reduceIte, f6, wrap64_id, cond_true, AllK_one, panK_int, ↓WO_cons, aop_mv, AX.ev, Fr.put, ↓WO_nil, f0, f1, f4, f5, and_true, true_and, ↓WC_seq, ↓WC_reg, decf, Bool.not_false, panK_bool, ↓WC_ret, ↓blkK_ret, ↓thenK_ret, ↓endP_ret, resV, Option.map_some, Option.some.injEq, resOne, exists_eq_left']
    rotate_left
    · have : ¬ xs = ys := by rintro rfl; exact h2 rfl
      rw [decide_eq_false this]
      exact Frz.scal rfl
    · exact ⟨m - 1, by omega, i + 1, by omega, (take_succ_iff (by omega) (by omega) he).mpr h2, rfl⟩
  · have : xs = ys := by
      have e1 : i = xs.length := by omega
      rw [e1, List.take_length, List.take_of_length_le (by omega)] at he
      exact he
    rw [decide_eq_true this]
    exact Frz.scal rfl
def InB (xs : List Int) (k : Int) : Prop := ∀ x ∈ xs, 0 ≤ x ∧ x < k
instance (xs : List Int) (k : Int) : Decidable (InB xs k) := by unfold InB; exact inferInstance
def wordE (xs : List Int) (k : Int) : Int := if k < 1 ∨ k > 64 then 1 else if (xs.length : Int) > 4096 then 2 else if InB xs k then 0 else 10
theorem inB_take_succ {xs : List Int} {k : Int} {i : Nat} (hx : i < xs.length) (h : InB (xs.take i) k) (h1 : ¬ xs.getD i 0 < 0) (h2 : ¬ xs.getD i 0 ≥ k) : InB (xs.take (i + 1)) k := by
  rw [take_snoc hx]
  intro x hx
  rcases List.mem_append.1 hx with hx | hx
  · exact h x hx
  · obtain rfl := List.mem_singleton.1 hx
    omega
theorem not_inB {xs : List Int} {k : Int} {i : Nat} (hx : i < xs.length) (h : xs.getD i 0 < 0 ∨ xs.getD i 0 ≥ k) : ¬ InB xs k := by
  intro hb
  have hm : xs.getD i 0 ∈ xs := by rw [List.getD_eq_getElem?_getD, List.getElem?_eq_getElem hx]; exact List.getElem_mem hx
  have := hb _ hm
  omega
theorem inB_all {xs : List Int} {k : Int} {i : Nat} (h : InB (xs.take i) k) (hi : xs.length ≤ i) : InB xs k := by rwa [List.take_of_length_le hi] at h
theorem Frz.te {z : Nat} {S : AS} {a : AV} {k : IntKind} {e e' : Int} (h : e = e') : Frz z S (.tup [a, .int k e]) (.tup [.any, .int k e']) := by
  subst h
  exact Frz.tup ⟨Frz.any, Frz.scal rfl, trivial⟩
def wcheckS := sp2 (cRo 0) cIn fun xs k => some (.tup [.any, .int .i64 (wordE xs k)])
theorem rwcheck_ok : PureS P 61 wcheckS := PureS.of2 fun xs k r hr => by
  cases hr
  refine ⟨pure_run orders G0_fine (L := 5000) (d := 1) fn61 rfl ?_, rfl⟩
  simp (disch := omega) only [↓e61, a61, params, en_R, Nat.zero_add, en_I, ↓e61_1, a61_1, ↓e61_2, a61_2, ↓e61_3, a61_3, ↓WC_seq, ↓WC_reg, ↓WO_cons, aop_mv, AX.ev, Fr.put, AllK_one, panK_int, ↓WO_nil, ↓thenK_norm, ↓WC_ret, ↓endP_ret, resV, get_cons', nat_ne, ↓reduceIte, Option.map_some, Option.some.injEq, resOne, exists_eq_left', ↓e61_4, a61_4, ↓WC_block, ↓WC_loop, Fr.keep, aop_bin, withS, abin, isShift, kindBeq, aint, cond_true, cond_false, panK_bool, ↓WO_unless, undefA, undK_bool]
  repeat' (refine condK_dec ?_ ?_ <;> intro h <;> simp (disch := omega) only [↓WO_unless, h, decide_true, get_cons', nat_ne, ↓reduceIte, undefA, Fr.put, undK_bool, condK_true, ↓WO_cons, aop_pick, AX.ev, AllK_one, panK_bool, ↓WO_nil, ↓thenK_norm, ↓WC_cond, ↓WC_seq, ↓WC_reg, aop_mv, panK_int, ↓WC_ret, ↓thenK_ret, ↓endP_ret, resV, Option.map_some, Option.some.injEq, resOne, exists_eq_left', decide_false, condK_false, aop_bin, withS, abin, isShift, kindBeq, aint, cond_true, cond_false, decf, ↓WC_skip, panK_row, aop_len0, lenA_row])
  all_goals try exact Frz.te (by unfold wordE; ((repeat' split) <;> first | rfl | omega))
  refine loop_all (fun m F S => ∃ i : Nat, i + m = xs.length ∧ InB (xs.take i) k ∧ F.get 0 = rowI 0 xs ∧ F.get 1 = .int .i64 k ∧ F.get 4 = .int .i64 0 ∧ F.get 5 = .int .i64 0 ∧ F.get 6 = .int .i64 i ∧ S = E0) ?_ ⟨0, Nat.zero_add _, (fun x hx => by cases hx), rfl, rfl, rfl, rfl, rfl, rfl⟩ (by omega)
  rintro m F S ⟨i, hi, he, f0, f1, f4, f5, f6, rfl⟩
  simp (disch := omega) only [↓e61_5, a61_5, ↓e61_6, a61_6, ↓WC_reg, ↓WO_cons, aop_mv, AX.ev, Fr.keep, Fr.put, AllK_one, get_cons', ↓reduceIte, nat_ne, ↓WC_block, ↓WC_seq, f6, panK_int, f0, panK_row, aop_len0, withS, lenA_row, aop_bin, abin, isShift, kindBeq, aint, cond_true, cond_false, panK_bool, ↓WO_nil, ↓thenK_norm, ↓WC_cond]
  refine condK_dec ?_ ?_ <;> intro h4 <;> simp (disch := omega) only [↓WC_skip, ↓thenK_norm, dect, get_cons', nat_ne, ↓reduceIte, f0, panK_row, ↓WO_cons, aop_mv, AX.ev, f6, Fr.put, AllK_one, panK_int, aop_ixs, withS, ixs_row, Int.toNat_natCast, Nat.mul_one, panK_fp, aop_ld1, ld1_fp, ints_get, aop_bin, abin, isShift, kindBeq, aint, cond_true, cond_false, panK_bool, ↓WO_unless, undefA, undK_bool, ↓WC_exit, ↓thenK_exit, ↓blkK_exit]
  · refine condK_dec ?_ ?_ <;> intro h5 <;> simp (disch := omega) only [↓WO_unless, h5, decide_true, dect, get_cons', nat_ne, ↓reduceIte, f0, undefA, Fr.put, undK_bool, condK_true, ↓WO_cons, aop_pick, AX.ev, AllK_one, panK_bool, ↓WO_nil, ↓thenK_norm, ↓WC_cond, ↓WC_seq, ↓WC_reg, aop_mv, f6, panK_int, ↓WC_ret, ↓blkK_ret, ↓thenK_ret, ↓endP_ret, resV, Option.map_some, Option.some.injEq, resOne, exists_eq_left', decide_false, panK_row, condK_false, aop_ixs, withS, ixs_row, Int.toNat_natCast, Nat.mul_one, panK_fp, aop_ld1, ld1_fp, ints_get, f1, aop_bin, abin, isShift, kindBeq, aint, cond_true, cond_false]
    · exact Frz.te (by unfold wordE; rw [if_neg (by omega), if_neg (by omega), if_neg (not_inB (by omega) (.inl h5))])
    · refine condK_dec ?_ ?_ <;> intro h6 <;> simp (disch := omega) only [↓WC_seq, ↓WC_reg, ↓WO_cons, h6, decide_true, decf, dect, get_cons', nat_ne, ↓reduceIte, f0, aop_mv, AX.ev, f6, Fr.put, AllK_one, panK_int, ↓WO_nil, ↓thenK_norm, ↓WC_ret, ↓blkK_ret, ↓thenK_ret, ↓endP_ret, resV, Option.map_some, Option.some.injEq, resOne, exists_eq_left', ↓WC_skip, ↓blkK_norm, decide_false, aop_bin, withS, abin, isShift, kindBeq, aint, wrap64_id, cond_true, cond_false, f1, f4, f5, and_true, true_and]
      · exact Frz.te (by unfold wordE; rw [if_neg (by omega), if_neg (by omega), if_neg (not_inB (by omega) (.inr h6))])
      · exact ⟨m - 1, by omega, i + 1, by omega, inB_take_succ (by omega) he h5 h6, rfl⟩
  · exact Frz.te (by unfold wordE; rw [if_neg (by omega), if_neg (by omega), if_pos (inB_all he (by omega))])
def alphaS := sp1 cIn fun k => some (.bool (decide (1 ≤ k ∧ k ≤ 64)))
theorem alphabet_ok : PureS P 146 alphaS := PureS.of1 fun k r hr => by
  cases hr
  refine ⟨pure_run orders G0_fine (L := 1) (d := 1) fn146 rfl ?_, rfl⟩
  simp (disch := omega) only [↓e146, a146, params, en_I, ↓e146_1, a146_1, ↓WC_ret, ↓endP_ret, resV, Option.map_some, Option.some.injEq, resOne, exists_eq_left', ↓WC_reg, ↓WO_cons, aop_mv, AX.ev, Fr.put, AllK_one, panK_bool, ↓WO_nil, ↓thenK_norm, get_cons', nat_ne, ↓reduceIte, panK_int, aop_bin, withS, abin, isShift, kindBeq, aint, cond_true, cond_false, ↓WO_if, undefA, undK_bool]
  refine condK_dec ?_ ?_ <;> intro h <;> simp (disch := omega) only [h, decide_true, get_cons', nat_ne, ↓reduceIte, aop_mv, AX.ev, AllK_one, panK_int, ↓WO_if, undefA, Fr.put, undK_bool, condK_true, aop_bin, withS, abin, isShift, kindBeq, aint, cond_true, cond_false, panK_bool, ↓WO_cons, aop_pick, ↓WO_nil, ↓thenK_norm, true_and, decide_false, condK_false]
  all_goals first | exact Frz.scal rfl | (simp only [false_and, decide_false]; exact Frz.scal rfl)
noncomputable def G1 : Giv := addG 146 (pureG alphaS) (addG 61 (pureG wcheckS) (addG 101 (pureG sameS) (addG 30 (pureG sameS) (G0))))
theorem G1_fine : Fine P G1 := ((((G0_fine).pure same_ok).pure equal_ok).pure rwcheck_ok).pure alphabet_ok
theorem G1_146 : G1 146 = some (pureG alphaS) := rfl
theorem wcheck_ok : PureS P 89 wcheckS := PureS.of2 fun xs k r hr => by
  cases hr
  refine ⟨pure_run orders G1_fine (L := 5000) (d := 1) fn89 rfl ?_, rfl⟩
  simp (disch := omega) only [↓e89, a89, params, en_R, Nat.zero_add, en_I, ↓e89_1, a89_1, ↓e89_3, a89_3, ↓WC_seq, ↓WC_reg, ↓WO_cons, aop_mv, AX.ev, Fr.put, AllK_one, panK_int, ↓WO_nil, ↓thenK_norm, ↓WC_ret, ↓endP_ret, resV, get_cons', nat_ne, ↓reduceIte, Option.map_some, Option.some.injEq, resOne, exists_eq_left', ↓WC_block, aop_call, AX.evs, call_giv1 G1_146, alphaS, pureG_eq, AV.scalL, AV.scalar, Bool.and_true, sp1, de_I, Option.bind_some, spK_some, cond_true, panK_bool, aop_un, withS, aun, ↓e89_2, a89_2, ↓WC_cond, condK_not]
  refine condK_dec ?_ ?_ <;> intro h <;> simp (disch := omega) only [↓WC_seq, ↓WC_reg, ↓WO_cons, h, and_true, decide_true, Bool.not_true, aop_mv, AX.ev, get_cons', nat_ne, ↓reduceIte, Fr.put, AllK_one, panK_row, aop_len0, withS, lenA_row, panK_int, aop_bin, abin, isShift, kindBeq, aint, cond_true, cond_false, panK_bool, ↓WO_nil, ↓thenK_norm, ↓WC_cond, decide_false, Bool.not_false, ↓WC_ret, ↓blkK_ret, ↓thenK_ret, ↓endP_ret, resV, Option.map_some, Option.some.injEq, resOne, exists_eq_left']
  rotate_left
  · exact Frz.te (by unfold wordE; rw [if_pos (by omega)])
  refine condK_dec ?_ ?_ <;> intro h3 <;> simp (disch := omega) only [↓WC_seq, ↓WC_reg, ↓WO_cons, h3, decide_true, dect, Bool.not_true, aop_mv, AX.ev, Fr.put, AllK_one, panK_int, ↓WO_nil, ↓thenK_norm, ↓WC_ret, ↓blkK_ret, ↓thenK_ret, ↓endP_ret, resV, get_cons', nat_ne, ↓reduceIte, Option.map_some, Option.some.injEq, resOne, exists_eq_left', ↓WC_skip, ↓blkK_norm, decide_false, panK_row, aop_len0, withS, lenA_row, ↓e89_4, a89_4, ↓WC_block, ↓WC_loop, Fr.keep]
  · exact Frz.te (by unfold wordE; rw [if_neg (by omega), if_pos h3])
  refine loop_all (fun m F S => ∃ i : Nat, i + m = xs.length ∧ InB (xs.take i) k ∧ F.get 0 = rowI 0 xs ∧ F.get 1 = .int .i64 k ∧ F.get 4 = .int .i64 0 ∧ F.get 5 = .int .i64 0 ∧ F.get 16 = .int .i64 xs.length ∧ F.get 17 = .int .i64 i ∧ S = E0) ?_ ⟨0, Nat.zero_add _, (fun x hx => by cases hx), rfl, rfl, rfl, rfl, rfl, rfl, rfl⟩ (by omega)
  rintro m F S ⟨i, hi, he, f0, f1, f4, f5, f6, f7, rfl⟩
  simp (disch := omega) only [↓e89_5, a89_5, ↓e89_6, a89_6, ↓e89_7, a89_7, ↓WC_reg, ↓WO_cons, aop_bin, withS, abin, AX.ev, isShift, kindBeq, aint, cond_false, ble_dec, Fr.keep, Fr.put, get_cons', ↓reduceIte, nat_ne, ↓WC_block, ↓WC_seq, aop_mv, AllK_one, ↓WC_cond, f7, f6, cond_true, panK_bool, ↓WO_nil, ↓thenK_norm]
  refine condK_dec ?_ ?_ <;> intro h4 <;> simp (disch := omega) only [↓WC_skip, ↓thenK_norm, dect, get_cons', nat_ne, ↓reduceIte, f7, panK_int, ↓WO_cons, aop_mv, AX.ev, Fr.put, AllK_one, ↓WO_nil, ↓e89_8, a89_8, ↓WC_cond, ↓WC_reg, f0, panK_row, aop_ixs, withS, ixs_row, Int.toNat_natCast, Nat.mul_one, panK_fp, aop_ld1, ld1_fp, ints_get, aop_bin, abin, isShift, kindBeq, aint, cond_true, cond_false, panK_bool, ↓WO_unless, undefA, undK_bool, ↓WC_exit, ↓thenK_exit, ↓blkK_exit]
  · refine condK_dec ?_ ?_ <;> intro h5 <;> simp (disch := omega) only [↓WO_unless, h5, decide_true, get_cons', nat_ne, ↓reduceIte, undefA, Fr.put, undK_bool, condK_true, ↓WO_cons, aop_pick, AX.ev, AllK_one, panK_bool, ↓WO_nil, ↓thenK_norm, ↓WC_seq, ↓WC_reg, aop_mv, panK_int, ↓WC_ret, ↓blkK_ret, ↓thenK_ret, ↓endP_ret, resV, Option.map_some, Option.some.injEq, resOne, exists_eq_left', decide_false, f0, panK_row, condK_false, aop_ixs, withS, ixs_row, Int.toNat_natCast, Nat.mul_one, panK_fp, aop_ld1, ld1_fp, ints_get, f1, aop_bin, abin, isShift, kindBeq, aint, cond_true, cond_false]
    · exact Frz.te (by unfold wordE; rw [if_neg (by omega), if_neg (by omega), if_neg (not_inB (by omega) (.inl h5))])
    · refine condK_dec ?_ ?_ <;> intro h6 <;> simp (disch := omega) only [↓WC_seq, ↓WC_reg, ↓WO_cons, h6, decide_true, decf, aop_mv, AX.ev, get_cons', nat_ne, ↓reduceIte, Fr.put, AllK_one, panK_int, ↓WO_nil, ↓thenK_norm, ↓WC_ret, ↓blkK_ret, ↓thenK_ret, ↓endP_ret, resV, Option.map_some, Option.some.injEq, resOne, exists_eq_left', ↓WC_skip, ↓blkK_norm, decide_false, f7, wrap64_id, cond_true, f0, f1, f4, f5, f6, and_true, true_and]
      · exact Frz.te (by unfold wordE; rw [if_neg (by omega), if_neg (by omega), if_neg (not_inB (by omega) (.inr h6))])
      · exact ⟨m - 1, by omega, i + 1, by omega, inB_take_succ (by omega) he h5 h6, rfl⟩
  · exact Frz.te (by unfold wordE; rw [if_neg (by omega), if_neg (by omega), if_pos (inB_all he (by omega))])
noncomputable def joinS := sp2 (cRo 0) (cRo 0) fun xs ys => gd (xs.length + ys.length ≤ 1000000000000) (rowI 1 (xs ++ ys))
theorem inz_rowI {z z' : Nat} {xs : List Int} (h : z' ≤ z) : (rowI z xs).inz z' = true := by simp only [AV.inz, inz_ints, Bool.and_true, ble_dec, decide_eq_true h]
theorem GwI.nil (b : Bool) : GwI (E0.push (.cells [] 1 0 0 false false)) 0 (.slice 0 0 0 0 none 1) [] := Gw.new (Nat.zero_le _) [] 1 0 false rfl
theorem rjoin_ok : PureS P 97 joinS := PureS.of2 fun xs ys r hr => by
  obtain ⟨hl, rfl⟩ := gd_say hr
  refine ⟨pure_run orders G0_fine (L := 1) (d := 1) fn97 rfl ?_, inz_rowI (by omega)⟩
  have k0 : In 0 E0 (E0.push (.cells [] 1 0 0 false false)) := (In.refl Wf.E0).push _
  obtain ⟨y1, S1, q1, o1, k1⟩ := (GwI.nil true).appr k0.wf (Nat.zero_le _) (z := 0) (m := xs.length) (ys := ints xs) (by simp [ints_len]) (bytes := 8) (by omega) (by unfold bound46; simp; omega) (by unfold bound46; simp; omega) (ints_one xs)
  obtain ⟨y2, S2, q2, o2, k2⟩ := o1.appr k1.wf (Nat.zero_le _) (z := 0) (m := ys.length) (ys := ints ys) (by simp [ints_len]) (bytes := 8) (by omega) (by unfold bound46; simp; omega) (by unfold bound46; simp; omega) (ints_one ys)
  simp (disch := omega) only [↓e97, a97, params, en_R, Nat.zero_add, ↓e97_1, a97_1, ↓WC_ret, ↓endP_ret, resV, Option.map_some, Option.some.injEq, resOne, exists_eq_left', ↓WC_reg, ↓WO_cons, aop_bslice, fillL, AS.newRow, Fr.put, AllK_one, panK_slice, aop_mv, AX.ev, get_cons', nat_ne, ↓reduceIte, panK_nils, ↓WO_nil, ↓thenK_norm, E0_n, panK_row, aop_app, q1, ofO_some, o1.pan, q2, o2.pan]
  have := o2.frz (z := 1) (FrzL.scal (by simp [ints_app, ints_nil, scal_ints]))
  simp only [ints_app, ints_nil, List.nil_append, List.length_nil, Nat.zero_add] at this
  show Frz 1 S2 y2 (.row 1 1 (xs ++ ys).length _)
  rw [List.length_append]
  exact this
end Go.Proofs.Ytednmmcdjhfflaa.Vai
