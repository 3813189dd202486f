/- The search for a place, as the reference goes. -/
import Derived.Test.YtednmmcdjhfflaaB7
namespace Go.Proofs.Ytednmmcdjhfflaa.Vai
open Go
set_option linter.unusedVariables false
set_option linter.unusedSimpArgs false
noncomputable def G16 : Giv := addG 110 (pureG pstateS) (G15)
theorem G16_fine : Fine P G16 := (G15_fine).pure pstate_ok
structure Sr where
  how : Int
  low : Int
  high : Int
  step : Int
  no : Bool
  asked : Int
abbrev srC (s : Sr) : List AV := [.int .i64 s.how, .int .i64 s.low, .int .i64 s.high, .int .i64 s.step, .bool s.no, .int .i64 s.asked]
def deSr : AV → Option Sr
  | .agg [.int .i64 a, .int .i64 b, .int .i64 c, .int .i64 d, .bool e, .int .i64 f] => some ⟨a, b, c, d, e, f⟩
  | _ => none
def cSr : Cod Sr := ⟨deSr, fun s => .agg (srC s), fun a x h => by
  unfold deSr at h
  split at h
  · cases h; exact Wk.refl _
  · cases h⟩
theorem en_Sr {s : Sr} : cSr.en s = .agg [.int .i64 s.how, .int .i64 s.low, .int .i64 s.high, .int .i64 s.step, .bool s.no, .int .i64 s.asked] := rfl
theorem de_Sr {a b c d f : Int} {e : Bool} : cSr.de (.agg [.int .i64 a, .int .i64 b, .int .i64 c, .int .i64 d, .bool e, .int .i64 f]) = some ⟨a, b, c, d, e, f⟩ := rfl
structure Sr.B (s : Sr) : Prop where
  l0 : 0 ≤ s.low
  l1 : s.low ≤ 1000000
  h0 : 0 ≤ s.high
  h1 : s.high ≤ 1000000
  s0 : -4611686018427387904 ≤ s.step
  s1 : s.step ≤ 4611686018427387904
def srAsk (s : Sr) : Int × Bool := if s.high = s.low + 1 then (0, false) else if s.how = 1 then (s.low + 1, true) else
  if s.how = 3 ∧ s.no = false then (if s.high - s.low ≤ s.step then (s.low + 1, true) else (s.high - s.step, true)) else ((s.low + s.high).tdiv 2, true)
noncomputable def rsAskS := sp1 cSr fun s => gd s.B (.tup [.int .i64 (srAsk s).1, .bool (srAsk s).2])
theorem rsAsk_ok : PureS P 114 rsAskS := PureS.of1 fun s r hr => by
  obtain ⟨hb, rfl⟩ := gd_say hr
  obtain ⟨l0, l1, h0, h1, s0, s1⟩ := hb
  obtain ⟨how, low, high, step, no, asked⟩ := s
  refine ⟨pure_run orders G16_fine (L := 1) (d := 1) fn114 rfl ?_, rfl⟩
  simp only at l0 l1 h0 h1 s0 s1
  have ht : 0 ≤ (low + high).tdiv 2 ∧ (low + high).tdiv 2 ≤ 1000000 := by
    rw [Int.tdiv_eq_ediv_of_nonneg (by omega)]; omega
  simp only [srAsk]
  simp (disch := omega) only [↓e114, a114, params, en_Sr, ↓e114_1, a114_1, ↓e114_2, a114_2, ↓e114_4, a114_4, ↓e114_9, a114_9, ↓WC_ret, ↓endP_ret, resV, Option.map_some, Option.some.injEq, resOne, exists_eq_left', ↓WC_reg, ↓WO_cons, aop_fad, AX.ev, Fr.put, ↓WC_seq, Nat.add_zero, aop_box, get_cons', ↓reduceIte, cells_agg, E0_n, List.length_cons, List.length_nil, Nat.zero_add, Nat.reduceAdd, AS.newRow, AllK_one, panK_ptr, aop_mv, panK_int, panK_bool, ↓WO_nil, ↓thenK_norm, nat_ne, aop_ld1, withS, ld1_ptr, AS.get_push, ldO_cells, ble_dec, Nat.le_refl, decide_true, Bool.and_true, blt_dec, Nat.reduceLT, List.getElem?_cons_succ, List.getElem?_cons_zero, cond_true, aop_bin, abin, isShift, kindBeq, aint, wrap64_id, cond_false, ieq_dec, ↓WC_cond]
  refine condK_dec ?_ ?_ <;> intro c1 <;> simp (disch := omega) only [↓WC_seq, ↓WC_reg, ↓WO_cons, dect, aop_mv, AX.ev, Fr.put, AllK_one, panK_int, panK_bool, ↓WO_nil, ↓thenK_norm, ↓WC_ret, ↓thenK_ret, ↓endP_ret, resV, get_cons', nat_ne, ↓reduceIte, Option.map_some, Option.some.injEq, resOne, exists_eq_left', ↓WC_skip, decf, panK_ptr, aop_ld1, withS, ld1_ptr, AS.get_push, E0_n, ldO_cells, ble_dec, Nat.le_refl, decide_true, Bool.and_true, blt_dec, Nat.reduceLT, List.getElem?_cons_zero, cond_true, aop_bin, abin, isShift, kindBeq, aint, ieq_dec, cond_false, ↓e114_3, a114_3, ↓WC_cond]
  · rw [if_pos c1]; exact Frz.scal rfl
  rw [if_neg c1]
  refine condK_dec ?_ ?_ <;> intro c2 <;> simp (disch := omega) only [↓WC_seq, ↓WC_reg, ↓WO_cons, dect, aop_fad, AX.ev, get_cons', nat_ne, ↓reduceIte, Nat.zero_add, Fr.put, AllK_one, panK_ptr, aop_ld1, withS, ld1_ptr, AS.get_push, E0_n, ldO_cells, ble_dec, Nat.le_refl, decide_true, Bool.and_true, blt_dec, Nat.reduceLT, List.getElem?_cons_succ, List.getElem?_cons_zero, cond_true, panK_int, aop_bin, abin, isShift, kindBeq, aint, wrap64_id, cond_false, aop_mv, panK_bool, ↓WO_nil, ↓thenK_norm, ↓WC_ret, ↓thenK_ret, ↓endP_ret, resV, Option.map_some, Option.some.injEq, resOne, exists_eq_left', ↓WC_skip, decf, ieq_dec, ↓WO_if, undefA, undK_bool]
  · rw [if_pos c2]; exact Frz.scal rfl
  rw [if_neg c2]
  refine condK_dec ?_ ?_ <;> intro c3
  · cases no with
    | false =>
      have e3 : (how = 3 ∧ false = false) = True := by simp [c3]
      simp (disch := omega) only [dect, decf, aop_fad, AX.ev, get_cons', nat_ne, ↓reduceIte, Nat.zero_add, AllK_one, panK_ptr, ↓WO_if, undefA, Fr.put, undK_bool, condK_true, aop_ld1, withS, ld1_ptr, AS.get_push, E0_n, ldO_cells, ble_dec, Nat.le_refl, decide_true, Bool.and_true, blt_dec, Nat.reduceLT, List.getElem?_cons_succ, List.getElem?_cons_zero, cond_true, panK_bool, aop_un, aun, Bool.not_false, ↓WO_cons, aop_pick, ↓WO_nil, ↓thenK_norm, ↓e114_5, a114_5, and_true, ↓WC_cond, ↓e114_6, a114_6, ↓e114_8, a114_8, ↓WC_ret, ↓thenK_ret, ↓endP_ret, resV, Option.map_some, Option.some.injEq, resOne, exists_eq_left', ↓WC_reg, ↓WC_seq, panK_int, aop_bin, abin, isShift, kindBeq, aint, wrap64_id, cond_false, ↓e114_7, a114_7]
      refine condK_dec ?_ ?_ <;> intro c4 <;> simp (disch := omega) only [↓WC_seq, ↓WC_reg, ↓WO_cons, dect, aop_fad, AX.ev, get_cons', nat_ne, ↓reduceIte, Nat.zero_add, Fr.put, AllK_one, panK_ptr, aop_ld1, withS, ld1_ptr, AS.get_push, E0_n, ldO_cells, ble_dec, Nat.le_refl, decide_true, Bool.and_true, blt_dec, Nat.reduceLT, List.getElem?_cons_succ, List.getElem?_cons_zero, cond_true, panK_int, aop_bin, abin, isShift, kindBeq, aint, wrap64_id, cond_false, aop_mv, panK_bool, ↓WO_nil, ↓thenK_norm, ↓WC_ret, ↓thenK_ret, ↓endP_ret, resV, Option.map_some, Option.some.injEq, resOne, exists_eq_left', ↓WC_skip, decf]
      · rw [if_pos c3, if_pos c4]; exact Frz.scal rfl
      · rw [if_pos c3, if_neg c4]; exact Frz.scal rfl
    | true =>
      have e3 : (how = 3 ∧ true = false) = False := by simp
      simp (disch := omega) only [dect, decf, aop_fad, AX.ev, get_cons', nat_ne, ↓reduceIte, Nat.zero_add, AllK_one, panK_ptr, ↓WO_if, undefA, Fr.put, undK_bool, condK_true, aop_ld1, withS, ld1_ptr, AS.get_push, E0_n, ldO_cells, ble_dec, Nat.le_refl, decide_true, Bool.and_true, blt_dec, Nat.reduceLT, List.getElem?_cons_succ, List.getElem?_cons_zero, cond_true, panK_bool, aop_un, aun, Bool.not_true, ↓WO_cons, aop_pick, ↓WO_nil, ↓thenK_norm, ↓e114_5, a114_5, e3, ↓WC_cond, condK_false, ↓WC_skip, panK_int, aop_bin, abin, isShift, kindBeq, aint, wrap64_id, cond_false, Int.reduceEq, aop_mv]
      exact Frz.scal rfl
  · have e3 : (how = 3 ∧ no = false) = False := by simp [c3]
    simp (disch := omega) only [↓WO_if, decf, get_cons', nat_ne, ↓reduceIte, undefA, Fr.put, undK_bool, condK_false, ↓WO_cons, aop_pick, AX.ev, AllK_one, panK_bool, ↓WO_nil, ↓thenK_norm, ↓e114_5, a114_5, e3, ↓WC_cond, ↓WC_skip, Nat.zero_add, panK_ptr, aop_ld1, withS, ld1_ptr, AS.get_push, E0_n, ldO_cells, ble_dec, Nat.le_refl, decide_true, Bool.and_true, blt_dec, Nat.reduceLT, List.getElem?_cons_succ, List.getElem?_cons_zero, cond_true, panK_int, aop_fad, aop_bin, abin, isShift, kindBeq, aint, wrap64_id, cond_false, Int.reduceEq, aop_mv]
    exact Frz.scal rfl
noncomputable def G17 : Giv := addG 114 (pureG rsAskS) (G16)
theorem G17_fine : Fine P G17 := (G16_fine).pure rsAsk_ok
theorem G17_114 : G17 114 = some (pureG rsAskS) := rfl
def srTell (s : Sr) (v : Bool) : Sr := if (srAsk s).2 then ⟨s.how, if v then s.low else (srAsk s).1, if v then (srAsk s).1 else s.high, IntKind.wrap .i64 (2 * s.step), if v then s.no else true, IntKind.wrap .i64 (s.asked + 1)⟩ else s
noncomputable def rsTellS := sp2 cSr cBo fun s v => gd s.B (.tup [.agg (srC (srTell s v)), .int .i64 (if (srAsk s).2 then 0 else 7)])
theorem rsTell_ok : PureS P 122 rsTellS := PureS.of2 fun s v r hr => by
  obtain ⟨hb, rfl⟩ := gd_say hr
  obtain ⟨how, low, high, step, no, asked⟩ := s
  refine ⟨pure_run orders G17_fine (L := 1) (d := 1) fn122 rfl ?_, rfl⟩
  cases hm : (srAsk ⟨how, low, high, step, no, asked⟩).2 with
  | false =>
    have : srTell ⟨how, low, high, step, no, asked⟩ v = ⟨how, low, high, step, no, asked⟩ := by unfold srTell; rw [hm]; rfl
    rw [this]
    simp (disch := omega) only [↓e122, a122, params, en_Sr, Nat.zero_add, en_B, ↓e122_1, a122_1, ↓e122_2, a122_2, ↓e122_3, a122_3, ↓e122_5, a122_5, ↓e122_6, a122_6, ↓WC_seq, ↓WC_reg, ↓WO_cons, aop_ldn, withS, AX.ev, Fr.put, aop_fad, aop_mv, AllK_one, aop_box, get_cons', ↓reduceIte, cells_agg, E0_n, List.length_cons, List.length_nil, Nat.reduceAdd, AS.newRow, panK_ptr, aop_alloc, AS.n_push, panK_int, ↓WO_nil, ↓thenK_norm, nat_ne, ldn_ptr, AS.get_push, ldlO_cells, ble_dec, Nat.le_refl, decide_true, Bool.and_true, List.drop_zero, List.take_succ_cons, List.take_zero, cond_true, Option.map_some, panK_agg, aop_call, AX.evs, call_giv1 G17_114, rsAskS, pureG_eq, AV.scalL, AV.scalar, sp1, de_Sr, Option.bind_some, hm, gd_pos hb, spK_some, panK_tup, aop_xt, List.getElem?_cons_zero, List.getElem?_cons_succ, panK_bool, aop_un, aun, Bool.not_false, ↓WC_cond, condK_true, aop_st, AS.st, beq_dec, stl_get, stO_cells, List.all_cons, one_int, one_bool, List.all_nil, setL, consS_eq, undefA, ↓WC_ret, ↓thenK_ret, ↓endP_ret, resV, AS.get_put, Option.some.injEq, resOne, exists_eq_left']
    exact Frz.scal rfl
  | true =>
    have : srTell ⟨how, low, high, step, no, asked⟩ v = ⟨how, if v then low else (srAsk ⟨how, low, high, step, no, asked⟩).1, if v then (srAsk ⟨how, low, high, step, no, asked⟩).1 else high, IntKind.wrap .i64 (2 * step), if v then no else true, IntKind.wrap .i64 (asked + 1)⟩ := by unfold srTell; rw [hm]; rfl
    rw [this]
    cases v with
    | false =>
      simp (disch := omega) only [↓e122, a122, params, en_Sr, Nat.zero_add, en_B, ↓e122_1, a122_1, ↓e122_2, a122_2, ↓e122_3, a122_3, ↓e122_5, a122_5, ↓e122_6, a122_6, ↓WC_seq, ↓WC_reg, ↓WO_cons, aop_ldn, withS, AX.ev, Fr.put, ↓reduceIte, aop_fad, aop_mv, AllK_one, aop_box, get_cons', cells_agg, E0_n, List.length_cons, List.length_nil, Nat.reduceAdd, AS.newRow, panK_ptr, aop_alloc, AS.n_push, panK_int, ↓WO_nil, ↓thenK_norm, nat_ne, ldn_ptr, AS.get_push, ldlO_cells, ble_dec, Nat.le_refl, decide_true, Bool.and_true, List.drop_zero, List.take_succ_cons, List.take_zero, cond_true, Option.map_some, panK_agg, aop_call, AX.evs, call_giv1 G17_114, rsAskS, pureG_eq, AV.scalL, AV.scalar, sp1, de_Sr, Option.bind_some, hm, gd_pos hb, spK_some, panK_tup, aop_xt, List.getElem?_cons_zero, List.getElem?_cons_succ, panK_bool, aop_un, aun, Bool.not_true, ↓WC_cond, condK_false, ↓WC_skip, ↓e122_4, a122_4, aop_st, AS.st, cells_int, beq_dec, stl_get, stO_cells, Nat.reduceLeDiff, List.all_cons, one_int, List.all_nil, setL, consS_eq, undefA, cells_bool, AS.get_put, one_bool, aop_ld1, ld1_ptr, ldO_cells, blt_dec, Nat.reduceLT, aop_bin, abin, isShift, kindBeq, aint, cond_false, ↓WC_ret, ↓endP_ret, resV, Option.some.injEq, resOne, exists_eq_left']
      exact Frz.scal rfl
    | true =>
      simp (disch := omega) only [↓e122, a122, params, en_Sr, Nat.zero_add, en_B, ↓e122_1, a122_1, ↓e122_2, a122_2, ↓e122_3, a122_3, ↓e122_5, a122_5, ↓e122_6, a122_6, ↓WC_seq, ↓WC_reg, ↓WO_cons, aop_ldn, withS, AX.ev, Fr.put, ↓reduceIte, aop_fad, aop_mv, AllK_one, aop_box, get_cons', cells_agg, E0_n, List.length_cons, List.length_nil, Nat.reduceAdd, AS.newRow, panK_ptr, aop_alloc, AS.n_push, panK_int, ↓WO_nil, ↓thenK_norm, nat_ne, ldn_ptr, AS.get_push, ldlO_cells, ble_dec, Nat.le_refl, decide_true, Bool.and_true, List.drop_zero, List.take_succ_cons, List.take_zero, cond_true, Option.map_some, panK_agg, aop_call, AX.evs, call_giv1 G17_114, rsAskS, pureG_eq, AV.scalL, AV.scalar, sp1, de_Sr, Option.bind_some, hm, gd_pos hb, spK_some, panK_tup, aop_xt, List.getElem?_cons_zero, List.getElem?_cons_succ, panK_bool, aop_un, aun, Bool.not_true, ↓WC_cond, condK_false, ↓WC_skip, ↓e122_4, a122_4, condK_true, aop_st, AS.st, cells_int, beq_dec, stl_get, stO_cells, Nat.reduceLeDiff, List.all_cons, one_int, List.all_nil, setL, consS_eq, undefA, aop_ld1, ld1_ptr, AS.get_put, ldO_cells, blt_dec, Nat.reduceLT, aop_bin, abin, isShift, kindBeq, aint, cond_false, one_bool, ↓WC_ret, ↓endP_ret, resV, Option.some.injEq, resOne, exists_eq_left']
      exact Frz.scal rfl
def rsNewE (how n : Int) : Int := if how < 1 ∨ how > 3 ∨ n < 1 then 1 else if n > 4096 then 3 else 0
def rsNew (how n : Int) : Sr := if rsNewE how n = 0 then ⟨how, 0, n, 1, false, 0⟩ else ⟨0, 0, 0, 0, false, 0⟩
def rsNewS := sp2 cIn cIn fun how n => some (.tup [.agg (srC (rsNew how n)), .int .i64 (rsNewE how n)])
theorem rsNew_ok : PureS P 123 rsNewS := PureS.of2 fun how n r hr => by
  cases hr
  refine ⟨pure_run orders G17_fine (L := 1) (d := 1) fn123 rfl ?_, rfl⟩
  unfold rsNew rsNewE
  by_cases h1 : how < 1 ∨ how > 3 ∨ n < 1
  · simp only [if_pos h1]
    simp (disch := omega) only [↓e123, a123, params, en_I, Nat.zero_add, ↓e123_1, a123_1, ↓e123_2, a123_2, ↓e123_3, a123_3, ↓WC_ret, ↓endP_ret, resV, Option.map_some, resOne, Int.reduceEq, ↓reduceIte, ↓WC_reg, ↓WO_cons, aop_mv, AX.ev, Fr.put, AllK_one, ↓WC_seq, aop_alloc, E0_n, List.length_cons, List.length_nil, Nat.reduceAdd, AS.newRow, panK_ptr, panK_int, ↓WO_nil, ↓thenK_norm, get_cons', nat_ne, aop_bin, withS, abin, isShift, kindBeq, aint, cond_true, cond_false, panK_bool, ↓WO_unless, undefA, undK_bool]
    repeat' (first | (exfalso; omega) | (refine condK_dec ?_ ?_ <;> intro h <;> simp (disch := omega) only [↓WO_unless, dect, get_cons', nat_ne, ↓reduceIte, undefA, Fr.put, undK_bool, condK_true, ↓WO_cons, aop_pick, AX.ev, AllK_one, panK_bool, aop_mv, ↓WO_nil, ↓thenK_norm, ↓WC_cond, ↓WC_seq, ↓WC_reg, aop_build, withS, fillL, Option.map_some, panK_agg, aop_st, AS.st, cells_agg, List.length_cons, List.length_nil, Nat.zero_add, Nat.reduceAdd, beq_dec, decide_true, stl_get, AS.get_push, E0_n, stO_cells, ble_dec, Nat.le_refl, Bool.and_true, List.all_cons, one_int, one_bool, List.all_nil, setL, consS_eq, cond_true, panK_tup, panK_int, ↓WC_ret, ↓thenK_ret, ↓endP_ret, resV, ldn_ptr, AS.get_put, ldlO_cells, List.drop_zero, List.take_succ_cons, List.take_zero, Option.some.injEq, resOne, exists_eq_left', decf, condK_false, aop_bin, abin, isShift, kindBeq, aint, cond_false]))
    all_goals exact Frz.scal rfl
  · simp only [if_neg h1]
    by_cases h2 : n > 4096
    · simp only [if_pos h2]
      simp (disch := omega) only [↓e123, a123, params, en_I, Nat.zero_add, ↓e123_1, a123_1, ↓e123_2, a123_2, ↓e123_3, a123_3, ↓WC_ret, ↓endP_ret, resV, Option.map_some, resOne, Int.reduceEq, ↓reduceIte, ↓WC_reg, ↓WO_cons, aop_mv, AX.ev, Fr.put, AllK_one, ↓WC_seq, aop_alloc, E0_n, List.length_cons, List.length_nil, Nat.reduceAdd, AS.newRow, panK_ptr, panK_int, ↓WO_nil, ↓thenK_norm, get_cons', nat_ne, aop_bin, withS, abin, isShift, kindBeq, aint, decf, cond_true, cond_false, panK_bool, ↓WO_unless, undefA, undK_bool, condK_false, aop_pick, ↓WC_cond, ↓WC_skip, dect, condK_true, aop_build, fillL, panK_agg, aop_st, AS.st, cells_agg, beq_dec, decide_true, stl_get, AS.get_push, stO_cells, ble_dec, Nat.le_refl, Bool.and_true, List.all_cons, one_int, one_bool, List.all_nil, setL, consS_eq, panK_tup, ↓thenK_ret, ldn_ptr, AS.get_put, ldlO_cells, List.drop_zero, List.take_succ_cons, List.take_zero, Option.some.injEq, exists_eq_left']
      exact Frz.scal rfl
    · simp only [if_neg h2]
      simp (disch := omega) only [↓e123, a123, params, en_I, Nat.zero_add, ↓e123_1, a123_1, ↓e123_2, a123_2, ↓e123_3, a123_3, ↓WC_ret, ↓endP_ret, resV, Option.map_some, resOne, ↓reduceIte, ↓WC_reg, ↓WO_cons, aop_mv, AX.ev, Fr.put, AllK_one, ↓WC_seq, aop_alloc, E0_n, List.length_cons, List.length_nil, Nat.reduceAdd, AS.newRow, panK_ptr, panK_int, ↓WO_nil, ↓thenK_norm, get_cons', nat_ne, aop_bin, withS, abin, isShift, kindBeq, aint, decf, cond_true, cond_false, panK_bool, ↓WO_unless, undefA, undK_bool, condK_false, aop_pick, ↓WC_cond, ↓WC_skip, aop_build, fillL, cells_int, beq_dec, decide_true, ble_dec, Nat.reduceLeDiff, Bool.and_true, setL, consS_eq, panK_agg, aop_st, AS.st, cells_agg, stl_get, AS.get_push, stO_cells, Nat.le_refl, List.all_cons, one_int, one_bool, List.all_nil, panK_tup, ldn_ptr, AS.get_put, ldlO_cells, List.drop_zero, List.take_succ_cons, List.take_zero, Option.some.injEq, exists_eq_left']
      exact Frz.scal rfl
noncomputable def G18 : Giv := addG 123 (pureG rsNewS) (addG 122 (pureG rsTellS) (G17))
theorem G18_fine : Fine P G18 := ((G17_fine).pure rsTell_ok).pure rsNew_ok
theorem G18_41 : G18 41 = some (pureG goSp) := rfl
theorem G18_97 : G18 97 = some (pureG joinS) := rfl
end Go.Proofs.Ytednmmcdjhfflaa.Vai
