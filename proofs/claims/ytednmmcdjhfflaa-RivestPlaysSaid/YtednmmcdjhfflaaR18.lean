/- The law RivestPlays: its rounds. -/
import Derived.Test.YtednmmcdjhfflaaR17
namespace Go.Proofs.Ytednmmcdjhfflaa.Vai
open Go
set_option linter.unusedVariables false
set_option linter.unusedSimpArgs false
theorem PaAt.alloc {S : AS} {v m k : Nat} {a : RA} (h : PaAt S v m a) (o o' : AObj) (hk : k = S.n) : PaAt ((S.push o).put k o') v m a := h.same (fun u _ hlt => by rw [AS.get_put, if_neg (by omega), AS.get_push, if_neg (by omega)]) (by rw [AS.n_put, AS.n_push]; omega)
theorem RA.Iv.spur {a : RA} (h : a.Iv) : (a.prog.ov && a.prog.sp) = a.spur := by
  unfold RA.prog
  cases hb : a.begun with
  | false => rw [h.ns hb]; rfl
  | true =>
    cases hs : a.spur with
    | true => rfl
    | false =>
      cases hm : (srAsk a.s).2 with
      | true => rfl
      | false => rfl
theorem RA.prog_ak {a : RA} : a.prog.ak = a.asked := by unfold RA.prog; (repeat' split) <;> rfl
theorem aeq_bb {x : Bool} : aeq .bool (.bool x) (.bool x) = some true := by cases x <;> rfl
theorem found_len {a : RA} (h : a.Iv) : a.found.1.acc.length ≤ 1000000000000 ∧ a.found.1.suf.length ≤ 1000000000000 ∧ a.found.1.was.length ≤ 1000000000000 ∧ a.found.1.now.length ≤ 1000000000000 := by
  unfold RA.found
  split
  · exact ⟨by show 0 ≤ _; omega, by show 0 ≤ _; omega, by show 0 ≤ _; omega, by show 0 ≤ _; omega⟩
  · rename_i hc
    have hb : a.begun = true := by
      cases hb : a.begun with
      | true => rfl
      | false => exact absurd (Or.inl (by simp [RA.ask, hb])) hc
    have hs : a.spur = false := by
      cases hs : a.spur with
      | false => rfl
      | true => exact absurd (Or.inr hs) hc
    have r := h.rn hb hs
    have hwl := h.ok.wl
    obtain ⟨q1, q2⟩ := h.ok.at a.s.low
    obtain ⟨p1, p2⟩ := h.ok.acc q1 q2
    have e1 := getD_len (i := a.s.low.toNat) r.ln
    have e2 := getD_len (i := (a.s.low + 1).toNat) r.ln
    have e3 : (a.mine (a.s.low + 1)).length ≤ 4096 := by
      unfold RA.mine; rw [goO_len]; split
      · omega
      · rw [List.length_drop]; omega
    refine ⟨?_, ?_, ?_, ?_⟩
    · show (a.acc.getD (a.at a.s.low).toNat [] ++ (a.w.drop a.s.low.toNat).take 1).length ≤ _
      rw [List.length_append, List.length_take]; omega
    · show (a.w.drop _).length ≤ _; rw [List.length_drop]; omega
    · show (if _ then a.mine (a.s.low + 1) else a.said.getD (a.s.low + 1).toNat []).length ≤ _
      split <;> omega
    · show (endO _ _ _).length ≤ _
      unfold endO; split
      · omega
      · rw [List.length_drop]; omega
theorem de_raC {a : RA} : (cRA 1).de (.agg (raC 1 a)) = some a := by
  rw [de_RA, de_R (Nat.le_refl 1), de_R (Nat.le_refl 1), de_W (Nat.le_refl 1), de_R (Nat.le_refl 1), de_W (Nat.le_refl 1)]; rfl
theorem runO_len (m : Mach) (w : List Int) : (runO m w).length ≤ w.length + 1 := by
  unfold runO
  split
  · show (goO _ _ _ _ _ _).length ≤ _; rw [goO_len]; split <;> omega
  · simp
set_option maxRecDepth 16000 in
set_option maxHeartbeats 8000000 in
theorem plays_tell {L d va vb vm i : Nat} {S : AS} {F : Fr} {told : List (List Int)} {a : RA} {out : List Int} {M : AObj} {Q : AE → Fr → AS → Prop} (hL : 5000 ≤ L) (ha : a.Iv) (hol : out.length ≤ 9223372036854775807)
    (f4 : F.get 4 = rowW 1 told) (f11 : F.get 11 = .ptr 1 0 0 6) (f15 : F.get 15 = .ptr va 0 0 14) (f17 : F.get 17 = .ptr vb 0 0 19) (f19 : F.get 19 = .int .i64 i) (f28 : F.get 28 = rowI 1 out)
    (g1 : S.get 1 = some M) (gb : S.get vb = some (.cells (raC 1 a) 19 0 0 false false)) (hp : PaAt S va vm a) (hwf : Wf S) (h1a : 1 < va) (hab : va ≠ vb) (h1b : 1 ≠ vb) (hbm : vb < vm)
    (hX : ∀ F S, Q (.exit 0) F S) (hN : ∀ F S a, a.Iv → F.get 4 = rowW 1 told → F.get 11 = .ptr 1 0 0 6 → F.get 15 = .ptr va 0 0 14 → F.get 17 = .ptr vb 0 0 19 → F.get 19 = .int .i64 i → S.get 1 = some M → S.get vb = some (.cells (raC 1 a) 19 0 0 false false) → PaAt S va vm a → Wf S → Q .norm F S) :
    WC (ctxE P kpN fun _ => none) (callE G37 L (d + 1 + 1 + 1 + 1) (ctxE P kpN fun _ => none)) L c7_21 F S Q := by
  simp (disch := omega) only [↓e7_21, a7_21, ↓e7_22, a7_22, ↓e7_23, a7_23, ↓e7_24, a7_24, ↓e7_25, a7_25, ↓WC_cond, AX.ev, ↓WC_reg, ↓WO_cons, aop_mv, Fr.put, AllK_one, ↓WC_seq, aop_ldn, withS, f15, panK_ptr, get_cons', nat_ne, ↓reduceIte, f28, panK_row, aop_call, AX.evs]
  refine tell_all (m := vm) hL hwf hp ha.okP hol fun S4 t1 t2 => ?_
  have han := hp.lv
  have hvm := hp.vm
  have hmn := hp.mn
  have hbn : vb < S.n := Nat.lt_of_lt_of_le hbm hmn
  have gb4 : S4.get vb = some (.cells (raC 1 a) 19 0 0 false false) := (t2.get vb hbn (by omega)).trans gb
  have g14 : S4.get 1 = some M := (t2.get 1 (by omega) (by omega)).trans g1
  have hn4 := t2.n
  have hwf4 := t2.wf hwf
  have hde : (cRA 1).de (.agg (raC 1 a)) = some a := de_raC
  have w5 : a.Ok3 ∧ out.length ≤ 9223372036854775807 := ⟨ha.ok3, hol⟩
  have ha' := ha.tell out
  generalize hA : a.tell out = A at *
  obtain ⟨a', j⟩ := A
  simp only at t1 ha'
  have fin : ∀ (F5 : Fr) (S5 : AS), F5.get 4 = rowW 1 told → F5.get 11 = .ptr 1 0 0 6 → F5.get 15 = .ptr va 0 0 14 → F5.get 17 = .ptr vb 0 0 19 → F5.get 19 = .int .i64 i → (∀ u, u < S4.n → u ≠ vb → S5.get u = S4.get u) → S5.get vb = some (.cells (raC 1 a') 19 0 0 false false) → S4.n ≤ S5.n → Wf S5 → Q .norm F5 S5 := fun F5 S5 h4 h11 h15 h17 h19 hu hv hn hw =>
    hN F5 S5 a' ha' h4 h11 h15 h17 h19 ((hu 1 (by omega) h1b).trans g14) hv (t1.same (fun u h1 h2 => hu u h2 (by rcases h1 with h1 | h1 <;> omega)) hn) hw
  simp (disch := omega) only [panK_int, ↓WO_cons, aop_mv, AX.ev, get_cons', ↓reduceIte, Fr.put, AllK_one, ↓WO_nil, ↓thenK_norm, nat_ne, f17, ldn_ptr, gb4, ldlO_cells, ble_dec, Nat.le_refl, decide_true, Bool.and_true, Nat.zero_add, List.drop_zero, List.take_succ_cons, List.take_zero, cond_true, Option.map_some, panK_agg, f28, panK_row, aop_call, AX.evs, call_giv G37_59, rtellS, pureG_eq, AV.scalL, AV.scalar, scal_ints, scal_rows, sp2, hde, de_R0, Option.bind_some, hA, gd_pos w5, spK_some, panK_tup, aop_xt, withS, List.getElem?_cons_zero, List.getElem?_cons_succ, aop_alloc, List.length_cons, List.length_nil, Nat.reduceAdd, AS.newRow, panK_ptr, aop_st, AS.st, cells_agg, beq_dec, stl_get, AS.get_push, stO_cells, List.all_cons, one_int, one_row, one_bool, List.all_nil, setL, consS_eq, undefA, AS.get_put, call_giv G37_48, numS, sp1, de_I, aop_bin, abin, isShift, kindBeq, aint, ine_dec, Bool.not_true, cond_false, panK_bool, ↓WC_cond, condK_false, ↓WC_skip, ↓WO_if, undK_bool, condK_not]
  have hS5 : ∀ o o' : AObj, (∀ u, u < S4.n → u ≠ vb → (((S4.push o).put S4.n o').put vb (.cells (raC 1 a') 19 0 0 false false)).get u = S4.get u) ∧ (((S4.push o).put S4.n o').put vb (.cells (raC 1 a') 19 0 0 false false)).get vb = some (.cells (raC 1 a') 19 0 0 false false) ∧ S4.n ≤ (((S4.push o).put S4.n o').put vb (.cells (raC 1 a') 19 0 0 false false)).n ∧ Wf (((S4.push o).put S4.n o').put vb (.cells (raC 1 a') 19 0 0 false false)) := fun o o' =>
    ⟨fun u h1 h2 => by rw [AS.get_put, if_neg h2, AS.get_put, if_neg (by omega), AS.get_push, if_neg (by omega)], by rw [AS.get_put, if_pos rfl], by simp only [AS.n_put, AS.n_push]; omega, Wf.put (Wf.put (hwf4.push _) (by rw [AS.n_push]; omega) _) (by simp only [AS.n_put, AS.n_push]; omega) _⟩
  by_cases c5 : j = 0
  · simp (disch := omega) only [c5, decide_true, condK_true, ↓WO_if, Bool.not_true, get_cons', nat_ne, ↓reduceIte, undefA, Fr.put, undK_bool, condK_false, ↓WO_cons, aop_pick, AX.ev, AllK_one, panK_bool, ↓WO_nil, ↓thenK_norm, ↓WC_skip]
    obtain ⟨s1, s2, s3, s4⟩ := hS5 _ _
    exact fin _ _ f4 f11 f15 f17 f19 s1 s2 s3 s4
  · have c5' : (j = 0) = False := eq_false c5
    simp (disch := omega) only [c5', decide_false, condK_false, Bool.not_false, get_cons', nat_ne, ↓reduceIte, aop_mv, AX.ev, f19, AllK_one, panK_int, ↓WO_if, undefA, Fr.put, undK_bool, condK_true, f4, panK_row, aop_len0, withS, lenA_row, aop_bin, abin, isShift, kindBeq, aint, cond_true, cond_false, panK_bool, ↓WO_cons, aop_pick, ↓WO_nil, ↓thenK_norm]
    refine condK_dec ?_ ?_ <;> intro c6 <;> simp (disch := omega) only [↓WC_exit, dect, c5', decide_false, Bool.not_false, get_cons', nat_ne, ↓reduceIte, ↓WC_skip, decf]
    · exact hX _ _
    · obtain ⟨s1, s2, s3, s4⟩ := hS5 _ _
      exact fin _ _ f4 f11 f15 f17 f19 s1 s2 s3 s4
set_option maxRecDepth 16000 in
set_option maxHeartbeats 8000000 in
theorem plays_loop {L d va vb vm : Nat} {S : AS} {F : Fr} {m : Mach} {told : List (List Int)} {a : RA} {Q : AE → Fr → AS → Prop} (hL : 5000 ≤ L) (htl : told.length ≤ 60) (hto : ∀ u ∈ told, u.length ≤ 9223372036854775807) (ha : a.Iv)
    (f4 : F.get 4 = rowW 1 told) (f11 : F.get 11 = .ptr 1 0 0 6) (f15 : F.get 15 = .ptr va 0 0 14) (f17 : F.get 17 = .ptr vb 0 0 19) (f19 : F.get 19 = .int .i64 0)
    (g1 : S.get 1 = some (.cells (mcells m.kind m.K m.O m.N (rowI 1 m.nx) (rowI 1 m.ot)) 6 0 0 false false)) (gb : S.get vb = some (.cells (raC 1 a) 19 0 0 false false)) (hp : PaAt S va vm a) (hwf : Wf S) (h1a : 1 < va) (hab : va ≠ vb) (h1b : 1 ≠ vb) (hbm : vb < vm)
    (hQ : ∀ F S, Q .norm F S) : WC (ctxE P kpN fun _ => none) (callE G37 L (d + 1 + 1 + 1 + 1) (ctxE P kpN fun _ => none)) L c7_10 F S Q := by
  simp (disch := omega) only [↓e7_10, a7_10, ↓WC_block, ↓WC_loop, Fr.keep]
  refine loop_all (fun k F S => ∃ (i : Nat) (a : RA), i + k = told.length + 60 ∧ a.Iv ∧ F.get 4 = rowW 1 told ∧ F.get 11 = .ptr 1 0 0 6 ∧ F.get 15 = .ptr va 0 0 14 ∧ F.get 17 = .ptr vb 0 0 19 ∧ F.get 19 = .int .i64 i ∧ S.get 1 = some (.cells (mcells m.kind m.K m.O m.N (rowI 1 m.nx) (rowI 1 m.ot)) 6 0 0 false false) ∧
    S.get vb = some (.cells (raC 1 a) 19 0 0 false false) ∧ PaAt S va vm a ∧ Wf S) ?_ (m := told.length + 60) ⟨0, a, by omega, ha, f4, f11, f15, f17, f19, g1, gb, hp, hwf⟩ (by omega)
  clear ha f4 f11 f15 f17 f19 g1 gb hp hwf
  rintro k F S ⟨i, a, hi, ha, f4, f11, f15, f17, f19, g1, gb, hp, hwf⟩
  simp (disch := omega) only [↓e7_11, a7_11, ↓e7_12, a7_12, ↓WC_reg, ↓WO_cons, aop_mv, AX.ev, Fr.keep, Fr.put, AllK_one, get_cons', nat_ne, ↓reduceIte, ↓WC_block, ↓WC_seq, f19, panK_int, f4, panK_row, aop_len0, withS, lenA_row, aop_bin, abin, isShift, kindBeq, aint, wrap64_id, cond_true, cond_false, panK_bool, ↓WO_nil, ↓thenK_norm, ↓WC_cond]
  refine condK_dec ?_ ?_ <;> intro c1 <;> simp (disch := omega) only [↓WC_skip, ↓thenK_norm, dect, get_cons', nat_ne, ↓reduceIte, f15, panK_ptr, ↓WO_cons, aop_call, AX.evs, AX.ev, call_giv G37_50, paskS, pureG_eq, AV.scalL, AV.scalar, Bool.and_true, sp1, cond_false, Fr.put, ↓WC_exit, ↓thenK_exit, ↓blkK_exit, decf]
  rotate_left
  · exact hQ _ _
  obtain ⟨x, l1, l2⟩ := hp.lend ha.okP
  have w1 := RA.prog_ok ha.okP
  have w2 := RA.prog_ask ha.okP
  have w3 := ha.ok3.ok2
  simp (disch := omega) only [mapO_cons, l1, mapO_nil, Option.map_some, Option.bind_some, l2, w2, gd_pos w1, spB_some, AV.inz, AV.inzL, ble_dec, Nat.le_refl, decide_true, inz_ints, Bool.and_true, cond_true, AllK_one, panK_tup, ↓WO_cons, dect, get_cons', nat_ne, ↓reduceIte, aop_mv, AX.ev, Fr.put, aop_xt, withS, List.getElem?_cons_zero, panK_row, List.getElem?_cons_succ, panK_bool, ↓WO_nil, ↓thenK_norm]
  have hde : (cRA 1).de (.agg (raC 1 a)) = some a := de_raC
  simp (disch := omega) only [↓e7_13, a7_13, ↓WC_reg, ↓WO_cons, aop_ldn, withS, AX.ev, get_cons', nat_ne, ↓reduceIte, f17, ldn_ptr, gb, ldlO_cells, ble_dec, Nat.le_refl, decide_true, Bool.and_true, Nat.zero_add, List.drop_zero, List.take_succ_cons, List.take_zero, cond_true, Option.map_some, Fr.put, AllK_one, panK_agg, aop_call, AX.evs, call_giv G37_51, raskS, pureG_eq, AV.scalL, AV.scalar, scal_ints, scal_rows, sp1, hde, Option.bind_some, gd_pos w3, spK_some, mapO_cons, mapO_nil, panK_tup, aop_mv, aop_xt, List.getElem?_cons_zero, panK_row, List.getElem?_cons_succ, panK_bool, ↓WO_nil, ↓thenK_norm]
  have w4 : a.prog.ra.Ok ∧ a.prog.Fd := ⟨w1.1, ha.pfd⟩
  have w5 : a.Ok3 ∧ a.Fd := ⟨ha.ok3, ha.fd⟩
  have w6 := ha.found
  simp (disch := omega) only [↓e7_14, a7_14, f15, ↓WC_reg, ↓WO_cons, aop_mv, AX.ev, get_cons', nat_ne, ↓reduceIte, Fr.put, AllK_one, panK_ptr, aop_call, AX.evs, call_giv G37_52, pfoundS, pureG_eq, AV.scalL, AV.scalar, Bool.and_true, sp1, mapO_cons, l1, mapO_nil, Option.map_some, Option.bind_some, l2, w6, gd_pos w4, spB_some, AV.inz, AV.inzL, ble_dec, Nat.le_refl, decide_true, inz_ints, cond_true, cond_false, panK_tup, aop_xt, withS, List.getElem?_cons_zero, panK_agg, List.getElem?_cons_succ, panK_bool, aop_alloc, List.length_cons, List.length_nil, Nat.zero_add, Nat.reduceAdd, AS.newRow, aop_st, AS.st, cells_agg, beq_dec, stl_get, AS.get_push, stO_cells, List.all_cons, one_int, one_row, List.all_nil, setL, consS_eq, undefA, ↓WO_nil, ↓thenK_norm]
  have hbn : vb < S.n := Nat.lt_of_lt_of_le hbm hp.mn
  have han := hp.lv
  simp (disch := omega) only [↓e7_15, a7_15, ↓WC_reg, ↓WO_cons, aop_ldn, withS, AX.ev, get_cons', nat_ne, ↓reduceIte, f17, ldn_ptr, AS.get_put, AS.get_push, gb, ldlO_cells, ble_dec, Nat.le_refl, decide_true, Bool.and_true, Nat.zero_add, List.drop_zero, List.take_succ_cons, List.take_zero, cond_true, Option.map_some, Fr.put, AllK_one, panK_agg, aop_call, AX.evs, call_giv G37_53, rfoundS, pureG_eq, AV.scalL, AV.scalar, scal_ints, scal_rows, sp1, hde, Option.bind_some, gd_pos w5, spK_some, panK_tup, aop_mv, aop_xt, List.getElem?_cons_zero, List.getElem?_cons_succ, panK_bool, aop_alloc, AS.n_put, AS.n_push, List.length_cons, List.length_nil, Nat.reduceAdd, AS.newRow, panK_ptr, aop_st, AS.st, cells_agg, beq_dec, stl_get, stO_cells, List.all_cons, one_int, one_row, List.all_nil, setL, consS_eq, undefA, ↓WO_nil, ↓thenK_norm]
  have hp3 : PaAt ((((S.push (.cells [.int .i64 0, .nils, .nils, .nils, .nils] 5 0 0 false false)).put S.n (.cells [.int .i64 a.found.1.st, rowI 1 a.found.1.acc, rowI 1 a.found.1.suf, rowI 1 a.found.1.was, rowI 1 a.found.1.now] 5 0 0 false false)).push (.cells [.int .i64 0, .nils, .nils, .nils, .nils] 5 0 0 false false)).put (S.n + 1) (.cells [.int .i64 a.found.1.st, rowI 1 a.found.1.acc, rowI 1 a.found.1.suf, rowI 1 a.found.1.was, rowI 1 a.found.1.now] 5 0 0 false false)) va vm a :=
    (hp.alloc _ _ rfl).alloc _ _ rfl
  generalize hS3 : AS.put (AS.push (AS.put (AS.push S _) S.n _) _) (S.n + 1) _ = S3 at *
  have gx : S3.get S.n = some (.cells [.int .i64 a.found.1.st, rowI 1 a.found.1.acc, rowI 1 a.found.1.suf, rowI 1 a.found.1.was, rowI 1 a.found.1.now] 5 0 0 false false) := by rw [← hS3]; simp (disch := omega) only [AS.get_put, nat_ne, ↓reduceIte, AS.get_push, AS.n_put, AS.n_push]
  have gy : S3.get (S.n + 1) = some (.cells [.int .i64 a.found.1.st, rowI 1 a.found.1.acc, rowI 1 a.found.1.suf, rowI 1 a.found.1.was, rowI 1 a.found.1.now] 5 0 0 false false) := by rw [← hS3]; simp (disch := omega) only [AS.get_put, ↓reduceIte]
  have go : ∀ u, u < S.n → S3.get u = S.get u := fun u hu => by rw [← hS3]; simp (disch := omega) only [AS.get_put, nat_ne, ↓reduceIte, AS.get_push, AS.n_put, AS.n_push]
  have gn : S3.n = S.n + 2 := by rw [← hS3]; rfl
  have gw : Wf S3 := by rw [← hS3]; exact Wf.put (Wf.push (Wf.put (hwf.push _) (by rw [AS.n_push]; omega) _) _) (by rw [AS.n_push, AS.n_put, AS.n_push]; omega) _
  clear hS3
  obtain ⟨x3, l3, l4⟩ := hp3.lend ha.okP
  have gb3 : S3.get vb = some (.cells (raC 1 a) 19 0 0 false false) := (go vb hbn).trans gb
  have hq := RA.ask_len ha.ok
  have w7 : a.ask.1.length ≤ 1000000000000 ∧ a.ask.1.length ≤ 1000000000000 := ⟨by omega, by omega⟩
  have w8 := found_len ha
  have w9 := ha.spur
  have w10 : a.prog.ak = a.asked := RA.prog_ak
  simp (disch := omega) only [↓e7_16, a7_16, ↓WC_seq, ↓WC_draw, ↓WD_cons, Fr.keep, get_cons', nat_ne, ↓reduceIte, aop_mv, AX.ev, sik, AOp.acts, AOp.reads, cond_false, List.all_nil, Nat.reduceAdd, Fr.put, One_one, np_row, chkK_true, List.all_cons, dchk_11, Bool.and_true, aop_call, AX.evs, call_giv G37_30, sameS, pureG_eq, AV.scalL, AV.scalar, scal_ints, sp2, de_R0, Option.bind_some, decide_true, gd_pos, spK_some, mapO_cons, mapO_nil, Option.map_some, cond_true, np_bool, dchk_31, aop_un, withS, aun, Bool.not_true, dchk_13, ↓WD_unless, undefA, undK_bool, condK_false, aop_eq, aeq_bb, aop_pick, aop_ldn, ldn_ptr, gx, ldlO_cells, ble_dec, Nat.le_refl, Nat.zero_add, List.drop_zero, List.take_succ_cons, List.take_zero, np_agg, dchk_21, dchk_23, List.contains_cons, Nat.reduceBEq, beq_self_eq_true, List.contains_nil, Bool.or_false, Bool.or_true, same_eq, isSame_one, AV.beq, AV.beqL, kindBeq, intBeq_self, beq_dec, beqL_ints, gy, dchk_22, call_giv G37_54, csameS, de_Cut, gd_pos w8, dchk_32, dchk_33, dchk_12, f15, np_ptr, call_giv G37_55, pspurS, sp1, l3, l4, w9, spB_some, AV.inz, f17, aop_fad, aop_ld1, ld1_ptr, gb3, ldO_cells, blt_dec, Nat.reduceLT, List.getElem?_cons_succ, List.getElem?_cons_zero, call_giv G37_56, paskedS, w10, np_int, aop_bin, abin, isShift, aint, ine_dec, ↓WD_nil, ↓thenK_norm, ↓WC_cond, ↓WC_skip]
  have g13 : S3.get 1 = some (.cells (mcells m.kind m.K m.O m.N (rowI 1 m.nx) (rowI 1 m.ot)) 6 0 0 false false) := (go 1 (by omega)).trans g1
  have hgt : i < told.length → (told.getD i []).length ≤ 9223372036854775807 := fun h => hto _ (by rw [List.getD_eq_getElem?_getD, List.getElem?_eq_getElem h]; exact List.getElem_mem h)
  have hgr : (runO m a.ask.1).length ≤ 9223372036854775807 := by have := runO_len m a.ask.1; omega
  cases hm : a.ask.2
  all_goals
    simp (disch := omega) only [↓e7_17, a7_17, ↓e7_18, a7_18, ↓WC_reg, ↓WO_cons, aop_mv, AX.ev, Fr.put, AllK_one, panK_nils, ↓WO_nil, ↓thenK_norm, ↓WC_seq, get_cons', nat_ne, ↓reduceIte, panK_bool, aop_un, withS, aun, Bool.not_false, ↓WO_if, undefA, undK_bool, condK_true, f19, panK_int, f4, panK_row, aop_len0, lenA_row, aop_bin, abin, isShift, kindBeq, aint, cond_true, cond_false, aop_pick, ↓WC_cond, Bool.not_true, condK_false, ↓WC_skip]
  · refine condK_dec ?_ ?_ <;> intro c2 <;> simp (disch := omega) only [↓WC_exit, ↓thenK_exit, ↓blkK_exit, nat_ne, ↓reduceIte, dect, ↓WC_skip, ↓thenK_norm, decf]
    · exact hQ _ _
    have hil : i < told.length := by omega
    by_cases c4 : 0 < (told.getD i []).length
    · simp (disch := omega) only [↓e7_19, a7_19, ↓WC_seq, ↓WC_reg, ↓WO_cons, aop_mv, AX.ev, get_cons', nat_ne, ↓reduceIte, f19, Fr.put, AllK_one, panK_int, f4, panK_row, aop_len0, withS, lenA_row, aop_bin, abin, isShift, kindBeq, aint, dect, cond_true, cond_false, panK_bool, ↓WO_if, undefA, undK_bool, condK_true, aop_ixs, ixs_row, Int.toNat_natCast, Nat.mul_one, panK_fp, aop_ld1, ld1_fp, rows_get, aop_pick, ↓WO_nil, ↓thenK_norm, ↓e7_20, a7_20, ↓WC_cond]
      refine plays_tell (told := told) (va := va) (vb := vb) (vm := vm) (i := i) (a := a) hL ha (hgt hil) f4 f11 f15 f17 f19 rfl g13 gb3 hp3 gw h1a hab h1b hbm (fun F' S' => ?_) fun F' S' a' ha' h4 h11 h15 h17 h19 h1 hb' hp' hw' => ?_
      · simp (disch := omega) only [↓blkK_exit, nat_ne, ↓reduceIte, ↓thenK_exit]
        exact hQ _ _
      · simp (disch := omega) only [↓blkK_norm, ↓thenK_norm, h19, panK_int, ↓WO_cons, aop_bin, withS, abin, AX.ev, get_cons', ↓reduceIte, isShift, kindBeq, aint, wrap64_id, cond_true, cond_false, Fr.put, AllK_one, aop_mv, ↓WO_nil, nat_ne]
        exact ⟨k - 1, by omega, i + 1, a', by omega, ha', h4, h11, h15, h17, rfl, h1, hb', hp', hw'⟩
    · simp (disch := omega) only [↓e7_19, a7_19, ↓WC_seq, ↓WC_reg, ↓WO_cons, aop_mv, AX.ev, get_cons', nat_ne, ↓reduceIte, f19, Fr.put, AllK_one, panK_int, f4, panK_row, aop_len0, withS, lenA_row, aop_bin, abin, isShift, kindBeq, aint, dect, cond_true, cond_false, panK_bool, ↓WO_if, undefA, undK_bool, condK_true, aop_ixs, ixs_row, Int.toNat_natCast, Nat.mul_one, panK_fp, aop_ld1, ld1_fp, rows_get, decf, aop_pick, ↓WO_nil, ↓thenK_norm, ↓e7_20, a7_20, ↓WC_cond, condK_false, aop_ldn, f11, ldn_ptr, g13, ldlO_cells, ble_dec, Nat.le_refl, decide_true, Bool.and_true, Nat.zero_add, List.drop_zero, List.take_succ_cons, List.take_zero, Option.map_some, panK_agg, aop_call, AX.evs, call_giv G37_57, runS, pureG_eq, AV.scalL, AV.scalar, scal_ints, sp2, de_Me, de_R0, Option.bind_some, spK_some, panK_tup, aop_xt, List.getElem?_cons_zero, List.getElem?_cons_succ]
      refine plays_tell (told := told) (va := va) (vb := vb) (vm := vm) (i := i) (a := a) hL ha hgr f4 f11 f15 f17 f19 rfl g13 gb3 hp3 gw h1a hab h1b hbm (fun F' S' => ?_) fun F' S' a' ha' h4 h11 h15 h17 h19 h1 hb' hp' hw' => ?_
      · simp (disch := omega) only [↓blkK_exit, nat_ne, ↓reduceIte, ↓thenK_exit]
        exact hQ _ _
      · simp (disch := omega) only [↓blkK_norm, ↓thenK_norm, h19, panK_int, ↓WO_cons, aop_bin, withS, abin, AX.ev, get_cons', ↓reduceIte, isShift, kindBeq, aint, wrap64_id, cond_true, cond_false, Fr.put, AllK_one, aop_mv, ↓WO_nil, nat_ne]
        exact ⟨k - 1, by omega, i + 1, a', by omega, ha', h4, h11, h15, h17, rfl, h1, hb', hp', hw'⟩
  · by_cases hil : i < told.length
    · by_cases c4 : 0 < (told.getD i []).length
      · simp (disch := omega) only [↓e7_19, a7_19, ↓WC_seq, ↓WC_reg, ↓WO_cons, aop_mv, AX.ev, get_cons', nat_ne, ↓reduceIte, f19, Fr.put, AllK_one, panK_int, f4, panK_row, aop_len0, withS, lenA_row, aop_bin, abin, isShift, kindBeq, aint, dect, cond_true, cond_false, panK_bool, ↓WO_if, undefA, undK_bool, condK_true, aop_ixs, ixs_row, Int.toNat_natCast, Nat.mul_one, panK_fp, aop_ld1, ld1_fp, rows_get, aop_pick, ↓WO_nil, ↓thenK_norm, ↓e7_20, a7_20, ↓WC_cond]
        refine plays_tell (told := told) (va := va) (vb := vb) (vm := vm) (i := i) (a := a) hL ha (hgt hil) f4 f11 f15 f17 f19 rfl g13 gb3 hp3 gw h1a hab h1b hbm (fun F' S' => ?_) fun F' S' a' ha' h4 h11 h15 h17 h19 h1 hb' hp' hw' => ?_
        · simp (disch := omega) only [↓blkK_exit, nat_ne, ↓reduceIte, ↓thenK_exit]
          exact hQ _ _
        · simp (disch := omega) only [↓blkK_norm, ↓thenK_norm, h19, panK_int, ↓WO_cons, aop_bin, withS, abin, AX.ev, get_cons', ↓reduceIte, isShift, kindBeq, aint, wrap64_id, cond_true, cond_false, Fr.put, AllK_one, aop_mv, ↓WO_nil, nat_ne]
          exact ⟨k - 1, by omega, i + 1, a', by omega, ha', h4, h11, h15, h17, rfl, h1, hb', hp', hw'⟩
      · simp (disch := omega) only [↓e7_19, a7_19, ↓WC_seq, ↓WC_reg, ↓WO_cons, aop_mv, AX.ev, get_cons', nat_ne, ↓reduceIte, f19, Fr.put, AllK_one, panK_int, f4, panK_row, aop_len0, withS, lenA_row, aop_bin, abin, isShift, kindBeq, aint, dect, cond_true, cond_false, panK_bool, ↓WO_if, undefA, undK_bool, condK_true, aop_ixs, ixs_row, Int.toNat_natCast, Nat.mul_one, panK_fp, aop_ld1, ld1_fp, rows_get, decf, aop_pick, ↓WO_nil, ↓thenK_norm, ↓e7_20, a7_20, ↓WC_cond, condK_false, aop_ldn, f11, ldn_ptr, g13, ldlO_cells, ble_dec, Nat.le_refl, decide_true, Bool.and_true, Nat.zero_add, List.drop_zero, List.take_succ_cons, List.take_zero, Option.map_some, panK_agg, aop_call, AX.evs, call_giv G37_57, runS, pureG_eq, AV.scalL, AV.scalar, scal_ints, sp2, de_Me, de_R0, Option.bind_some, spK_some, panK_tup, aop_xt, List.getElem?_cons_zero, List.getElem?_cons_succ]
        refine plays_tell (told := told) (va := va) (vb := vb) (vm := vm) (i := i) (a := a) hL ha hgr f4 f11 f15 f17 f19 rfl g13 gb3 hp3 gw h1a hab h1b hbm (fun F' S' => ?_) fun F' S' a' ha' h4 h11 h15 h17 h19 h1 hb' hp' hw' => ?_
        · simp (disch := omega) only [↓blkK_exit, nat_ne, ↓reduceIte, ↓thenK_exit]
          exact hQ _ _
        · simp (disch := omega) only [↓blkK_norm, ↓thenK_norm, h19, panK_int, ↓WO_cons, aop_bin, withS, abin, AX.ev, get_cons', ↓reduceIte, isShift, kindBeq, aint, wrap64_id, cond_true, cond_false, Fr.put, AllK_one, aop_mv, ↓WO_nil, nat_ne]
          exact ⟨k - 1, by omega, i + 1, a', by omega, ha', h4, h11, h15, h17, rfl, h1, hb', hp', hw'⟩
    · simp (disch := omega) only [↓e7_19, a7_19, ↓WC_seq, ↓WC_reg, ↓WO_cons, aop_mv, AX.ev, get_cons', nat_ne, ↓reduceIte, f19, Fr.put, AllK_one, panK_int, f4, panK_row, aop_len0, withS, lenA_row, aop_bin, abin, isShift, kindBeq, aint, decf, cond_true, cond_false, panK_bool, ↓WO_if, undefA, undK_bool, condK_false, aop_pick, ↓WO_nil, ↓thenK_norm, ↓e7_20, a7_20, ↓WC_cond, aop_ldn, f11, ldn_ptr, g13, ldlO_cells, ble_dec, Nat.le_refl, decide_true, Bool.and_true, Nat.zero_add, List.drop_zero, List.take_succ_cons, List.take_zero, Option.map_some, panK_agg, aop_call, AX.evs, call_giv G37_57, runS, pureG_eq, AV.scalL, AV.scalar, scal_ints, sp2, de_Me, de_R0, Option.bind_some, spK_some, panK_tup, aop_xt, List.getElem?_cons_zero, List.getElem?_cons_succ]
      refine plays_tell (told := told) (va := va) (vb := vb) (vm := vm) (i := i) (a := a) hL ha hgr f4 f11 f15 f17 f19 rfl g13 gb3 hp3 gw h1a hab h1b hbm (fun F' S' => ?_) fun F' S' a' ha' h4 h11 h15 h17 h19 h1 hb' hp' hw' => ?_
      · simp (disch := omega) only [↓blkK_exit, nat_ne, ↓reduceIte, ↓thenK_exit]
        exact hQ _ _
      · simp (disch := omega) only [↓blkK_norm, ↓thenK_norm, h19, panK_int, ↓WO_cons, aop_bin, withS, abin, AX.ev, get_cons', ↓reduceIte, isShift, kindBeq, aint, wrap64_id, cond_true, cond_false, Fr.put, AllK_one, aop_mv, ↓WO_nil, nat_ne]
        exact ⟨k - 1, by omega, i + 1, a', by omega, ha', h4, h11, h15, h17, rfl, h1, hb', hp', hw'⟩
end Go.Proofs.Ytednmmcdjhfflaa.Vai
