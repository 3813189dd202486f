/- The law RivestPlays. -/
import Derived.Test.YtednmmcdjhfflaaR18
namespace Go.Proofs.Ytednmmcdjhfflaa.Vai
open Go
set_option linter.unusedVariables false
set_option linter.unusedSimpArgs false
theorem aeq_nn : aeq .ptr .nilp .nilp = some true := rfl
theorem aeq_pn {v g o e : Nat} : aeq .ptr (.ptr v g o e) .nilp = some false := rfl
theorem de_machV {z : Nat} {m : Mach} : (cMa z).de (machV z m) = some m := by
  show (cMa z).de (.agg [_, _, _, _, rowI z m.nx, rowI z m.ot]) = _
  rw [de_Me, de_R (Nat.le_refl z), de_R (Nat.le_refl z)]; rfl
theorem lowS_mk {l : List (Nat × AObj)} {N : Nat} (h : ∀ p ∈ l, p.1 < N ∧ p.2.low N) : LowS (mkS l N) := by
  have key : ∀ (l : List (Nat × AObj)), (∀ p ∈ l, p.1 < N ∧ p.2.low N) → ∀ v o, (mkS l N).get v = some o → v < N ∧ o.low N := by
    intro l
    induction l with
    | nil => intro _ v o h; rw [mkS_nil] at h; cases h
    | cons p l ih =>
      intro h v o ho
      obtain ⟨u, ob⟩ := p
      rw [mkS_cons] at ho
      split at ho
      · rename_i e; subst e; cases ho; exact h _ List.mem_cons_self
      · exact ih (fun q hq => h q (List.mem_cons_of_mem _ hq)) v o ho
  exact ⟨fun v o ho => (key l h v o ho).1, fun v o hv ho => (key l h v o ho).2⟩
theorem low_mcells {N : Nat} {m : Mach} : (AObj.cells (mcells m.kind m.K m.O m.N (rowI 1 m.nx) (rowI 1 m.ot)) 6 0 0 false false).low N := by
  show AV.lowL N _ = true
  simp only [AV.lowL, AV.low, lowL_ints, Bool.and_self]
set_option maxRecDepth 16000 in
set_option maxHeartbeats 8000000 in
theorem plays_ok {how : Int} {h m : Mach} {acc told : List (List Int)} {w : List Int} (hi1 : InR h.nx) (hi2 : InR h.ot) (ha : acc.length ≤ 9223372036854775807) (hw : w.length ≤ 9223372036854775807) (hto : ∀ u ∈ told, u.length ≤ 9223372036854775807) :
    PureOk P 7 [.int .i64 how, machV 1 h, rowW 1 acc, rowI 1 w, rowW 1 told, machV 1 m] (.bool true) := by
  refine pure_runS fn7 rfl ?_
  obtain ⟨d, hd⟩ : ∃ d : Nat, d = 0 := ⟨0, rfl⟩
  have step := fun {b1 b2 : AC} {F : Fr} {S : AS} {Q : AE → Fr → AS → Prop} => WS.step (a := b1) (b := b2) (F := F) (S := S) (Q := Q) orders G37_fine (kp := kpN) (L := 5000) (d := d + 1 + 1 + 1 + 1)
  have ofwc := fun {c : AC} {F : Fr} {S : AS} {Q : AE → Fr → AS → Prop} => WS.of_wc (c := c) (F := F) (S := S) (Q := Q) orders G37_fine (kp := kpN) (L := 5000) (d := d + 1 + 1 + 1 + 1)
  have gm : acc.length ≤ 9223372036854775807 ∧ w.length ≤ 9223372036854775807 := ⟨ha, hw⟩
  have dh : (cMa 0).de (machV 1 h) = some h := by
    show (cMa 0).de (.agg [_, _, _, _, rowI 1 h.nx, rowI 1 h.ot]) = _
    rw [de_Me, de_R (Nat.zero_le 1), de_R (Nat.zero_le 1)]; rfl
  have dm : (cMa 0).de (machV 1 m) = some m := by
    show (cMa 0).de (.agg [_, _, _, _, rowI 1 m.nx, rowI 1 m.ot]) = _
    rw [de_Me, de_R (Nat.zero_le 1), de_R (Nat.zero_le 1)]; rfl
  by_cases b1 : muchB h acc w = true
  · refine ofwc ?_
    simp (disch := omega) only [↓e7, a7, params, Nat.zero_add, Nat.reduceAdd, ↓e7_1, a7_1, ↓e7_2, a7_2, ↓e7_3, a7_3, ↓e7_4, a7_4, ↓e7_5, a7_5, ↓e7_6, a7_6, ↓e7_8, a7_8, ↓e7_9, a7_9, ↓WC_seq, ↓WC_reg, ↓WO_cons, aop_call, AX.evs, call_giv G37_44, liveS, pureG_eq, AV.scalL, sp0, spK_some, cond_true, Fr.put, AllK_one, panK_bool, aop_mv, AX.ev, get_cons', ↓reduceIte, ↓WO_nil, ↓thenK_norm, ↓WC_ret, ↓endP_ret, resV, Option.map_some, Option.some.injEq, resOne, exists_eq_left', panK_int, aop_ldn, withS, aop_box, nat_ne, cells_agg, E0_n, List.length_cons, List.length_nil, AS.newRow, panK_ptr, AS.n_push, ldn_ptr, AS.get_push, ldlO_cells, ble_dec, Nat.le_refl, decide_true, Bool.and_true, List.drop_zero, List.take_succ_cons, List.take_zero, panK_agg, panK_row, call_giv G37_43, muchS, AV.scalar, scal_ints, scal_rows, sp3, dh, de_W0, de_R0, Option.bind_some, gd_pos gm, b1, ↓WO_unless, undefA, undK_bool, condK_true, aop_pick, ↓WC_cond, ↓thenK_ret]
    exact Frz.scal rfl
  have b1' : muchB h acc w = false := by simpa using b1
  by_cases b2 : told.length > 60
  · refine ofwc ?_
    simp (disch := omega) only [↓e7, a7, params, Nat.zero_add, Nat.reduceAdd, ↓e7_1, a7_1, ↓e7_2, a7_2, ↓e7_3, a7_3, ↓e7_4, a7_4, ↓e7_5, a7_5, ↓e7_6, a7_6, ↓e7_8, a7_8, ↓e7_9, a7_9, ↓WC_seq, ↓WC_reg, ↓WO_cons, aop_call, AX.evs, call_giv G37_44, liveS, pureG_eq, AV.scalL, sp0, spK_some, cond_true, Fr.put, AllK_one, panK_bool, aop_mv, AX.ev, get_cons', ↓reduceIte, ↓WO_nil, ↓thenK_norm, ↓WC_ret, ↓endP_ret, resV, Option.map_some, Option.some.injEq, resOne, exists_eq_left', panK_int, aop_ldn, withS, aop_box, nat_ne, cells_agg, E0_n, List.length_cons, List.length_nil, AS.newRow, panK_ptr, AS.n_push, ldn_ptr, AS.get_push, ldlO_cells, ble_dec, Nat.le_refl, decide_true, Bool.and_true, List.drop_zero, List.take_succ_cons, List.take_zero, panK_agg, panK_row, call_giv G37_43, muchS, AV.scalar, scal_ints, scal_rows, sp3, dh, de_W0, de_R0, Option.bind_some, gd_pos gm, b1', ↓WO_unless, undefA, undK_bool, condK_false, aop_len0, lenA_row, aop_bin, abin, isShift, kindBeq, aint, dect, cond_false, aop_pick, condK_true, ↓WC_cond, ↓thenK_ret]
    exact Frz.scal rfl
  by_cases b3 : m.N > 20 ∨ (m.nx.length : Int) > 70000 ∨ (m.ot.length : Int) > 70000
  · refine ofwc ?_
    have b3' := eq_true b3
    simp (disch := omega) only [↓e7, a7, params, Nat.zero_add, Nat.reduceAdd, ↓e7_1, a7_1, ↓e7_2, a7_2, ↓e7_3, a7_3, ↓e7_4, a7_4, ↓e7_5, a7_5, ↓e7_6, a7_6, ↓e7_8, a7_8, ↓e7_9, a7_9, ↓WC_seq, ↓WC_reg, ↓WO_cons, aop_call, AX.evs, call_giv G37_44, liveS, pureG_eq, AV.scalL, sp0, spK_some, cond_true, Fr.put, AllK_one, panK_bool, aop_mv, AX.ev, get_cons', ↓reduceIte, ↓WO_nil, ↓thenK_norm, ↓WC_ret, ↓endP_ret, resV, Option.map_some, Option.some.injEq, resOne, exists_eq_left', panK_int, aop_ldn, withS, aop_box, nat_ne, cells_agg, E0_n, List.length_cons, List.length_nil, AS.newRow, panK_ptr, AS.n_push, ldn_ptr, AS.get_push, ldlO_cells, ble_dec, Nat.le_refl, decide_true, Bool.and_true, List.drop_zero, List.take_succ_cons, List.take_zero, panK_agg, panK_row, call_giv G37_43, muchS, AV.scalar, scal_ints, scal_rows, sp3, dh, de_W0, de_R0, Option.bind_some, gd_pos gm, b1', ↓WO_unless, undefA, undK_bool, condK_false, aop_len0, lenA_row, aop_bin, abin, isShift, kindBeq, aint, decf, cond_false, aop_pick, call_giv G37_33, bigS, sp2, dm, de_I, b3', ↓WC_cond, condK_true, ↓thenK_ret]
    exact Frz.scal rfl
  have b3' := eq_false b3
  have hbd : h.nx.length ≤ 70000 ∧ h.ot.length ≤ 70000 ∧ acc.length ≤ 30 ∧ (w.length ≤ 40 ∨ 4096 < w.length) ∧ w.length ≤ 5000 := by
    unfold muchB at b1'
    simp only [Bool.or_eq_false_iff, Bool.and_eq_false_iff, decide_eq_false_iff_not] at b1'
    obtain ⟨⟨⟨⟨c1, c2⟩, c3⟩, c4⟩, _⟩ := b1'
    omega
  obtain ⟨n1, n2, n3, n4, n5⟩ := hbd
  have gc : h.nx.length ≤ 1000000000000 ∧ h.ot.length ≤ 1000000000000 := ⟨by omega, by omega⟩
  refine step ?_
  simp (disch := omega) only [a7, params, Nat.zero_add, Nat.reduceAdd, ↓WC_reg, ↓WO_cons, aop_box, AX.ev, get_cons', nat_ne, ↓reduceIte, cells_agg, E0_n, List.length_cons, List.length_nil, AS.newRow, Fr.put, AllK_one, panK_ptr, AS.n_push, aop_mv, panK_bool, ↓WO_nil, ↓thenK_norm]
  refine step ?_
  simp (disch := omega) only [a7_1, ↓WC_seq, ↓WC_reg, ↓WO_cons, aop_ldn, withS, AX.ev, get_cons', nat_ne, ↓reduceIte, ldn_ptr, AS.get_push, AS.n_push, E0_n, Nat.zero_add, ldlO_cells, ble_dec, Nat.le_refl, decide_true, Bool.and_true, List.drop_zero, List.take_succ_cons, List.take_zero, cond_true, Option.map_some, Fr.put, AllK_one, panK_agg, aop_mv, panK_row, aop_call, AX.evs, call_giv G37_43, muchS, pureG_eq, AV.scalL, AV.scalar, scal_ints, scal_rows, sp3, dh, de_W0, de_R0, Option.bind_some, gd_pos gm, b1', spK_some, panK_bool, ↓WO_unless, undefA, undK_bool, condK_false, aop_len0, lenA_row, panK_int, aop_bin, abin, isShift, kindBeq, aint, decf, cond_false, aop_pick, call_giv G37_33, bigS, sp2, dm, de_I, b3', decide_false, ↓WO_nil, ↓thenK_norm, ↓WC_cond, ↓WC_skip]
  refine step ?_
  simp (disch := omega) only [a7_2, ↓WC_reg, ↓WO_cons, aop_ldn, withS, AX.ev, get_cons', nat_ne, ↓reduceIte, ldn_ptr, AS.get_push, AS.n_push, E0_n, Nat.zero_add, ldlO_cells, ble_dec, Nat.le_refl, decide_true, Bool.and_true, List.drop_zero, List.take_succ_cons, List.take_zero, cond_true, Option.map_some, Fr.put, AllK_one, panK_agg, aop_call, AX.evs, call_giv G37_45, mcopyS, pureG_eq, AV.scalL, AV.scalar, scal_ints, sp1, dh, Option.bind_some, gd_pos gc, spK_some, aop_mv, panK_row]
  refine lent_all (by (repeat' first | exact Wf.E0 | apply Wf.push)) (by omega) fun S1 u g lo op q1 q2 q3 q4 q5 => ?_
  have hn1 := q5.n
  have k0 := q5.get 0 (by simp) (fun h => h)
  have k1 := q5.get 1 (by simp) (fun h => h)
  have hwf1 := q5.wf (by (repeat' first | exact Wf.E0 | apply Wf.push))
  simp (disch := omega) only [panK_slice, ↓WO_cons, aop_alloc, List.length_cons, List.length_nil, Nat.zero_add, Nat.reduceAdd, AS.newRow, Fr.put, AllK_one, panK_ptr, aop_st, AS.st, AX.ev, get_cons', ↓reduceIte, nat_ne, cells_agg, beq_dec, decide_true, stl_get, AS.get_push, stO_cells, ble_dec, Nat.le_refl, Bool.and_true, List.all_cons, one_int, one_row, List.all_nil, setL, consS_eq, cond_true, Option.map_some, undefA, panK_tup, aop_mv, ↓WO_nil, ↓thenK_norm]
  have hu1 : 2 ≤ u := by simpa [E0_n] using q3
  generalize hS2 : AS.put (AS.push S1 _) S1.n _ = S2
  have z0 : S2.get 0 = some (.cells (mcells h.kind h.K h.O h.N (rowI 1 h.nx) (rowI 1 h.ot)) 6 0 0 false false) := by
    rw [← hS2, AS.get_put, if_neg (by omega), AS.get_push, if_neg (by omega), k0]; simp (disch := omega) only [AS.get_push, AS.n_push, E0_n, Nat.zero_add, nat_ne, ↓reduceIte]
  have z1 : S2.get 1 = some (.cells (mcells m.kind m.K m.O m.N (rowI 1 m.nx) (rowI 1 m.ot)) 6 0 0 false false) := by
    rw [← hS2, AS.get_put, if_neg (by omega), AS.get_push, if_neg (by omega), k1]; simp (disch := omega) only [AS.get_push, AS.n_push, E0_n, Nat.zero_add, ↓reduceIte]
  have zu : S2.get u = some (.cells (lentC w) 1 g lo op false) := by
    rw [← hS2, AS.get_put, if_neg (by omega), AS.get_push, if_neg (by omega)]; exact q1
  have zv : S2.get S1.n = some (.cells (mcells h.kind h.K h.O h.N (rowI 1 h.nx) (rowI 1 h.ot)) 6 0 0 false false) := by
    rw [← hS2, AS.get_put, if_pos rfl]
  have zn : S2.n = S1.n + 1 := by rw [← hS2]; rfl
  clear hS2
  generalize hv : S1.n = v at *
  generalize hl : ([(0, .cells (mcells h.kind h.K h.O h.N (rowI 1 h.nx) (rowI 1 h.ot)) 6 0 0 false false), (1, .cells (mcells m.kind m.K m.O m.N (rowI 1 m.nx) (rowI 1 m.ot)) 6 0 0 false false), (u, .cells (lentC w) 1 g lo op false), (v, .cells (mcells h.kind h.K h.O h.N (rowI 1 h.nx) (rowI 1 h.ot)) 6 0 0 false false)] : List (Nat × AObj)) = l
  have hml : MkL S2 (mkS l S2.n) l := by
    rw [← hl]
    exact ⟨⟨_, z0, WkO.refl⟩, ⟨_, z1, WkO.refl⟩, ⟨_, zu, WkO.refl⟩, ⟨_, zv, WkO.refl⟩, trivial⟩
  refine WS.weak (Weak.to [(0, .int .i64 how), (2, rowW 1 acc), (3, rowI 1 w), (4, rowW 1 told), (7, .ptr 0 0 0 6), (11, .ptr 1 0 0 6), (13, .ptr v 0 0 6), (14, .slice u g 0 w.length none 1), (12, .bool false)] l ⟨FrD.refl, FrD.refl, FrD.refl, FrD.refl, FrD.refl, FrD.refl, FrD.refl, FrD.refl, FrD.refl, trivial⟩ hml) ?_
  have y0 : (mkS l S2.n).get 0 = some (.cells (mcells h.kind h.K h.O h.N (rowI 1 h.nx) (rowI 1 h.ot)) 6 0 0 false false) := by rw [← hl, mkS_cons, if_pos rfl]
  have y1 : (mkS l S2.n).get 1 = some (.cells (mcells m.kind m.K m.O m.N (rowI 1 m.nx) (rowI 1 m.ot)) 6 0 0 false false) := by rw [← hl, mkS_cons, if_neg (by decide), mkS_cons, if_pos rfl]
  have yu : (mkS l S2.n).get u = some (.cells (lentC w) 1 g lo op false) := by rw [← hl, mkS_cons, if_neg (by omega), mkS_cons, if_neg (by omega), mkS_cons, if_pos rfl]
  have yv : (mkS l S2.n).get v = some (.cells (mcells h.kind h.K h.O h.N (rowI 1 h.nx) (rowI 1 h.ot)) 6 0 0 false false) := by rw [← hl, mkS_cons, if_neg (by omega), mkS_cons, if_neg (by omega), mkS_cons, if_neg (by omega), mkS_cons, if_pos rfl]
  have hlow : LowS (mkS l S2.n) := lowS_mk (by
    rw [← hl]
    intro p hp
    simp only [List.mem_cons, List.not_mem_nil, or_false] at hp
    rcases hp with rfl | rfl | rfl | rfl
    · exact ⟨by show 0 < S2.n; omega, low_mcells⟩
    · exact ⟨by show 1 < S2.n; omega, low_mcells⟩
    · exact ⟨by show u < S2.n; omega, lowL_ints⟩
    · exact ⟨by show v < S2.n; omega, low_mcells⟩)
  have yn : (mkS l S2.n).n = v + 1 := zn
  have hwfM : Wf (mkS l S2.n) := hlow.lt
  generalize hM : mkS l S2.n = M at *
  clear hl hml z0 z1 zu zv
  have hyw : YW M (.slice u g 0 w.length none 1) w := .inr ⟨⟨u, g, rfl⟩, by show Nat.blt u M.n = true; rw [blt_dec]; exact decide_eq_true (by omega), frz_lent yu q2 rfl⟩
  have hnew := pnewG_pos (how := how) (h := machV 1 h) (ac := rowW 1 acc) (m := h) (acc := acc) de_machV de_W1 hyw hlow (by omega) hi1 hi2 (by omega)
  refine step ?_
  simp (disch := omega) only [a7_3, ↓WC_reg, ↓WO_cons, aop_mv, AX.ev, get_cons', ↓reduceIte, Fr.put, AllK_one, panK_int, aop_ldn, withS, nat_ne, ldn_ptr, yv, ldlO_cells, ble_dec, Nat.le_refl, decide_true, Bool.and_true, Nat.zero_add, List.drop_zero, List.take_succ_cons, List.take_zero, cond_true, Option.map_some, panK_agg, panK_row, panK_slice, aop_call, AX.evs, call_giv G37_46]
  refine AllK.st (R := fun r S' => r = (pnewO how h acc w M).1 ∧ S' = (pnewO how h acc w M).2) ⟨_, _, hnew, rfl, rfl⟩ ?_
  rintro r S' ⟨rfl, rfl⟩
  have gr : acc.length ≤ 100000 := by omega
  have dh1 : (cMa 1).de (machV 1 h) = some h := de_machV
  by_cases c1 : rnewE how h acc w = 0
  rotate_left
  · have hO : pnewO how h acc w M = (.tup [.nilp, .int .i64 (rnewE how h acc w)], M) := by unfold pnewO; rw [if_neg c1]
    rw [hO]
    have c1' : (rnewE how h acc w = 0) = False := eq_false c1
    refine ofwc ?_
    have dM : (cMa 0).de (.agg (mcells h.kind h.K h.O h.N (rowI 1 h.nx) (rowI 1 h.ot))) = some h := dh
    have dM1 : (cMa 1).de (.agg (mcells h.kind h.K h.O h.N (rowI 1 h.nx) (rowI 1 h.ot))) = some h := dh1
    simp (disch := omega) only [↓e7_4, a7_4, Fr.put, AX.ev, get_cons', ↓reduceIte, nat_ne, ↓e7_5, a7_5, ↓e7_6, a7_6, ↓e7_8, a7_8, ↓e7_9, a7_9, ↓WC_seq, ↓WC_reg, ↓WO_cons, aop_call, AX.evs, call_giv G37_44, liveS, pureG_eq, AV.scalL, sp0, spK_some, cond_true, AllK_one, panK_bool, aop_mv, ↓WO_nil, ↓thenK_norm, ↓WC_ret, ↓endP_ret, resV, Option.map_some, Option.some.injEq, resOne, exists_eq_left', panK_int, aop_ldn, withS, ldn_ptr, y0, ldlO_cells, ble_dec, Nat.le_refl, decide_true, Bool.and_true, Nat.zero_add, List.drop_zero, List.take_succ_cons, List.take_zero, panK_agg, panK_row, call_giv G37_47, rnewS, AV.scalar, scal_ints, scal_rows, sp4, de_I, dM1, de_W1, de_R1, Option.bind_some, gd_pos gr, panK_tup, aop_xt, List.getElem?_cons_zero, List.getElem?_cons_succ, aop_alloc, List.length_cons, List.length_nil, Nat.reduceAdd, AS.newRow, panK_ptr, aop_st, AS.st, cells_agg, beq_dec, stl_get, AS.get_push, stO_cells, List.all_cons, one_int, one_row, one_bool, List.all_nil, setL, consS_eq, undefA, call_giv G37_48, numS, sp1, aop_bin, abin, isShift, kindBeq, aint, ine_dec, Bool.not_true, cond_false, ↓WO_unless, undK_bool, condK_false, AS.get_put, yv, call_giv G37_49, msameS, sp2, dM, gd_pos gc, aop_un, aun, aop_pick, panK_slice]
    refine kept_all (w := w) (lo := lo) (op := op) (by simp (disch := omega) only [AS.get_put, nat_ne, ↓reduceIte, AS.get_push]; exact yu) q2 (by omega) ?_
    simp (disch := omega) only [panK_bool, ↓WO_unless, get_cons', nat_ne, ↓reduceIte, undefA, Fr.put, undK_bool, condK_false, aop_un, withS, aun, AX.ev, Bool.not_true, AllK_one, ↓WO_cons, aop_pick, ↓WO_nil, ↓thenK_norm, ↓WC_cond, ↓WC_skip, panK_int, aop_bin, abin, isShift, kindBeq, aint, ine_dec, c1', decide_false, Bool.not_false, cond_true, cond_false, ↓e7_7, a7_7, condK_true, ↓WC_seq, ↓WC_reg, aop_mv, panK_nilp, aop_eq, aeq_nn, ↓WO_if, aop_call, AX.evs, call_giv G37_44, liveS, pureG_eq, AV.scalL, sp0, spK_some, ↓WC_ret, ↓thenK_ret, ↓endP_ret, resV, Option.map_some, Option.some.injEq, resOne, exists_eq_left']
    exact Frz.scal rfl
  · have hO : pnewO how h acc w M = (.tup [.ptr (M.n + 1) 0 0 14, .int .i64 0], (⟨M.objs, M.n + 1, M.mw⟩ : AS).push (.cells (paV (M.n + 1) how h acc w) 14 0 0 false false)) := by unfold pnewO; rw [if_pos c1]
    rw [hO]
    have hg2 : ∀ u, ((⟨M.objs, M.n + 1, M.mw⟩ : AS).push (.cells (paV (M.n + 1) how h acc w) 14 0 0 false false)).get u = if u = M.n + 1 then some (.cells (paV (M.n + 1) how h acc w) 14 0 0 false false) else M.get u := fun u => AS.get_push _ _ _
    have hn2 : ((⟨M.objs, M.n + 1, M.mw⟩ : AS).push (.cells (paV (M.n + 1) how h acc w) 14 0 0 false false)).n = M.n + 2 := rfl
    generalize hM2 : (⟨M.objs, M.n + 1, M.mw⟩ : AS).push (.cells (paV (M.n + 1) how h acc w) 14 0 0 false false) = M2 at *
    have x0 : M2.get 0 = _ := (hg2 0).trans ((if_neg (by omega)).trans y0)
    have x1 : M2.get 1 = _ := (hg2 1).trans ((if_neg (by omega)).trans y1)
    have xu : M2.get u = _ := (hg2 u).trans ((if_neg (by omega)).trans yu)
    have xv : M2.get v = _ := (hg2 v).trans ((if_neg (by omega)).trans yv)
    have xa : M2.get (M.n + 1) = some (.cells (paV (M.n + 1) how h acc w) 14 0 0 false false) := by rw [hg2, if_pos rfl]
    have hwf2 : Wf M2 := fun u o ho => by
      rw [hg2] at ho
      rw [hn2]
      split at ho
      · omega
      · have := hwfM u o ho; omega
    clear hM2 hg2
    simp (disch := omega) only [panK_tup, ↓WO_cons, aop_mv, AX.ev, get_cons', ↓reduceIte, Fr.put, AllK_one, aop_xt, withS, List.getElem?_cons_zero, panK_ptr, nat_ne, List.getElem?_cons_succ, panK_int, ↓WO_nil, ↓thenK_norm]
    refine ofwc ?_
    have dM : (cMa 0).de (.agg (mcells h.kind h.K h.O h.N (rowI 1 h.nx) (rowI 1 h.ot))) = some h := dh
    have dM1 : (cMa 1).de (.agg (mcells h.kind h.K h.O h.N (rowI 1 h.nx) (rowI 1 h.ot))) = some h := dh1
    simp (disch := omega) only [↓e7_4, a7_4, ↓e7_5, a7_5, ↓e7_6, a7_6, ↓e7_8, a7_8, ↓e7_9, a7_9, ↓WC_seq, ↓WC_reg, ↓WO_cons, aop_call, AX.evs, call_giv G37_44, liveS, pureG_eq, AV.scalL, sp0, spK_some, cond_true, Fr.put, AllK_one, panK_bool, aop_mv, AX.ev, get_cons', ↓reduceIte, ↓WO_nil, ↓thenK_norm, ↓WC_ret, ↓endP_ret, resV, Option.map_some, Option.some.injEq, resOne, exists_eq_left', panK_int, nat_ne, aop_ldn, withS, ldn_ptr, x0, ldlO_cells, ble_dec, Nat.le_refl, decide_true, Bool.and_true, Nat.zero_add, List.drop_zero, List.take_succ_cons, List.take_zero, panK_agg, panK_row, call_giv G37_47, rnewS, AV.scalar, scal_ints, scal_rows, sp4, de_I, dM1, de_W1, de_R1, Option.bind_some, gd_pos gr, c1, panK_tup, aop_xt, List.getElem?_cons_zero, List.getElem?_cons_succ, aop_alloc, List.length_cons, List.length_nil, Nat.reduceAdd, AS.newRow, panK_ptr, aop_st, AS.st, cells_agg, beq_dec, stl_get, AS.get_push, stO_cells, List.all_cons, one_int, one_row, one_bool, List.all_nil, setL, consS_eq, undefA, call_giv G37_48, numS, sp1, aop_bin, abin, isShift, kindBeq, aint, ine_dec, Bool.not_true, cond_false, ↓WO_unless, undK_bool, condK_false, AS.get_put, xv, call_giv G37_49, msameS, sp2, dM, gd_pos gc, aop_un, aun, aop_pick, panK_slice]
    refine kept_all (w := w) (lo := lo) (op := op) (by simp (disch := omega) only [AS.get_put, nat_ne, ↓reduceIte, AS.get_push]; exact xu) q2 (by omega) ?_
    simp (disch := omega) only [panK_bool, ↓WO_unless, get_cons', nat_ne, ↓reduceIte, undefA, Fr.put, undK_bool, condK_false, aop_un, withS, aun, AX.ev, Bool.not_true, AllK_one, ↓WO_cons, aop_pick, ↓WO_nil, ↓thenK_norm, ↓WC_cond, ↓WC_skip, panK_int, aop_bin, abin, isShift, kindBeq, aint, ine_dec, decide_true, cond_true, cond_false, ↓e7_7, a7_7, panK_ptr, aop_eq, aeq_pn, Bool.not_false]
    have hr : rnew how h acc w = ⟨how, h, acc, w, [], sr0, false, false, 0⟩ := if_pos c1
    have hIv : (rnew how h acc w).Iv := RA.Iv.new c1 (by
      have : wordE w h.K = 0 := by
        unfold rnewE at c1
        (repeat' split at c1) <;> first | omega | simp_all
      have := (wordE_zero.mp this).2.2
      omega)
    refine plays_loop (a := rnew how h acc w) (m := m) (told := told) (va := M.n + 1) (vb := M2.n) (vm := M2.n + 1) (Nat.le_refl _) (by omega) hto hIv rfl rfl rfl rfl rfl ?_ ?_ ⟨?_, ?_, ?_, fun _ => ?_, fun q => ?_, fun q => ?_⟩ ?_ ?_ ?_ ?_ ?_ fun F S => ?_
    · rw [AS.get_put, if_neg (by omega), AS.get_push, if_neg (by omega)]; exact x1
    · rw [AS.get_put, if_pos rfl]
    · simp only [AS.n_put, AS.n_push]; omega
    · omega
    · simp only [AS.n_put, AS.n_push]; omega
    · rw [AS.get_put, if_neg (by omega), AS.get_push, if_neg (by omega), xa, hr]; rfl
    · rw [hr] at q; cases q
    · rw [hr] at q; cases q
    · exact Wf.put (hwf2.push _) (by rw [AS.n_push]; omega) _
    · omega
    · omega
    · omega
    · omega
    · exact Frz.scal rfl
end Go.Proofs.Ytednmmcdjhfflaa.Vai
