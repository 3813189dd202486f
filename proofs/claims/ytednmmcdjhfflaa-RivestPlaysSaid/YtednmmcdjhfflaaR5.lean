/- Texts of this claim, joined. -/
import Derived.Test.YtednmmcdjhfflaaR3
/- What an analysis has found, as the reference does. -/
namespace Go.Proofs.Ytednmmcdjhfflaa.Vai
open Go
set_option linter.unusedVariables false
set_option linter.unusedSimpArgs false
def RA.Fd (a : RA) : Prop := a.begun = true → a.spur = false → (srAsk a.s).2 = false → a.s.low + 1 < a.said.length ∧ a.s.low < a.w.length ∧ (a.said.getD a.s.low.toNat []).length ≤ 1000000000000 ∧ (a.h.kind = 1 ∨ (a.w.length : Int) - a.s.low - 1 ≤ (a.said.getD a.s.low.toNat []).length)
def RA.cut (a : RA) : Cut := ⟨a.at (a.s.low + 1), a.acc.getD (a.at a.s.low).toNat [] ++ (a.w.drop a.s.low.toNat).take 1, a.w.drop (a.s.low + 1).toNat, if a.s.low + 1 = a.said.length - 1 then a.mine (a.s.low + 1) else a.said.getD (a.s.low + 1).toNat [], endO a.h.kind (a.said.getD a.s.low.toNat []) (a.w.drop (a.s.low + 1).toNat).length⟩
def RA.found (a : RA) : Cut × Bool := if a.ask.2 = true ∨ a.spur = true then (⟨0, [], [], [], []⟩, false) else (a.cut, true)
noncomputable def rfoundS := sp1 (cRA 1) fun a => gd (a.Ok3 ∧ a.Fd) (.tup [cutV 1 a.found.1, .bool a.found.2])
theorem inz_cut {c : Cut} {b : Bool} : (AV.tup [cutV 1 c, .bool b]).inz 0 = true := by simp only [AV.inz, AV.inzL, inz_ints]; rfl
theorem Frz.cut {S : AS} {c : Cut} {x b b' : AV} (h : x = cutV 1 c) (he : b = b') (hb : b'.scalar = true) : Frz 1 S (.tup [x, b]) (.tup [cutV 1 c, b']) := by
  subst h; subst he
  exact Frz.tup ⟨Frz.agg ⟨Frz.scal rfl, Frz.rowI, Frz.rowI, Frz.rowI, Frz.rowI, trivial⟩, Frz.scal hb, trivial⟩
theorem Frz.cut0 {S : AS} {b : Bool} : Frz 1 S (.tup [.agg [.int .i64 0, .nils, .nils, .nils, .nils], .bool b]) (.tup [cutV 1 ⟨0, [], [], [], []⟩, .bool b]) :=
  Frz.tup ⟨Frz.agg ⟨Frz.scal rfl, Frz.nils 1 1, Frz.nils 1 1, Frz.nils 1 1, Frz.nils 1 1, trivial⟩, Frz.scal rfl, trivial⟩
set_option maxRecDepth 4000 in
set_option maxHeartbeats 4000000 in
theorem rfound_ok : PureS P 53 rfoundS := PureS.of1 fun a r hr => by
  obtain ⟨⟨hk, hf⟩, rfl⟩ := gd_say hr
  clear hr
  have hok2 := hk.ok2
  refine ⟨pure_run orders G23_fine (L := 1) (d := 1) fn53 rfl ?_, inz_cut⟩
  obtain ⟨how, ⟨k, K, o, n, nx, ot⟩, acc, w, said, ⟨s1, s2, s3, s4, s5, s6⟩, b1, b2, ak⟩ := a
  generalize ha : (RA.mk how ⟨k, K, o, n, nx, ot⟩ acc w said ⟨s1, s2, s3, s4, s5, s6⟩ b1 b2 ak) = a at *
  by_cases c1 : a.ask.2 = true ∨ a.spur = true
  · have hfd : a.found = (⟨0, [], [], [], []⟩, false) := by unfold RA.found; rw [if_pos c1]
    rw [hfd]
    by_cases c2 : a.ask.2 = true
    · subst ha
      simp (disch := omega) only [↓e53, a53, params, en_RA, ↓e53_1, a53_1, ↓e53_2, a53_2, ↓e53_3, a53_3, ↓e53_4, a53_4, ↓e53_5, a53_5, ↓e53_6, a53_6, ↓e53_7, a53_7, ↓e53_8, a53_8, ↓e53_10, a53_10, ↓WC_ret, ↓endP_ret, resV, Option.map_some, resOne, ↓WC_draw, ↓WD_cons, Fr.keep, aop_mv, AX.ev, get_cons', ↓reduceIte, sik, AOp.acts, AOp.reads, cond_false, List.all_nil, Nat.reduceAdd, Fr.put, One_one, ↓WC_seq, ↓WC_reg, ↓WO_cons, AllK_one, aop_fad, aop_ldn, withS, aop_box, cells_agg, E0_n, List.length_cons, List.length_nil, Nat.zero_add, AS.newRow, panK_ptr, aop_alloc, AS.n_push, panK_bool, ↓WO_nil, ↓thenK_norm, nat_ne, ldn_ptr, AS.get_push, ldlO_cells, ble_dec, Nat.le_refl, decide_true, Bool.and_true, List.drop_zero, List.take_succ_cons, List.take_zero, cond_true, panK_agg, aop_call, AX.evs, call_giv1 G23_51, raskS, pureG_eq, AV.scalL, AV.scalar, scal_ints, scal_rows, sp1, de_RA, de_R1, de_W, Option.bind_some, c2, gd_pos hok2, spK_some, panK_tup, aop_xt, List.getElem?_cons_zero, panK_row, List.getElem?_cons_succ, ↓WO_unless, undefA, undK_bool, condK_true, aop_pick, ↓WC_cond, aop_build, fillL, aop_st, AS.st, beq_dec, stl_get, stO_cells, List.all_cons, one_int, one_nils, setL, consS_eq, ↓thenK_ret, AS.get_put, Option.some.injEq, exists_eq_left']
      exact Frz.cut0
    · have c2' : a.ask.2 = false := by simpa using c2
      have c3 : a.spur = true := c1.resolve_left c2
      subst ha
      simp only at c3
      subst c3
      simp (disch := omega) only [↓e53, a53, params, en_RA, ↓e53_1, a53_1, ↓e53_2, a53_2, ↓e53_3, a53_3, ↓e53_4, a53_4, ↓e53_5, a53_5, ↓e53_6, a53_6, ↓e53_7, a53_7, ↓e53_8, a53_8, ↓e53_10, a53_10, ↓WC_ret, ↓endP_ret, resV, Option.map_some, resOne, ↓WC_draw, ↓WD_cons, Fr.keep, aop_mv, AX.ev, get_cons', ↓reduceIte, sik, AOp.acts, AOp.reads, cond_false, List.all_nil, Nat.reduceAdd, Fr.put, One_one, ↓WC_seq, ↓WC_reg, ↓WO_cons, AllK_one, aop_fad, aop_ldn, withS, aop_box, cells_agg, E0_n, List.length_cons, List.length_nil, Nat.zero_add, AS.newRow, panK_ptr, aop_alloc, AS.n_push, panK_bool, ↓WO_nil, ↓thenK_norm, nat_ne, ldn_ptr, AS.get_push, ldlO_cells, ble_dec, Nat.le_refl, decide_true, Bool.and_true, List.drop_zero, List.take_succ_cons, List.take_zero, cond_true, panK_agg, aop_call, AX.evs, call_giv1 G23_51, raskS, pureG_eq, AV.scalL, AV.scalar, scal_ints, scal_rows, sp1, de_RA, de_R1, de_W, Option.bind_some, c2', gd_pos hok2, spK_some, panK_tup, aop_xt, List.getElem?_cons_zero, panK_row, List.getElem?_cons_succ, ↓WO_unless, undefA, undK_bool, condK_false, aop_ld1, ld1_ptr, ldO_cells, blt_dec, Nat.reduceLT, aop_pick, ↓WC_cond, condK_true, aop_build, fillL, aop_st, AS.st, beq_dec, stl_get, stO_cells, List.all_cons, one_int, one_nils, setL, consS_eq, ↓thenK_ret, AS.get_put, Option.some.injEq, exists_eq_left']
      exact Frz.cut0
  have c2 : a.ask.2 = false := by simpa using fun h => c1 (.inl h)
  have c3 : a.spur = false := by simpa using fun h => c1 (.inr h)
  have c4 : a.begun = true := by
    cases hb : a.begun with
    | true => rfl
    | false => simp [RA.ask, hb] at c2
  have c5 : (srAsk a.s).2 = false := by
    cases hm : (srAsk a.s).2 with
    | false => rfl
    | true => simp [RA.ask, c4, c3, hm] at c2
  obtain ⟨p1, p2, p3, -⟩ := hok2.pl c4 c3
  obtain ⟨q1, q2, q3, q4⟩ := hf c4 c3 c5
  have hfd : a.found = (a.cut, true) := by unfold RA.found; rw [if_neg c1]
  rw [hfd]
  have hOk := hok2.ok
  have hwl := hOk.wl
  have gm : a.Ok ∧ 0 ≤ a.s.low + 1 ∧ a.s.low + 1 ≤ a.w.length := ⟨hOk, by omega, by omega⟩
  obtain ⟨r1, r2⟩ := hOk.at a.s.low
  obtain ⟨t1, t2⟩ := hOk.acc r1 r2
  have g2 : (a.acc.getD (a.at a.s.low).toNat []).length + ((a.w.drop a.s.low.toNat).take ((a.s.low + 1).toNat - a.s.low.toNat)).length ≤ 1000000000000 := by rw [List.length_take, List.length_drop]; omega
  have hal := hOk.al
  have hsd : a.said.length ≤ 4097 := by have := hk.sd c4 c3; omega
  simp only [RA.at] at r1 r2 g2
  unfold RA.cut
  simp only [RA.at]
  by_cases c6 : a.s.low + 1 = a.said.length - 1
  · rw [if_pos c6]
    subst ha
    simp only at c3 c4 c5 c6 p1 p2 p3 q1 q2 q3 q4 g2 r1 r2 hal hwl hsd
    have g1 : ∀ i : Nat, (Mach.mk k K o n nx ot).R ∧ InB (w.take i) K ∧ (0 : Int) ≤ 0 ∧ 0 < n ∧ (w.take i).length ≤ 1000000000000 := fun i => ⟨hOk.m, hOk.w.take _, by omega, hOk.m.n1, by have : w.length ≤ 4096 := hwl; rw [List.length_take]; omega⟩
    have g3 : (0 : Int) ≤ ((w.drop (s2 + 1).toNat).length : Int) ∧ (said.getD s2.toNat []).length ≤ 1000000000000 ∧ (k = 1 ∨ ((w.drop (s2 + 1).toNat).length : Int) ≤ (said.getD s2.toNat []).length) := by
      refine ⟨by omega, q3, ?_⟩
      rcases q4 with h | h
      · exact .inl h
      · right; rw [List.length_drop]; omega
    have e1 : (s2 + 1).toNat - s2.toNat = 1 := by omega
    subst c3; subst c4
    simp (disch := omega) only [↓e53, a53, params, en_RA, ↓e53_1, a53_1, ↓e53_2, a53_2, ↓e53_3, a53_3, ↓e53_4, a53_4, ↓e53_5, a53_5, ↓e53_6, a53_6, ↓e53_7, a53_7, ↓e53_8, a53_8, ↓e53_10, a53_10, ↓WC_ret, ↓endP_ret, resV, Option.map_some, resOne, ↓WC_draw, ↓WD_cons, Fr.keep, aop_mv, AX.ev, get_cons', ↓reduceIte, sik, AOp.acts, AOp.reads, cond_false, List.all_nil, Nat.reduceAdd, Fr.put, One_one, ↓WC_seq, ↓WC_reg, ↓WO_cons, AllK_one, aop_fad, aop_ldn, withS, aop_box, cells_agg, E0_n, List.length_cons, List.length_nil, Nat.zero_add, AS.newRow, panK_ptr, aop_alloc, AS.n_push, panK_bool, ↓WO_nil, ↓thenK_norm, nat_ne, ldn_ptr, AS.get_push, ldlO_cells, ble_dec, Nat.le_refl, decide_true, Bool.and_true, List.drop_zero, List.take_succ_cons, List.take_zero, cond_true, panK_agg, aop_call, AX.evs, call_giv1 G23_51, raskS, pureG_eq, AV.scalL, AV.scalar, scal_ints, scal_rows, sp1, de_RA, de_R1, de_W, Option.bind_some, c2, gd_pos hok2, spK_some, panK_tup, aop_xt, List.getElem?_cons_zero, panK_row, List.getElem?_cons_succ, ↓WO_unless, undefA, undK_bool, condK_false, aop_ld1, ld1_ptr, ldO_cells, blt_dec, Nat.reduceLT, aop_pick, ↓WC_cond, ↓WC_skip, panK_int, np_ptr, chkK_true, Nat.reduceLeDiff, List.drop_succ_cons, List.all_cons, np_agg, dchk_21, dchk_12, dchk_11, np_row, dchk_22, np_int, aop_slc, Option.map_none, slcI_hi, call_giv1 G23_41, goSp, sp3, de_Me, de_R0, de_I, gd_pos (g1 s2.toNat), np_tup, dchk_32, List.contains_cons, Nat.reduceBEq, beq_self_eq_true, List.contains_nil, Bool.or_false, Bool.or_true, same_eq, isSame_one, AV.beq, beq_dec, beqL_ints, dchk_31, AV.beqL, kindBeq, intBeq_self, dchk_13, ↓WD_nil, aop_bin, abin, isShift, aint, wrap64_id, gd_pos (g1 (s2 + 1).toNat), slcI_lo, aop_ixs, ixs_row, Nat.mul_one, panK_fp, ld1_fp, rows_get, aop_len0, lenA_row, ieq_dec, dect, ↓e53_9, a53_9, condK_true, call_giv1 G23_118, rmineS, sp2, gd_pos gm, np_fp, slcI_lh, call_giv1 G23_97, joinS, gd_pos g2, beqL_rows, dchk_23, call_giv1 G23_119, rendS, Int.toNat_natCast, gd_pos g3, dchk_33, aop_build, fillL, cells_int, cells_row, setL, consS_eq, aop_st, AS.st, stl_get, stO_cells, one_int, one_row, AS.get_put, np_bool, Option.some.injEq, exists_eq_left']
    rw [e1]
    exact Frz.cut rfl rfl rfl
  · rw [if_neg c6]
    subst ha
    simp only at c3 c4 c5 c6 p1 p2 p3 q1 q2 q3 q4 g2 r1 r2 hal hwl hsd
    have g1 : ∀ i : Nat, (Mach.mk k K o n nx ot).R ∧ InB (w.take i) K ∧ (0 : Int) ≤ 0 ∧ 0 < n ∧ (w.take i).length ≤ 1000000000000 := fun i => ⟨hOk.m, hOk.w.take _, by omega, hOk.m.n1, by have : w.length ≤ 4096 := hwl; rw [List.length_take]; omega⟩
    have g3 : (0 : Int) ≤ ((w.drop (s2 + 1).toNat).length : Int) ∧ (said.getD s2.toNat []).length ≤ 1000000000000 ∧ (k = 1 ∨ ((w.drop (s2 + 1).toNat).length : Int) ≤ (said.getD s2.toNat []).length) := by
      refine ⟨by omega, q3, ?_⟩
      rcases q4 with h | h
      · exact .inl h
      · right; rw [List.length_drop]; omega
    have e1 : (s2 + 1).toNat - s2.toNat = 1 := by omega
    subst c3; subst c4
    simp (disch := omega) only [↓e53, a53, params, en_RA, ↓e53_1, a53_1, ↓e53_2, a53_2, ↓e53_3, a53_3, ↓e53_4, a53_4, ↓e53_5, a53_5, ↓e53_6, a53_6, ↓e53_7, a53_7, ↓e53_8, a53_8, ↓e53_10, a53_10, ↓WC_ret, ↓endP_ret, resV, Option.map_some, resOne, ↓WC_draw, ↓WD_cons, Fr.keep, aop_mv, AX.ev, get_cons', ↓reduceIte, sik, AOp.acts, AOp.reads, cond_false, List.all_nil, Nat.reduceAdd, Fr.put, One_one, ↓WC_seq, ↓WC_reg, ↓WO_cons, AllK_one, aop_fad, aop_ldn, withS, aop_box, cells_agg, E0_n, List.length_cons, List.length_nil, Nat.zero_add, AS.newRow, panK_ptr, aop_alloc, AS.n_push, panK_bool, ↓WO_nil, ↓thenK_norm, nat_ne, ldn_ptr, AS.get_push, ldlO_cells, ble_dec, Nat.le_refl, decide_true, Bool.and_true, List.drop_zero, List.take_succ_cons, List.take_zero, cond_true, panK_agg, aop_call, AX.evs, call_giv1 G23_51, raskS, pureG_eq, AV.scalL, AV.scalar, scal_ints, scal_rows, sp1, de_RA, de_R1, de_W, Option.bind_some, c2, gd_pos hok2, spK_some, panK_tup, aop_xt, List.getElem?_cons_zero, panK_row, List.getElem?_cons_succ, ↓WO_unless, undefA, undK_bool, condK_false, aop_ld1, ld1_ptr, ldO_cells, blt_dec, Nat.reduceLT, aop_pick, ↓WC_cond, ↓WC_skip, panK_int, np_ptr, chkK_true, Nat.reduceLeDiff, List.drop_succ_cons, List.all_cons, np_agg, dchk_21, dchk_12, dchk_11, np_row, dchk_22, np_int, aop_slc, Option.map_none, slcI_hi, call_giv1 G23_41, goSp, sp3, de_Me, de_R0, de_I, gd_pos (g1 s2.toNat), np_tup, dchk_32, List.contains_cons, Nat.reduceBEq, beq_self_eq_true, List.contains_nil, Bool.or_false, Bool.or_true, same_eq, isSame_one, AV.beq, beq_dec, beqL_ints, dchk_31, AV.beqL, kindBeq, intBeq_self, dchk_13, ↓WD_nil, aop_bin, abin, isShift, aint, wrap64_id, gd_pos (g1 (s2 + 1).toNat), slcI_lo, aop_ixs, ixs_row, Nat.mul_one, panK_fp, ld1_fp, rows_get, aop_len0, lenA_row, ieq_dec, decf, ↓e53_9, a53_9, np_fp, slcI_lh, call_giv1 G23_97, joinS, sp2, gd_pos g2, beqL_rows, dchk_23, call_giv1 G23_119, rendS, Int.toNat_natCast, gd_pos g3, dchk_33, aop_build, fillL, cells_int, cells_row, setL, consS_eq, aop_st, AS.st, stl_get, stO_cells, one_int, one_row, AS.get_put, np_bool, Option.some.injEq, exists_eq_left']
    rw [e1]
    exact Frz.cut rfl rfl rfl
noncomputable def G24 : Giv := addG 53 (pureG rfoundS) (G23)
theorem G24_fine : Fine P G24 := (G23_fine).pure rfound_ok
end Go.Proofs.Ytednmmcdjhfflaa.Vai

/- Words are joined: a row with room is filled. -/
namespace Go.Proofs.Ytednmmcdjhfflaa.Vai
open Go
set_option linter.unusedVariables false
set_option linter.unusedSimpArgs false
theorem setL_take {c ys : List AV} {n : Nat} (h : n + ys.length ≤ c.length) : (setL c n ys).take (n + ys.length) = c.take n ++ ys := by
  apply List.ext_getElem?
  intro i
  rw [List.getElem?_take, setL_get c n ys i h, List.getElem?_append, List.length_take, List.getElem?_take]
  by_cases h1 : i < n
  · rw [if_pos (by omega), if_neg (by omega), if_pos (by omega), if_pos h1]
  · by_cases h2 : i < n + ys.length
    · rw [if_pos h2, if_pos (by omega), if_neg (by omega), Nat.min_eq_left (by omega)]
    · rw [if_neg h2, if_neg (by omega), Nat.min_eq_left (by omega), List.getElem?_eq_none (by omega)]
section
variable {S : AS}
def Rmg (S : AS) (y : AV) (xs : List Int) (r : Nat) : Prop := (y = .nils ∧ xs = [] ∧ r = 0) ∨ ∃ v c, y = .slice v 0 0 xs.length none 1 ∧ S.get v = some (.cells c 1 0 0 true false) ∧ c.length = xs.length + r ∧ c.take xs.length = ints xs
theorem Rmg.np {y : AV} {xs : List Int} {r : Nat} (h : Rmg S y xs r) : y.np = true := by
  rcases h with ⟨rfl, _⟩ | ⟨v, c, rfl, _⟩ <;> rfl
theorem Rmg.one {y : AV} {xs : List Int} {r : Nat} (h : Rmg S y xs r) : y.one = true := by
  rcases h with ⟨rfl, _⟩ | ⟨v, c, rfl, _⟩ <;> rfl
theorem Rmg.cells {y : AV} {xs : List Int} {r : Nat} (h : Rmg S y xs r) : y.cellsOf = some [y] := by
  rcases h with ⟨rfl, _⟩ | ⟨v, c, rfl, _⟩ <;> rfl
theorem Rmg.pan {y : AV} {xs : List Int} {r : Nat} (h : Rmg S y xs r) {P : AV → Prop} {N : Prop} : panK y P N = N := panK_np h.np
theorem ints_all1 {ys : List Int} : (ints ys).all AV.one = true := by
  induction ys with
  | nil => rfl
  | cons y ys ih => rw [ints_cons, List.all_cons, ih]; rfl
theorem Rmg.app {y : AV} {xs ys : List Int} {r z m : Nat} (h : Rmg S y xs r) (hm : m = ys.length) (hr : ys.length ≤ r) (hb : xs.length + r ≤ 1000000000000) :
    ∃ y' S', S.app 1 8 y (.row z 1 m (ints ys)) = some (y', S') ∧ Rmg S' y' (xs ++ ys) (r - ys.length) := by
  subst hm
  have hsrc : S.src 1 (.row z 1 ys.length (ints ys)) = some (ys.length, ints ys) := by simp only [AS.src, beq_dec, decide_true, cond_true]
  rcases h with ⟨rfl, rfl, rfl⟩ | ⟨v, c, rfl, hc, hl, ht⟩
  · obtain rfl : ys = [] := List.eq_nil_of_length_eq_zero (by omega)
    exact ⟨.nils, S, by simp only [AS.app, hsrc]; rfl, .inl ⟨rfl, rfl, rfl⟩⟩
  cases hy : ys with
  | nil =>
    subst hy
    exact ⟨_, S, by simp only [AS.app, hsrc]; rfl, .inr ⟨v, c, by simp, hc, by simpa using hl, by simpa using ht⟩⟩
  | cons y0 yt =>
    have hyl : ys.length = yt.length + 1 := by rw [hy]; rfl
    rw [hy] at hsrc
    rw [hyl] at hr
    have hb1 : (Nat.beq 1 1 && Nat.ble ((xs.length + (yt.length + 1)) * 8) bound46 && Nat.ble (xs.length + (yt.length + 1)) bound46) = true := by
      rw [beq_dec, ble_dec, ble_dec, decide_eq_true rfl, decide_eq_true (by unfold bound46; omega), decide_eq_true (by unfold bound46; omega)]; rfl
    have hroom : (aroom none 1 1 0 xs.length (yt.length + 1) c.length && Nat.beq 0 0 && !false && Nat.ble ((0 + xs.length + (yt.length + 1)) * 1) c.length) = true := by
      have : Nat.ble ((0 + xs.length + (yt.length + 1)) * 1) c.length = true := by rw [ble_dec]; exact decide_eq_true (by omega)
      simp only [aroom, this]; rfl
    have hil : (ints (y0 :: yt)).length = yt.length + 1 := by rw [ints_len]; rfl
    have hs : S.stl v 0 ((0 + xs.length) * 1) c.length (ints (y0 :: yt)) = some (S.put v (.cells (setL c xs.length (ints (y0 :: yt))) 1 0 0 true false)) := by
      have e1 : (Nat.beq 0 0 && Nat.ble (xs.length + (ints (y0 :: yt)).length) c.length && (ints (y0 :: yt)).all AV.one) = true := by
        rw [ints_all1, ble_dec, decide_eq_true (by omega)]; rfl
      simp only [AS.stl, hc, Nat.zero_add, Nat.mul_one, e1, cond_true]
    refine ⟨.slice v 0 0 (xs.length + (yt.length + 1)) none 1, S.put v (.cells (setL c xs.length (ints (y0 :: yt))) 1 0 0 true false), ?_, .inr ⟨v, setL c xs.length (ints (y0 :: yt)), ?_, by rw [AS.get_put, if_pos rfl], ?_, ?_⟩⟩
    · have hz : Nat.beq 1 0 = false := rfl
      have hsrc' : S.src 1 (.row z 1 (y0 :: yt).length (ints (y0 :: yt))) = some (yt.length + 1, ints (y0 :: yt)) := hsrc
      simp only [AS.app, hsrc', hz, cond_false, AS.appN, hb1, Bool.not_true, hc, hroom, cond_true, hs]
    · rw [List.length_append]; rfl
    · rw [setL_length, List.length_append]; simp only [List.length_cons]; omega
    · have := setL_take (c := c) (n := xs.length) (ys := ints (y0 :: yt)) (by omega)
      rw [hil] at this
      rw [List.length_append, show (y0 :: yt).length = yt.length + 1 from rfl, this, ht, ints_app]
theorem Rmg.frz {y : AV} {xs : List Int} (h : Rmg S y xs 0) {z : Nat} : Frz z S y (rowI z xs) := by
  rcases h with ⟨rfl, rfl, _⟩ | ⟨v, c, rfl, hc, hl, ht⟩
  · exact Frz.nils z 1
  · rw [List.take_of_length_le (by omega)] at ht
    subst ht
    exact Frz.lies hc (Nat.le_refl _) (Nat.le_refl _) (by simp [ints_len]) (FrzL.scal scal_ints)
end
theorem flat_succ {l : List (List Int)} {i : Nat} (h : i < l.length) : (l.take (i + 1)).flatten = (l.take i).flatten ++ l.getD i [] := by
  rw [List.take_add_one, List.flatten_append, List.getElem?_eq_getElem h, List.getD_eq_getElem?_getD, List.getElem?_eq_getElem h]
  simp
theorem flat_le {l : List (List Int)} (i : Nat) : (l.take i).flatten.length ≤ l.flatten.length := by
  conv => rhs; rw [← List.take_append_drop i l, List.flatten_append, List.length_append]
  omega
noncomputable def concS := sp1 (cWo 0) fun l => gd (l.flatten.length ≤ 1000000000000 ∧ l.length ≤ 1000000000000) (rowI 1 l.flatten)
theorem asNat_nat1 {n : Nat} : asNat (.int .i64 ((n + 1 : Nat) : Int)) = some (n + 1) := rfl
theorem slc_nils0 {S : AS} : S.slc 1 .nils none (some (.int .i64 0)) none = some .nils := rfl
theorem appN_nils {S : AS} {sz bytes n : Nat} {ys : List AV} : S.appN sz bytes .nils n ys = bif Nat.ble (n * bytes) bound46 && Nat.ble n bound46 then some (.slice S.n 0 0 n none sz, S.newRow ys sz true) else none := rfl
theorem G24_noGrow : G24 177 = none := by kernel_rfl
set_option maxRecDepth 100000 in
theorem grow_all {L n : Nat} {S : AS} {T : AV × AS → Prop} (hn : n ≤ 1000000000000) (k : ∀ y S', Rmg S' y [] n → T (y, S')) : AllK (callE G24 L 1 (ctxE Try.prog kpN fun _ => none) 177 [.nils, .int .i64 n] S) T := by
  refine @call_all (ctxE Try.prog kpN fun _ => none) G24 L 0 177 [.nils, .int .i64 n] S 27 [.tmp 4] c177 T G24_noGrow fn177 rfl ?_
  by_cases h0 : n = 0
  · subst h0
    simp (disch := omega) only [↓e177, a177, params, Nat.zero_add, ↓e177_1, a177_1, ↓e177_2, a177_2, ↓WC_seq, ↓WC_reg, ↓WO_cons, aop_mv, AX.ev, Fr.put, AllK_one, panK_nils, ↓WO_nil, ↓thenK_norm, get_cons', nat_ne, ↓reduceIte, panK_int, aop_bin, withS, abin, isShift, kindBeq, aint, decf, cond_true, cond_false, panK_bool, ↓WC_cond, condK_false, ↓WC_skip, aop_cap, aop_len0, lenA_nils, wrap64_id, ↓e177_3, a177_3, ↓e177_4, a177_4, ↓WC_ret, endK_ret, resV, Option.map_some, Option.some.injEq, resOne, exists_eq_left']
    exact k _ _ (.inl ⟨rfl, rfl, rfl⟩)
  obtain ⟨n, rfl⟩ : ∃ m, n = m + 1 := ⟨n - 1, by omega⟩
  have hb1 : decide ((n + 1) * 8 ≤ bound46) = true := decide_eq_true (by unfold bound46; omega)
  have hb2 : decide (n + 1 ≤ bound46) = true := decide_eq_true (by unfold bound46; omega)
  simp (disch := omega) only [↓e177, a177, params, Nat.zero_add, ↓e177_1, a177_1, ↓e177_2, a177_2, ↓WC_seq, ↓WC_reg, ↓WO_cons, aop_mv, AX.ev, Fr.put, AllK_one, panK_nils, ↓WO_nil, ↓thenK_norm, get_cons', nat_ne, ↓reduceIte, panK_int, aop_bin, withS, abin, isShift, kindBeq, aint, decf, cond_true, cond_false, panK_bool, ↓WC_cond, condK_false, ↓WC_skip, aop_cap, aop_len0, lenA_nils, Int.sub_self, wrap64_id, Int.sub_zero, ↓e177_3, a177_3, ↓e177_4, a177_4, dect, condK_true, ↓e177_5, a177_5, aop_slc, Option.map_none, Option.map_some, slc_nils0, aop_appz, asNat_nat1, ble_dec, hb1, beq_dec, decide_false, Bool.not_false, Bool.and_true, appN_nils, hb2, AS.newRow, ofO_some, panK_slice, slcS_hi, Int.toNat_zero, ↓WC_ret, endK_ret, resV, Option.some.injEq, resOne, exists_eq_left']
  refine k _ _ (.inr ⟨S.n, reps [.int .i64 0] (n + 1), rfl, ?_, ?_, rfl⟩)
  · rw [finA_slice, finB_get, AS.get_push, if_pos rfl]
  · rw [reps_length]; simp
set_option maxRecDepth 100000 in
theorem concat_ok : PureS P 156 concS := PureS.of1 fun l r hr => by
  obtain ⟨⟨hl, hn⟩, rfl⟩ := gd_say hr
  refine ⟨pure_run orders G24_fine (L := l.length + 1) (d := 1) fn156 rfl ?_, inz_rowI1⟩
  simp (disch := omega) only [↓e156, a156, params, en_W, ↓e156_1, a156_1, ↓e156_2, a156_2, ↓e156_9, a156_9, ↓e156_10, a156_10, ↓WC_seq, ↓WC_reg, ↓WO_cons, aop_mv, AX.ev, Fr.put, AllK_one, panK_int, ↓WO_nil, ↓thenK_norm, get_cons', nat_ne, ↓reduceIte, panK_nils, panK_row, aop_len0, withS, lenA_row, ↓e156_3, a156_3, ↓WC_block, ↓WC_loop, Fr.keep]
  refine loop_all (fun m F S => ∃ i : Nat, i + m = l.length ∧ F.get 0 = rowW 0 l ∧ F.get 3 = .int .i64 ((l.take i).flatten.length : Nat) ∧ F.get 9 = rowW 0 l ∧ F.get 10 = .int .i64 l.length ∧ F.get 11 = .int .i64 i ∧ S = E0) ?_ ⟨0, Nat.zero_add _, rfl, rfl, rfl, rfl, rfl, rfl⟩ (by omega)
  rintro m F S ⟨i, hi, f0, f3, f9, f10, f11, rfl⟩
  simp (disch := omega) only [↓e156_4, a156_4, ↓e156_5, a156_5, ↓e156_6, a156_6, ↓WC_reg, ↓WO_cons, aop_bin, withS, abin, AX.ev, isShift, kindBeq, aint, cond_false, ble_dec, Fr.keep, Fr.put, get_cons', ↓reduceIte, nat_ne, ↓WC_block, ↓WC_seq, aop_ixs, ↓WC_cond, f11, f10, cond_true, AllK_one, panK_bool, ↓WO_nil, ↓thenK_norm]
  refine condK_dec ?_ ?_ <;> intro h1
  · have hi1 : i < l.length := by omega
    have ht := flat_succ hi1
    have hb := flat_le (l := l) (i + 1)
    have hb2 : (l.take (i + 1)).flatten.length = (l.take i).flatten.length + (l.getD i []).length := by rw [ht, List.length_append]
    simp (disch := omega) only [↓WC_skip, ↓thenK_norm, dect, get_cons', nat_ne, ↓reduceIte, f9, f11, ixs_row, Int.toNat_natCast, Nat.mul_one, AllK_one, panK_fp, ↓WO_cons, aop_ld1, withS, AX.ev, ld1_fp, rows_get, Fr.put, panK_row, aop_mv, ↓WO_nil, ↓e156_7, a156_7, ↓e156_8, a156_8, ↓WC_cond, ↓WC_reg, f3, panK_int, aop_len0, lenA_row, aop_bin, abin, isShift, kindBeq, aint, wrap64_id, cond_true, cond_false, decf, panK_bool, condK_false, ↓blkK_norm, f0, f10, and_true, true_and]
    exact ⟨m - 1, by omega, i + 1, by omega, by rw [hb2]; rfl, rfl⟩
  · simp (disch := omega) only [↓WC_exit, ↓thenK_exit, ↓blkK_exit, ↓reduceIte, ↓thenK_norm, decf, get_cons', nat_ne, f3, panK_int, ↓WO_cons, aop_call, AX.evs, AX.ev, Fr.put]
    obtain rfl : i = l.length := by omega
    rw [List.take_length]
    refine grow_all hl fun y S1 hy => ?_
    simp (disch := omega) only [hy.pan, ↓WO_cons, decf, get_cons', nat_ne, ↓reduceIte, f3, aop_mv, AX.ev, Fr.put, AllK_one, ↓WO_nil, ↓thenK_norm, f0, panK_row, aop_len0, withS, lenA_row, panK_int, ↓e156_11, a156_11, ↓WC_block, ↓WC_loop, Fr.keep, f9, f10, f11]
    refine loop_all (fun m F S => ∃ (i : Nat) (y : AV), i + m = l.length ∧ F.get 6 = y ∧ F.get 25 = rowW 0 l ∧ F.get 26 = .int .i64 l.length ∧ F.get 27 = .int .i64 i ∧ Rmg S y (l.take i).flatten (l.flatten.length - (l.take i).flatten.length)) ?_ ⟨0, y, Nat.zero_add _, rfl, rfl, rfl, rfl, hy⟩ (by omega)
    clear hy y S1 f0 f9 f10 f3 f11 h1 hi F
    rintro m F S ⟨i, y, hi, f6, f25, f26, f27, hy⟩
    simp (disch := omega) only [↓e156_12, a156_12, ↓e156_13, a156_13, ↓e156_14, a156_14, ↓WC_reg, ↓WO_cons, aop_bin, withS, abin, AX.ev, isShift, kindBeq, aint, cond_false, ble_dec, Fr.keep, Fr.put, get_cons', nat_ne, ↓reduceIte, ↓WC_block, ↓WC_seq, aop_ixs, ↓WC_cond, f27, f26, cond_true, AllK_one, panK_bool, ↓WO_nil, ↓thenK_norm]
    refine condK_dec ?_ ?_ <;> intro h1
    · have hi1 : i < l.length := by omega
      have ht := flat_succ hi1
      have hb := flat_le (l := l) (i + 1)
      have hb2 : (l.take (i + 1)).flatten.length = (l.take i).flatten.length + (l.getD i []).length := by rw [ht, List.length_append]
      obtain ⟨y', S', hq, hy'⟩ := hy.app (z := 0) (ys := l.getD i []) rfl (by omega) (by omega)
      simp (disch := omega) only [↓WC_skip, ↓thenK_norm, dect, get_cons', nat_ne, ↓reduceIte, f25, f27, ixs_row, Int.toNat_natCast, Nat.mul_one, AllK_one, panK_fp, ↓WO_cons, aop_ld1, withS, AX.ev, ld1_fp, rows_get, Fr.put, panK_row, aop_mv, ↓WO_nil, ↓WC_reg, f6, hy.pan, aop_app, hq, ofO_some, hy'.pan, ↓blkK_norm, wrap64_id, cond_true, panK_int, f26, true_and]
      refine ⟨m - 1, by omega, i + 1, y', by omega, rfl, rfl, ?_⟩
      rw [ht, List.length_append, ← Nat.sub_sub]
      exact hy'
    · obtain rfl : i = l.length := by omega
      rw [List.take_length, Nat.sub_self] at hy
      simp (disch := omega) only [↓WC_exit, ↓thenK_exit, ↓blkK_exit, ↓reduceIte, ↓thenK_norm, decf, get_cons', nat_ne, f6, hy.pan, ↓WO_cons, aop_mv, AX.ev, Fr.put, AllK_one, ↓WO_nil, ↓WC_ret, ↓endP_ret, resV, Option.map_some, Option.some.injEq, resOne, exists_eq_left']
      exact hy.frz
noncomputable def G25 : Giv := addG 156 (pureG concS) (G24)
theorem G25_fine : Fine P G25 := (G24_fine).pure concat_ok
theorem G25_156 : G25 156 = some (pureG concS) := rfl
noncomputable def pjoinS := concS
theorem pjoin_ok : PureS P 113 pjoinS := PureS.of1 fun l r hr => by
  obtain ⟨hl, rfl⟩ := gd_say hr
  refine ⟨pure_run orders G25_fine (L := 1) (d := 1) fn113 rfl ?_, inz_rowI1⟩
  simp (disch := omega) only [↓e113, a113, params, en_W, ↓WC_seq, ↓WC_reg, ↓WO_cons, aop_mv, AX.ev, Fr.put, AllK_one, panK_nils, ↓WO_nil, ↓thenK_norm, get_cons', nat_ne, ↓reduceIte, panK_row, aop_call, AX.evs, call_giv1 G25_156, concS, pureG_eq, AV.scalL, AV.scalar, scal_rows, Bool.and_true, sp1, de_W0, Option.bind_some, gd_pos hl, spK_some, cond_true, ↓WC_ret, ↓endP_ret, resV, Option.map_some, Option.some.injEq, resOne, exists_eq_left']
  exact Frz.rowI
noncomputable def G26 : Giv := addG 113 (pureG pjoinS) (G25)
theorem G26_fine : Fine P G26 := (G25_fine).pure pjoin_ok
theorem G26_90 : G26 90 = some (pureG cloneS) := rfl
end Go.Proofs.Ytednmmcdjhfflaa.Vai
