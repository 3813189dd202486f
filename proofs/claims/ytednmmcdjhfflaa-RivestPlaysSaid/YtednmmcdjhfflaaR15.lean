/- The program's analysis, where it lies; it is told something. -/
import Derived.Test.YtednmmcdjhfflaaR14
namespace Go.Proofs.Ytednmmcdjhfflaa.Vai
open Go
set_option linter.unusedVariables false
set_option linter.unusedSimpArgs false
def wayR (r : Sr) : Way := if r.how = 1 then .lin else if r.how = 2 then .bin else .exp r.step r.no
def psOf (r : Sr) (ak : Int) : PS := ⟨wayR r, r.low, r.high, ak⟩
structure SrW (r : Sr) : Prop where
  h1 : 1 ≤ r.how
  h2 : r.how ≤ 3
  b : r.B
  lt : r.low < r.high
theorem SrW.psB {r : Sr} (h : SrW r) (ak : Int) : (psOf r ak).B := by
  obtain ⟨l0, l1, g0, g1, s0, s1⟩ := h.b
  refine ⟨⟨l0, l1, g0, g1⟩, ?_⟩
  unfold psOf wayR
  split
  · trivial
  · split
    · trivial
    · exact ⟨s0, s1⟩
theorem psOf_ask {r : Sr} (h : SrW r) (ak : Int) : (psOf r ak).ask = srAsk r := by
  obtain ⟨l0, l1, g0, g1, s0, s1⟩ := h.b
  have hlt := h.lt
  have h1 := h.h1; have h2 := h.h2
  unfold PS.ask srAsk psOf wayR
  simp only
  by_cases hc : r.high = r.low + 1
  · rw [if_pos hc, if_pos hc]
  rw [if_neg hc, if_neg hc]
  have hm : r.low + (r.high - r.low).tdiv 2 = (r.low + r.high).tdiv 2 := by
    rw [Int.tdiv_eq_ediv_of_nonneg (by omega), Int.tdiv_eq_ediv_of_nonneg (by omega)]; omega
  by_cases e1 : r.how = 1
  · rw [if_pos e1, if_pos e1]; rfl
  rw [if_neg e1, if_neg e1]
  by_cases e2 : r.how = 2
  · rw [if_pos e2, if_neg (by omega)]
    simp only [Way.next, hm]
  · rw [if_neg e2]
    have e3 : r.how = 3 := by omega
    cases hn : r.no with
    | true =>
      rw [if_neg (by simp)]
      simp only [Way.next, hm, if_true, ↓reduceIte]
    | false =>
      rw [if_pos ⟨e3, rfl⟩]
      simp only [Way.next, Bool.false_eq_true, if_false, ↓reduceIte]
      by_cases h4 : r.high - r.low ≤ r.step
      · rw [if_pos h4, if_pos (by omega)]
      · rw [if_neg h4, if_neg (by omega)]
theorem psOf_tell {r : Sr} (h : SrW r) (hm : (srAsk r).2 = true) (ak : Int) (b : Bool) : (psOf r ak).tell b = psOf (srTell r b) (IntKind.wrap .i64 (ak + 1)) := by
  have hA := psOf_ask h ak
  unfold PS.tell
  rw [hA]
  unfold srTell
  rw [if_pos hm]
  unfold psOf wayR
  have h1 := h.h1; have h2 := h.h2
  by_cases e1 : r.how = 1
  · simp only [e1, if_true, ↓reduceIte, Way.told]
  · by_cases e2 : r.how = 2
    · simp only [e2, if_true, if_false, ↓reduceIte, Way.told, show ¬ ((2 : Int) = 1) by decide]
    · simp only [e1, e2, if_false, ↓reduceIte, Way.told, Int.mul_comm r.step 2]
      cases b <;> cases r.no <;> simp
theorem psOf_new {how n : Int} (h1 : 1 ≤ how) (h2 : how ≤ 3) (n1 : 1 ≤ n) (n2 : n ≤ 4096) : (⟨wayOf how, 0, n, 0⟩ : PS) = psOf (rsNew how n) 0 := by
  have he : rsNewE how n = 0 := by unfold rsNewE; rw [if_neg (by omega), if_neg (by omega)]
  unfold rsNew psOf wayR wayOf
  rw [if_pos he]
structure PaAt (S : AS) (v m : Nat) (a : RA) : Prop where
  lv : v < S.n
  vm : v < m
  mn : m ≤ S.n
  nb : a.begun = false → S.get v = some (anO (paGV a .nils .nilp (atV false false (-1)) (wholeV v)))
  sp : a.begun = true → a.spur = true → S.get v = some (anO (paGV a .nils .nilp (atV true true 0) (wholeV v)))
  rn : a.begun = true → a.spur = false → ∃ p e sb cs ak, S.get v = some (anO (paGV a (.slice sb 0 0 a.said.length none 1) (.ptr p 0 0 4) (atS (psOf a.s ak)) (placeV v))) ∧ S.get sb = some (.cells cs 1 0 0 false false) ∧ SaidR cs a.said ∧ SrchAt S p e (psOf a.s ak) ∧ PaD v p e sb S ∧ (m ≤ p ∧ m ≤ e ∧ m ≤ sb)
def RA.prog (a : RA) : PA := if a.begun = false then a.pa [] false false (-1) else if a.spur = true then a.pa [] true true 0 else if (srAsk a.s).2 = true then a.pa a.said false false (srAsk a.s).1 else a.pa a.said true false a.s.low
structure RA.OkP (a : RA) : Prop where
  ok : a.Ok3
  h1 : 1 ≤ a.how
  h2 : a.how ≤ 3
  ns : a.begun = false → a.spur = false
  sw : a.begun = true → a.spur = false → SrW a.s ∧ (∀ b, SrW (srTell a.s b) ∨ ¬ (srAsk a.s).2 = true)
  sl : a.begun = true → a.spur = false → (srAsk a.s).2 = true → (srAsk a.s).1 < a.said.length
theorem PaAt.lend {S : AS} {v m : Nat} {a : RA} (h : PaAt S v m a) (hk : a.OkP) : ∃ x, frzF S 3 (.ptr v 0 0 14) = some x ∧ cPA.de x = some a.prog := by
  unfold RA.prog
  cases hb : a.begun with
  | false =>
    rw [if_pos rfl]
    exact pa_lend (ov := false) (sp := false) (pl := -1) (h.nb hb) rfl rfl rfl fun _ => rfl
  | true =>
    rw [if_neg (by decide)]
    cases hs : a.spur with
    | true =>
      rw [if_pos rfl]
      exact pa_lend (ov := true) (sp := true) (pl := 0) (h.sp hb hs) rfl rfl rfl fun h => by cases h
    | false =>
      rw [if_neg (by decide)]
      obtain ⟨p, e, sb, cs, ak, q1, q2, q3, q4, q5, q6⟩ := h.rn hb hs
      obtain ⟨hw, _⟩ := hk.sw hb hs
      have hA := psOf_ask hw ak
      obtain ⟨y, hy⟩ := frz_srch q4
      obtain ⟨f1, f2⟩ := frz_said q2 q3.len q3
      unfold atS at q1
      rw [hA] at q1
      cases hm : (srAsk a.s).2 with
      | true =>
        rw [hm, if_pos rfl] at q1
        rw [if_pos rfl]
        exact pa_lend (ov := false) (sp := false) (pl := (srAsk a.s).1) q1 f1 f2 hy fun _ => rfl
      | false =>
        rw [hm, if_neg (by decide)] at q1
        rw [if_neg (by decide)]
        exact pa_lend (ov := true) (sp := false) (pl := a.s.low) q1 f1 f2 hy fun h => by cases h
theorem RA.prog_ask {a : RA} (hk : a.OkP) : a.prog.ask = a.ask := by
  unfold RA.prog RA.ask
  have hok := hk.ok
  cases hb : a.begun with
  | false => rfl
  | true =>
    cases hs : a.spur with
    | true => rfl
    | false =>
      cases hm : (srAsk a.s).2 with
      | true =>
        obtain ⟨p1, p2, p3, p4⟩ := hok.ok2.pl hb hs
        obtain ⟨q1, q2⟩ := p4 hm
        show (if (false : Bool) = true then (([] : List Int), false) else if (srAsk a.s).1 < 0 then (a.w, true) else (a.word (srAsk a.s).1, true)) = (a.word (srAsk a.s).1, true)
        rw [if_neg (by decide), if_neg (by omega)]
      | false => rfl
theorem RA.prog_ok {a : RA} (hk : a.OkP) : a.prog.ra.Ok ∧ (a.prog.ov = false → a.prog.pl ≤ a.prog.w.length) := by
  have hok := hk.ok.ok2.ok
  unfold RA.prog
  split
  · exact ⟨pa_ok hok, fun _ => by show (-1 : Int) ≤ a.w.length; omega⟩
  · split
    · exact ⟨pa_ok hok, fun h => by cases h⟩
    · rename_i hb hs
      split
      · rename_i hm
        refine ⟨pa_ok hok, fun _ => ?_⟩
        obtain ⟨p1, p2, p3, p4⟩ := hk.ok.ok2.pl (by simpa using hb) (by simpa using hs)
        obtain ⟨q1, q2⟩ := p4 hm
        show (srAsk a.s).1 ≤ a.w.length
        omega
      · exact ⟨pa_ok hok, fun h => by cases h⟩
theorem PaAt.same {S S' : AS} {v m : Nat} {a : RA} (h : PaAt S v m a) (hg : ∀ u, u = v ∨ m ≤ u → u < S.n → S'.get u = S.get u) (hn : S.n ≤ S'.n) : PaAt S' v m a :=
  ⟨Nat.lt_of_lt_of_le h.lv hn, h.vm, Nat.le_trans h.mn hn, fun q => by rw [hg v (.inl rfl) h.lv]; exact h.nb q, fun q r => by rw [hg v (.inl rfl) h.lv]; exact h.sp q r, fun q r => by
    obtain ⟨p, e, sb, cs, ak, q1, q2, q3, q4, q5, q6⟩ := h.rn q r
    exact ⟨p, e, sb, cs, ak, by rw [hg v (.inl rfl) h.lv]; exact q1, by rw [hg sb (.inr q6.2.2) q5.ls]; exact q2, q3, ⟨by rw [hg p (.inr q6.1) q5.lp]; exact q4.at_, fun st no hw => by rw [hg e (.inr q6.2.1) q5.le]; exact q4.ex st no hw, q4.ne⟩, q5.mono hn, q6⟩⟩
theorem PaAt.mw {S : AS} {v m k : Nat} {a : RA} (h : PaAt S v m a) : PaAt ⟨S.objs, S.n, k⟩ v m a := h.same (fun _ _ _ => rfl) (Nat.le_refl _)
theorem mw_putle {S : AS} {v m : Nat} {o : AObj} (h : S.mw ≤ m) : (S.put v o).mw ≤ m := by
  show (bif Nat.blt v S.mw then v else S.mw) ≤ m
  rw [blt_dec]
  cases hd : decide (v < S.mw) with
  | true => have := of_decide_eq_true hd; simp only [cond_true]; omega
  | false => simp only [cond_false]; exact h
set_option maxRecDepth 8000 in
set_option maxHeartbeats 4000000 in
theorem tell_all {L d v m : Nat} {S : AS} {a : RA} {out : List Int} {T : AV × AS → Prop} (hL : 5000 ≤ L) (hwf : Wf S) (hp : PaAt S v m a) (hk : a.OkP) (hol : out.length ≤ 9223372036854775807)
    (k : ∀ S', PaAt S' v m (a.tell out).1 → Kpt (fun u => u = v ∨ m ≤ u) S S' → T (.int .i64 (a.tell out).2, S')) :
    AllK (callE G37 L (d + 1 + 1 + 1 + 1) (ctxE P kpN fun _ => none) 58 [.ptr v 0 0 14, rowI 1 out] S) T := by
  refine call_all (C := ctxE P kpN fun _ => none) (G := G37) (L := L) (d := d + 1 + 1 + 1) (f := 58) (args := [.ptr v 0 0 14, rowI 1 out]) (S := S) (T := T) rfl fn58 rfl ?_
  have hp' : PaAt ⟨S.objs, S.n, S.n⟩ v m a := hp.mw
  obtain ⟨x, l1, l2⟩ := hp'.lend hk
  have g1 := RA.prog_ok hk
  have hpask := RA.prog_ask hk
  have hint : aeq .ptr (.ptr v 0 0 14) .nilp = some false := rfl
  by_cases c1 : a.ask.2 = false
  · have ht : a.tell out = (a, 7) := by unfold RA.tell; rw [if_pos c1]
    rw [ht] at k
    simp (disch := omega) only [↓e58, a58, params, Nat.zero_add, ↓e58_1, a58_1, ↓e58_2, a58_2, ↓e58_3, a58_3, ↓e58_4, a58_4, ↓e58_6, a58_6, ↓e58_8, a58_8, ↓WC_seq, ↓WC_reg, ↓WO_cons, aop_mv, AX.ev, Fr.put, AllK_one, panK_int, ↓WO_nil, ↓thenK_norm, ↓WC_ret, endK_ret, resV, get_cons', ↓reduceIte, Option.map_some, Option.some.injEq, resOne, exists_eq_left', nat_ne, panK_ptr, aop_eq, hint, Bool.not_false, cond_false, panK_bool, ↓WC_cond, condK_false, ↓WC_skip, aop_call, AX.evs, call_giv G37_50, paskS, pureG_eq, AV.scalL, AV.scalar, Bool.and_true, sp1, mapO_cons, l1, mapO_nil, Option.bind_some, l2, hpask, c1, gd_pos g1, spB_some, AV.inz, AV.inzL, ble_dec, Nat.le_refl, decide_true, inz_ints, cond_true, panK_tup, aop_xt, withS, List.getElem?_cons_zero, panK_row, List.getElem?_cons_succ, aop_un, aun, condK_true, ↓thenK_ret]
    rw [finA_kept (Nat.le_refl _)]
    exact k S hp (Kpt.refl _)
  have c1' : a.ask.2 = true := by simpa using c1
  have hg0 : ∃ sd se at0 tk, (⟨S.objs, S.n, S.n⟩ : AS).get v = some (.cells (paGV a sd se at0 tk) 14 0 0 false false) := by
    cases hb : a.begun with
    | false => exact ⟨_, _, _, _, hp.nb hb⟩
    | true =>
      cases hs : a.spur with
      | true => exact ⟨_, _, _, _, hp.sp hb hs⟩
      | false =>
        obtain ⟨p, e, sb, cs, ak, q1, _⟩ := hp.rn hb hs
        exact ⟨_, _, _, _, q1⟩
  by_cases c2 : fitE a.h.kind a.h.O a.ask.1 out = 0
  rotate_left
  · have ht : a.tell out = (a, fitE a.h.kind a.h.O a.ask.1 out) := by unfold RA.tell; rw [if_neg c1, if_pos c2]
    rw [ht] at k
    obtain ⟨sd, se, at0, tk, hg⟩ := hg0
    simp (disch := omega) only [↓e58, a58, params, Nat.zero_add, ↓e58_1, a58_1, ↓e58_2, a58_2, ↓e58_3, a58_3, ↓e58_4, a58_4, ↓e58_6, a58_6, ↓e58_8, a58_8, ↓WC_seq, ↓WC_reg, ↓WO_cons, aop_mv, AX.ev, Fr.put, AllK_one, panK_int, ↓WO_nil, ↓thenK_norm, ↓WC_ret, endK_ret, resV, get_cons', ↓reduceIte, Option.map_some, Option.some.injEq, resOne, exists_eq_left', nat_ne, panK_ptr, aop_eq, hint, Bool.not_false, cond_false, panK_bool, ↓WC_cond, condK_false, ↓WC_skip, aop_call, AX.evs, call_giv G37_50, paskS, pureG_eq, AV.scalL, AV.scalar, Bool.and_true, sp1, mapO_cons, l1, mapO_nil, Option.bind_some, l2, hpask, c1', gd_pos g1, spB_some, AV.inz, AV.inzL, ble_dec, Nat.le_refl, decide_true, inz_ints, cond_true, panK_tup, aop_xt, withS, List.getElem?_cons_zero, panK_row, List.getElem?_cons_succ, aop_un, aun, Bool.not_true, aop_nck, aop_fad, aop_ldn, ldn_ptr, hg, ldlO_cells, Nat.reduceAdd, Nat.reduceLeDiff, List.drop_succ_cons, List.drop_zero, List.take_succ_cons, List.take_zero, panK_agg, aop_build, fillL, cells_int, List.length_cons, List.length_nil, beq_dec, cells_row, setL, consS_eq, cells_agg, call_giv G37_91, tcheckS, scal_ints, sp2, de_Qm, de_R0, de_An, gd_pos hol, spK_some, ↓e58_5, a58_5, aop_bin, abin, isShift, kindBeq, aint, ine_dec, c2, decide_false, condK_true, ↓thenK_ret]
    rw [finA_kept (Nat.le_refl _)]
    exact k S hp (Kpt.refl _)
  have hok3 := hk.ok
  have hok := hok3.ok2.ok
  have hlen := fitE_len c2
  cases hb : a.begun with
  | false =>
    have hg : (⟨S.objs, S.n, S.n⟩ : AS).get v = some (.cells (paGV a .nils .nilp (atV false false (-1)) (wholeV v)) 14 0 0 false false) := hp.nb hb
    have haw : a.ask.1 = a.w := by unfold RA.ask; rw [hb]; rfl
    rw [haw] at hlen
    simp (disch := omega) only [↓e58, a58, params, Nat.zero_add, ↓e58_1, a58_1, ↓e58_2, a58_2, ↓e58_3, a58_3, ↓e58_4, a58_4, ↓e58_6, a58_6, ↓e58_8, a58_8, ↓WC_seq, ↓WC_reg, ↓WO_cons, aop_mv, AX.ev, Fr.put, AllK_one, panK_int, ↓WO_nil, ↓thenK_norm, ↓WC_ret, endK_ret, resV, get_cons', ↓reduceIte, Option.map_some, Option.some.injEq, resOne, exists_eq_left', nat_ne, panK_ptr, aop_eq, hint, Bool.not_false, cond_false, panK_bool, ↓WC_cond, condK_false, ↓WC_skip, aop_call, AX.evs, call_giv G37_50, paskS, pureG_eq, AV.scalL, AV.scalar, Bool.and_true, sp1, mapO_cons, l1, mapO_nil, Option.bind_some, l2, hpask, c1', gd_pos g1, spB_some, AV.inz, AV.inzL, ble_dec, Nat.le_refl, decide_true, inz_ints, cond_true, panK_tup, aop_xt, withS, List.getElem?_cons_zero, panK_row, List.getElem?_cons_succ, aop_un, aun, Bool.not_true, aop_nck, aop_fad, aop_ldn, ldn_ptr, hg, Int.reduceNeg, ldlO_cells, Nat.reduceAdd, Nat.reduceLeDiff, List.drop_succ_cons, List.drop_zero, List.take_succ_cons, List.take_zero, panK_agg, aop_build, fillL, cells_int, List.length_cons, List.length_nil, beq_dec, cells_row, setL, consS_eq, cells_agg, call_giv G37_91, tcheckS, scal_ints, sp2, de_Qm, de_R0, de_An, gd_pos hol, c2, spK_some, ↓e58_5, a58_5, aop_bin, abin, isShift, kindBeq, aint, ine_dec, aop_ld1, ld1_ptr, ldO_cells, blt_dec, Nat.reduceLT, panK_fn, aop_callv, List.cons_append, List.nil_append, List.append_nil]
    have hfin : ∀ (S1 : AS) (a' : RA) (c : List AV), Kpt (· = v) ⟨S.objs, S.n, S.n⟩ S1 → S1.mw ≤ v → PaAt (finB S (S1.put v (anO c))) v m a' → a.tell out = (a', 0) → T (.int .i64 0, finA S (.int .i64 0) (S1.put v (anO c))) := fun S1 a' c q1 q2 q3 q4 => by
      have hlv := hp.lv
      rw [q4] at k
      rw [finA_low (by have := mw_putle (v := v) (o := anO c) q2; omega)]
      refine k _ q3 ?_
      have := kpt_finB (Kpt.put q1 rfl hlv (o := anO c))
      exact this.mono fun u hu => .inl hu
    have hput : ∀ (S1 : AS) (c : List AV), (finB S (S1.put v (anO c))).get v = some (anO c) := fun S1 c => by rw [finB_get, AS.get_put, if_pos rfl]
    refine whole_all (a := a) hL hp.lv (fun u o h => hwf u o h) (hp'.nb hb) hok hk.h1 hk.h2 hok3.wp hlen (fun c3 S1 q1 q2 q3 => ?_) (fun c3 c4 c5 => ?_) (fun w' out' n c3 c4 c5 S1 p e sb q1 q2 q3 q4 q7 q5 q6 => ?_)
    · have ht : a.tell out = ({ a with begun := true, spur := true, asked := IntKind.wrap .i64 (a.asked + 1) }, 0) := by
        unfold RA.tell; rw [if_neg c1, if_neg (fun h => h c2), if_neg (by rw [hb]; decide), if_pos c3]
      have q1' : S1.get v = some (.cells (paGV a .nils .nilp (atV true true 0) (wholeV v)) 14 0 0 false false) := q1
      simp (disch := omega) only [panK_int, ↓WO_cons, get_cons', nat_ne, ↓reduceIte, aop_mv, AX.ev, Fr.put, AllK_one, ↓WO_nil, ↓thenK_norm, ↓e58_7, a58_7, ↓WC_cond, ↓WC_reg, aop_bin, withS, abin, isShift, kindBeq, aint, ine_dec, decide_true, Bool.not_true, cond_true, cond_false, panK_bool, condK_false, ↓WC_skip, panK_ptr, aop_nck, aop_fad, Nat.zero_add, aop_ld1, ld1_ptr, q1', ldO_cells, ble_dec, Nat.le_refl, Bool.and_true, blt_dec, Nat.reduceLT, List.getElem?_cons_succ, List.getElem?_cons_zero, aop_st, AS.st, cells_int, List.length_cons, List.length_nil, beq_dec, stl_get, stO_cells, Nat.reduceAdd, List.all_cons, one_int, List.all_nil, setL, consS_eq, Option.map_some, undefA, panK_tup]
      exact hfin S1 _ _ q2 q3 ⟨by have := q2.n; exact Nat.lt_of_lt_of_le hp.lv this, hp.vm, Nat.le_trans hp.mn q2.n, fun h => Bool.noConfusion h, fun _ _ => hput S1 _, fun _ h => Bool.noConfusion h⟩ ht
    · have ht : a.tell out = (a, 111) := by
        unfold RA.tell; rw [if_neg c1, if_neg (fun h => h c2), if_neg (by rw [hb]; decide), if_neg c3, if_pos c4, if_pos c5]
      rw [ht] at k
      simp (disch := omega) only [panK_int, ↓WO_cons, get_cons', nat_ne, ↓reduceIte, aop_mv, AX.ev, Fr.put, AllK_one, ↓WO_nil, ↓thenK_norm, ↓e58_7, a58_7, ↓WC_cond, ↓WC_reg, aop_bin, withS, abin, isShift, kindBeq, aint, ine_dec, Int.reduceEq, decide_false, Bool.not_false, cond_true, cond_false, panK_bool, condK_true, ↓WC_seq, ↓WC_ret, ↓thenK_ret, endK_ret, resV, Option.map_some, Option.some.injEq, resOne, exists_eq_left']
      rw [finA_kept (Nat.le_refl _)]
      exact k S hp (Kpt.refl _)
    · have hn : 1 ≤ n ∧ n ≤ 4096 := by
        have := hok.wl; have := hok3.wp
        by_cases h2 : a.h.kind = 2
        · obtain ⟨r1, _, _, r2, r3⟩ := c4 h2; omega
        · obtain ⟨_, _, r3⟩ := c5 h2; omega
      have ht : a.tell out = ({ a with w := w', begun := true, said := out' :: List.replicate n [], s := rsNew a.how n, asked := IntKind.wrap .i64 (a.asked + 1) }, 0) := by
        unfold RA.tell; rw [if_neg c1, if_neg (fun h => h c2), if_neg (by rw [hb]; decide), if_neg c3]
        by_cases h2 : a.h.kind = 2
        · obtain ⟨r1, rfl, rfl, rfl, _⟩ := c4 h2
          rw [if_pos h2, if_neg r1]
        · obtain ⟨rfl, rfl, rfl⟩ := c5 h2
          rw [if_neg h2]
      have hnew := psOf_new hk.h1 hk.h2 (n := n) (by omega) (by omega)
      rw [hnew] at q1 q3
      have q1' : S1.get v = some (.cells (paGV { a with w := w' } (.slice sb 0 0 (n + 1) none 1) (.ptr p 0 0 4) (atS (psOf (rsNew a.how n) 0)) (placeV v)) 14 0 0 false false) := q1
      simp (disch := omega) only [panK_int, ↓WO_cons, get_cons', nat_ne, ↓reduceIte, aop_mv, AX.ev, Fr.put, AllK_one, ↓WO_nil, ↓thenK_norm, ↓e58_7, a58_7, ↓WC_cond, ↓WC_reg, aop_bin, withS, abin, isShift, kindBeq, aint, ine_dec, decide_true, Bool.not_true, cond_true, cond_false, panK_bool, condK_false, ↓WC_skip, panK_ptr, aop_nck, aop_fad, Nat.zero_add, aop_ld1, ld1_ptr, q1', ldO_cells, ble_dec, Nat.le_refl, Bool.and_true, blt_dec, Nat.reduceLT, List.getElem?_cons_succ, List.getElem?_cons_zero, aop_st, AS.st, cells_int, List.length_cons, List.length_nil, beq_dec, stl_get, stO_cells, Nat.reduceAdd, List.all_cons, one_int, List.all_nil, setL, consS_eq, Option.map_some, undefA, panK_tup]
      have hlv := hp.lv
      have hn1 : S.n ≤ S1.n := q5.n
      refine hfin S1 { a with w := w', begun := true, said := out' :: List.replicate n [], s := rsNew a.how n, asked := IntKind.wrap .i64 (a.asked + 1) } _ q5 q6 ⟨Nat.lt_of_lt_of_le hlv hn1, hp.vm, Nat.le_trans hp.mn hn1, fun h => Bool.noConfusion h, fun _ h => absurd (show a.spur = true from h) (by rw [hk.ns hb]; decide), fun _ _ => ⟨p, e, sb, rowI 1 out' :: List.replicate n .nils, 0, ?_, ?_, saidR_new n, ⟨?_, fun st no hw => ?_, q3.ne⟩, ⟨q4.lv, q4.lp, q4.le, q4.ls, q4.vp, q4.ve, q4.vs, q4.pe, q4.ps, q4.es⟩, ⟨Nat.le_trans hp.mn q7.1, Nat.le_trans hp.mn q7.2.1, Nat.le_trans hp.mn q7.2.2⟩⟩⟩ ht
      · rw [hput]; simp only [List.length_cons, List.length_replicate]
      · rw [finB_get, AS.get_put, if_neg (by have := q4.vs; omega)]; exact q2
      · rw [finB_get, AS.get_put, if_neg (by have := q4.vp; omega)]; exact q3.at_
      · rw [finB_get, AS.get_put, if_neg (by have := q4.ve; omega)]; exact q3.ex st no hw
  | true =>
    have hs : a.spur = false := by
      cases hs : a.spur with
      | false => rfl
      | true => simp [RA.ask, hb, hs] at c1'
    have hm : (srAsk a.s).2 = true := by
      cases hm : (srAsk a.s).2 with
      | true => rfl
      | false => simp [RA.ask, hb, hs, hm] at c1'
    obtain ⟨p, e, sb, cs, ak, q1, q2, q3, q4, q5, q6⟩ := hp.rn hb hs
    obtain ⟨p1, p2, p3, p4⟩ := hok3.ok2.pl hb hs
    obtain ⟨r1, r2⟩ := p4 hm
    obtain ⟨hw, hw2⟩ := hk.sw hb hs
    have hA := psOf_ask hw ak
    have hA2 : (psOf a.s ak).ask = ((srAsk a.s).1, true) := by rw [hA, ← hm]
    have hat : atS (psOf a.s ak) = .ifc 167 (.agg [.int .i64 (srAsk a.s).1]) := by unfold atS; rw [hA2]; rfl
    rw [hat] at q1
    have hg : (⟨S.objs, S.n, S.n⟩ : AS).get v = some (.cells (paGV a (.slice sb 0 0 a.said.length none 1) (.ptr p 0 0 4) (.ifc 167 (.agg [.int .i64 (srAsk a.s).1])) (placeV v)) 14 0 0 false false) := q1
    have hsl := hk.sl hb hs hm
    have hwl := hok.wl
    have hol1 : out.length ≤ 1000000 := by have := RA.ask_len hok; rw [hlen]; split <;> omega
    have ht : a.tell out = ({ a with said := a.said.set (srAsk a.s).1.toNat (endO a.h.kind out (a.w.length - (srAsk a.s).1.toNat)), s := srTell a.s (decide (endO a.h.kind out (a.w.length - (srAsk a.s).1.toNat) = a.mine (srAsk a.s).1)), asked := IntKind.wrap .i64 (a.asked + 1) }, 0) := by
      unfold RA.tell; rw [if_neg c1, if_neg (fun h => h c2), if_pos hb]
    rw [ht] at k
    have hlv := hp.lv
    simp (disch := omega) only [↓e58, a58, params, Nat.zero_add, ↓e58_1, a58_1, ↓e58_2, a58_2, ↓e58_3, a58_3, ↓e58_4, a58_4, ↓e58_6, a58_6, ↓e58_8, a58_8, ↓WC_seq, ↓WC_reg, ↓WO_cons, aop_mv, AX.ev, Fr.put, AllK_one, panK_int, ↓WO_nil, ↓thenK_norm, ↓WC_ret, endK_ret, resV, get_cons', ↓reduceIte, Option.map_some, Option.some.injEq, resOne, exists_eq_left', nat_ne, panK_ptr, aop_eq, hint, Bool.not_false, cond_false, panK_bool, ↓WC_cond, condK_false, ↓WC_skip, aop_call, AX.evs, call_giv G37_50, paskS, pureG_eq, AV.scalL, AV.scalar, Bool.and_true, sp1, mapO_cons, l1, mapO_nil, Option.bind_some, l2, hpask, c1', gd_pos g1, spB_some, AV.inz, AV.inzL, ble_dec, Nat.le_refl, decide_true, inz_ints, cond_true, panK_tup, aop_xt, withS, List.getElem?_cons_zero, panK_row, List.getElem?_cons_succ, aop_un, aun, Bool.not_true, aop_nck, aop_fad, aop_ldn, ldn_ptr, hg, ldlO_cells, Nat.reduceAdd, Nat.reduceLeDiff, List.drop_succ_cons, List.drop_zero, List.take_succ_cons, List.take_zero, panK_agg, aop_build, fillL, cells_int, List.length_cons, List.length_nil, beq_dec, cells_row, setL, consS_eq, cells_agg, call_giv G37_91, tcheckS, scal_ints, sp2, de_Qm, de_R0, de_An, gd_pos hol, c2, spK_some, ↓e58_5, a58_5, aop_bin, abin, isShift, kindBeq, aint, ine_dec, aop_ld1, ld1_ptr, ldO_cells, blt_dec, Nat.reduceLT, panK_fn, aop_callv, List.cons_append, List.nil_append, List.append_nil]
    refine place_all (a := a) (n := a.said.length) (s := psOf a.s ak) (i := (srAsk a.s).1) (g := 154) ⟨q5.lv, q5.lp, q5.le, q5.ls, q5.vp, q5.ve, q5.vs, q5.pe, q5.ps, q5.es⟩ (fun u o h => hwf u o h) q1 q2 q3.len q3 ⟨q4.at_, q4.ex, q4.ne⟩ (hw.psB ak) (fun b => ?_) hA2 (by omega) (by omega) hok (by omega) (by omega) (fun h => by rw [hlen, if_pos h]) fun S1 k1 k2 k3 k4 k5 => ?_
    · rw [psOf_tell hw hm]
      rcases hw2 b with h | h
      · exact h.psB _
      · exact absurd hm h
    rw [psOf_tell hw hm] at k1 k3
    generalize hbb : decide (endO a.h.kind out (a.w.length - (srAsk a.s).1.toNat) = a.mine (srAsk a.s).1) = b at *
    generalize hoo : endO a.h.kind out (a.w.length - (srAsk a.s).1.toNat) = o at *
    have k1' : S1.get v = some (.cells (paGV a (.slice sb 0 0 a.said.length none 1) (.ptr p 0 0 4) (atS (psOf (srTell a.s b) (IntKind.wrap .i64 (ak + 1)))) (placeV v)) 14 0 0 false false) := k1
    simp (disch := omega) only [panK_int, ↓WO_cons, get_cons', nat_ne, ↓reduceIte, aop_mv, AX.ev, Fr.put, AllK_one, ↓WO_nil, ↓thenK_norm, ↓e58_7, a58_7, ↓WC_cond, ↓WC_reg, aop_bin, withS, abin, isShift, kindBeq, aint, ine_dec, decide_true, Bool.not_true, cond_true, cond_false, panK_bool, condK_false, ↓WC_skip, panK_ptr, aop_nck, aop_fad, Nat.zero_add, aop_ld1, ld1_ptr, k1', ldO_cells, ble_dec, Nat.le_refl, Bool.and_true, blt_dec, Nat.reduceLT, List.getElem?_cons_succ, List.getElem?_cons_zero, aop_st, AS.st, cells_int, List.length_cons, List.length_nil, beq_dec, stl_get, stO_cells, Nat.reduceAdd, List.all_cons, one_int, List.all_nil, setL, consS_eq, Option.map_some, undefA, panK_tup]
    have hn1 : S.n ≤ S1.n := k4.n
    rw [finA_low (by have := mw_putle (v := v) (o := anO (paGV { a with asked := IntKind.wrap .i64 (a.asked + 1) } (.slice sb 0 0 a.said.length none 1) (.ptr p 0 0 4) (atS (psOf (srTell a.s b) (IntKind.wrap .i64 (ak + 1)))) (placeV v))) k5; exact Nat.lt_of_le_of_lt this hlv)]
    have vs := q5.vs; have vp := q5.vp; have ve := q5.ve
    refine k _ ⟨Nat.lt_of_lt_of_le hlv hn1, hp.vm, Nat.le_trans hp.mn hn1, fun h => absurd (show a.begun = false from h) (by rw [hb]; decide), fun _ h => absurd (show a.spur = true from h) (by rw [hs]; decide), fun _ _ => ⟨p, e, sb, setL cs (srAsk a.s).1.toNat [rowI 1 o], IntKind.wrap .i64 (ak + 1), ?_, ?_, q3.set, ⟨?_, fun st no hw => ?_, k3.ne⟩, ⟨Nat.lt_of_lt_of_le q5.lv hn1, Nat.lt_of_lt_of_le q5.lp hn1, Nat.lt_of_lt_of_le q5.le hn1, Nat.lt_of_lt_of_le q5.ls hn1, q5.vp, q5.ve, q5.vs, q5.pe, q5.ps, q5.es⟩, q6⟩⟩ ?_
    · rw [finB_get, AS.get_put, if_pos rfl]
      simp only [List.length_set]
    · rw [finB_get, AS.get_put, if_neg (by omega)]; exact k2
    · rw [finB_get, AS.get_put, if_neg (by omega)]; exact k3.at_
    · rw [finB_get, AS.get_put, if_neg (by omega)]; exact k3.ex st no hw
    · have := kpt_finB (Kpt.put k4 (.inl rfl) hlv (o := anO (paGV { a with asked := IntKind.wrap .i64 (a.asked + 1) } (.slice sb 0 0 a.said.length none 1) (.ptr p 0 0 4) (atS (psOf (srTell a.s b) (IntKind.wrap .i64 (ak + 1)))) (placeV v))))
      refine this.mono fun u hu => ?_
      obtain ⟨q61, q62, q63⟩ := q6
      rcases hu with rfl | rfl | rfl | rfl
      · exact .inl rfl
      · exact .inr q61
      · exact .inr q62
      · exact .inr q63
end Go.Proofs.Ytednmmcdjhfflaa.Vai
