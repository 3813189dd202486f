/- The program's search for a place, told something, where it lies. -/
import Derived.Test.YtednmmcdjhfflaaR10
import Derived.Test.YtednmmcdjhfflaaVaiZY
namespace Go.Proofs.Ytednmmcdjhfflaa.Vai
open Go
set_option linter.unusedVariables false
set_option linter.unusedSimpArgs false
def expO (st : Int) (no : Bool) : AObj := .cells [.int .i64 st, .bool no] 2 0 0 false false
def wayV (e : Nat) : Way → AV
  | .lin => .ifc 249 (.agg [])
  | .bin => .ifc 250 (.agg [])
  | .exp _ _ => .ifc 251 (.ptr e 0 0 2)
def psO (e : Nat) (s : PS) : AObj := .cells [wayV e s.way, .int .i64 s.low, .int .i64 s.high, .int .i64 s.asked] 4 0 0 false false
structure SrchAt (S : AS) (p e : Nat) (s : PS) : Prop where
  at_ : S.get p = some (psO e s)
  ex : ∀ st no, s.way = .exp st no → S.get e = some (expO st no)
  ne : e ≠ p
theorem SrchAt.uniq {S : AS} {p e e' : Nat} {s s' : PS} (h : SrchAt S p e s) (h' : SrchAt S p e' s') : s = s' ∧ (∀ st no, s.way = .exp st no → e = e') := by
  have h1 := h.at_.symm.trans h'.at_
  obtain ⟨w, l, hi, a⟩ := s
  obtain ⟨w', l', hi', a'⟩ := s'
  simp only [psO, Option.some.injEq, AObj.cells.injEq, List.cons.injEq, AV.int.injEq, true_and, and_true] at h1
  obtain ⟨hw, rfl, rfl, rfl⟩ := h1
  cases w <;> cases w' <;> simp only [wayV, AV.ifc.injEq, AV.agg.injEq, AV.ptr.injEq, reduceCtorEq, and_true, and_false, Nat.reduceEqDiff, false_and] at hw
  · exact ⟨rfl, fun _ _ h => by cases h⟩
  · exact ⟨rfl, fun _ _ h => by cases h⟩
  · rename_i st no st' no'
    have e1 := h.ex st no rfl
    have e2 := h'.ex st' no' rfl
    have hw : e = e' := hw.2
    subst hw
    rw [e1] at e2
    simp only [expO, Option.some.injEq, AObj.cells.injEq, List.cons.injEq, AV.int.injEq, AV.bool.injEq, true_and, and_true] at e2
    obtain ⟨rfl, rfl⟩ := e2
    exact ⟨rfl, fun _ _ _ => rfl⟩
def Way.told (v : Bool) : Way → Way
  | .exp st no => .exp (IntKind.wrap .i64 (st * 2)) (no || !v)
  | w => w
def PS.tell (s : PS) (v : Bool) : PS := ⟨s.way.told v, if v then s.low else s.ask.1, if v then s.ask.1 else s.high, IntKind.wrap .i64 (s.asked + 1)⟩
def psT (S : AS) (p e : Nat) (s : PS) : AS := match s.way with
  | .exp st no => (S.put e (expO st no)).put p (psO e s)
  | _ => S.put p (psO e s)
theorem psT_get {S : AS} {p e : Nat} {s : PS} {u : Nat} (h1 : u ≠ p) (h2 : u ≠ e) : (psT S p e s).get u = S.get u := by
  unfold psT
  cases s.way with
  | exp st no => simp only [AS.get_put, if_neg h1, if_neg h2]
  | lin => simp only [AS.get_put, if_neg h1]
  | bin => simp only [AS.get_put, if_neg h1]
theorem psT_at {S : AS} {p e : Nat} {s : PS} (hne : e ≠ p) : SrchAt (psT S p e s) p e s := by
  obtain ⟨w, l, hi, a⟩ := s
  cases w with
  | exp st no => exact ⟨by simp only [psT, AS.get_put, if_pos], fun st' no' h => by cases h; simp only [psT, AS.get_put, if_neg hne, if_pos], hne⟩
  | lin => exact ⟨by simp only [psT, AS.get_put, if_pos], fun _ _ h => by (simp only [reduceCtorEq] at h), hne⟩
  | bin => exact ⟨by simp only [psT, AS.get_put, if_pos], fun _ _ h => by (simp only [reduceCtorEq] at h), hne⟩
def etoldQ (args : List AV) (S : AS) (r : AV) (S' : AS) : Prop := ∀ e st no v, args = [.ptr e 0 0 2, .bool v] → S.get e = some (expO st no) → r = .tup [] ∧ S' = (S.put e (expO (IntKind.wrap .i64 (st * 2)) (no || !v))).up S.n
theorem etold_ex {S : AS} {e : Nat} {st : Int} {no v : Bool} (h : S.get e = some (expO st no)) : ∃ r S', relG P 213 etoldQ [.ptr e 0 0 2, .bool v] S = some (r, S') ∧ r = .tup [] ∧ S' = (S.put e (expO (IntKind.wrap .i64 (st * 2)) (no || !v))).up S.n := by
  have hs : Sem P 213 [.ptr e 0 0 2, .bool v] S (.tup []) ((S.put e (expO (IntKind.wrap .i64 (st * 2)) (no || !v))).up S.n) := by
    refine sem_run orders G34_fine (kp := kpN) (L := 1) (d := 1) fn213 rfl (Fro.up (Nat.le_refl _) fun u hu hr => ?_) ?_
    · rw [AS.get_put]
      split
      · rename_i he; subst he; rw [h] at hr; cases hr
      · exact hr
    have h' : (⟨S.objs, S.n, S.n⟩ : AS).get e = some (.cells [.int .i64 st, .bool no] 2 0 0 false false) := h
    cases no <;> cases v <;> simp (disch := omega) only [↓e213, a213, params, Nat.zero_add, ↓e213_1, a213_1, Bool.not_false, Bool.or_true, ↓WC_reg, ↓WO_cons, aop_mv, AX.ev, Fr.put, AllK_one, get_cons', ↓reduceIte, panK_ptr, aop_nck, aop_fad, Nat.add_zero, aop_ld1, withS, ld1_ptr, h', ldO_cells, ble_dec, Nat.le_refl, decide_true, Bool.and_true, blt_dec, Nat.reduceLT, List.getElem?_cons_zero, cond_true, panK_int, aop_bin, abin, isShift, kindBeq, aint, cond_false, nat_ne, aop_st, AS.st, cells_int, List.length_cons, List.length_nil, beq_dec, stl_get, stO_cells, Nat.reduceLeDiff, List.all_cons, one_int, List.all_nil, setL, consS_eq, Option.map_some, undefA, panK_tup, ↓WO_nil, ↓thenK_norm, AS.get_put, List.getElem?_cons_succ, panK_bool, ↓WO_unless, undK_bool, condK_false, aop_un, aun, aop_pick, cells_bool, Nat.reduceAdd, one_bool, endX_norm, resV, Option.some.injEq, resOne, get_reset, AS.n_put, exists_eq_left', true_and, Bool.not_true, Bool.or_false, condK_true]
    all_goals
      refine ⟨fun u o hu => ?_, Nat.le_refl _⟩
      rw [AS.up_get, AS.get_put] at hu
      exact hu
  obtain ⟨r, S', h1, h2⟩ := relG_say (Q := etoldQ) hs (fun e' st' no' v' ha hg => by
    simp only [List.cons.injEq, AV.ptr.injEq, AV.bool.injEq, and_true] at ha
    obtain ⟨rfl, rfl⟩ := ha
    rw [h] at hg
    simp only [expO, Option.some.injEq, AObj.cells.injEq, List.cons.injEq, AV.int.injEq, AV.bool.injEq, true_and, and_true] at hg
    obtain ⟨rfl, rfl⟩ := hg
    exact ⟨rfl, rfl⟩)
  exact ⟨r, S', h1, h2 e st no v rfl h⟩
def btoldS := sp2 cUn cBo fun _ _ => some (.tup [])
theorem btold_ok : PureS P 211 btoldS := PureS.of2 fun u s r hr => by
  cases hr
  refine ⟨pure_run orders G34_fine (L := 1) (d := 1) fn211 rfl ?_, rfl⟩
  simp (disch := omega) only [↓e211, a211, params, en_Un, Nat.zero_add, en_B, ↓WC_reg, ↓WO_cons, aop_box, AX.ev, get_cons', ↓reduceIte, cells_agg, E0_n, List.length_nil, AS.newRow, Fr.put, AllK_one, panK_ptr, ↓WO_nil, ↓endP_norm, resV, Option.some.injEq, resOne, exists_eq_left']
  exact Frz.scal rfl
noncomputable abbrev etoldG := relG P 213 etoldQ
noncomputable def G35 : Giv := addG 211 (pureG btoldS) (addG 213 (stG etoldG) (G34))
theorem G35_fine : Fine P G35 := ((G34_fine).state relG_ok).pure btold_ok
theorem G35_213 : G35 213 = some (stG etoldG) := rfl
theorem G35_211 : G35 211 = some (pureG btoldS) := rfl
theorem G35_175 : G35 175 = some (pureG psaskS) := rfl
theorem meth_tb : (ctxE Try.prog kpN fun _ => none).meth 250 "tutor/point.told" = some 211 := by kernel_rfl
theorem meth_te : (ctxE Try.prog kpN fun _ => none).meth 251 "tutor/point.told" = some 213 := by kernel_rfl
def pstellQ (args : List AV) (S : AS) (r : AV) (S' : AS) : Prop := ∀ p e s v, args = [.ptr p 0 0 4, .bool v] → SrchAt S p e s → r = .int .i64 0 ∧ S' = (psT S p e (s.tell v)).up (S.n + 1)
theorem psT_uniq {S : AS} {p e e' : Nat} {s s' : PS} {v : Bool} (h : SrchAt S p e s) (h' : SrchAt S p e' s') : psT S p e (s.tell v) = psT S p e' (s'.tell v) := by
  obtain ⟨rfl, he⟩ := h.uniq h'
  obtain ⟨w, l, hi, a⟩ := s
  cases w with
  | exp st no => rw [he st no rfl]
  | lin => rfl
  | bin => rfl
theorem SrchAt.lend {S : AS} {p e : Nat} {s : PS} (h : SrchAt S p e s) : ∃ x, frzF S 3 (.ptr p 0 0 4) = some x ∧ cPS.de x = some s := by
  obtain ⟨w, l, hi, a⟩ := s
  have h1 := h.at_
  cases w with
  | lin =>
    exact ⟨.fp 0 [.ifc 249 (.agg []), .int .i64 l, .int .i64 hi, .int .i64 a] 0, by rw [frzF_ptr, h1]; rfl, rfl⟩
  | bin =>
    exact ⟨.fp 0 [.ifc 250 (.agg []), .int .i64 l, .int .i64 hi, .int .i64 a] 0, by rw [frzF_ptr, h1]; rfl, rfl⟩
  | exp st no =>
    have h2 := h.ex st no rfl
    refine ⟨.fp 0 [.ifc 251 (.fp 0 [.int .i64 st, .bool no] 0), .int .i64 l, .int .i64 hi, .int .i64 a] 0, ?_, rfl⟩
    rw [frzF_ptr, h1]
    simp only [psO, wayV, frzP_cells, List.take_succ_cons, List.take_zero, mapO_cons, mapO_nil, frzF_ifc, frzF_ptr, h2, expO, frzF_0, AV.scalar, frzF_int, ifcF, Nat.ble_eq_true_of_le, Nat.le_refl, Bool.and_self, cond_true, Option.map_some]
    rfl
theorem AllK.st {g : List AV → AS → Option (AV × AS)} {args : List AV} {S : AS} {Q : AV × AS → Prop} {R : AV → AS → Prop} (h : ∃ r S', g args S = some (r, S') ∧ R r S') (k : ∀ r S', R r S' → Q (r, S')) : AllK (stG g args S) Q := by
  obtain ⟨r, S', h1, h2⟩ := h
  rw [stG_some h1]
  exact k r S' h2
theorem One.st {g : List AV → AS → Option (AV × AS)} {args : List AV} {S : AS} {Q : AV × AS → Prop} {R : AV → AS → Prop} (h : ∃ r S', g args S = some (r, S') ∧ R r S') (k : ∀ r S', R r S' → Q (r, S')) : One (stG g args S) Q := by
  obtain ⟨r, S', h1, h2⟩ := h
  rw [stG_some h1]
  exact ⟨_, rfl, k r S' h2⟩
theorem SrchAt.mw {S : AS} {p e m : Nat} {s : PS} (h : SrchAt S p e s) : SrchAt ⟨S.objs, S.n, m⟩ p e s := ⟨h.at_, h.ex, h.ne⟩
set_option maxRecDepth 4000 in
theorem pstell_ex {S : AS} {p e : Nat} {s : PS} {v : Bool} (hwf : Wf S) (h : SrchAt S p e s) (hb : s.B) (hm : s.ask.2 = true) (hp : p < S.n) (he : e < S.n) : ∃ r S', relG P 174 pstellQ [.ptr p 0 0 4, .bool v] S = some (r, S') ∧ r = .int .i64 0 ∧ S' = (psT S p e (s.tell v)).up (S.n + 1) := by
  have hs : Sem P 174 [.ptr p 0 0 4, .bool v] S (.int .i64 0) ((psT S p e (s.tell v)).up (S.n + 1)) := by
    refine sem_run orders G35_fine (kp := kpN) (L := 1) (d := 1) fn174 rfl (Fro.up (Nat.le_succ _) fun u hu hr => ?_) ?_
    · have h1 : u ≠ p := by rintro rfl; rw [h.at_] at hr; cases hr
      by_cases h2 : u = e
      · subst h2
        unfold psT PS.tell
        cases hw : s.way with
        | exp st no => rw [h.ex st no hw] at hr; cases hr
        | lin => simp only [Way.told, AS.get_put, if_neg h1]; exact hr
        | bin => simp only [Way.told, AS.get_put, if_neg h1]; exact hr
      · rw [psT_get h1 h2]; exact hr
    obtain ⟨x, l1, l2⟩ := (h.mw (m := S.n)).lend
    have hg : (⟨S.objs, S.n, S.n⟩ : AS).get p = some (psO e s) := h.at_
    have hx : ∀ st no, s.way = .exp st no → (⟨S.objs, S.n, S.n⟩ : AS).get e = some (expO st no) := h.ex
    obtain ⟨⟨h1, h2, h3, h4⟩, hw⟩ := id hb
    have hne := h.ne
    obtain ⟨i, hA⟩ : ∃ i, s.ask = (i, true) := ⟨s.ask.1, by rw [← hm]⟩
    obtain ⟨w, l, hi, a⟩ := s
    have htell : ∀ v, (PS.mk w l hi a).tell v = ⟨w.told v, if v then l else i, if v then i else hi, IntKind.wrap .i64 (a + 1)⟩ := fun v => by unfold PS.tell; rw [hA]
    rw [htell]
    have hint : aeq .ptr (.ptr p 0 0 4) .nilp = some false := rfl
    cases w with
    | lin =>
      simp only [psO, wayV] at hg
      cases v <;> simp (disch := omega) only [↓e174, a174, params, Nat.zero_add, ↓e174_1, a174_1, ↓e174_2, a174_2, ↓e174_3, a174_3, ↓e174_4, a174_4, ↓e174_6, a174_6, ↓e174_9, a174_9, ↓WC_seq, ↓WC_reg, ↓WO_cons, aop_mv, AX.ev, Fr.put, AllK_one, panK_int, ↓WO_nil, ↓thenK_norm, ↓WC_ret, endX_ret, resV, get_cons', ↓reduceIte, Option.map_some, Option.some.injEq, resOne, exists_eq_left', true_and, nat_ne, panK_ptr, aop_eq, hint, Bool.not_false, cond_false, panK_bool, ↓WC_cond, condK_false, ↓WC_skip, aop_call, AX.evs, call_giv1 G35_175, psaskS, pureG_eq, AV.scalL, AV.scalar, Bool.and_true, sp1, mapO_cons, l1, mapO_nil, Option.bind_some, l2, hA, gd_pos hb, spB_some, AV.inz, AV.inzL, cond_true, panK_tup, aop_xt, withS, List.getElem?_cons_zero, List.getElem?_cons_succ, aop_un, aun, Bool.not_true, ↓e174_5, a174_5, aop_nck, aop_fad, Nat.add_zero, aop_st, AS.st, cells_int, List.length_cons, List.length_nil, beq_dec, decide_true, stl_get, hg, stO_cells, Nat.reduceAdd, ble_dec, Nat.reduceLeDiff, List.all_cons, one_int, List.all_nil, setL, consS_eq, undefA, aop_ld1, ld1_ptr, AS.get_put, ldO_cells, Nat.le_refl, blt_dec, Nat.reduceLT, panK_ifc, aop_tas, panK_agg, aop_alloc, AS.n_put, AS.newRow, cells_agg, AS.get_push, ↓e174_7, a174_7, ↓e174_8, a174_8, aop_bin, abin, isShift, kindBeq, aint, get_reset, AS.n_push, condK_true]
      all_goals
        refine ⟨fun u o hu => ?_, Nat.le_refl _⟩
        rw [AS.up_get] at hu
        simp only [psT, Way.told, AS.get_put, psO, wayV] at hu
        by_cases e1 : u = p
        · simp only [e1, if_true, ↓reduceIte, Bool.false_eq_true] at hu ⊢; exact hu
        · simp only [e1, if_false, ↓reduceIte] at hu ⊢
          rw [if_neg (by have := hwf u o hu; omega)]; exact hu
    | bin =>
      simp only [psO, wayV] at hg
      cases v <;> simp (disch := omega) only [↓e174, a174, params, Nat.zero_add, ↓e174_1, a174_1, ↓e174_2, a174_2, ↓e174_3, a174_3, ↓e174_4, a174_4, ↓e174_6, a174_6, ↓e174_9, a174_9, ↓WC_seq, ↓WC_reg, ↓WO_cons, aop_mv, AX.ev, Fr.put, AllK_one, panK_int, ↓WO_nil, ↓thenK_norm, ↓WC_ret, endX_ret, resV, get_cons', ↓reduceIte, Option.map_some, Option.some.injEq, resOne, exists_eq_left', true_and, nat_ne, panK_ptr, aop_eq, hint, Bool.not_false, cond_false, panK_bool, ↓WC_cond, condK_false, ↓WC_skip, aop_call, AX.evs, call_giv1 G35_175, psaskS, pureG_eq, AV.scalL, AV.scalar, Bool.and_true, sp1, mapO_cons, l1, mapO_nil, Option.bind_some, l2, hA, gd_pos hb, spB_some, AV.inz, AV.inzL, cond_true, panK_tup, aop_xt, withS, List.getElem?_cons_zero, List.getElem?_cons_succ, aop_un, aun, Bool.not_true, ↓e174_5, a174_5, aop_nck, aop_fad, Nat.add_zero, aop_st, AS.st, cells_int, List.length_cons, List.length_nil, beq_dec, decide_true, stl_get, hg, stO_cells, Nat.reduceAdd, ble_dec, Nat.reduceLeDiff, List.all_cons, one_int, List.all_nil, setL, consS_eq, undefA, aop_ld1, ld1_ptr, AS.get_put, ldO_cells, Nat.le_refl, blt_dec, Nat.reduceLT, panK_ifc, aop_tas, decide_false, panK_agg, aop_alloc, AS.n_put, AS.newRow, cells_agg, AS.get_push, ↓e174_7, a174_7, ↓e174_8, a174_8, condK_true, aop_inv, meth_tb, call_giv1 G35_211, btoldS, sp2, de_Un, de_B, spK_some, aop_bin, abin, isShift, kindBeq, aint, get_reset, AS.n_push]
      all_goals
        refine ⟨fun u o hu => ?_, Nat.le_refl _⟩
        rw [AS.up_get] at hu
        simp only [psT, Way.told, AS.get_put, psO, wayV] at hu
        by_cases e1 : u = p
        · simp only [e1, if_true, ↓reduceIte, Bool.false_eq_true] at hu ⊢; exact hu
        · simp only [e1, if_false, ↓reduceIte] at hu ⊢
          rw [if_neg (by have := hwf u o hu; omega)]; exact hu
    | exp st no =>
      have hx := hx st no rfl
      simp only [psO, wayV] at hg
      cases v <;> simp (disch := omega) only [↓e174, a174, params, Nat.zero_add, ↓e174_1, a174_1, ↓e174_2, a174_2, ↓e174_3, a174_3, ↓e174_4, a174_4, ↓e174_6, a174_6, ↓e174_9, a174_9, ↓WC_seq, ↓WC_reg, ↓WO_cons, aop_mv, AX.ev, Fr.put, AllK_one, panK_int, ↓WO_nil, ↓thenK_norm, ↓WC_ret, endX_ret, resV, get_cons', ↓reduceIte, Option.map_some, Option.some.injEq, resOne, exists_eq_left', true_and, nat_ne, panK_ptr, aop_eq, hint, Bool.not_false, cond_false, panK_bool, ↓WC_cond, condK_false, ↓WC_skip, aop_call, AX.evs, call_giv1 G35_175, psaskS, pureG_eq, AV.scalL, AV.scalar, Bool.and_true, sp1, mapO_cons, l1, mapO_nil, Option.bind_some, l2, hA, gd_pos hb, spB_some, AV.inz, AV.inzL, cond_true, panK_tup, aop_xt, withS, List.getElem?_cons_zero, List.getElem?_cons_succ, aop_un, aun, Bool.not_true, ↓e174_5, a174_5, aop_nck, aop_fad, Nat.add_zero, aop_st, AS.st, cells_int, List.length_cons, List.length_nil, beq_dec, decide_true, stl_get, hg, stO_cells, Nat.reduceAdd, ble_dec, Nat.reduceLeDiff, List.all_cons, one_int, List.all_nil, setL, consS_eq, undefA, aop_ld1, ld1_ptr, AS.get_put, ldO_cells, Nat.le_refl, blt_dec, Nat.reduceLT, panK_ifc, aop_tas, decide_false, panK_agg, aop_alloc, AS.n_put, AS.newRow, cells_agg, AS.get_push, ↓e174_7, a174_7, ↓e174_8, a174_8, condK_true, aop_inv, meth_te, call_giv1 G35_213]
      all_goals
        refine AllK.st (etold_ex (st := st) (no := no) (by simp (disch := omega) only [AS.get_put, nat_ne, ↓reduceIte, AS.get_push, AS.n_put]; exact hx)) ?_
        rintro r S' ⟨rfl, rfl⟩
        simp (disch := omega) only [AS.up_get, AS.up_n, AS.n_put, AS.n_push, panK_tup, ↓WO_nil, ↓thenK_norm, get_cons', nat_ne, ↓reduceIte, panK_ptr, ↓WO_cons, Bool.not_false, Bool.or_true, aop_nck, AX.ev, Fr.put, AllK_one, aop_fad, Nat.zero_add, aop_ld1, withS, ld1_ptr, AS.get_put, AS.get_push, ldO_cells, ble_dec, Nat.le_refl, decide_true, Bool.and_true, blt_dec, Nat.reduceLT, List.getElem?_cons_succ, List.getElem?_cons_zero, cond_true, panK_int, aop_bin, abin, isShift, kindBeq, aint, cond_false, aop_st, AS.st, cells_int, List.length_cons, List.length_nil, beq_dec, stl_get, stO_cells, Nat.reduceAdd, List.all_cons, one_int, List.all_nil, setL, consS_eq, Option.map_some, undefA, get_reset, and_true, Bool.not_true, Bool.or_false]
        refine fun u o hu => ?_
        simp only [psT, Way.told, AS.get_put, psO, wayV, Bool.not_false, Bool.not_true, Bool.or_true, Bool.or_false, ↓reduceIte, Bool.false_eq_true] at hu
        by_cases e1 : u = p
        · simp only [e1, if_true, ↓reduceIte, Bool.false_eq_true] at hu ⊢; exact hu
        · by_cases e2 : u = e
          · simp only [e1, e2, hne, if_true, if_false, ↓reduceIte] at hu ⊢; exact hu
          · simp only [e1, e2, if_false, ↓reduceIte] at hu ⊢
            rw [if_neg (by have := hwf u o hu; omega)]; exact hu
  obtain ⟨r, S', h1, h2⟩ := relG_say (Q := pstellQ) hs (fun p' e' s' v' ha hg => by
    simp only [List.cons.injEq, AV.ptr.injEq, AV.bool.injEq, and_true] at ha
    obtain ⟨rfl, rfl⟩ := ha
    exact ⟨rfl, by rw [psT_uniq h hg]⟩)
  exact ⟨r, S', h1, h2 p e s v rfl h⟩
noncomputable abbrev pstellG := relG P 174 pstellQ
def wayOf (how : Int) : Way := if how = 1 then .lin else if how = 2 then .bin else .exp 1 false
def psnP (how : Int) (S : AS) : Nat := if how = 3 then S.n + 1 else S.n
def psnE (how : Int) (S : AS) : Nat := if how = 3 then S.n else S.n + 1
def psnS (how n : Int) (S : AS) : AS := if how = 3 then ((S.push (expO 1 false)).push (psO S.n ⟨wayOf how, 0, n, 0⟩)).up (S.n + 2) else ((S.push (psO (S.n + 1) ⟨wayOf how, 0, n, 0⟩)).up (S.n + 2))
def psnewQ (args : List AV) (S : AS) (r : AV) (S' : AS) : Prop := ∀ how n, args = [.int .i64 how, .int .i64 n] → r = .tup [.ptr (psnP how S) 0 0 4, .int .i64 0] ∧ S' = psnS how n S
theorem psnew_ex {S : AS} {how n : Int} (h1 : 1 ≤ how) (h2 : how ≤ 3) (n1 : 1 ≤ n) (n2 : n ≤ 4096) : ∃ r S', relG P 153 psnewQ [.int .i64 how, .int .i64 n] S = some (r, S') ∧ r = .tup [.ptr (psnP how S) 0 0 4, .int .i64 0] ∧ S' = psnS how n S := by
  have hs : Sem P 153 [.int .i64 how, .int .i64 n] S (.tup [.ptr (psnP how S) 0 0 4, .int .i64 0]) (psnS how n S) := by
    have hfro : Fro S (psnS how n S) := by
      unfold psnS
      split <;> refine Fro.up (Nat.le_add_right _ _) fun u hu hr => ?_
      · rw [AS.get_push, AS.get_push, if_neg (by simp only [AS.n_push]; omega), if_neg (by omega)]; exact hr
      · rw [AS.get_push, if_neg (by omega)]; exact hr
    have hni : ∀ t x, aeq (.ifc true) (.ifc t x) .nili = some false := fun t x => rfl
    refine sem_run orders G35_fine (kp := kpN) (L := 1) (d := 1) fn153 rfl hfro ?_
    rcases (by omega : how = 1 ∨ how = 2 ∨ how = 3) with rfl | rfl | rfl
    · simp (disch := omega) only [↓e153, a153, params, Nat.zero_add, ↓e153_1, a153_1, ↓e153_2, a153_2, ↓e153_8, a153_8, ↓e153_10, a153_10, ↓WC_ret, endX_ret, resV, Option.map_some, Option.some.injEq, resOne, exists_eq_left', ↓WC_reg, ↓WO_cons, aop_mv, AX.ev, Fr.put, AllK_one, ↓WC_block, ↓WC_seq, panK_nili, ↓WO_nil, ↓thenK_norm, get_cons', nat_ne, ↓reduceIte, panK_nilp, panK_int, ↓e153_3, a153_3, aop_bin, withS, abin, isShift, kindBeq, aint, beq_self_eq_true, cond_true, cond_false, panK_bool, ↓e153_4, a153_4, ↓WC_cond, condK_true, aop_build, fillL, panK_agg, aop_mkif, panK_ifc, ↓blkK_norm, aop_eq, hni, Bool.not_false, ↓WO_unless, undefA, undK_bool, condK_false, decf, aop_pick, ↓e153_9, a153_9, ↓WC_skip, cells_int, List.length_cons, List.length_nil, beq_dec, decide_true, Nat.reduceAdd, ble_dec, Nat.reduceLeDiff, Bool.and_true, setL, consS_eq, Nat.le_refl, cells_ifc, cells_agg, aop_box, AS.newRow, panK_ptr, AS.get_push, get_reset, AS.n_push]
      exact ⟨rfl, fun v o h => by (rw [psnS, if_neg (by decide), AS.up_get, AS.get_push] at h; exact h), Nat.le_succ _⟩
    · simp (disch := omega) only [↓e153, a153, params, Nat.zero_add, ↓e153_1, a153_1, ↓e153_2, a153_2, ↓e153_8, a153_8, ↓e153_10, a153_10, ↓WC_ret, endX_ret, resV, Option.map_some, Option.some.injEq, resOne, exists_eq_left', ↓WC_reg, ↓WO_cons, aop_mv, AX.ev, Fr.put, AllK_one, ↓WC_block, ↓WC_seq, panK_nili, ↓WO_nil, ↓thenK_norm, get_cons', nat_ne, ↓reduceIte, panK_nilp, panK_int, ↓e153_3, a153_3, aop_bin, withS, abin, isShift, kindBeq, aint, ieq_dec, Int.reduceEq, decide_false, cond_true, cond_false, panK_bool, ↓e153_4, a153_4, ↓WC_cond, condK_false, ↓e153_5, a153_5, ↓e153_6, a153_6, beq_self_eq_true, condK_true, aop_build, fillL, panK_agg, aop_mkif, panK_ifc, ↓blkK_norm, aop_eq, hni, Bool.not_false, ↓WO_unless, undefA, undK_bool, decf, aop_pick, ↓e153_9, a153_9, ↓WC_skip, cells_int, List.length_cons, List.length_nil, beq_dec, decide_true, Nat.reduceAdd, ble_dec, Nat.reduceLeDiff, Bool.and_true, setL, consS_eq, Nat.le_refl, cells_ifc, cells_agg, aop_box, AS.newRow, panK_ptr, AS.get_push, get_reset, AS.n_push]
      exact ⟨rfl, fun v o h => by (rw [psnS, if_neg (by decide), AS.up_get, AS.get_push] at h; exact h), Nat.le_succ _⟩
    · simp (disch := omega) only [↓e153, a153, params, Nat.zero_add, ↓e153_1, a153_1, ↓e153_2, a153_2, ↓e153_8, a153_8, ↓e153_10, a153_10, ↓WC_ret, endX_ret, resV, Option.map_some, Option.some.injEq, resOne, exists_eq_left', ↓WC_reg, ↓WO_cons, aop_mv, AX.ev, Fr.put, AllK_one, ↓WC_block, ↓WC_seq, panK_nili, ↓WO_nil, ↓thenK_norm, get_cons', nat_ne, ↓reduceIte, panK_nilp, panK_int, ↓e153_3, a153_3, aop_bin, withS, abin, isShift, kindBeq, aint, ieq_dec, Int.reduceEq, decide_false, cond_true, cond_false, panK_bool, ↓e153_4, a153_4, ↓WC_cond, condK_false, ↓e153_5, a153_5, ↓e153_6, a153_6, beq_self_eq_true, ↓e153_7, a153_7, condK_true, aop_build, fillL, cells_int, List.length_cons, List.length_nil, beq_dec, decide_true, Nat.reduceAdd, ble_dec, Nat.reduceLeDiff, Bool.and_true, setL, consS_eq, panK_agg, aop_box, cells_agg, AS.newRow, panK_ptr, aop_mkif, panK_ifc, ↓blkK_norm, aop_eq, hni, Bool.not_false, ↓WO_unless, undefA, undK_bool, decf, aop_pick, ↓e153_9, a153_9, ↓WC_skip, Nat.le_refl, cells_ifc, AS.n_push, AS.get_push, get_reset]
      exact ⟨rfl, fun v o h => by (rw [psnS, if_pos rfl, AS.up_get, AS.get_push, AS.get_push] at h; exact h), Nat.le_refl _⟩
  obtain ⟨r, S', q1, q2⟩ := relG_say (Q := psnewQ) hs (fun how' n' ha => by
    simp only [List.cons.injEq, AV.int.injEq, true_and, and_true] at ha
    obtain ⟨rfl, rfl⟩ := ha
    exact ⟨rfl, rfl⟩)
  exact ⟨r, S', q1, q2 how n rfl⟩
theorem psn_at {how n : Int} {S : AS} (h1 : 1 ≤ how) (h2 : how ≤ 3) : SrchAt (psnS how n S) (psnP how S) (psnE how S) ⟨wayOf how, 0, n, 0⟩ := by
  unfold psnS psnP psnE
  rcases (by omega : how = 1 ∨ how = 2 ∨ how = 3) with rfl | rfl | rfl
  · exact ⟨by simp only [if_neg (show ¬ (1 : Int) = 3 by decide)]; rw [AS.up_get, AS.get_push, if_pos rfl], (fun st no h => by (simp [wayOf] at h)), by simp⟩
  · exact ⟨by simp only [if_neg (show ¬ (2 : Int) = 3 by decide)]; rw [AS.up_get, AS.get_push, if_pos rfl], (fun st no h => by (simp [wayOf] at h)), by simp⟩
  · refine ⟨?_, fun st no h => ?_, ?_⟩
    · simp only [if_true, ↓reduceIte]; rw [AS.up_get, AS.get_push, if_pos (by simp only [AS.n_push])]
    · simp only [if_true, ↓reduceIte]; rw [AS.up_get, AS.get_push, if_neg (by simp only [AS.n_push]; omega), AS.get_push, if_pos rfl]; cases h; rfl
    · simp
theorem psn_get {how n : Int} {S : AS} {u : Nat} (h : u < S.n) : (psnS how n S).get u = S.get u := by
  unfold psnS
  split
  · rw [AS.up_get, AS.get_push, if_neg (by simp only [AS.n_push]; omega), AS.get_push, if_neg (by omega)]
  · rw [AS.up_get, AS.get_push, if_neg (by omega)]
theorem psn_n {how n : Int} {S : AS} : (psnS how n S).n = S.n + 2 := by unfold psnS; split <;> rfl
noncomputable abbrev psnewG := relG P 153 psnewQ
noncomputable def G36 : Giv := addG 153 (stG psnewG) (addG 174 (stG pstellG) (G35))
theorem G36_fine : Fine P G36 := ((G35_fine).state relG_ok).state relG_ok
theorem G36_33 : G36 33 = some (pureG bigS) := rfl
end Go.Proofs.Ytednmmcdjhfflaa.Vai
