/- The law TrimLeast, of the printed functions: the access words of a machine's states lead to them, are in order and the first ones; each beginning of one is one. -/
import Derived.Test.YtllgeljacmpdjaaPTrimxf6
import Derived.Test.YtllgeljacmpdjaaGLib
namespace Go.Proofs.Ytllgeljacmpdjaa.Pure
open Go.RowKit Go.Proofs.Ytllgeljacmpdjaa.PTrim Go.Proofs.YtllgeljacmpdjaaW.PrintWords Go.Proofs.YtllgeljacmpdjaaW.PrintLast Go.Proofs.Ytllgeljacmpdjaa.Bfs
set_option linter.unusedVariables false

section
variable {a0 a1 a2 a3 : Int} {l4 l5 : List Int} (hM : RightM a0 a1 a2 a3 l4 l5) {s : List Int × List (List Int)} (h : MInv a1 a3 l4 s s.1.length 0)
include hM h

theorem least_l1 {w : List Int} {at_ : Int} {found : Bool} {i : Nat} (hi : i < s.1.length) (hnx : Ev (fun k => tutorlaw04_TrimLeast.l0 k w s.1 s.2 at_ found ((i + 1 : Nat) : Int) a0 a1 a2 a3 l4 l5) true) (hpos : 0 < (s.2.getD i []).length) :
    ∀ (n q : Nat) (b : Bool), i - q = n → (b = true ∨ ∃ p, q ≤ p ∧ p < i ∧ ∃ y, s.2.getD i [] = s.2.getD p [] ++ [y]) →
      Ev (fun k => tutorlaw04_TrimLeast.l1 k w s.1 s.2 at_ found (i : Int) b (q : Int) a0 a1 a2 a3 l4 l5) true
  | 0, q, b, hn, hb => by
    have hs := slen hM h
    have hb' : b = true := by
      rcases hb with hb | ⟨p, h1, h2, _⟩
      · exact hb
      · omega
    subst hb'
    refine Ev.step (fun k => ?_) hnx
    simp only [tutorlaw04_TrimLeast.l1]
    rw [if_neg (by omega), if_pos trivial, step1 (by omega)]
  | n + 1, q, b, hn, hb => by
    have hs := slen hM h
    have hlen := h.len
    have hwl := h.wlen i hi
    by_cases hbt : b = true
    · subst hbt
      refine Ev.step (fun k => ?_) (least_l1 hi hnx hpos n (q + 1) true (by omega) (.inl rfl))
      simp only [tutorlaw04_TrimLeast.l1]
      rw [if_pos (by omega), if_pos trivial, step1 (by omega)]
    · have hbf : b = false := by cases b <;> simp_all
      subst hbf
      have hwq := h.wlen q (by omega)
      have hse := same_ev (a := s.2.getD q []) (b := (s.2.getD i []).take ((wrap64 (((s.2.getD i []).length : Int) - 1)) : Int).toNat) (by unfold maxLen; omega)
      have e1 : wrap64 (((s.2.getD i []).length : Int) - 1) = ((s.2.getD i []).length : Int) - 1 := wrap_id (by omega) (by omega)
      have hih := least_l1 hi hnx hpos n (q + 1) (decide (s.2.getD q [] = (s.2.getD i []).take ((wrap64 (((s.2.getD i []).length : Int) - 1)) : Int).toNat)) (by omega) (by
        rcases hb with hb | ⟨p, h1, h2, y, ey⟩
        · cases hb
        · by_cases hpq : p = q
          · subst hpq
            left
            apply decide_eq_true
            rw [e1, ey]
            have : ((((s.2.getD p [] ++ [y]).length : Int) - 1).toNat) = (s.2.getD p []).length := by rw [List.length_append]; simp only [List.length_cons, List.length_nil]; omega
            rw [this, List.take_left]
          · exact .inr ⟨p, by omega, h2, y, ey⟩)
      refine Ev.succ ?_
      simp only [tutorlaw04_TrimLeast.l1]
      rw [rdL_nat, rdL_nat]
      refine Ev.pos (by omega) ?_
      refine Ev.neg (by decide) ?_
      refine Ev.pos (by omega) ?_
      refine Ev.pos (by omega) ?_
      refine Ev.pos (by omega) ?_
      refine Ev.pos (by omega) ?_
      refine Ev.pos (by omega) ?_
      refine Ev.pos (by omega) ?_
      refine Ev.bind hse ?_
      rw [step1 (by omega)]
      exact hih

theorem least_l0 {w : List Int} {at_ : Int} (hwl : w.length ≤ 2000) (hat : ∀ j, j < s.1.length → s.1.getD j 0 = at_ → ah w (s.2.getD j []) = false) :
    ∀ (n i : Nat) (found : Bool), s.1.length - i = n → (found = true ∨ ∃ j, i ≤ j ∧ j < s.1.length ∧ s.1.getD j 0 = at_) →
      Ev (fun k => tutorlaw04_TrimLeast.l0 k w s.1 s.2 at_ found (i : Int) a0 a1 a2 a3 l4 l5) true
  | 0, i, found, hn, hf => by
    have hf' : found = true := by
      rcases hf with hf | ⟨p, h1, h2, _⟩
      · exact hf
      · omega
    subst hf'
    refine Ev.succ ?_
    simp only [tutorlaw04_TrimLeast.l0]
    refine Ev.neg (by omega) ?_
    refine Ev.pos trivial ?_
    exact Ev.bind live_ev (Ev.now true)
  | n + 1, i, found, hn, hf => by
    have hs := slen hM h
    have hlen := h.len
    have hi : i < s.1.length := by omega
    have hwi := h.wlen i hi
    have hk1 := hM.k1
    have hsy : InR (s.2.getD i []) a1 := fun y hy => by have := h.syms i hi y hy; omega
    have hgo := go_ev hM hsy (by omega) (s := 0) (by omega) (by have := hM.n1; omega)
    rw [h.runs i hi] at hgo
    -- behind the tests of this state
    have hnext : ∀ found2 : Bool, (found2 = true ∨ ∃ j, i + 1 ≤ j ∧ j < s.1.length ∧ s.1.getD j 0 = at_) →
        Ev (fun k => tutorlaw04_TrimLeast.j5 k w s.1 s.2 at_ found2 (i : Int) a0 a1 a2 a3 l4 l5) true := by
      intro found2 hf2
      have ih := least_l0 hwl hat n (i + 1) found2 (by omega) hf2
      by_cases hp : 0 < (s.2.getD i []).length
      · have hi0 : 0 < i := by omega
        obtain ⟨p, y, hp1, _, _, _, ew⟩ := h.par i hi0 hi
        have hl1 := least_l1 hM h hi ih hp i 0 false (by omega) (.inr ⟨p, by omega, hp1, _, ew⟩)
        refine Ev.step (fun k => ?_) hl1
        simp only [tutorlaw04_TrimLeast.j5]
        rw [if_pos (by omega), if_pos (by omega), rdL_nat, if_pos (by omega)]
        rfl
      · refine Ev.step (fun k => ?_) ih
        simp only [tutorlaw04_TrimLeast.j5]
        rw [if_pos (by omega), if_pos (by omega), rdL_nat, if_neg (by omega), step1 (by omega)]
    have hj4 : Ev (fun k => tutorlaw04_TrimLeast.j4 k w s.1 s.2 at_ found (i : Int) (s.1.getD i 0) false a0 a1 a2 a3 l4 l5) true := by
      by_cases he : s.1.getD i 0 = at_
      · have ha := ahead_ev (a := w) (b := s.2.getD i []) (by unfold maxLen; omega)
        rw [hat i hi he] at ha
        refine Ev.succ ?_
        simp only [tutorlaw04_TrimLeast.j4]
        rw [rdL_nat]
        refine Ev.neg (by decide) ?_
        refine Ev.pos he ?_
        refine Ev.pos (by omega) ?_
        refine Ev.pos (by omega) ?_
        refine Ev.bind ha ?_
        exact Ev.neg (by decide) (hnext true (.inl rfl))
      · refine Ev.step (fun k => ?_) (hnext found (by
          rcases hf with hf | ⟨j, h1, h2, h3⟩
          · exact .inl hf
          · refine .inr ⟨j, ?_, h2, h3⟩
            by_cases e : j = i
            · subst e; exact absurd h3 he
            · omega))
        simp only [tutorlaw04_TrimLeast.j4]
        rw [if_neg (by decide), if_neg he]
    by_cases hi0 : i = 0
    · subst hi0
      refine Ev.succ ?_
      simp only [tutorlaw04_TrimLeast.l0]
      rw [rdL_nat, rd_nat]
      refine Ev.pos (by omega) ?_
      refine Ev.pos (by omega) ?_
      refine Ev.pos (by omega) ?_
      refine Ev.bind hgo ?_
      refine Ev.pos rfl ?_
      refine Ev.neg (by omega) ?_
      exact hj4
    · have hw1 : wrap64 ((i : Int) - 1) = ((i - 1 : Nat) : Int) := by rw [wrap_id (by omega) (by omega)]; omega
      have hah := ahead_ev (a := s.2.getD (i - 1) []) (b := s.2.getD i []) (by have := h.wlen (i - 1) (by omega); unfold maxLen; omega)
      rw [h.ord (i - 1) i (by omega) hi] at hah
      refine Ev.succ ?_
      simp only [tutorlaw04_TrimLeast.l0]
      rw [hw1, rdL_nat, rdL_nat, rd_nat]
      refine Ev.pos (by omega) ?_
      refine Ev.pos (by omega) ?_
      refine Ev.pos (by omega) ?_
      refine Ev.bind hgo ?_
      refine Ev.pos rfl ?_
      refine Ev.pos (by omega) ?_
      refine Ev.pos (by omega) ?_
      refine Ev.pos (by omega) ?_
      refine Ev.bind hah ?_
      exact hj4
end

theorem TrimLeast : ∀ (a0_0 a0_1 a0_2 a0_3 : Int) (l0_4 l0_5 : List Int) (l1 : List Int), (Lit.int .i64 a0_0).wf = true → (Lit.int .i64 a0_1).wf = true → (Lit.int .i64 a0_2).wf = true → (Lit.int .i64 a0_3).wf = true → l0_4.length ≤ maxLen → (∀ x ∈ l0_4, (Lit.int .i64 x).wf = true) → l0_5.length ≤ maxLen → (∀ x ∈ l0_5, (Lit.int .i64 x).wf = true) → l1.length ≤ maxLen → (∀ x ∈ l1, (Lit.int .i64 x).wf = true) → ∃ k, tutorlaw04_TrimLeast.f k a0_0 a0_1 a0_2 a0_3 l0_4 l0_5 l1 = some true := by
  intro a0 a1 a2 a3 l4 l5 w _ _ _ _ hl4 hw4 hl5 hw5 _ _
  apply Ev.rounds
  have hbig : ∀ b : Bool, b = true → Ev (fun k => tutorlaw04_TrimLeast.j0 k w b a0 a1 a2 a3 l4 l5) true := by
    intro b hb
    refine Ev.succ ?_
    simp only [tutorlaw04_TrimLeast.j0]
    refine Ev.pos hb ?_
    exact Ev.bind live_ev (Ev.now true)
  obtain ⟨big, hB⟩ : ∃ b, tutorref03_Big.f a0 a1 a2 a3 l4 l5 300 = some b := by
    unfold tutorref03_Big.f
    split
    · exact ⟨_, rfl⟩
    · split <;> exact ⟨_, rfl⟩
  refine Ev.bind (show Ev (fun _ => tutorref03_Big.f a0 a1 a2 a3 l4 l5 300) big by rw [hB]; exact Ev.now _) ?_
  by_cases hb : big = true
  · exact Ev.pos hb (hbig true rfl)
  · refine Ev.neg hb ?_
    by_cases hwl : (w.length : Int) > 2000
    · rw [decide_eq_true hwl]; exact hbig true rfl
    · rw [decide_eq_false hwl]
      by_cases hM : RightM a0 a1 a2 a3 l4 l5
      · have hr := reach_right hM hw4 hw5 hl4 hl5
        have hinv := reach_inv hM
        generalize reachS a1 a3 l4 = s at hr hinv
        have hs := slen hM hinv
        have hlen := hinv.len
        have hpos := hinv.pos
        refine Ev.succ ?_
        simp only [tutorlaw04_TrimLeast.j0]
        refine Ev.neg (by decide) ?_
        · refine Ev.bind hr ?_
          refine Ev.bind (show Ev (fun _ => tutorlaw04_num.f 0) 0 from Ev.now _) ?_
          refine Ev.pos rfl ?_
          refine Ev.pos (show (s.1.length : Int) = (s.2.length : Int) by omega) ?_
          refine Ev.neg (show ¬ (s.1.length : Int) = 0 by omega) ?_
          refine Ev.pos (show 0 < (s.2.length : Int) by omega) ?_
          have e0 : (((rd_L1 s.2 0).length : Int) != 0) = false := by
            have : rd_L1 s.2 0 = s.2.getD 0 [] := rdL_nat s.2 0
            rw [this, hinv.w0]
            rfl
          show Ev (fun k => tutorlaw04_TrimLeast.j1 k w s.1 s.2 (((rd_L1 s.2 0).length : Int) != 0) a0 a1 a2 a3 l4 l5) true
          rw [e0]
          have hk1 := hM.k1
          obtain ⟨at_, hc⟩ := wcheck_ev (l := w) (n := a1) hM.k1 hM.k64 (by omega)
          by_cases hin : InR w a1
          · have hneg := badFrom_neg (i := 0).mpr hin
            rw [if_neg (by omega)] at hc
            have hgo := go_ev hM hin (by omega) (s := 0) (by omega) (by have := hM.n1; omega)
            obtain ⟨j, hj, ej, ea⟩ := hinv.least w (fun x hx => by have := hin x hx; omega)
            have hat : ∀ q, q < s.1.length → s.1.getD q 0 = runTo (nxM a1 l4) 0 w → ah w (s.2.getD q []) = false := by
              intro q hq eq
              obtain rfl := hinv.inj hq hj (eq.trans ej.symm)
              exact ea
            have hl := least_l0 hM hinv (by omega) hat s.1.length 0 false (by omega) (.inr ⟨j, by omega, hj, ej⟩)
            have hj2 : Ev (fun k => tutorlaw04_TrimLeast.j2 k w s.1 s.2 0 (runTo (nxM a1 l4) 0 w) a0 a1 a2 a3 l4 l5) true := Ev.step (fun k => rfl) hl
            refine Ev.succ ?_
            simp only [tutorlaw04_TrimLeast.j1]
            refine Ev.neg (by decide) ?_
            refine Ev.bind hc ?_
            refine Ev.pos rfl ?_
            exact Ev.bind hgo hj2
          · have hneg : ¬ badFrom a1 w 0 < 0 := fun e => hin ((badFrom_neg (i := 0)).mp e)
            rw [if_pos (by omega)] at hc
            have hl := least_l0 hM hinv (w := w) (at_ := -1) (by omega) (fun q hq eq => by have := (hinv.rng _ (getD_mem hq)).1; omega) s.1.length 0 true (by omega) (.inl rfl)
            have hj2 : Ev (fun k => tutorlaw04_TrimLeast.j2 k w s.1 s.2 10 (-1) a0 a1 a2 a3 l4 l5) true := Ev.step (fun k => rfl) hl
            refine Ev.succ ?_
            simp only [tutorlaw04_TrimLeast.j1]
            refine Ev.neg (by decide) ?_
            refine Ev.bind hc ?_
            exact Ev.neg (show ¬ (10 : Int) = 0 by decide) hj2
      · obtain ⟨he, hr⟩ := reach_wrong hM hw4 hw5 hl4 hl5
        refine Ev.succ ?_
        simp only [tutorlaw04_TrimLeast.j0]
        refine Ev.neg (by decide) ?_
        · refine Ev.bind hr ?_
          refine Ev.bind (show Ev (fun _ => tutorlaw04_num.f (errM a0 a1 a2 a3 l4 l5)) (errM a0 a1 a2 a3 l4 l5) from Ev.now _) ?_
          refine Ev.neg he ?_
          refine Ev.pos (show wrap64 (((0 : Nat) : Int) + ((0 : Nat) : Int)) = 0 by unfold wrap64; decide) ?_
          exact Ev.bind live_ev (Ev.now true)

end Go.Proofs.Ytllgeljacmpdjaa.Pure
