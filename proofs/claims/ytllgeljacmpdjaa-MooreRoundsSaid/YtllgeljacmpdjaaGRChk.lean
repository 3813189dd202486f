/- What the reference's Check of a machine answers: plain. -/
import Derived.Test.YtllgeljacmpdjaaGChk
import Derived.Test.YtllgeljacmpdjaaPTrimxf47
namespace Go.Proofs.Ytllgeljacmpdjaa.PTrim
open Go.RowKit Go.Proofs.YtllgeljacmpdjaaW.PrintWords Go.Proofs.YtllgeljacmpdjaaW.PrintLast Go.Proofs.YtllgeljacmpdjaaW.PrintMore
set_option linter.unusedVariables false
set_option linter.unusedSimpArgs false

/-! ### the reference's Check -/
theorem rl1_ev {a0 a1 a2 a3 : Int} {l4 l5 : List Int} (hl5 : l5.length ≤ maxLen) : ∀ (r : List Int) (i : Nat), l5.drop i = r → i ≤ l5.length →
    ∃ at_, Ev (fun k => tutorref03_Check.l1 k (i : Int) a0 a1 a2 a3 l4 l5) (at_, if 0 ≤ badFrom a2 r i then 33 else 0)
  | [], i, hr, hi => by
    have hi' : l5.length ≤ i := by simpa using hr
    refine ⟨0, Ev.step (f := fun _ => some (0, 0)) (fun k => ?_) (Ev.now _)⟩
    simp only [tutorref03_Check.l1]
    rw [if_neg (by omega)]
  | x :: r, i, hr, hi => by
    have hi' : i < l5.length := by
      rcases Nat.lt_or_ge i l5.length with h | h
      · exact h
      · rw [List.drop_eq_nil_of_le h] at hr; cases hr
    rw [List.drop_eq_getElem_cons hi'] at hr
    injection hr with hx hr
    have hrd : rd l5 (i : Int) = x := by rw [rd_getElem hi', hx]
    have hwr : wrap64 ((i : Int) + 1) = ((i + 1 : Nat) : Int) := by unfold maxLen at hl5; rw [wrap_id (by omega) (by omega)]; rfl
    obtain ⟨at_, ih⟩ := rl1_ev (a0 := a0) (a1 := a1) (a2 := a2) (a3 := a3) (l4 := l4) hl5 r (i + 1) hr (by omega)
    rw [badFrom_cons]
    by_cases hb : 0 ≤ x ∧ x < a2
    · rw [if_pos hb]
      refine ⟨at_, Ev.step (fun k => ?_) ih⟩
      simp only [tutorref03_Check.l1]
      rw [if_pos (by omega), if_pos (by omega), hrd, if_neg (by omega), if_neg (by omega), hwr]
    · rw [if_neg hb, if_pos (by omega)]
      refine ⟨(i : Int), Ev.step (f := fun _ => some ((i : Int), 33)) (fun k => ?_) (Ev.now _)⟩
      simp only [tutorref03_Check.l1]
      rw [if_pos (by omega), if_pos (by omega), hrd]
      by_cases h0 : x < 0
      · rw [if_pos h0]
      · rw [if_neg h0, if_pos (by omega)]
theorem rl0_ev {a0 a1 a2 a3 : Int} {l4 l5 : List Int} (hl4 : l4.length ≤ maxLen) (hl5 : l5.length ≤ maxLen) : ∀ (r : List Int) (i : Nat), l4.drop i = r → i ≤ l4.length →
    ∃ at_, Ev (fun k => tutorref03_Check.l0 k (i : Int) a0 a1 a2 a3 l4 l5) (at_, if 0 ≤ badFrom a3 r i then 32 else if 0 ≤ badFrom a2 l5 0 then 33 else 0)
  | [], i, hr, hi => by
    have hi' : l4.length ≤ i := by simpa using hr
    obtain ⟨at_, h⟩ := rl1_ev (a0 := a0) (a1 := a1) (a2 := a2) (a3 := a3) (l4 := l4) hl5 l5 0 (by simp) (by omega)
    refine ⟨at_, Ev.step (fun k => ?_) (show Ev _ _ from h)⟩
    simp only [tutorref03_Check.l0]
    rw [if_neg (by omega)]
    rfl
  | x :: r, i, hr, hi => by
    have hi' : i < l4.length := by
      rcases Nat.lt_or_ge i l4.length with h | h
      · exact h
      · rw [List.drop_eq_nil_of_le h] at hr; cases hr
    rw [List.drop_eq_getElem_cons hi'] at hr
    injection hr with hx hr
    have hrd : rd l4 (i : Int) = x := by rw [rd_getElem hi', hx]
    have hwr : wrap64 ((i : Int) + 1) = ((i + 1 : Nat) : Int) := by unfold maxLen at hl4; rw [wrap_id (by omega) (by omega)]; rfl
    obtain ⟨at_, ih⟩ := rl0_ev (a0 := a0) (a1 := a1) (a2 := a2) (a3 := a3) hl4 hl5 r (i + 1) hr (by omega)
    rw [badFrom_cons]
    by_cases hb : 0 ≤ x ∧ x < a3
    · rw [if_pos hb]
      refine ⟨at_, Ev.step (fun k => ?_) ih⟩
      simp only [tutorref03_Check.l0]
      rw [if_pos (by omega), if_pos (by omega), hrd, if_neg (by omega), if_neg (by omega), hwr]
    · rw [if_neg hb, if_pos (by omega)]
      refine ⟨(i : Int), Ev.step (f := fun _ => some ((i : Int), 32)) (fun k => ?_) (Ev.now _)⟩
      simp only [tutorref03_Check.l0]
      rw [if_pos (by omega), if_pos (by omega), hrd]
      by_cases h0 : x < 0
      · rw [if_pos h0]
      · rw [if_neg h0, if_pos (by omega)]

theorem rhead_bad {a0 a1 a2 a3 : Int} {l4 l5 : List Int} (h : headE a0 a1 a2 a3 l4 l5 ≠ 0) : tutorref03_Check.f 7 a0 a1 a2 a3 l4 l5 = some (0, headE a0 a1 a2 a3 l4 l5) := by
  unfold headE at h ⊢
  by_cases c1 : a0 = 1 ∨ a0 = 2
  · rw [if_neg (not_not_intro c1)] at h ⊢
    by_cases c2 : 1 ≤ a1 ∧ a1 ≤ 64
    · rw [if_neg (not_not_intro c2)] at h ⊢
      have d1 : ¬ a1 < 1 := by omega
      have d2 : ¬ a1 > 64 := by omega
      by_cases c3 : (a0 = 1 → a2 = 2) ∧ 1 ≤ a2 ∧ a2 ≤ 64
      · rw [if_neg (not_not_intro c3)] at h ⊢
        have d3 : ¬ a2 < 1 := by omega
        have d4 : ¬ a2 > 64 := by omega
        by_cases c4 : 1 ≤ a3 ∧ a3 ≤ 1024
        · rw [if_neg (not_not_intro c4)] at h ⊢
          have d5 : ¬ a3 < 1 := by omega
          have d6 : ¬ a3 > 1024 := by omega
          have hm := mul_bd (a := a3) (b := a1) (by omega) (by omega) c4.2 c2.2
          have hw : wrap64 (a3 * a1) = a3 * a1 := wrap_id (by omega) (by omega)
          by_cases c5 : (l4.length : Int) = a3 * a1 ∧ (l5.length : Int) = if a0 = 1 then a3 else a3 * a1
          · rw [if_neg (not_not_intro c5)] at h; exact absurd rfl h
          · rw [if_pos c5]
            by_cases c6 : (l4.length : Int) = a3 * a1
            · have c7 : ¬ (l5.length : Int) = if a0 = 1 then a3 else a3 * a1 := fun e => c5 ⟨c6, e⟩
              rcases c1 with rfl | rfl
              · have := c3.1 rfl
                subst this
                simp at c7
                simp [tutorref03_Check.f, tutorref03_Check.j0, tutorref03_Check.j1, tutorref03_Check.j2, tutorref03_Check.j3, tutorref03_Check.j4, tutorref03_Check.j5, d1, d2, d5, d6, hw, c6, c7]
              · simp at c7
                simp [tutorref03_Check.f, tutorref03_Check.j0, tutorref03_Check.j1, tutorref03_Check.j2, tutorref03_Check.j3, tutorref03_Check.j4, tutorref03_Check.j5, d1, d2, d3, d4, d5, d6, hw, c6, c7]
            · rcases c1 with rfl | rfl
              · have := c3.1 rfl
                subst this
                simp [tutorref03_Check.f, tutorref03_Check.j0, tutorref03_Check.j1, tutorref03_Check.j2, tutorref03_Check.j3, tutorref03_Check.j4, tutorref03_Check.j5, d1, d2, d5, d6, hw, c6]
              · simp [tutorref03_Check.f, tutorref03_Check.j0, tutorref03_Check.j1, tutorref03_Check.j2, tutorref03_Check.j3, tutorref03_Check.j4, tutorref03_Check.j5, d1, d2, d3, d4, d5, d6, hw, c6]
        · rw [if_pos c4]
          rcases c1 with rfl | rfl
          · have := c3.1 rfl
            subst this
            simp [tutorref03_Check.f, tutorref03_Check.j0, tutorref03_Check.j1, tutorref03_Check.j2, tutorref03_Check.j3, d1, d2]
            omega
          · simp [tutorref03_Check.f, tutorref03_Check.j0, tutorref03_Check.j1, tutorref03_Check.j2, tutorref03_Check.j3, d1, d2, d3, d4]
            omega
      · rw [if_pos c3]
        rcases c1 with rfl | rfl
        · simp [tutorref03_Check.f, tutorref03_Check.j0, tutorref03_Check.j1, tutorref03_Check.j2, d1, d2]
          by_cases e : a2 = 2
          · subst e; simp at c3
          · simp [e]
        · simp [tutorref03_Check.f, tutorref03_Check.j0, tutorref03_Check.j1, tutorref03_Check.j2, d1, d2]
          omega
    · rw [if_pos c2]
      rcases c1 with rfl | rfl <;>
      · simp [tutorref03_Check.f, tutorref03_Check.j0, tutorref03_Check.j1]
        omega
  · rw [if_pos c1]
    have e1 : a0 ≠ 1 := fun h => c1 (.inl h)
    have e2 : a0 ≠ 2 := fun h => c1 (.inr h)
    simp [tutorref03_Check.f, tutorref03_Check.j0, e1, e2]

theorem rhead_good {a0 a1 a2 a3 : Int} {l4 l5 : List Int} (h : headE a0 a1 a2 a3 l4 l5 = 0) (k : Nat) : tutorref03_Check.f (k + 6) a0 a1 a2 a3 l4 l5 = tutorref03_Check.l0 k 0 a0 a1 a2 a3 l4 l5 := by
  obtain ⟨c1, c2, c3, c4, c5⟩ := headE_zero h
  have d1 : ¬ a1 < 1 := by omega
  have d2 : ¬ a1 > 64 := by omega
  have d3 : ¬ a2 < 1 := by omega
  have d4 : ¬ a2 > 64 := by omega
  have d5 : ¬ a3 < 1 := by omega
  have d6 : ¬ a3 > 1024 := by omega
  have hm := mul_bd (a := a3) (b := a1) (by omega) (by omega) c4.2 c2.2
  have hw : wrap64 (a3 * a1) = a3 * a1 := wrap_id (by omega) (by omega)
  obtain ⟨c6, c7⟩ := c5
  rcases c1 with rfl | rfl
  · have := c3.1 rfl
    subst this
    simp at c7
    simp [tutorref03_Check.f, tutorref03_Check.j0, tutorref03_Check.j1, tutorref03_Check.j2, tutorref03_Check.j3, tutorref03_Check.j4, tutorref03_Check.j5, d1, d2, d5, d6, hw, c6, c7]
  · simp at c7
    simp [tutorref03_Check.f, tutorref03_Check.j0, tutorref03_Check.j1, tutorref03_Check.j2, tutorref03_Check.j3, tutorref03_Check.j4, tutorref03_Check.j5, d1, d2, d3, d4, d5, d6, hw, c6, c7]

theorem rcheck_ev (a0 a1 a2 a3 : Int) {l4 l5 : List Int} (hl4 : l4.length ≤ maxLen) (hl5 : l5.length ≤ maxLen) : ∃ at_, Ev (fun k => tutorref03_Check.f k a0 a1 a2 a3 l4 l5) (at_, errM a0 a1 a2 a3 l4 l5) := by
  by_cases c : headE a0 a1 a2 a3 l4 l5 = 0
  · obtain ⟨at_, K, h⟩ := rl0_ev (a0 := a0) (a1 := a1) (a2 := a2) (a3 := a3) hl4 hl5 l4 0 (by simp) (by omega)
    refine ⟨at_, K + 6, fun k hk => ?_⟩
    obtain ⟨m, rfl⟩ : ∃ m, k = m + 6 := ⟨k - 6, by omega⟩
    show tutorref03_Check.f (m + 6) a0 a1 a2 a3 l4 l5 = _
    rw [rhead_good c]
    unfold errM
    rw [if_neg (not_not_intro c)]
    exact h m (by omega)
  · refine ⟨0, Ev.of (fun k => tutorref03_Check.mono _ _ _ _ _ _ k) (k := 7) ?_⟩
    unfold errM
    rw [if_pos c]
    exact rhead_bad c

end Go.Proofs.Ytllgeljacmpdjaa.PTrim
