/- The law TrimTurns, of the printed functions: Turn answers what the document's Turn does; the machine and the row stay. -/
import Derived.Test.YtllgeljacmpdjaaPTrimxf7
import Derived.Test.YtllgeljacmpdjaaGRTurn
namespace Go.Proofs.Ytllgeljacmpdjaa.Pure
open Go.RowKit Go.Proofs.Ytllgeljacmpdjaa.PTrim Go.Proofs.YtllgeljacmpdjaaW.PrintWords Go.Proofs.YtllgeljacmpdjaaW.PrintLast Go.Proofs.Ytllgeljacmpdjaa.Bfs
set_option linter.unusedVariables false

theorem big_no {a0 a1 a2 a3 : Int} {l4 l5 : List Int} {b : Bool} (h : tutorref03_Big.f a0 a1 a2 a3 l4 l5 300 = some b) (hb : ¬ b = true) : a3 ≤ 300 ∧ l4.length ≤ 70000 ∧ l5.length ≤ 70000 := by
  unfold tutorref03_Big.f at h
  split at h
  · injection h with h; exact absurd h.symm hb
  · split at h
    · injection h with h; exact absurd h.symm hb
    · injection h with h
      have : ¬ (l5.length : Int) > 70000 := fun hh => hb (by rw [← h]; exact decide_eq_true hh)
      omega
theorem copy_ev (a0 a1 a2 a3 : Int) {l4 l5 : List Int} (h4 : l4.length ≤ 70000) (h5 : l5.length ≤ 70000) : Ev (fun _ => tutorref03_Copy.f a0 a1 a2 a3 l4 l5) (a0, a1, a2, a3, l4, l5) := by
  unfold tutorref03_Copy.f
  refine Ev.bind (Ev.now _) ?_
  refine Ev.pos (by simp only [List.length_nil]; omega) ?_
  refine Ev.bind (Ev.now _) ?_
  refine Ev.pos (by simp only [List.length_nil]; omega) ?_
  exact Ev.now _
theorem lent_ev {p : List Int} (h : p.length ≤ 70000) : Ev (fun _ => tutorref01_Lent.f p) p := by
  have e : ((([] : List Int) ++ p) ++ [-771, -772]).take ((p.length : Int)).toNat = p := by
    rw [Int.toNat_natCast, List.nil_append, List.take_left]
  unfold tutorref01_Lent.f
  refine Ev.bind (Ev.now _) ?_
  refine Ev.pos (by simp only [List.length_nil]; omega) ?_
  refine Ev.bind (Ev.now _) ?_
  refine Ev.bind (Ev.now _) ?_
  refine Ev.pos (by simp only [List.length_append, List.length_nil, List.length_cons]; omega) ?_
  refine Ev.bind (Ev.now _) ?_
  refine Ev.pos (by omega) ?_
  refine Ev.pos (by simp only [List.length_append, List.length_nil, List.length_cons]; omega) ?_
  rw [e]
  exact Ev.now _
theorem kept_ev {p : List Int} (h : p.length ≤ maxLen) : Ev (fun k => tutorref01_Kept.f k p p) true := by
  have hs := same_ev (a := p) (b := p) h
  rw [decide_eq_true rfl] at hs
  refine Ev.bind hs ?_
  exact Ev.pos rfl (Ev.now _)

theorem TrimTurns : ∀ (a0_0 a0_1 a0_2 a0_3 : Int) (l0_4 l0_5 : List Int) (l1 : List Int), (Lit.int .i64 a0_0).wf = true → (Lit.int .i64 a0_1).wf = true → (Lit.int .i64 a0_2).wf = true → (Lit.int .i64 a0_3).wf = true → l0_4.length ≤ maxLen → (∀ x ∈ l0_4, (Lit.int .i64 x).wf = true) → l0_5.length ≤ maxLen → (∀ x ∈ l0_5, (Lit.int .i64 x).wf = true) → l1.length ≤ maxLen → (∀ x ∈ l1, (Lit.int .i64 x).wf = true) → ∃ k, tutorlaw04_TrimTurns.f k a0_0 a0_1 a0_2 a0_3 l0_4 l0_5 l1 = some true := by
  intro a0 a1 a2 a3 l4 l5 p _ _ _ _ hl4 hw4 hl5 hw5 _ hwp
  apply Ev.rounds
  have hbig : Ev (fun k => tutorlaw04_TrimTurns.j0 k p true a0 a1 a2 a3 l4 l5) true := by
    refine Ev.succ ?_
    simp only [tutorlaw04_TrimTurns.j0]
    refine Ev.pos trivial ?_
    exact Ev.bind live_ev (Ev.now true)
  obtain ⟨big, hB⟩ : ∃ b, tutorref03_Big.f a0 a1 a2 a3 l4 l5 300 = some b := by
    unfold tutorref03_Big.f
    split
    · exact ⟨_, rfl⟩
    · split <;> exact ⟨_, rfl⟩
  refine Ev.bind (show Ev (fun _ => tutorref03_Big.f a0 a1 a2 a3 l4 l5 300) big by rw [hB]; exact Ev.now _) ?_
  by_cases hb : big = true
  · exact Ev.pos hb hbig
  · refine Ev.neg hb ?_
    obtain ⟨b1, b2, b3⟩ := big_no hB hb
    by_cases hwl : (p.length : Int) > 600
    · rw [decide_eq_true hwl]; exact hbig
    · rw [decide_eq_false hwl]
      have hgo : ∀ (o0 o1 o2 o3 : Int) (o4 o5 : List Int) (e : Int), o4.length ≤ maxLen → o5.length ≤ maxLen →
          Ev (fun k => trim_Turn.f k a0 a1 a2 a3 l4 l5 p) (o0, o1, o2, o3, o4, o5, e) → Ev (fun k => tutorref04_Turn.f k a0 a1 a2 a3 l4 l5 p) (o0, o1, o2, o3, o4, o5, e) →
          Ev (fun k => tutorlaw04_TrimTurns.j0 k p false a0 a1 a2 a3 l4 l5) true := by
        intro o0 o1 o2 o3 o4 o5 e h4 h5 h h'
        refine Ev.succ ?_
        simp only [tutorlaw04_TrimTurns.j0]
        refine Ev.neg (by decide) ?_
        refine Ev.bind (copy_ev a0 a1 a2 a3 b2 b3) ?_
        refine Ev.bind (lent_ev (by omega)) ?_
        refine Ev.bind h ?_
        refine Ev.bind h' ?_
        refine Ev.bind (same3_ev o0 o1 o2 o3 h4 h5) ?_
        refine Ev.pos rfl ?_
        refine Ev.bind (show Ev (fun _ => tutorlaw04_num.f e) e from Ev.now _) ?_
        refine Ev.pos rfl ?_
        refine Ev.bind (same3_ev a0 a1 a2 a3 hl4 hl5) ?_
        refine Ev.pos rfl ?_
        refine Ev.bind (kept_ev (by unfold maxLen; omega)) ?_
        refine Ev.pos rfl ?_
        exact Ev.bind live_ev (Ev.now true)
      by_cases hM : RightM a0 a1 a2 a3 l4 l5
      · rcases turn_right hM hw4 hw5 hwp with ⟨hn, h⟩ | ⟨was, hp, hw, h⟩
        · rcases rturn_right hM (p := p) with ⟨_, h'⟩ | ⟨hy, _⟩
          · exact hgo _ _ _ _ _ _ _ (by simp) (by simp) h h'
          · exact absurd hy hn
        · rcases rturn_right hM (p := p) with ⟨hn, _⟩ | ⟨_, h'⟩
          · exact absurd hp hn
          · have hT := turn_isRight hM hp hw
            have hK := hT.next
            have hO := hT.out
            have h1 := hM.n1
            have hk1 := hM.k1
            have hN := hM.n1024
            have b := mul_bd (a := a3) (b := a1) (A := 1024) (B := 64) (by omega) (by omega) hN hM.k64
            refine hgo _ _ _ _ _ _ _ (by unfold maxLen; omega) (by unfold maxLen; split at hO <;> omega) h (h' was hw)
      · have he : errM a0 a1 a2 a3 l4 l5 ≠ 0 := fun h => hM (errM_zero.mp h)
        obtain ⟨at_, hc⟩ := mcheck_ev (a0 := a0) (a1 := a1) (a2 := a2) (a3 := a3) hw4 hw5 hl4 hl5
        obtain ⟨at2, hc2⟩ := rcheck_ev a0 a1 a2 a3 hl4 hl5
        exact hgo 0 0 0 0 [] [] _ (by simp) (by simp) (Ev.bind hc (Ev.neg he (Ev.now _))) (Ev.bind hc2 (Ev.neg he (Ev.now _)))

end Go.Proofs.Ytllgeljacmpdjaa.Pure
