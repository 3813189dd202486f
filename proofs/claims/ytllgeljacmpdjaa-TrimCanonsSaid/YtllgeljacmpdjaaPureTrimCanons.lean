/- The law TrimCanons, of the printed functions: Canon answers what the document's Canon does; what it answers is memory of its own; the machine stays. -/
import Derived.Test.YtllgeljacmpdjaaPTrimxf4
import Derived.Test.YtllgeljacmpdjaaGRRch
import Derived.Test.YtllgeljacmpdjaaGLib
namespace Go.Proofs.Ytllgeljacmpdjaa.Pure
open Go.RowKit Go.Proofs.Ytllgeljacmpdjaa.PTrim Go.Proofs.YtllgeljacmpdjaaW.PrintWords Go.Proofs.YtllgeljacmpdjaaW.PrintLast Go.Proofs.Ytllgeljacmpdjaa.Bfs
set_option linter.unusedVariables false

theorem big_no {a0 a1 a2 a3 : Int} {l4 l5 : List Int} {b : Bool} (h : tutorref03_Big.f a0 a1 a2 a3 l4 l5 300 = some b) (hb : ¬ b = true) : a3 ≤ 300 ∧ l4.length ≤ 70000 ∧ l5.length ≤ 70000 := by
  unfold tutorref03_Big.f at h
  split at h
  · injection h with h; exact absurd h.symm hb
  · split at h
    · injection h with h; exact absurd h.symm hb
    · injection h with h
      have : ¬ (l5.length : Int) > 70000 := fun hh => hb (by rw [← h]; exact decide_eq_true hh)
      omega
theorem copy_ev (a0 a1 a2 a3 : Int) {l4 l5 : List Int} (h4 : l4.length ≤ 70000) (h5 : l5.length ≤ 70000) : Ev (fun _ => tutorref03_Copy.f a0 a1 a2 a3 l4 l5) (a0, a1, a2, a3, l4, l5) := by
  unfold tutorref03_Copy.f
  refine Ev.bind (Ev.now _) ?_
  refine Ev.pos (by simp only [List.length_nil]; omega) ?_
  refine Ev.bind (Ev.now _) ?_
  refine Ev.pos (by simp only [List.length_nil]; omega) ?_
  exact Ev.now _
theorem same3_ev (a0 a1 a2 a3 : Int) {l4 l5 : List Int} (h4 : l4.length ≤ maxLen) (h5 : l5.length ≤ maxLen) : Ev (fun k => tutorref03_Same.f k a0 a1 a2 a3 l4 l5 a0 a1 a2 a3 l4 l5) true := by
  have e4 := same_ev (a := l4) (b := l4) h4
  have e5 := same_ev (a := l5) (b := l5) h5
  rw [decide_eq_true rfl] at e4 e5
  unfold tutorref03_Same.f
  refine Ev.pos rfl ?_
  refine Ev.pos rfl ?_
  refine Ev.pos rfl ?_
  refine Ev.pos rfl ?_
  refine Ev.bind e4 ?_
  refine Ev.pos rfl ?_
  exact Ev.bind e5 (Ev.now _)
theorem apart_ev {l : List (List Int)} (h : ∀ r ∈ l, r.length ≤ 70000) : Ev (fun _ => tutorref01_Apart.f l) true := by
  unfold tutorref01_Apart.f
  exact Ev.pos (fun r hr => by have := h r hr; omega) (Ev.now _)

theorem TrimCanons : ∀ (a0_0 a0_1 a0_2 a0_3 : Int) (l0_4 l0_5 : List Int), (Lit.int .i64 a0_0).wf = true → (Lit.int .i64 a0_1).wf = true → (Lit.int .i64 a0_2).wf = true → (Lit.int .i64 a0_3).wf = true → l0_4.length ≤ maxLen → (∀ x ∈ l0_4, (Lit.int .i64 x).wf = true) → l0_5.length ≤ maxLen → (∀ x ∈ l0_5, (Lit.int .i64 x).wf = true) → ∃ k, tutorlaw04_TrimCanons.f k a0_0 a0_1 a0_2 a0_3 l0_4 l0_5 = some true := by
  intro a0 a1 a2 a3 l4 l5 _ _ _ _ hl4 hw4 hl5 hw5
  apply Ev.rounds
  obtain ⟨big, hB⟩ : ∃ b, tutorref03_Big.f a0 a1 a2 a3 l4 l5 300 = some b := by
    unfold tutorref03_Big.f
    split
    · exact ⟨_, rfl⟩
    · split <;> exact ⟨_, rfl⟩
  refine Ev.bind (show Ev (fun _ => tutorref03_Big.f a0 a1 a2 a3 l4 l5 300) big by rw [hB]; exact Ev.now _) ?_
  by_cases hb : big = true
  · refine Ev.pos hb ?_
    exact Ev.bind live_ev (Ev.now true)
  · refine Ev.neg hb ?_
    obtain ⟨b1, b2, b3⟩ := big_no hB hb
    have hgo : ∀ (o0 o1 o2 o3 : Int) (o4 o5 : List Int) (e : Int), o4.length ≤ 70000 → o5.length ≤ 70000 →
        Ev (fun k => trim_Canon.f k a0 a1 a2 a3 l4 l5) (o0, o1, o2, o3, o4, o5, e) → Ev (fun k => tutorref04_Canon.f k a0 a1 a2 a3 l4 l5) (o0, o1, o2, o3, o4, o5, e) →
        Ev (fun k => (tutorref03_Copy.f a0 a1 a2 a3 l4 l5).bind fun bt337 => ((trim_Canon.f k bt337.1 bt337.2.1 bt337.2.2.1 bt337.2.2.2.1 bt337.2.2.2.2.1 bt337.2.2.2.2.2).bind fun bt348 => ((tutorref04_Canon.f k a0 a1 a2 a3 l4 l5).bind fun bt360 => ((tutorref03_Same.f k bt348.1 bt348.2.1 bt348.2.2.1 bt348.2.2.2.1 bt348.2.2.2.2.1 bt348.2.2.2.2.2.1 bt360.1 bt360.2.1 bt360.2.2.1 bt360.2.2.2.1 bt360.2.2.2.2.1 bt360.2.2.2.2.2.1).bind fun t372 => (if t372 = true then ((tutorlaw04_num.f bt348.2.2.2.2.2.2).bind fun t373 => (tutorlaw04_TrimCanons.j0 k (t373 != bt360.2.2.2.2.2.2) a0 a1 a2 a3 l4 l5 bt337.1 bt337.2.1 bt337.2.2.1 bt337.2.2.2.1 bt337.2.2.2.2.1 bt337.2.2.2.2.2 bt348.1 bt348.2.1 bt348.2.2.1 bt348.2.2.2.1 bt348.2.2.2.2.1 bt348.2.2.2.2.2.1)) else (tutorlaw04_TrimCanons.j0 k true a0 a1 a2 a3 l4 l5 bt337.1 bt337.2.1 bt337.2.2.1 bt337.2.2.2.1 bt337.2.2.2.2.1 bt337.2.2.2.2.2 bt348.1 bt348.2.1 bt348.2.2.1 bt348.2.2.2.1 bt348.2.2.2.2.1 bt348.2.2.2.2.2.1)))))) true := by
      intro o0 o1 o2 o3 o4 o5 e h4 h5 h h'
      refine Ev.bind (copy_ev a0 a1 a2 a3 b2 b3) ?_
      refine Ev.bind h ?_
      refine Ev.bind h' ?_
      refine Ev.bind (same3_ev o0 o1 o2 o3 (l4 := o4) (l5 := o5) (by unfold maxLen; omega) (by unfold maxLen; omega)) ?_
      refine Ev.pos rfl ?_
      refine Ev.bind (show Ev (fun _ => tutorlaw04_num.f e) e from Ev.now _) ?_
      refine Ev.succ ?_
      simp only [tutorlaw04_TrimCanons.j0]
      refine Ev.neg (by simp) ?_
      refine Ev.bind (apart_ev (by
        intro r hr
        rcases List.mem_cons.mp hr with rfl | hr
        · exact h4
        · rcases List.mem_cons.mp hr with rfl | hr
          · exact h5
          · cases hr)) ?_
      refine Ev.pos rfl ?_
      refine Ev.bind (same3_ev a0 a1 a2 a3 hl4 hl5) ?_
      refine Ev.pos rfl ?_
      exact Ev.bind live_ev (Ev.now true)
    by_cases hM : RightM a0 a1 a2 a3 l4 l5
    · have hR := canon_isRight hM
      have hK := hR.next
      have hO := hR.out
      have h1 := hR.n1
      have hk1 := hM.k1
      have hN := hR.n1024
      have b := mul_bd (a := ((reachS a1 a3 l4).1.length : Int)) (b := a1) (A := 1024) (B := 64) (by omega) (by omega) hN hM.k64
      exact hgo _ _ _ _ _ _ _ (by omega) (by split at hO <;> omega) (canon_right hM hw4 hw5 hl4 hl5) (rcanon_right hM)
    · exact hgo _ _ _ _ _ _ _ (by simp) (by simp) (canon_wrong hM hw4 hw5 hl4 hl5).2 (rcanon_wrong hM hl4 hl5)

end Go.Proofs.Ytllgeljacmpdjaa.Pure
