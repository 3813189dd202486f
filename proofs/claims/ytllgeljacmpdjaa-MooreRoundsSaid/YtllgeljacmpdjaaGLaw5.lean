/- What the Moore laws' small functions answer. -/
import Derived.Test.YtllgeljacmpdjaaGLib
import Derived.Test.YtllgeljacmpdjaaPTrimxs
import Derived.Test.YtllgeljacmpdjaaPTrimxf23
import Derived.Test.YtllgeljacmpdjaaPTrimxf36
import Derived.KernelRfl
namespace Go.Proofs.Ytllgeljacmpdjaa.PTrim
open Go.RowKit Go.Proofs.YtllgeljacmpdjaaW.PrintWords Go.Proofs.YtllgeljacmpdjaaW.PrintLast Go.Proofs.Ytllgeljacmpdjaa.Bfs
set_option linter.unusedVariables false
theorem live5_ev : Ev (fun k => tutorlaw05_live.f k) true := Ev.of (fun k => tutorlaw05_live.mono k) (k := 30) (by kernel_rfl)
theorem big_some (a0 a1 a2 a3 : Int) (l4 l5 : List Int) (m : Int) : ∃ b, tutorref03_Big.f a0 a1 a2 a3 l4 l5 m = some b := by
  unfold tutorref03_Big.f
  split
  · exact ⟨_, rfl⟩
  · split <;> exact ⟨_, rfl⟩
theorem big_no {a0 a1 a2 a3 m : Int} {l4 l5 : List Int} {b : Bool} (h : tutorref03_Big.f a0 a1 a2 a3 l4 l5 m = some b) (hb : ¬ b = true) : a3 ≤ m ∧ l4.length ≤ 70000 ∧ l5.length ≤ 70000 := by
  unfold tutorref03_Big.f at h
  split at h
  · injection h with h; exact absurd h.symm hb
  · split at h
    · injection h with h; exact absurd h.symm hb
    · injection h with h
      have : ¬ (l5.length : Int) > 70000 := fun hh => hb (by rw [← h]; exact decide_eq_true hh)
      omega
theorem copy_ev (a0 a1 a2 a3 : Int) {l4 l5 : List Int} (h4 : l4.length ≤ 70000) (h5 : l5.length ≤ 70000) : Ev (fun _ => tutorref03_Copy.f a0 a1 a2 a3 l4 l5) (a0, a1, a2, a3, l4, l5) := by
  unfold tutorref03_Copy.f
  refine Ev.bind (Ev.now _) ?_
  refine Ev.pos (by simp only [List.length_nil]; omega) ?_
  refine Ev.bind (Ev.now _) ?_
  refine Ev.pos (by simp only [List.length_nil]; omega) ?_
  exact Ev.now _
theorem same3_eq {a0 a1 a2 a3 b0 b1 b2 b3 : Int} {l4 l5 k4 k5 : List Int} (h4 : l4.length ≤ maxLen) (h5 : l5.length ≤ maxLen) :
    Ev (fun k => tutorref03_Same.f k a0 a1 a2 a3 l4 l5 b0 b1 b2 b3 k4 k5) (decide ((a0, a1, a2, a3, l4, l5) = (b0, b1, b2, b3, k4, k5))) := by
  unfold tutorref03_Same.f
  by_cases e0 : a0 = b0
  · refine Ev.pos e0 ?_
    by_cases e1 : a1 = b1
    · refine Ev.pos e1 ?_
      by_cases e2 : a2 = b2
      · refine Ev.pos e2 ?_
        by_cases e3 : a3 = b3
        · refine Ev.pos e3 ?_
          refine Ev.bind (same_ev (b := k4) h4) ?_
          by_cases e4 : l4 = k4
          · refine Ev.pos (decide_eq_true e4) ?_
            refine Ev.bind (same_ev (b := k5) h5) ?_
            rw [show decide ((a0, a1, a2, a3, l4, l5) = (b0, b1, b2, b3, k4, k5)) = decide (l5 = k5) by simp [e0, e1, e2, e3, e4]]
            exact Ev.now _
          · refine Ev.neg (by rw [decide_eq_false e4]; decide) ?_
            rw [decide_eq_false (by simp [e4])]
            exact Ev.now _
        · refine Ev.neg e3 ?_
          rw [decide_eq_false (by simp [e3])]
          exact Ev.now _
      · refine Ev.neg e2 ?_
        rw [decide_eq_false (by simp [e2])]
        exact Ev.now _
    · refine Ev.neg e1 ?_
      rw [decide_eq_false (by simp [e1])]
      exact Ev.now _
  · refine Ev.neg e0 ?_
    rw [decide_eq_false (by simp [e0])]
    exact Ev.now _
theorem same3_ev (a0 a1 a2 a3 : Int) {l4 l5 : List Int} (h4 : l4.length ≤ maxLen) (h5 : l5.length ≤ maxLen) : Ev (fun k => tutorref03_Same.f k a0 a1 a2 a3 l4 l5 a0 a1 a2 a3 l4 l5) true := by
  have := same3_eq (a0 := a0) (a1 := a1) (a2 := a2) (a3 := a3) (b0 := a0) (b1 := a1) (b2 := a2) (b3 := a3) (k4 := l4) (k5 := l5) h4 h5
  rwa [decide_eq_true rfl] at this
theorem samel_ev {l : List Int} (h : l.length ≤ maxLen) : Ev (fun k => tutorref01_Same.f k l l) true := by
  have := same_ev (a := l) (b := l) h
  rwa [decide_eq_true rfl] at this
end Go.Proofs.Ytllgeljacmpdjaa.PTrim
