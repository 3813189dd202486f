/- The law TrimSame, of the printed functions: of each word Canon's machine says what the machine says; it is a right machine, with no more states. -/
import Derived.Test.YtllgeljacmpdjaaPTrimxf5
import Derived.Test.YtllgeljacmpdjaaGCan
import Derived.Test.YtllgeljacmpdjaaGRun
namespace Go.Proofs.Ytllgeljacmpdjaa.Pure
open Go.RowKit Go.Proofs.Ytllgeljacmpdjaa.PTrim Go.Proofs.YtllgeljacmpdjaaW.PrintWords Go.Proofs.YtllgeljacmpdjaaW.PrintLast Go.Proofs.Ytllgeljacmpdjaa.Bfs
set_option linter.unusedVariables false

theorem TrimSame : ∀ (a0_0 a0_1 a0_2 a0_3 : Int) (l0_4 l0_5 : List Int) (l1 : List Int), (Lit.int .i64 a0_0).wf = true → (Lit.int .i64 a0_1).wf = true → (Lit.int .i64 a0_2).wf = true → (Lit.int .i64 a0_3).wf = true → l0_4.length ≤ maxLen → (∀ x ∈ l0_4, (Lit.int .i64 x).wf = true) → l0_5.length ≤ maxLen → (∀ x ∈ l0_5, (Lit.int .i64 x).wf = true) → l1.length ≤ maxLen → (∀ x ∈ l1, (Lit.int .i64 x).wf = true) → ∃ k, tutorlaw04_TrimSame.f k a0_0 a0_1 a0_2 a0_3 l0_4 l0_5 l1 = some true := by
  intro a0 a1 a2 a3 l4 l5 w _ _ _ _ hl4 hw4 hl5 hw5 _ _
  apply Ev.rounds
  have hbig : Ev (fun k => tutorlaw04_TrimSame.j0 k w true a0 a1 a2 a3 l4 l5) true := by
    refine Ev.succ ?_
    simp only [tutorlaw04_TrimSame.j0]
    refine Ev.pos trivial ?_
    exact Ev.bind live_ev (Ev.now true)
  obtain ⟨big, hB⟩ : ∃ b, tutorref03_Big.f a0 a1 a2 a3 l4 l5 300 = some b := by
    unfold tutorref03_Big.f
    split
    · exact ⟨_, rfl⟩
    · split <;> exact ⟨_, rfl⟩
  refine Ev.bind (show Ev (fun _ => tutorref03_Big.f a0 a1 a2 a3 l4 l5 300) big by rw [hB]; exact Ev.now _) ?_
  by_cases hb : big = true
  · exact Ev.pos hb hbig
  · refine Ev.neg hb ?_
    by_cases hwl : (w.length : Int) > 2000
    · rw [decide_eq_true hwl]; exact hbig
    · rw [decide_eq_false hwl]
      refine Ev.succ ?_
      simp only [tutorlaw04_TrimSame.j0]
      refine Ev.neg (by decide) ?_
      by_cases hM : RightM a0 a1 a2 a3 l4 l5
      · have hC := canon_isRight hM
        have hs := slen hM (reach_inv hM)
        have h1 := hM.n1
        have he : runAns a0 a1 (canN a1 a3 l4) (canO a0 a1 a3 l4 l5) w = runAns a0 a1 l4 l5 w := by
          unfold runAns
          by_cases hbd : 0 ≤ badFrom a1 w 0
          · rw [if_pos hbd, if_pos hbd]
          · rw [if_neg hbd, if_neg hbd, can_goOut hM (badFrom_neg (i := 0) |>.mp (by omega))]
        have hr2 := run_ev hC (w := w) (by omega)
        rw [he] at hr2
        refine Ev.bind (canon_right hM hw4 hw5 hl4 hl5) ?_
        refine Ev.bind (show Ev (fun _ => tutorlaw04_num.f 0) 0 from Ev.now _) ?_
        refine Ev.pos rfl ?_
        refine Ev.bind (run_ev hM (w := w) (by omega)) ?_
        refine Ev.bind hr2 ?_
        refine Ev.bind (right_ev hC) ?_
        refine Ev.pos rfl ?_
        refine Ev.pos rfl ?_
        have hlen : (runAns a0 a1 l4 l5 w).1.length ≤ maxLen := by
          unfold runAns maxLen
          split
          · simp
          · have := goOut_len a0 a1 l4 l5 0 w; show (goOut a0 a1 l4 l5 0 w).length ≤ _; omega
        have hsm := same_ev (b := (runAns a0 a1 l4 l5 w).1) hlen
        rw [decide_eq_true rfl] at hsm
        refine Ev.bind hsm ?_
        refine Ev.pos rfl ?_
        refine Ev.pos (show ((reachS a1 a3 l4).1.length : Int) ≤ a3 by omega) ?_
        exact Ev.bind live_ev (Ev.now true)
      · obtain ⟨he, hr⟩ := canon_wrong hM hw4 hw5 hl4 hl5
        refine Ev.bind hr ?_
        refine Ev.bind (show Ev (fun _ => tutorlaw04_num.f (errM a0 a1 a2 a3 l4 l5)) (errM a0 a1 a2 a3 l4 l5) from Ev.now _) ?_
        refine Ev.neg he ?_
        refine Ev.pos rfl ?_
        exact Ev.bind live_ev (Ev.now true)

end Go.Proofs.Ytllgeljacmpdjaa.Pure
