/- The law MooreClasses, of the printed functions: which states are alike, and up to which length one must look, as the document says. -/
import Derived.Test.YtllgeljacmpdjaaPTrimxf10
import Derived.Test.YtllgeljacmpdjaaGRMin
import Derived.Test.YtllgeljacmpdjaaGLaw5
namespace Go.Proofs.Ytllgeljacmpdjaa.Pure
open Go.RowKit Go.Proofs.Ytllgeljacmpdjaa.PTrim Go.Proofs.YtllgeljacmpdjaaW.PrintWords Go.Proofs.YtllgeljacmpdjaaW.PrintLast Go.Proofs.Ytllgeljacmpdjaa.Bfs
set_option linter.unusedVariables false

theorem MooreClasses : ∀ (a0_0 a0_1 a0_2 a0_3 : Int) (l0_4 l0_5 : List Int), (Lit.int .i64 a0_0).wf = true → (Lit.int .i64 a0_1).wf = true → (Lit.int .i64 a0_2).wf = true → (Lit.int .i64 a0_3).wf = true → l0_4.length ≤ maxLen → (∀ x ∈ l0_4, (Lit.int .i64 x).wf = true) → l0_5.length ≤ maxLen → (∀ x ∈ l0_5, (Lit.int .i64 x).wf = true) → ∃ k, tutorlaw05_MooreClasses.f k a0_0 a0_1 a0_2 a0_3 l0_4 l0_5 = some true := by
  intro a0 a1 a2 a3 l4 l5 _ _ _ _ hl4 hw4 hl5 hw5
  apply Ev.rounds
  obtain ⟨big, hB⟩ := big_some a0 a1 a2 a3 l4 l5 60
  unfold tutorlaw05_MooreClasses.f
  refine Ev.bind (show Ev (fun _ => tutorref03_Big.f a0 a1 a2 a3 l4 l5 60) big by rw [hB]; exact Ev.now _) ?_
  by_cases hb : big = true
  · refine Ev.pos hb ?_
    exact Ev.bind live5_ev (Ev.now true)
  · refine Ev.neg hb ?_
    obtain ⟨c, r, e, hc, h1, h2⟩ : ∃ (c : List Int) (r e : Int), c.length ≤ 70000 ∧ Ev (fun k => moore_Classes.f k a0 a1 a2 a3 l4 l5) (c, r, e) ∧ Ev (fun k => tutorref05_Classes.f k a0 a1 a2 a3 l4 l5) (c, r, e) := by
      by_cases hM : RightM a0 a1 a2 a3 l4 l5
      · obtain ⟨R, r1, r2, r3⟩ := cls_rounds hM
        exact ⟨_, _, _, by have := (cls_num hM R).len; have := hM.n1024; omega, mclasses_right hM hw4 hw5 hl4 hl5 r1 r2 r3, rclasses_right hM hl4 hl5 r1 r2 r3⟩
      · exact ⟨_, _, _, by simp, mclasses_wrong hM hl4 hl5 hw4 hw5, rclasses_wrong hM hl4 hl5⟩
    refine Ev.bind h1 ?_
    refine Ev.bind h2 ?_
    refine Ev.bind (samel_ev (l := c) (by unfold maxLen; omega)) ?_
    refine Ev.pos rfl ?_
    refine Ev.pos rfl ?_
    refine Ev.bind (show Ev (fun _ => tutorlaw05_num.f e) e from Ev.now _) ?_
    refine Ev.pos rfl ?_
    exact Ev.bind live5_ev (Ev.now true)
end Go.Proofs.Ytllgeljacmpdjaa.Pure
