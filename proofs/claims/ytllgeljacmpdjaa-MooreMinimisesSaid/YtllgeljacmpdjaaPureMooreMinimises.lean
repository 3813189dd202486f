/- The law MooreMinimises, of the printed functions: the least machine is the document's; it is memory of its own; the machine stays. -/
import Derived.Test.YtllgeljacmpdjaaPTrimxf11
import Derived.Test.YtllgeljacmpdjaaGRQuo
import Derived.Test.YtllgeljacmpdjaaGLaw5
namespace Go.Proofs.Ytllgeljacmpdjaa.Pure
open Go.RowKit Go.Proofs.Ytllgeljacmpdjaa.PTrim Go.Proofs.YtllgeljacmpdjaaW.PrintWords Go.Proofs.YtllgeljacmpdjaaW.PrintLast Go.Proofs.Ytllgeljacmpdjaa.Bfs
set_option linter.unusedVariables false

theorem apart_ev {l : List (List Int)} (h : ∀ r ∈ l, r.length ≤ 70000) : Ev (fun _ => tutorref01_Apart.f l) true := by
  unfold tutorref01_Apart.f
  exact Ev.pos (fun r hr => by have := h r hr; omega) (Ev.now _)

theorem MooreMinimises : ∀ (a0_0 a0_1 a0_2 a0_3 : Int) (l0_4 l0_5 : List Int), (Lit.int .i64 a0_0).wf = true → (Lit.int .i64 a0_1).wf = true → (Lit.int .i64 a0_2).wf = true → (Lit.int .i64 a0_3).wf = true → l0_4.length ≤ maxLen → (∀ x ∈ l0_4, (Lit.int .i64 x).wf = true) → l0_5.length ≤ maxLen → (∀ x ∈ l0_5, (Lit.int .i64 x).wf = true) → ∃ k, tutorlaw05_MooreMinimises.f k a0_0 a0_1 a0_2 a0_3 l0_4 l0_5 = some true := by
  intro a0 a1 a2 a3 l4 l5 _ _ _ _ hl4 hw4 hl5 hw5
  apply Ev.rounds
  obtain ⟨big, hB⟩ := big_some a0 a1 a2 a3 l4 l5 60
  unfold tutorlaw05_MooreMinimises.f
  refine Ev.bind (show Ev (fun _ => tutorref03_Big.f a0 a1 a2 a3 l4 l5 60) big by rw [hB]; exact Ev.now _) ?_
  by_cases hb : big = true
  · refine Ev.pos hb ?_
    exact Ev.bind live5_ev (Ev.now true)
  · refine Ev.neg hb ?_
    obtain ⟨b1, b2, b3⟩ := big_no hB hb
    obtain ⟨o0, o1, o2, o3, o4, o5, e, h4, h5, h, h'⟩ : ∃ (o0 o1 o2 o3 : Int) (o4 o5 : List Int) (e : Int), o4.length ≤ 70000 ∧ o5.length ≤ 70000 ∧ Ev (fun k => moore_Minimise.f k a0 a1 a2 a3 l4 l5) (o0, o1, o2, o3, o4, o5, e) ∧ Ev (fun k => tutorref05_Minimise.f k a0 a1 a2 a3 l4 l5) (o0, o1, o2, o3, o4, o5, e) := by
      by_cases hM : RightM a0 a1 a2 a3 l4 l5
      · obtain ⟨R, r1, r2, r3⟩ := cls_rounds hM
        have hR := canon_isRight (quo_right hM (R := R))
        have hK := hR.next
        have hO := hR.out
        have h1 := hR.n1
        have hk1 := hM.k1
        have hN := hR.n1024
        have b := mul_bd (a := ((reachS a1 ((cls a0 a1 a3 l4 l5 R).2 : Int) (qN a0 a1 a3 l4 l5 R)).1.length : Int)) (b := a1) (A := 1024) (B := 64) (by omega) (by omega) hN hM.k64
        exact ⟨_, _, _, _, _, _, _, by omega, by split at hO <;> omega, min_right hM r1 r2 r3, rmin_right hM r1 r2 r3⟩
      · exact ⟨_, _, _, _, _, _, _, by simp, by simp, min_wrong hM hw4 hw5 hl4 hl5, rmin_wrong hM hl4 hl5⟩
    refine Ev.bind (copy_ev a0 a1 a2 a3 b2 b3) ?_
    refine Ev.bind h ?_
    refine Ev.bind h' ?_
    refine Ev.bind (same3_ev o0 o1 o2 o3 (l4 := o4) (l5 := o5) (by unfold maxLen; omega) (by unfold maxLen; omega)) ?_
    refine Ev.pos rfl ?_
    refine Ev.bind (show Ev (fun _ => tutorlaw05_num.f e) e from Ev.now _) ?_
    refine Ev.succ ?_
    simp only [tutorlaw05_MooreMinimises.j0]
    refine Ev.neg (by simp) ?_
    refine Ev.bind (apart_ev (by
      intro r hr
      rcases List.mem_cons.mp hr with rfl | hr
      · exact h4
      · rcases List.mem_cons.mp hr with rfl | hr
        · exact h5
        · cases hr)) ?_
    refine Ev.pos rfl ?_
    refine Ev.bind (same3_ev a0 a1 a2 a3 hl4 hl5) ?_
    refine Ev.pos rfl ?_
    exact Ev.bind live5_ev (Ev.now true)
end Go.Proofs.Ytllgeljacmpdjaa.Pure
