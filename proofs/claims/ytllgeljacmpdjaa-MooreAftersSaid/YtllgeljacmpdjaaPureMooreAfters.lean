/- The law MooreAfters, of the printed functions: which states are alike up to a length, as the document says; the machine stays. -/
import Derived.Test.YtllgeljacmpdjaaPTrimxf9
import Derived.Test.YtllgeljacmpdjaaGRMin
import Derived.Test.YtllgeljacmpdjaaGLaw5
namespace Go.Proofs.Ytllgeljacmpdjaa.Pure
open Go.RowKit Go.Proofs.Ytllgeljacmpdjaa.PTrim Go.Proofs.YtllgeljacmpdjaaW.PrintWords Go.Proofs.YtllgeljacmpdjaaW.PrintLast Go.Proofs.Ytllgeljacmpdjaa.Bfs
set_option linter.unusedVariables false

theorem MooreAfters : ∀ (a0_0 a0_1 a0_2 a0_3 : Int) (l0_4 l0_5 : List Int) (a1 : Int), (Lit.int .i64 a0_0).wf = true → (Lit.int .i64 a0_1).wf = true → (Lit.int .i64 a0_2).wf = true → (Lit.int .i64 a0_3).wf = true → l0_4.length ≤ maxLen → (∀ x ∈ l0_4, (Lit.int .i64 x).wf = true) → l0_5.length ≤ maxLen → (∀ x ∈ l0_5, (Lit.int .i64 x).wf = true) → (Lit.int .i64 a1).wf = true → ∃ k, tutorlaw05_MooreAfters.f k a0_0 a0_1 a0_2 a0_3 l0_4 l0_5 a1 = some true := by
  intro a0 a1 a2 a3 l4 l5 n _ _ _ _ hl4 hw4 hl5 hw5 hwn
  apply Ev.rounds
  obtain ⟨big, hB⟩ := big_some a0 a1 a2 a3 l4 l5 60
  unfold tutorlaw05_MooreAfters.f
  refine Ev.bind (show Ev (fun _ => tutorref03_Big.f a0 a1 a2 a3 l4 l5 60) big by rw [hB]; exact Ev.now _) ?_
  by_cases hb : big = true
  · refine Ev.pos hb ?_
    exact Ev.bind live5_ev (Ev.now true)
  · refine Ev.neg hb ?_
    obtain ⟨b1, b2, b3⟩ := big_no hB hb
    have hn : n ≤ 9223372036854775807 := by
      have e2 : IntKind.i64.max = 9223372036854775807 := rfl
      simp only [Lit.wf, e2, Bool.and_eq_true, decide_eq_true_eq] at hwn
      omega
    obtain ⟨c, e, hc, h1, h2⟩ : ∃ (c : List Int) (e : Int), c.length ≤ 70000 ∧ Ev (fun k => moore_After.f k a0 a1 a2 a3 l4 l5 n) (c, e) ∧ Ev (fun k => tutorref05_After.f k a0 a1 a2 a3 l4 l5 n) (c, e) := by
      by_cases hM : RightM a0 a1 a2 a3 l4 l5
      · by_cases hneg : n < 0
        · exact ⟨_, _, by simp, after_neg hM hneg hw4 hw5 hl4 hl5, rafter_neg hM hneg hl4 hl5⟩
        · obtain ⟨m, rfl⟩ : ∃ m : Nat, n = (m : Int) := ⟨n.toNat, by omega⟩
          exact ⟨_, _, by have := (cls_num hM m).len; have := hM.n1024; omega, after_right hM hw4 hw5 hl4 hl5 m (by omega), rafter_right hM hl4 hl5 m (by omega)⟩
      · exact ⟨_, _, by simp, (after_wrong hM hw4 hw5 hl4 hl5 n).2, rafter_wrong hM hl4 hl5 n⟩
    refine Ev.bind (copy_ev a0 a1 a2 a3 b2 b3) ?_
    refine Ev.bind h1 ?_
    refine Ev.bind h2 ?_
    refine Ev.bind (samel_ev (l := c) (by unfold maxLen; omega)) ?_
    refine Ev.pos rfl ?_
    refine Ev.bind (show Ev (fun _ => tutorlaw05_num.f e) e from Ev.now _) ?_
    refine Ev.pos rfl ?_
    refine Ev.bind (same3_ev a0 a1 a2 a3 hl4 hl5) ?_
    refine Ev.pos rfl ?_
    exact Ev.bind live5_ev (Ev.now true)
end Go.Proofs.Ytllgeljacmpdjaa.Pure
