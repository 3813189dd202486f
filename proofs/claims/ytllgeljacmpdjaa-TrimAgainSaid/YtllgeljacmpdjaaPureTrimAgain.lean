/- The law TrimAgain, of the printed functions: Canon of Canon is it; Canon of a Turn is Canon. -/
import Derived.Test.YtllgeljacmpdjaaPTrimxf8
import Derived.Test.YtllgeljacmpdjaaGAgain
namespace Go.Proofs.Ytllgeljacmpdjaa.Pure
open Go.RowKit Go.Proofs.Ytllgeljacmpdjaa.PTrim Go.Proofs.YtllgeljacmpdjaaW.PrintWords Go.Proofs.YtllgeljacmpdjaaW.PrintLast Go.Proofs.Ytllgeljacmpdjaa.Bfs
set_option linter.unusedVariables false

theorem lens_of {a0 a1 a2 a3 : Int} {l4 l5 : List Int} (hM : RightM a0 a1 a2 a3 l4 l5) : l4.length ≤ maxLen ∧ l5.length ≤ maxLen := by
  have h := hM.next
  have h2 := hM.out
  have h3 := hM.n1
  have h5 := hM.k1
  have hN := hM.n1024
  have b := mul_bd (a := a3) (b := a1) (A := 1024) (B := 64) (by omega) (by omega) hM.n1024 hM.k64
  unfold maxLen
  split at h2 <;> omega
theorem canon_of {a0 a1 a2 a3 : Int} {l4 l5 : List Int} (hM : RightM a0 a1 a2 a3 l4 l5) :
    Ev (fun k => trim_Canon.f k a0 a1 a2 a3 l4 l5) (a0, a1, a2, ((reachS a1 a3 l4).1.length : Int), canN a1 a3 l4, canO a0 a1 a3 l4 l5, 0) :=
  canon_right hM (wf_inR hM.nextIn hM.n1024) (wf_inR hM.outIn (Int.le_trans hM.o64 (by decide))) (lens_of hM).1 (lens_of hM).2

theorem TrimAgain : ∀ (a0_0 a0_1 a0_2 a0_3 : Int) (l0_4 l0_5 : List Int) (l1 : List Int), (Lit.int .i64 a0_0).wf = true → (Lit.int .i64 a0_1).wf = true → (Lit.int .i64 a0_2).wf = true → (Lit.int .i64 a0_3).wf = true → l0_4.length ≤ maxLen → (∀ x ∈ l0_4, (Lit.int .i64 x).wf = true) → l0_5.length ≤ maxLen → (∀ x ∈ l0_5, (Lit.int .i64 x).wf = true) → l1.length ≤ maxLen → (∀ x ∈ l1, (Lit.int .i64 x).wf = true) → ∃ k, tutorlaw04_TrimAgain.f k a0_0 a0_1 a0_2 a0_3 l0_4 l0_5 l1 = some true := by
  intro a0 a1 a2 a3 l4 l5 p _ _ _ _ hl4 hw4 hl5 hw5 _ hwp
  apply Ev.rounds
  have hbig : Ev (fun k => tutorlaw04_TrimAgain.j0 k p true a0 a1 a2 a3 l4 l5) true := by
    refine Ev.succ ?_
    simp only [tutorlaw04_TrimAgain.j0]
    refine Ev.pos trivial ?_
    exact Ev.bind live_ev (Ev.now true)
  obtain ⟨big, hB⟩ : ∃ b, tutorref03_Big.f a0 a1 a2 a3 l4 l5 300 = some b := by
    unfold tutorref03_Big.f
    split
    · exact ⟨_, rfl⟩
    · split <;> exact ⟨_, rfl⟩
  refine Ev.bind (show Ev (fun _ => tutorref03_Big.f a0 a1 a2 a3 l4 l5 300) big by rw [hB]; exact Ev.now _) ?_
  by_cases hb : big = true
  · exact Ev.pos hb hbig
  · refine Ev.neg hb ?_
    by_cases hwl : (p.length : Int) > 600
    · rw [decide_eq_true hwl]; exact hbig
    · rw [decide_eq_false hwl]
      refine Ev.succ ?_
      simp only [tutorlaw04_TrimAgain.j0]
      refine Ev.neg (by decide) ?_
      by_cases hM : RightM a0 a1 a2 a3 l4 l5
      · have hC := canon_isRight hM
        obtain ⟨g1, g2, g3⟩ := canon_again hM
        have hc2 := canon_of hC
        rw [g1, g2, g3] at hc2
        have hnum : Ev (fun _ => tutorlaw04_num.f 0) 0 := Ev.now _
        have hlc := lens_of hC
        refine Ev.bind (canon_of hM) ?_
        refine Ev.bind hnum ?_
        refine Ev.pos rfl ?_
        refine Ev.bind hc2 ?_
        refine Ev.bind hnum ?_
        refine Ev.pos rfl ?_
        refine Ev.bind (same3_ev a0 a1 a2 ((reachS a1 a3 l4).1.length : Int) hlc.1 hlc.2) ?_
        show Ev (fun k => tutorlaw04_TrimAgain.j1 k p (!true) a0 a1 a2 a3 l4 l5 a0 a1 a2 ((reachS a1 a3 l4).1.length : Int) (canN a1 a3 l4) (canO a0 a1 a3 l4 l5)) true
        refine Ev.succ ?_
        simp only [tutorlaw04_TrimAgain.j1]
        refine Ev.neg (by decide) ?_
        rcases turn_right hM hw4 hw5 hwp with h | ⟨was, hp, hw, h⟩
        · refine Ev.bind h ?_
          refine Ev.bind (show Ev (fun _ => tutorlaw04_num.f 1) 1 from Ev.now _) ?_
          refine Ev.neg (by decide) ?_
          refine Ev.pos rfl ?_
          exact Ev.bind live_ev (Ev.now true)
        · have hT := turn_isRight hM hp hw
          obtain ⟨t1, t2, t3⟩ := canon_turn hM hp hw
          have hct := canon_of hT
          rw [t1, t2, t3] at hct
          refine Ev.bind h ?_
          refine Ev.bind hnum ?_
          refine Ev.pos rfl ?_
          refine Ev.bind hct ?_
          refine Ev.bind hnum ?_
          refine Ev.pos rfl ?_
          refine Ev.bind (same3_ev a0 a1 a2 ((reachS a1 a3 l4).1.length : Int) hlc.1 hlc.2) ?_
          refine Ev.pos rfl ?_
          exact Ev.bind live_ev (Ev.now true)
      · obtain ⟨he, hr⟩ := canon_wrong hM hw4 hw5 hl4 hl5
        refine Ev.bind hr ?_
        refine Ev.bind (show Ev (fun _ => tutorlaw04_num.f (errM a0 a1 a2 a3 l4 l5)) (errM a0 a1 a2 a3 l4 l5) from Ev.now _) ?_
        refine Ev.neg he ?_
        exact Ev.bind live_ev (Ev.now true)

end Go.Proofs.Ytllgeljacmpdjaa.Pure
