/- The law MooreOne, of the printed functions: two machines come to the same least one just where no word tells them apart. -/
import Derived.Test.YtllgeljacmpdjaaPTrimxf13
import Derived.Test.YtllgeljacmpdjaaGApt
import Derived.Test.YtllgeljacmpdjaaGLaw5
namespace Go.Proofs.Ytllgeljacmpdjaa.Pure
open Go.RowKit Go.Proofs.Ytllgeljacmpdjaa.PTrim Go.Proofs.YtllgeljacmpdjaaW.PrintWords Go.Proofs.YtllgeljacmpdjaaW.PrintLast Go.Proofs.Ytllgeljacmpdjaa.Bfs
set_option linter.unusedVariables false

theorem one_live (x0 x1 x2 x3 : Int) (x4 x5 : List Int) (y0 y1 y2 y3 : Int) (y4 y5 : List Int) (z0 z1 z2 z3 : Int) (z4 z5 : List Int) (u0 u1 u2 u3 : Int) (u4 u5 : List Int) :
    Ev (fun k => tutorlaw05_MooreOne.j1 k true x0 x1 x2 x3 x4 x5 y0 y1 y2 y3 y4 y5 z0 z1 z2 z3 z4 z5 u0 u1 u2 u3 u4 u5) true := by
  refine Ev.succ ?_
  simp only [tutorlaw05_MooreOne.j1]
  refine Ev.pos trivial ?_
  exact Ev.bind live5_ev (Ev.now true)
theorem one_same {a0 a1 a2 a3 b3 : Int} {l4 l5 k4 k5 : List Int} (hM : RightM a0 a1 a2 a3 l4 l5) (hM' : RightM a0 a1 a2 b3 k4 k5) {R R' : Nat} (hst : (cls a0 a1 a3 l4 l5 (R + 1)).2 = (cls a0 a1 a3 l4 l5 R).2) (hst' : (cls a0 a1 b3 k4 k5 (R' + 1)).2 = (cls a0 a1 b3 k4 k5 R').2) {b : Bool} (hp : apP a0 a1 l4 l5 k4 k5 b) :
    decide ((a0, a1, a2, lN a0 a1 a3 l4 l5 R, lNx a0 a1 a3 l4 l5 R, lO a0 a1 a3 l4 l5 R) = (a0, a1, a2, lN a0 a1 b3 k4 k5 R', lNx a0 a1 b3 k4 k5 R', lO a0 a1 b3 k4 k5 R')) = !b := by
  cases b with
  | false =>
    have hall : ∀ w, InR w a1 → dsay a0 a1 l5 k5 (runTo (nxM a1 l4) 0 w) (runTo (nxM a1 k4) 0 w) := by
      intro w hw
      by_cases h : dsay a0 a1 l5 k5 (runTo (nxM a1 l4) 0 w) (runTo (nxM a1 k4) 0 w)
      · exact h
      · exact absurd (hp.mpr ⟨w, hw, h⟩) (by decide)
    obtain ⟨h1, h2, h3⟩ := least_one hM hM' hst hst' (out_dsay hM hM' hall)
    rw [h1, h2, h3]
    simp
  | true =>
    obtain ⟨w, hw, hn⟩ := hp.mp rfl
    refine decide_eq_false (fun e => hn ?_)
    have e4 : lNx a0 a1 a3 l4 l5 R = lNx a0 a1 b3 k4 k5 R' := by
      injection e with _ e; injection e with _ e; injection e with _ e; injection e with _ e; injection e
    have e5 : lO a0 a1 a3 l4 l5 R = lO a0 a1 b3 k4 k5 R' := by
      injection e with _ e; injection e with _ e; injection e with _ e; injection e with _ e; injection e
    have hout : ∀ v, InR v a1 → goOut a0 a1 l4 l5 0 v = goOut a0 a1 k4 k5 0 v := by
      intro v hv
      rw [← least_goOut hM hst hv, ← least_goOut hM' hst' hv, e4, e5]
    refine dsay_out hM hM' (fun v hv => goOut_after rfl (hout (w ++ v) (fun z hz => ?_)))
    rcases List.mem_append.mp hz with hz | hz
    · exact hw z hz
    · exact hv z hz

theorem MooreOne : ∀ (a0_0 a0_1 a0_2 a0_3 : Int) (l0_4 l0_5 : List Int) (a1_0 a1_1 a1_2 a1_3 : Int) (l1_4 l1_5 : List Int), (Lit.int .i64 a0_0).wf = true → (Lit.int .i64 a0_1).wf = true → (Lit.int .i64 a0_2).wf = true → (Lit.int .i64 a0_3).wf = true → l0_4.length ≤ maxLen → (∀ x ∈ l0_4, (Lit.int .i64 x).wf = true) → l0_5.length ≤ maxLen → (∀ x ∈ l0_5, (Lit.int .i64 x).wf = true) → (Lit.int .i64 a1_0).wf = true → (Lit.int .i64 a1_1).wf = true → (Lit.int .i64 a1_2).wf = true → (Lit.int .i64 a1_3).wf = true → l1_4.length ≤ maxLen → (∀ x ∈ l1_4, (Lit.int .i64 x).wf = true) → l1_5.length ≤ maxLen → (∀ x ∈ l1_5, (Lit.int .i64 x).wf = true) → ∃ k, tutorlaw05_MooreOne.f k a0_0 a0_1 a0_2 a0_3 l0_4 l0_5 a1_0 a1_1 a1_2 a1_3 l1_4 l1_5 = some true := by
  intro a0 a1 a2 a3 l4 l5 b0 b1 b2 b3 k4 k5 _ _ _ _ hl4 hw4 hl5 hw5 _ _ _ _ hk4 hv4 hk5 hv5
  apply Ev.rounds
  have hbig : Ev (fun k => tutorlaw05_MooreOne.j0 k true a0 a1 a2 a3 l4 l5 b0 b1 b2 b3 k4 k5) true := by
    refine Ev.succ ?_
    simp only [tutorlaw05_MooreOne.j0]
    refine Ev.pos trivial ?_
    exact Ev.bind live5_ev (Ev.now true)
  obtain ⟨big, hB⟩ := big_some a0 a1 a2 a3 l4 l5 12
  obtain ⟨big2, hB2⟩ := big_some b0 b1 b2 b3 k4 k5 12
  unfold tutorlaw05_MooreOne.f
  refine Ev.bind (show Ev (fun _ => tutorref03_Big.f a0 a1 a2 a3 l4 l5 12) big by rw [hB]; exact Ev.now _) ?_
  by_cases hb : big = true
  · exact Ev.pos hb hbig
  · refine Ev.neg hb ?_
    refine Ev.bind (show Ev (fun _ => tutorref03_Big.f b0 b1 b2 b3 k4 k5 12) big2 by rw [hB2]; exact Ev.now _) ?_
    by_cases hb2 : big2 = true
    · subst hb2
      exact hbig
    · rw [Bool.eq_false_iff.mpr hb2]
      refine Ev.succ ?_
      simp only [tutorlaw05_MooreOne.j0]
      refine Ev.neg (by decide) ?_
      by_cases hM : RightM a0 a1 a2 a3 l4 l5
      · obtain ⟨R, r1, r2, r3⟩ := cls_rounds hM
        refine Ev.bind (show Ev (fun k => moore_Minimise.f k a0 a1 a2 a3 l4 l5) (a0, a1, a2, lN a0 a1 a3 l4 l5 R, lNx a0 a1 a3 l4 l5 R, lO a0 a1 a3 l4 l5 R, 0) from min_right hM r1 r2 r3) ?_
        by_cases hM' : RightM b0 b1 b2 b3 k4 k5
        · obtain ⟨R', q1, q2, q3⟩ := cls_rounds hM'
          refine Ev.bind (show Ev (fun k => moore_Minimise.f k b0 b1 b2 b3 k4 k5) (b0, b1, b2, lN b0 b1 b3 k4 k5 R', lNx b0 b1 b3 k4 k5 R', lO b0 b1 b3 k4 k5 R', 0) from min_right hM' q1 q2 q3) ?_
          refine Ev.bind (show Ev (fun _ => tutorlaw05_num.f 0) 0 from Ev.now _) ?_
          refine Ev.pos rfl ?_
          refine Ev.bind (show Ev (fun _ => tutorlaw05_num.f 0) 0 from Ev.now _) ?_
          refine Ev.pos rfl ?_
          by_cases e0 : a0 = b0
          · refine Ev.pos e0 ?_
            by_cases e1 : a1 = b1
            · refine Ev.pos e1 ?_
              by_cases e2 : a2 = b2
              · subst e0 e1 e2
                have hL := lens_ok (least_right hM (R := R))
                obtain ⟨b, hb', hp⟩ := apart_ev' hM hM'
                have hs := same3_eq (a0 := a0) (a1 := a1) (a2 := a2) (a3 := lN a0 a1 a3 l4 l5 R) (b0 := a0) (b1 := a1) (b2 := a2) (b3 := lN a0 a1 b3 k4 k5 R') (k4 := lNx a0 a1 b3 k4 k5 R') (k5 := lO a0 a1 b3 k4 k5 R') hL.1 hL.2
                rw [one_same hM hM' r2 q2 hp] at hs
                refine Ev.succ ?_
                simp only [tutorlaw05_MooreOne.j1]
                refine Ev.neg (by simp) ?_
                refine Ev.bind hs ?_
                refine Ev.bind hb' ?_
                refine Ev.pos (by simp) ?_
                exact Ev.bind live5_ev (Ev.now true)
              · rw [show ((a2 != b2) : Bool) = true from bne_iff_ne.mpr e2]
                exact one_live ..
            · exact Ev.neg e1 (one_live ..)
          · exact Ev.neg e0 (one_live ..)
        · have he : errM b0 b1 b2 b3 k4 k5 ≠ 0 := fun h => hM' (errM_zero.mp h)
          refine Ev.bind (min_wrong hM' hv4 hv5 hk4 hk5) ?_
          refine Ev.bind (show Ev (fun _ => tutorlaw05_num.f 0) 0 from Ev.now _) ?_
          refine Ev.pos rfl ?_
          refine Ev.bind (show Ev (fun _ => tutorlaw05_num.f (errM b0 b1 b2 b3 k4 k5)) (errM b0 b1 b2 b3 k4 k5) from Ev.now _) ?_
          exact Ev.neg he (one_live ..)
      · have he : errM a0 a1 a2 a3 l4 l5 ≠ 0 := fun h => hM (errM_zero.mp h)
        refine Ev.bind (min_wrong hM hw4 hw5 hl4 hl5) ?_
        by_cases hM' : RightM b0 b1 b2 b3 k4 k5
        · obtain ⟨R', q1, q2, q3⟩ := cls_rounds hM'
          refine Ev.bind (min_right hM' q1 q2 q3) ?_
          refine Ev.bind (show Ev (fun _ => tutorlaw05_num.f (errM a0 a1 a2 a3 l4 l5)) (errM a0 a1 a2 a3 l4 l5) from Ev.now _) ?_
          exact Ev.neg he (one_live ..)
        · refine Ev.bind (min_wrong hM' hv4 hv5 hk4 hk5) ?_
          refine Ev.bind (show Ev (fun _ => tutorlaw05_num.f (errM a0 a1 a2 a3 l4 l5)) (errM a0 a1 a2 a3 l4 l5) from Ev.now _) ?_
          exact Ev.neg he (one_live ..)
end Go.Proofs.Ytllgeljacmpdjaa.Pure
