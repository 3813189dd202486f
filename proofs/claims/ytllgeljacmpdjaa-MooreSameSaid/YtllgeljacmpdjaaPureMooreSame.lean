/- The law MooreSame, of the printed functions: the least machine says of each word what the machine says; no two of its states are alike; each can be come to; minimised again it is the same. -/
import Derived.Test.YtllgeljacmpdjaaPTrimxf12
import Derived.Test.YtllgeljacmpdjaaGLeast
import Derived.Test.YtllgeljacmpdjaaGRRch
import Derived.Test.YtllgeljacmpdjaaGRun
import Derived.Test.YtllgeljacmpdjaaGLaw5
namespace Go.Proofs.Ytllgeljacmpdjaa.Pure
open Go.RowKit Go.Proofs.Ytllgeljacmpdjaa.PTrim Go.Proofs.YtllgeljacmpdjaaW.PrintWords Go.Proofs.YtllgeljacmpdjaaW.PrintLast Go.Proofs.Ytllgeljacmpdjaa.Bfs
set_option linter.unusedVariables false

theorem ids_l0 {c : List Int} {b0 b1 b2 b3 : Int} {b4 b5 : List Int} (hc : (c.length : Int) = b3) (h3 : b3 ≤ 1024) (hid : ∀ s, s < c.length → rd c (s : Int) = (s : Int)) :
    ∀ (d s : Nat), s + d = c.length → Ev (fun k => tutorlaw05_MooreSame.l0 k c (s : Int) b0 b1 b2 b3 b4 b5) true
  | 0, s, hd => by
    refine Ev.succ ?_
    simp only [tutorlaw05_MooreSame.l0]
    refine Ev.neg (by omega) ?_
    refine Ev.pos hc ?_
    exact Ev.bind live5_ev (Ev.now true)
  | d + 1, s, hd => by
    have ih := ids_l0 (b0 := b0) (b1 := b1) (b2 := b2) (b4 := b4) (b5 := b5) hc h3 hid d (s + 1) (by omega)
    refine Ev.step (fun k => ?_) ih
    simp only [tutorlaw05_MooreSame.l0]
    rw [if_pos (by omega), if_pos (by omega), if_pos (hid s (by omega)), step1 (by omega)]

theorem MooreSame : ∀ (a0_0 a0_1 a0_2 a0_3 : Int) (l0_4 l0_5 : List Int) (l1 : List Int), (Lit.int .i64 a0_0).wf = true → (Lit.int .i64 a0_1).wf = true → (Lit.int .i64 a0_2).wf = true → (Lit.int .i64 a0_3).wf = true → l0_4.length ≤ maxLen → (∀ x ∈ l0_4, (Lit.int .i64 x).wf = true) → l0_5.length ≤ maxLen → (∀ x ∈ l0_5, (Lit.int .i64 x).wf = true) → l1.length ≤ maxLen → (∀ x ∈ l1, (Lit.int .i64 x).wf = true) → ∃ k, tutorlaw05_MooreSame.f k a0_0 a0_1 a0_2 a0_3 l0_4 l0_5 l1 = some true := by
  intro a0 a1 a2 a3 l4 l5 w _ _ _ _ hl4 hw4 hl5 hw5 _ _
  apply Ev.rounds
  have hbig : Ev (fun k => tutorlaw05_MooreSame.j0 k w true a0 a1 a2 a3 l4 l5) true := by
    refine Ev.succ ?_
    simp only [tutorlaw05_MooreSame.j0]
    refine Ev.pos trivial ?_
    exact Ev.bind live5_ev (Ev.now true)
  obtain ⟨big, hB⟩ := big_some a0 a1 a2 a3 l4 l5 60
  unfold tutorlaw05_MooreSame.f
  refine Ev.bind (show Ev (fun _ => tutorref03_Big.f a0 a1 a2 a3 l4 l5 60) big by rw [hB]; exact Ev.now _) ?_
  by_cases hb : big = true
  · exact Ev.pos hb hbig
  · refine Ev.neg hb ?_
    by_cases hwl : (w.length : Int) > 2000
    · rw [decide_eq_true hwl]; exact hbig
    · rw [decide_eq_false hwl]
      refine Ev.succ ?_
      simp only [tutorlaw05_MooreSame.j0]
      refine Ev.neg (by decide) ?_
      by_cases hM : RightM a0 a1 a2 a3 l4 l5
      · obtain ⟨R, r1, r2, r3⟩ := cls_rounds hM
        have hL := least_right hM (R := R)
        obtain ⟨r, q1, q2, q3⟩ := cls_rounds hL
        have hsm := least_small hM (R := R)
        obtain ⟨hid, hcnt⟩ := least_cls hM r2 q2
        obtain ⟨g1, g2, g3⟩ := least_again hM r2 q2
        have hQ := quo_right hM (R := R)
        have hag := canon_again hQ
        have he : runAns a0 a1 (lNx a0 a1 a3 l4 l5 R) (lO a0 a1 a3 l4 l5 R) w = runAns a0 a1 l4 l5 w := by
          unfold runAns
          by_cases hbd : 0 ≤ badFrom a1 w 0
          · rw [if_pos hbd, if_pos hbd]
          · rw [if_neg hbd, if_neg hbd, least_goOut hM r2 (badFrom_neg (i := 0) |>.mp (by omega))]
        have hr2 := run_ev hL (w := w) (by omega)
        rw [he] at hr2
        have hmin2 := min_right hL q1 q2 q3
        have hlenL := lens_ok hL
        have hcls2 := mclasses_right hL (wf_in hL.nextIn hL.n1024) (wf_in hL.outIn (Int.le_trans hL.o64 (by decide))) hlenL.1 hlenL.2 q1 q2 q3
        have hlc := (cls_num hL r).len
        have hL1 := hL.n1
        have hL2 := hL.n1024
        change Ev _ (a0, a1, a2, lN a0 a1 (lN a0 a1 a3 l4 l5 R) (lNx a0 a1 a3 l4 l5 R) (lO a0 a1 a3 l4 l5 R) r, lNx a0 a1 (lN a0 a1 a3 l4 l5 R) (lNx a0 a1 a3 l4 l5 R) (lO a0 a1 a3 l4 l5 R) r, lO a0 a1 (lN a0 a1 a3 l4 l5 R) (lNx a0 a1 a3 l4 l5 R) (lO a0 a1 a3 l4 l5 R) r, 0) at hmin2
        rw [g1, g2, g3] at hmin2
        refine Ev.bind (show Ev (fun k => moore_Minimise.f k a0 a1 a2 a3 l4 l5) (a0, a1, a2, lN a0 a1 a3 l4 l5 R, lNx a0 a1 a3 l4 l5 R, lO a0 a1 a3 l4 l5 R, 0) from min_right hM r1 r2 r3) ?_
        refine Ev.bind (show Ev (fun _ => tutorlaw05_num.f 0) 0 from Ev.now _) ?_
        refine Ev.pos rfl ?_
        refine Ev.bind (run_ev hM (w := w) (by omega)) ?_
        refine Ev.bind hr2 ?_
        refine Ev.bind hcls2 ?_
        refine Ev.bind hmin2 ?_
        refine Ev.bind (rreach_right hL) ?_
        refine Ev.bind (show Ev (fun _ => tutorlaw05_num.f 0) 0 from Ev.now _) ?_
        refine Ev.bind (show Ev (fun _ => tutorlaw05_num.f 0) 0 from Ev.now _) ?_
        refine Ev.pos (by rw [wrap_id (by omega) (by omega)]; rfl) ?_
        refine Ev.pos rfl ?_
        have hlen : (runAns a0 a1 l4 l5 w).1.length ≤ maxLen := by
          unfold runAns maxLen
          split
          · simp
          · have := goOut_len a0 a1 l4 l5 0 w; show (goOut a0 a1 l4 l5 0 w).length ≤ _; omega
        refine Ev.bind (samel_ev hlen) ?_
        refine Ev.pos rfl ?_
        refine Ev.bind (same3_ev a0 a1 a2 (lN a0 a1 a3 l4 l5 R) hlenL.1 hlenL.2) ?_
        refine Ev.pos rfl ?_
        refine Ev.pos (show ((reachS a1 (lN a0 a1 a3 l4 l5 R) (lNx a0 a1 a3 l4 l5 R)).1.length : Int) = lN a0 a1 a3 l4 l5 R from hag.1) ?_
        refine Ev.succ ?_
        simp only [tutorlaw05_MooreSame.j1]
        refine Ev.neg (by simp only [decide_eq_true_eq]; omega) ?_
        exact ids_l0 (c := (cls a0 a1 (lN a0 a1 a3 l4 l5 R) (lNx a0 a1 a3 l4 l5 R) (lO a0 a1 a3 l4 l5 R) r).1) (b3 := lN a0 a1 a3 l4 l5 R) (by rw [hlc]; omega) hL2 (fun s hs => hid s (Nat.lt_of_lt_of_eq hs hlc)) _ 0 (Nat.zero_add _)
      · have he : errM a0 a1 a2 a3 l4 l5 ≠ 0 := fun h => hM (errM_zero.mp h)
        refine Ev.bind (min_wrong hM hw4 hw5 hl4 hl5) ?_
        refine Ev.bind (show Ev (fun _ => tutorlaw05_num.f (errM a0 a1 a2 a3 l4 l5)) (errM a0 a1 a2 a3 l4 l5) from Ev.now _) ?_
        refine Ev.neg he ?_
        refine Ev.pos rfl ?_
        exact Ev.bind live5_ev (Ev.now true)
end Go.Proofs.Ytllgeljacmpdjaa.Pure
