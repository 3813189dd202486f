/- The law MooreRounds, of the printed functions: alike up to n + 1 is alike up to n; up to the length that Classes tells all that is not alike is apart, one symbol less it is not; there are fewer rounds than states. -/
import Derived.Test.YtllgeljacmpdjaaPTrimxf14
import Derived.Test.YtllgeljacmpdjaaGQuo
import Derived.Test.YtllgeljacmpdjaaGRChk
import Derived.Test.YtllgeljacmpdjaaGLaw5
namespace Go.Proofs.Ytllgeljacmpdjaa.Pure
open Go.RowKit Go.Proofs.Ytllgeljacmpdjaa.PTrim Go.Proofs.YtllgeljacmpdjaaW.PrintWords Go.Proofs.YtllgeljacmpdjaaW.PrintLast Go.Proofs.Ytllgeljacmpdjaa.Bfs
set_option linter.unusedVariables false

/-- one list of numbers, one count -/
theorem num_list {n cnt cnt' : Nat} {E E' : Nat → Nat → Prop} {c : List Int} (h : IsNum n E c cnt) (h' : IsNum n E' c cnt') : cnt = cnt' :=
  ((h.mono (E' := E') (fun s t hs ht => (h.eq hs ht).symm.trans (h'.eq hs ht))).uniq h').2

theorem MooreRounds : ∀ (a0_0 a0_1 a0_2 a0_3 : Int) (l0_4 l0_5 : List Int) (a1 : Int) (a2 : Int) (a3 : Int), (Lit.int .i64 a0_0).wf = true → (Lit.int .i64 a0_1).wf = true → (Lit.int .i64 a0_2).wf = true → (Lit.int .i64 a0_3).wf = true → l0_4.length ≤ maxLen → (∀ x ∈ l0_4, (Lit.int .i64 x).wf = true) → l0_5.length ≤ maxLen → (∀ x ∈ l0_5, (Lit.int .i64 x).wf = true) → (Lit.int .u8 a1).wf = true → (Lit.int .i64 a2).wf = true → (Lit.int .i64 a3).wf = true → ∃ k, tutorlaw05_MooreRounds.f k a0_0 a0_1 a0_2 a0_3 l0_4 l0_5 a1 a2 a3 = some true := by
  intro a0 a1 a2 a3 l4 l5 n s t _ _ _ _ hl4 hw4 hl5 hw5 hn _ _
  have hnb : 0 ≤ n ∧ n < 256 := by
    unfold Lit.wf at hn
    simp at hn
    have m1 : IntKind.u8.min = 0 := by decide
    have m2 : IntKind.u8.max = 255 := by decide
    omega
  apply Ev.rounds
  have hbig : Ev (fun k => tutorlaw05_MooreRounds.j0 k n s t true a0 a1 a2 a3 l4 l5) true := by
    refine Ev.succ ?_
    simp only [tutorlaw05_MooreRounds.j0]
    refine Ev.pos trivial ?_
    exact Ev.bind live5_ev (Ev.now true)
  obtain ⟨big, hB⟩ := big_some a0 a1 a2 a3 l4 l5 60
  unfold tutorlaw05_MooreRounds.f
  refine Ev.bind (show Ev (fun _ => tutorref03_Big.f a0 a1 a2 a3 l4 l5 60) big by rw [hB]; exact Ev.now _) ?_
  by_cases hb : big = true
  · exact Ev.pos hb hbig
  · refine Ev.neg hb ?_
    obtain ⟨at_, hck⟩ := rcheck_ev a0 a1 a2 a3 hl4 hl5
    refine Ev.bind (show Ev (fun k => tutorref03_Right.f k a0 a1 a2 a3 l4 l5) (errM a0 a1 a2 a3 l4 l5 == 0) from Ev.bind hck (Ev.now _)) ?_
    by_cases hM : RightM a0 a1 a2 a3 l4 l5
    · refine Ev.pos (beq_iff_eq.mpr (errM_zero.mpr hM)) ?_
      by_cases s0 : s < 0
      · exact Ev.pos s0 hbig
      · refine Ev.neg s0 ?_
        by_cases s1 : s ≥ a3
        · exact Ev.pos s1 hbig
        · refine Ev.neg s1 ?_
          by_cases t0 : t < 0
          · exact Ev.pos t0 hbig
          · refine Ev.neg t0 ?_
            by_cases t1 : t ≥ a3
            · rw [decide_eq_true t1]
              exact hbig
            · rw [decide_eq_false t1]
              have n1 := hM.n1
              have n1024 := hM.n1024
              obtain ⟨S, rfl⟩ : ∃ S : Nat, s = (S : Int) := ⟨s.toNat, by omega⟩
              obtain ⟨T, rfl⟩ : ∃ T : Nat, t = (T : Int) := ⟨t.toNat, by omega⟩
              obtain ⟨m, rfl⟩ : ∃ m : Nat, n = (m : Int) := ⟨n.toNat, by omega⟩
              obtain ⟨R, r1, r2, r3⟩ := cls_rounds hM
              have hA : ∀ i : Nat, i ≤ 9223372036854775807 → Ev (fun k => moore_After.f k a0 a1 a2 a3 l4 l5 (i : Int)) ((cls a0 a1 a3 l4 l5 i).1, 0) := fun i hi => after_right hM hw4 hw5 hl4 hl5 i hi
              have hlen : ∀ i, ((cls a0 a1 a3 l4 l5 i).1.length : Int) = a3 := fun i => by rw [(cls_num hM i).len]; omega
              have hsame : ∀ i j, Ev (fun k => tutorref01_Same.f k (cls a0 a1 a3 l4 l5 i).1 (cls a0 a1 a3 l4 l5 j).1) (decide ((cls a0 a1 a3 l4 l5 i).1 = (cls a0 a1 a3 l4 l5 j).1)) := fun i j => same_ev (by have := hlen i; unfold maxLen; omega)
              have hnum : ∀ e : Int, Ev (fun _ => tutorlaw05_num.f e) e := fun e => Ev.now _
              have hj3 : Ev (fun k => tutorlaw05_MooreRounds.j3 k (cls a0 a1 a3 l4 l5 R).1 (R : Int) false a0 a1 a2 a3 l4 l5) true := by
                refine Ev.succ ?_
                simp only [tutorlaw05_MooreRounds.j3]
                refine Ev.neg (by decide) ?_
                by_cases hR0 : (R : Int) > 0
                · refine Ev.pos hR0 ?_
                  rw [show wrap64 ((R : Int) - 1) = ((R - 1 : Nat) : Int) by rw [wrap_id (by omega) (by omega)]; omega]
                  refine Ev.bind (hA (R - 1) (by omega)) ?_
                  refine Ev.bind (hnum 0) ?_
                  refine Ev.pos rfl ?_
                  refine Ev.bind (hsame (R - 1) R) ?_
                  refine Ev.neg ?_ (Ev.bind live5_ev (Ev.now true))
                  rw [decide_eq_true_eq]
                  intro e
                  have h1 := cls_num hM (R - 1)
                  rw [e] at h1
                  have h2 := num_list h1 (cls_num hM R)
                  have h3 := r3 (R - 1) (by omega)
                  rw [show R - 1 + 1 = R by omega] at h3
                  exact h3 h2.symm
                · refine Ev.neg hR0 ?_
                  exact Ev.bind live5_ev (Ev.now true)
              have hj2 : Ev (fun k => tutorlaw05_MooreRounds.j2 k (cls a0 a1 a3 l4 l5 R).1 (R : Int) false a0 a1 a2 a3 l4 l5) true := by
                refine Ev.succ ?_
                simp only [tutorlaw05_MooreRounds.j2]
                refine Ev.neg (by decide) ?_
                refine Ev.bind (hA R (by omega)) ?_
                refine Ev.bind (hnum 0) ?_
                refine Ev.pos rfl ?_
                refine Ev.bind (hsame R R) ?_
                rw [decide_eq_true rfl]
                exact hj3
              have hj1 : Ev (fun k => tutorlaw05_MooreRounds.j1 k (cls a0 a1 a3 l4 l5 R).1 (R : Int) false a0 a1 a2 a3 l4 l5) true := by
                refine Ev.succ ?_
                simp only [tutorlaw05_MooreRounds.j1]
                refine Ev.neg (by decide) ?_
                refine Ev.neg (by omega) ?_
                refine Ev.neg (by omega) ?_
                rw [decide_eq_false (show ¬ (R : Int) > a3 by omega)]
                exact hj2
              have hS : S < a3.toNat := by omega
              have hT : T < a3.toNat := by omega
              refine Ev.succ ?_
              simp only [tutorlaw05_MooreRounds.j0]
              refine Ev.neg (by decide) ?_
              rw [show wrap64 (m : Int) = (m : Int) from wrap_id (by omega) (by omega), step1 (by omega)]
              refine Ev.bind (hA m (by omega)) ?_
              refine Ev.bind (hA (m + 1) (by omega)) ?_
              refine Ev.bind (mclasses_right hM hw4 hw5 hl4 hl5 r1 r2 r3) ?_
              refine Ev.bind (hnum 0) ?_
              refine Ev.bind (hnum 0) ?_
              refine Ev.bind (hnum 0) ?_
              refine Ev.pos (by rw [show wrap64 ((0 : Int) + 0) = 0 from wrap_id (by omega) (by omega)]; exact wrap_id (by omega) (by omega)) ?_
              refine Ev.pos (hlen m) ?_
              refine Ev.pos (hlen (m + 1)) ?_
              refine Ev.pos (hlen R) ?_
              have hSl : ∀ i, (S : Int) < ((cls a0 a1 a3 l4 l5 i).1.length : Int) := fun i => by rw [hlen i]; omega
              have hTl : ∀ i, (T : Int) < ((cls a0 a1 a3 l4 l5 i).1.length : Int) := fun i => by rw [hlen i]; omega
              refine Ev.pos (by omega) ?_
              refine Ev.pos (hSl (m + 1)) ?_
              refine Ev.pos (by omega) ?_
              refine Ev.pos (hTl (m + 1)) ?_
              by_cases hbe : rd (cls a0 a1 a3 l4 l5 (m + 1)).1 (S : Int) = rd (cls a0 a1 a3 l4 l5 (m + 1)).1 (T : Int)
              · refine Ev.pos hbe ?_
                have hae : rd (cls a0 a1 a3 l4 l5 m).1 (S : Int) = rd (cls a0 a1 a3 l4 l5 m).1 (T : Int) := ((cls_num hM m).eq hS hT).mpr (eqv_down (((cls_num hM (m + 1)).eq hS hT).mp hbe))
                refine Ev.pos (hSl m) ?_
                refine Ev.pos (hTl m) ?_
                refine Ev.pos hae ?_
                refine Ev.pos (hSl R) ?_
                refine Ev.pos (hTl R) ?_
                by_cases hce : rd (cls a0 a1 a3 l4 l5 R).1 (S : Int) = rd (cls a0 a1 a3 l4 l5 R).1 (T : Int)
                · refine Ev.pos hce ?_
                  rw [hbe, bne_self_eq_false]
                  exact hj1
                · exact Ev.neg hce hj1
              · refine Ev.neg hbe ?_
                refine Ev.pos (hSl R) ?_
                refine Ev.pos (hTl R) ?_
                refine Ev.neg (fun hce => hbe ?_) hj1
                exact ((cls_num hM (m + 1)).eq hS hT).mpr (still_all hM r2 hS hT (((cls_num hM R).eq hS hT).mp hce) (m + 1))
    · refine Ev.neg (fun h => hM (errM_zero.mp (beq_iff_eq.mp h))) ?_
      exact hbig
end Go.Proofs.Ytllgeljacmpdjaa.Pure
