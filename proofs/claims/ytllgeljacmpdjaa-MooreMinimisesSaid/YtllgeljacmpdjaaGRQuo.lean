/- What the reference's Minimise answers. -/
import Derived.Test.YtllgeljacmpdjaaGQuo
import Derived.Test.YtllgeljacmpdjaaGRRch
import Derived.Test.YtllgeljacmpdjaaPTrimxf43
namespace Go.Proofs.Ytllgeljacmpdjaa.PTrim
open Go.RowKit Go.Proofs.YtllgeljacmpdjaaW.PrintWords Go.Proofs.YtllgeljacmpdjaaW.PrintLast Go.Proofs.YtllgeljacmpdjaaW.PrintMore Go.Proofs.Ytllgeljacmpdjaa.Bfs
set_option linter.unusedVariables false

theorem firsts_le {f : Nat → Int × Int} {n s : Nat} (hs : s < n) : rd (numC f n) (s : Int) ≤ ((firsts (numC f n) s).length : Int) := by
  obtain ⟨h1, h2⟩ := firsts_num (f := f) (n := n) s (by omega)
  have e := numC_nc f hs
  by_cases hx : ∃ t, t < s ∧ f t = f s
  · have ho := nc_old f s hx
    omega
  · have hn := nc_new f s (fun t ht e => hx ⟨t, ht, e⟩)
    omega

section
variable {a0 a1 a2 a3 : Int} {l4 l5 : List Int} (hM : RightM a0 a1 a2 a3 l4 l5)
include hM
variable {c : List Int} {r : Int × Int × Int × Int × List Int × List Int × Int}
theorem rmin_l1 (hc : c.length = a3.toNat) {s : Nat} (hs : s < a3.toNat) {N : Int} {Nx O : List Int} (hX : Nx.length ≤ 65536) (hO : O.length ≤ 65536)
    (hnx : Ev (fun k => tutorref05_Minimise.l0 k c ((s + 1 : Nat) : Int) a0 a1 a2 a3 l4 l5 a0 a1 a2 N (Nx ++ (sl l4 (s : Int) a1).map (rd c)) (O ++ sl l5 (s : Int) (eachM a0 a1))) r) :
    ∀ (d x : Nat), x + d = a1.toNat → Ev (fun k => tutorref05_Minimise.l1 k c (s : Int) (x : Int) a0 a1 a2 a3 l4 l5 a0 a1 a2 N (Nx ++ ((sl l4 (s : Int) a1).take x).map (rd c)) (O ++ if a0 = 2 then (sl l5 (s : Int) a1).take x else [])) r
  | 0, x, hd => by
    have hk := hM.k1
    have hN := hM.n1024
    have h1 := hM.n1
    have hnl := hM.next
    have hel := each_len hM
    have hl := sl_len (l := l4) (s := (s : Int)) (n := a1) (by omega) (by omega) (by rw [hnl]; exact Int.mul_le_mul_of_nonneg_right (by omega) (by omega))
    rw [List.take_of_length_le (by omega)]
    rcases hM.kind with e | e
    · have e1 : eachM a0 a1 = 1 := by unfold eachM; rw [if_pos e]
      rw [e1] at hnx hel
      have hs1 : sl l5 (s : Int) 1 = [rd l5 (s : Int)] := by
        have h2 := sl_snoc (l := l5) (s := (s : Int)) (n := 1) (x := 0) (by omega) (by omega) (by omega) (by omega)
        have h3 := sl_len (l := l5) (s := (s : Int)) (n := 1) (by omega) (by omega) (by omega)
        rw [List.take_of_length_le (by omega), List.take_zero, List.nil_append] at h2
        rw [h2]
        congr 2
        omega
      rw [hs1] at hnx
      refine Ev.step (fun k => ?_) hnx
      simp only [tutorref05_Minimise.l1]
      rw [if_neg (by omega), if_pos e, if_pos (by omega), if_pos (by omega), if_neg (show ¬ a0 = 2 by omega), List.append_nil, if_pos (by omega), step1 (by omega)]
    · have e1 : eachM a0 a1 = a1 := by unfold eachM; rw [if_neg (by omega)]
      rw [e1] at hnx hel
      have hl5 := sl_len (l := l5) (s := (s : Int)) (n := a1) (by omega) (by omega) (by rw [hel]; exact Int.mul_le_mul_of_nonneg_right (by omega) (by omega))
      rw [if_pos e, List.take_of_length_le (by omega)]
      refine Ev.step (fun k => ?_) hnx
      simp only [tutorref05_Minimise.l1]
      rw [if_neg (by omega), if_neg (show ¬ a0 = 1 by omega), step1 (by omega)]
  | d + 1, x, hd => by
    have hk := hM.k64
    have hN := hM.n1024
    have h1 := hM.n1
    have hnl := hM.next
    have hel := each_len hM
    have hle : ((s : Int) + 1) * a1 ≤ (l4.length : Int) := by rw [hnl]; exact Int.mul_le_mul_of_nonneg_right (by omega) (by omega)
    have ih := rmin_l1 hc hs hX hO hnx d (x + 1) (by omega)
    rw [sl_snoc (by omega) (by omega) (by omega) hle, List.map_append, ← List.append_assoc] at ih
    obtain ⟨p1, p2, p3, p4, p5⟩ := pair_place hM hs (x := x) (by omega)
    rcases hM.kind with e | e
    · rw [if_neg (show ¬ a0 = 2 by omega)] at ih ⊢
      refine Ev.step (fun k => ?_) ih
      simp only [tutorref05_Minimise.l1]
      rw [if_pos (by omega), p1, if_pos p2, if_pos p3, if_pos (by omega), if_pos (by omega), if_pos (by rw [List.length_append, List.length_map, List.length_take]; omega), Option.bind_some, if_neg (show ¬ a0 = 2 by omega), step1 (by omega)]
      rfl
    · have e1 : eachM a0 a1 = a1 := by unfold eachM; rw [if_neg (by omega)]
      rw [e1] at hel
      have hle5 : ((s : Int) + 1) * a1 ≤ (l5.length : Int) := by rw [hel]; exact Int.mul_le_mul_of_nonneg_right (by omega) (by omega)
      rw [if_pos e] at ih ⊢
      rw [sl_snoc (l := l5) (by omega) (by omega) (by omega) hle5, ← List.append_assoc] at ih
      refine Ev.step (fun k => ?_) ih
      simp only [tutorref05_Minimise.l1]
      rw [if_pos (by omega), p1, if_pos p2, if_pos p3, if_pos (by omega), if_pos (by omega), if_pos (by rw [List.length_append, List.length_map, List.length_take]; omega), Option.bind_some, if_pos e, if_pos (by omega), if_pos (by rw [List.length_append, List.length_take]; omega), step1 (by omega)]
      rfl
theorem rmin_l0 {R : Nat} (hcR : c = (cls a0 a1 a3 l4 l5 R).1) (hr : Ev (fun k => (tutorref04_Canon.f k a0 a1 a2 ((firsts c a3.toNat).length : Int) (quoN a1 l4 c a3.toNat) (quoO a0 a1 l5 c a3.toNat)).bind fun bt196 => (some (bt196.1, bt196.2.1, bt196.2.2.1, bt196.2.2.2.1, bt196.2.2.2.2.1, bt196.2.2.2.2.2.1, bt196.2.2.2.2.2.2))) r) :
    ∀ (d s : Nat), s + d = a3.toNat → Ev (fun k => tutorref05_Minimise.l0 k c (s : Int) a0 a1 a2 a3 l4 l5 a0 a1 a2 ((firsts c s).length : Int) (quoN a1 l4 c s) (quoO a0 a1 l5 c s)) r
  | 0, s, hd => by
    have h1 := hM.n1
    have : s = a3.toNat := by omega
    subst this
    refine Ev.step (fun k => ?_) hr
    simp only [tutorref05_Minimise.l0]
    rw [if_neg (by omega)]
  | d + 1, s, hd => by
    have h1 := hM.n1
    have hN := hM.n1024
    have hk := hM.k1
    have hc : c.length = a3.toNat := by rw [hcR]; exact (cls_num hM R).len
    have hle : rd c (s : Int) ≤ ((firsts c s).length : Int) := by
      obtain ⟨f, _, h2, _⟩ := cls_num hM R
      rw [hcR, h2]
      exact firsts_le (by omega)
    have ih := rmin_l0 hcR hr d (s + 1) (by omega)
    have hq := quo_small hM (c := c) s (by omega)
    have hfl := firsts_len c s
    by_cases hlt : rd c (s : Int) < ((firsts c s).length : Int)
    · have e : firsts c (s + 1) = firsts c s := by
        show (if _ then _ else _) = _
        rw [if_pos hlt]
      unfold quoN quoO at ih
      rw [e] at ih
      refine Ev.step (fun k => ?_) ih
      simp only [tutorref05_Minimise.l0]
      rw [if_pos (by omega), if_pos (by omega), if_pos (by omega), if_neg (by omega), step1 (by omega)]
      rfl
    · have e : firsts c (s + 1) = firsts c s ++ [(s : Int)] := by
        show (if _ then _ else _) = _
        rw [if_neg hlt]
      unfold quoN quoO at ih
      rw [e, List.flatMap_append, List.flatMap_append, List.length_append] at ih
      simp only [List.flatMap_cons, List.flatMap_nil, List.append_nil, List.length_cons, List.length_nil] at ih
      have h := rmin_l1 hM hc (s := s) (by omega) (N := ((firsts c s).length : Int) + 1) hq.1 hq.2 (r := r) (by
        push_cast at ih ⊢
        exact ih) a1.toNat 0 (by omega)
      rw [List.take_zero, List.map_nil, List.append_nil, List.take_zero, ite_self, List.append_nil] at h
      refine Ev.step (fun k => ?_) h
      simp only [tutorref05_Minimise.l0]
      rw [if_pos (by omega), if_pos (by omega), if_pos (by omega), if_pos (by omega), wrap_id (by omega) (by omega)]
      rfl
theorem rmin_right {R : Nat} (hR : R < a3.toNat) (hst : (cls a0 a1 a3 l4 l5 (R + 1)).2 = (cls a0 a1 a3 l4 l5 R).2) (hno : ∀ i, i < R → (cls a0 a1 a3 l4 l5 (i + 1)).2 ≠ (cls a0 a1 a3 l4 l5 i).2) :
    Ev (fun k => tutorref05_Minimise.f k a0 a1 a2 a3 l4 l5) (a0, a1, a2, ((reachS a1 ((cls a0 a1 a3 l4 l5 R).2 : Int) (qN a0 a1 a3 l4 l5 R)).1.length : Int), canN a1 ((cls a0 a1 a3 l4 l5 R).2 : Int) (qN a0 a1 a3 l4 l5 R), canO a0 a1 ((cls a0 a1 a3 l4 l5 R).2 : Int) (qN a0 a1 a3 l4 l5 R) (qO a0 a1 a3 l4 l5 R), 0) := by
  have hQ := quo_right hM (R := R)
  have hc := rcanon_right hQ
  refine Ev.bind (rclasses_right hM (lens_ok hM).1 (lens_ok hM).2 hR hst hno) ?_
  refine Ev.pos rfl ?_
  have h := rmin_l0 hM (c := (cls a0 a1 a3 l4 l5 R).1) rfl (r := (a0, a1, a2, ((reachS a1 ((cls a0 a1 a3 l4 l5 R).2 : Int) (qN a0 a1 a3 l4 l5 R)).1.length : Int), canN a1 ((cls a0 a1 a3 l4 l5 R).2 : Int) (qN a0 a1 a3 l4 l5 R), canO a0 a1 ((cls a0 a1 a3 l4 l5 R).2 : Int) (qN a0 a1 a3 l4 l5 R) (qO a0 a1 a3 l4 l5 R), 0)) ?_ a3.toNat 0 (by omega)
  · exact h
  · rw [quo_len hM]
    exact Ev.bind hc (Ev.now _)
end
theorem rmin_wrong {a0 a1 a2 a3 : Int} {l4 l5 : List Int} (hM : ¬ RightM a0 a1 a2 a3 l4 l5) (hl4 : l4.length ≤ maxLen) (hl5 : l5.length ≤ maxLen) :
    Ev (fun k => tutorref05_Minimise.f k a0 a1 a2 a3 l4 l5) (0, 0, 0, 0, [], [], errM a0 a1 a2 a3 l4 l5) := by
  have he : errM a0 a1 a2 a3 l4 l5 ≠ 0 := fun h => hM (errM_zero.mp h)
  exact Ev.bind (rclasses_wrong hM hl4 hl5) (Ev.neg he (Ev.now _))
end Go.Proofs.Ytllgeljacmpdjaa.PTrim
