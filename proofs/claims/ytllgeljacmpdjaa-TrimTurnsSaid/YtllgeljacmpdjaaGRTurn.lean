/- The reference's Turn, as printed: it answers what the program's does. -/
import Derived.Test.YtllgeljacmpdjaaGAgain
import Derived.Test.YtllgeljacmpdjaaGPick
import Derived.Test.YtllgeljacmpdjaaGRChk
import Derived.Test.YtllgeljacmpdjaaPTrimxf34
namespace Go.Proofs.Ytllgeljacmpdjaa.PTrim
open Go.RowKit Go.Proofs.YtllgeljacmpdjaaW.PrintWords Go.Proofs.YtllgeljacmpdjaaW.PrintLast Go.Proofs.YtllgeljacmpdjaaW.PrintMore Go.Proofs.Ytllgeljacmpdjaa.Bfs
set_option linter.unusedVariables false
set_option linter.unusedSimpArgs false

/-- the places, from s on, d of them, where n stands -/
def idxF (p : List Int) (n : Int) : Nat → Nat → List Int
  | 0, _ => []
  | d + 1, s => if p.getD s 0 = n then (s : Int) :: idxF p n d (s + 1) else idxF p n d (s + 1)
def ordF (p : List Int) : Nat → List Int
  | 0 => []
  | t + 1 => ordF p t ++ idxF p (t : Int) p.length 0

theorem idxF_mem (p : List Int) (n : Int) : ∀ (d s : Nat) (x : Int), x ∈ idxF p n d s ↔ ∃ j : Nat, s ≤ j ∧ j < s + d ∧ x = j ∧ p.getD j 0 = n
  | 0, s, x => by
    constructor
    · intro h; cases h
    · rintro ⟨j, h1, h2, _⟩; omega
  | d + 1, s, x => by
    unfold idxF
    by_cases e : p.getD s 0 = n
    · rw [if_pos e]
      constructor
      · intro h
        rcases List.mem_cons.mp h with h | h
        · exact ⟨s, by omega, by omega, h, e⟩
        · obtain ⟨j, h1, h2, h3, h4⟩ := (idxF_mem p n d (s + 1) x).mp h
          exact ⟨j, by omega, by omega, h3, h4⟩
      · rintro ⟨j, h1, h2, h3, h4⟩
        by_cases ej : j = s
        · subst ej; rw [h3]; exact List.mem_cons_self
        · exact List.mem_cons_of_mem _ ((idxF_mem p n d (s + 1) x).mpr ⟨j, by omega, by omega, h3, h4⟩)
    · rw [if_neg e]
      constructor
      · intro h
        obtain ⟨j, h1, h2, h3, h4⟩ := (idxF_mem p n d (s + 1) x).mp h
        exact ⟨j, by omega, by omega, h3, h4⟩
      · rintro ⟨j, h1, h2, h3, h4⟩
        by_cases ej : j = s
        · subst ej; exact absurd h4 e
        · exact (idxF_mem p n d (s + 1) x).mpr ⟨j, by omega, by omega, h3, h4⟩
theorem idxF_none (p : List Int) (n : Int) : ∀ (d s : Nat), (∀ j, s ≤ j → j < s + d → p.getD j 0 ≠ n) → idxF p n d s = []
  | 0, s, _ => rfl
  | d + 1, s, h => by
    unfold idxF
    rw [if_neg (h s (by omega) (by omega))]
    exact idxF_none p n d (s + 1) (fun j h1 h2 => h j (by omega) (by omega))
theorem idxF_one (p : List Int) (n : Int) : ∀ (d s j0 : Nat), s ≤ j0 → j0 < s + d → p.getD j0 0 = n → (∀ j, s ≤ j → j < s + d → p.getD j 0 = n → j = j0) → idxF p n d s = [(j0 : Int)]
  | 0, s, j0, h1, h2, _, _ => by omega
  | d + 1, s, j0, h1, h2, h3, h4 => by
    unfold idxF
    by_cases e : s = j0
    · subst e
      rw [if_pos h3, idxF_none p n d (s + 1) (fun j g1 g2 g3 => by have := h4 j (by omega) (by omega) g3; omega)]
    · rw [if_neg (fun g => e (h4 s (by omega) (by omega) g))]
      exact idxF_one p n d (s + 1) j0 (by omega) (by omega) h3 (fun j g1 g2 g3 => h4 j (by omega) (by omega) g3)
theorem idxF_len (p : List Int) (n : Int) : ∀ (d s : Nat), (idxF p n d s).length ≤ d
  | 0, s => Nat.le_refl _
  | d + 1, s => by
    have := idxF_len p n d (s + 1)
    unfold idxF
    split
    · simp; exact this
    · omega
theorem ordF_len (p : List Int) : ∀ (t : Nat), (∀ u : Nat, u < t → (idxF p (u : Int) p.length 0).length = 1) → (ordF p t).length = t
  | 0, _ => rfl
  | t + 1, h => by
    unfold ordF
    rw [List.length_append, ordF_len p t (fun u hu => h u (by omega)), h t (by omega)]
theorem ordF_mem (p : List Int) : ∀ (t : Nat) (x : Int), x ∈ ordF p t → ∃ u j : Nat, u < t ∧ j < p.length ∧ x = j ∧ p.getD j 0 = (u : Int)
  | 0, x, h => by cases h
  | t + 1, x, h => by
    unfold ordF at h
    rcases List.mem_append.mp h with h | h
    · obtain ⟨u, j, h1, h2⟩ := ordF_mem p t x h
      exact ⟨u, j, by omega, h2⟩
    · obtain ⟨j, _, h2, h3, h4⟩ := (idxF_mem p _ _ _ x).mp h
      exact ⟨t, j, by omega, by omega, h3, h4⟩
theorem ordF_nodup (p : List Int) : ∀ (t : Nat), (∀ u : Nat, u < t → (idxF p (u : Int) p.length 0).length = 1) → (ordF p t).Nodup
  | 0, _ => List.nodup_nil
  | t + 1, h => by
    unfold ordF
    rw [List.nodup_append]
    refine ⟨ordF_nodup p t (fun u hu => h u (by omega)), ?_, ?_⟩
    · match hx : idxF p (t : Int) p.length 0, h t (by omega) with
      | [y], _ => simp
    · intro a ha b hb e
      subst e
      obtain ⟨u, j, h1, h2, h3, h4⟩ := ordF_mem p t a ha
      obtain ⟨j', _, g2, g3, g4⟩ := (idxF_mem p _ _ _ a).mp hb
      have : j = j' := by omega
      subst this
      omega

theorem perm_of_ones {p : List Int} {n : Nat} (hl : p.length = n) (hf : rd p 0 = 0) (h : ∀ u : Nat, u < n → (idxF p (u : Int) p.length 0).length = 1) : Perm p (n : Int) := by
  have hall : ∀ j : Nat, j < n → ∃ u : Nat, u < n ∧ p.getD j 0 = (u : Int) := by
    intro j hj
    have hm := all_of_full (n := n) (ordF_nodup p n h) (fun t ht => by obtain ⟨u, q, _, hq, e, _⟩ := ordF_mem p n t ht; omega) (ordF_len p n h) (t := (j : Int)) (by omega) (by omega)
    obtain ⟨u, q, h1, _, e, h4⟩ := ordF_mem p n _ hm
    have : q = j := by omega
    subst this
    exact ⟨u, h1, h4⟩
  refine ⟨by omega, hf, ?_, pair_nodup ?_⟩
  · rw [inR_iff]
    intro i hi
    obtain ⟨u, h1, h2⟩ := hall i (by omega)
    rw [rd_nat, h2]
    omega
  · intro i hi j hj e
    obtain ⟨u, h1, h2⟩ := hall i (by omega)
    have m1 := (idxF_mem p (u : Int) p.length 0 (i : Int)).mpr ⟨i, by omega, by omega, rfl, h2⟩
    have m2 := (idxF_mem p (u : Int) p.length 0 (j : Int)).mpr ⟨j, by omega, by omega, rfl, by rw [e, h2]⟩
    match hx : idxF p (u : Int) p.length 0, h u h1 with
    | [y], _ =>
      rw [hx] at m1 m2
      simp at m1 m2
      omega
theorem ones_of_perm {p : List Int} {n : Int} (h : Perm p n) {t : Nat} (ht : (t : Int) < n) : ∃ j, j < p.length ∧ p.getD j 0 = (t : Int) ∧ idxF p (t : Int) p.length 0 = [(j : Int)] := by
  have hl := h.len
  have hm := all_of_full (n := n.toNat) h.nodup (fun u hu => by have := h.rng u hu; omega) (by omega) (t := (t : Int)) (by omega) (by omega)
  obtain ⟨j, hj, ej⟩ := mem_getD hm
  refine ⟨j, hj, ej, idxF_one p _ _ 0 j (by omega) (by omega) ej (fun q _ hq eq => ?_)⟩
  have hnd := List.pairwise_iff_getElem.mp h.nodup
  have e2 : p.getD q 0 = p.getD j 0 := by rw [eq, ej]
  rw [List.getD_eq_getElem?_getD, List.getD_eq_getElem?_getD, List.getElem?_eq_getElem hj, List.getElem?_eq_getElem (by omega : q < p.length)] at e2
  rcases Nat.lt_trichotomy q j with hlt | heq | hgt
  · exact absurd e2 (hnd q j (by omega) hj hlt)
  · exact heq
  · exact absurd e2.symm (hnd j q hj (by omega) hgt)
theorem ordF_was {p was : List Int} {n : Int} (h : Perm p n) (hw : Was p was n p.length) : ∀ t : Nat, (t : Int) ≤ n → ordF p t = (was.take t).map (fun x => x - 1)
  | 0, _ => by simp [ordF]
  | t + 1, ht => by
    have hl := hw.1
    obtain ⟨j, hj, ej, ei⟩ := ones_of_perm h (t := t) (by omega)
    unfold ordF
    rw [ordF_was h hw t (by omega), ei, List.take_succ_eq_append_getElem (by omega), List.map_append]
    congr 1
    have hg : was.getD t 0 = (j : Int) + 1 := by
      rcases hw.2 t (by omega) with ⟨_, hh⟩ | ⟨q, hq, e1, e2⟩
      · exact absurd ej (hh j hj)
      · have m1 := (idxF_mem p (t : Int) p.length 0 (q : Int)).mpr ⟨q, by omega, by omega, rfl, e1⟩
        rw [ei] at m1
        simp at m1
        rw [e2]
        omega
    rw [List.getD_eq_getElem?_getD, List.getElem?_eq_getElem (by omega)] at hg
    have hg' : was[t]'(by omega) = (j : Int) + 1 := hg
    simp [hg']

theorem rturn_l1 {a0 a1 a2 a3 : Int} {l4 l5 : List Int} {p : List Int} {n : Int} (hp : p.length ≤ 1024) {r : TAns} : ∀ (d s : Nat) (ord : List Int), s + d = p.length → ord.length + d ≤ 100000 →
    Ev (fun k => if ((ord ++ idxF p n d s).length : Int) = wrap64 (n + 1) then tutorref04_Turn.l0 k p (ord ++ idxF p n d s) (wrap64 (n + 1)) a0 a1 a2 a3 l4 l5 else some (0, 0, 0, 0, [], [], 1)) r →
    Ev (fun k => tutorref04_Turn.l1 k p ord n (s : Int) a0 a1 a2 a3 l4 l5) r
  | 0, s, ord, hs, ho, h => by
    simp only [idxF, List.append_nil] at h
    refine Ev.succ ?_
    simp only [tutorref04_Turn.l1]
    refine Ev.neg (by omega) ?_
    exact h
  | d + 1, s, ord, hs, ho, h => by
    refine Ev.succ ?_
    simp only [tutorref04_Turn.l1]
    rw [rd_nat, step1 (i := s) (by omega)]
    refine Ev.pos (by omega) ?_
    refine Ev.pos (by omega) ?_
    unfold idxF at h
    by_cases e : p.getD s 0 = n
    · rw [if_pos e] at h
      refine Ev.pos e ?_
      refine Ev.pos (by omega) ?_
      refine rturn_l1 hp d (s + 1) _ (by omega) (by simp; omega) ?_
      simpa using h
    · rw [if_neg e] at h
      refine Ev.neg e ?_
      exact rturn_l1 hp d (s + 1) _ (by omega) (by omega) h

section
variable {a0 a1 a2 a3 : Int} {l4 l5 : List Int} (hM : RightM a0 a1 a2 a3 l4 l5)
include hM
theorem rturn_l0 {p : List Int} (hp : (p.length : Int) = a3) (hf : rd p 0 = 0) : ∀ (m t : Nat), t + m = a3.toNat → (∀ u : Nat, u < t → (idxF p (u : Int) p.length 0).length = 1) →
    (¬ Perm p a3 ∧ Ev (fun k => tutorref04_Turn.l0 k p (ordF p t) (t : Int) a0 a1 a2 a3 l4 l5) (0, 0, 0, 0, [], [], 1)) ∨
    (Perm p a3 ∧ Ev (fun k => tutorref04_Turn.l0 k p (ordF p t) (t : Int) a0 a1 a2 a3 l4 l5) (a0, a1, a2, a3, (ordF p a3.toNat).flatMap (fun s => (sl l4 s a1).map (rd p)), (ordF p a3.toNat).flatMap (fun s => sl l5 s (eachM a0 a1)), 0))
  | 0, t, ht, h => by
    have h1 := hM.n1
    have hN := hM.n1024
    obtain rfl : t = a3.toNat := by omega
    have hperm : Perm p a3 := by
      have := perm_of_ones (p := p) (n := a3.toNat) (by omega) hf h
      rwa [Int.toNat_of_nonneg (by omega)] at this
    have hol := ordF_len p a3.toNat h
    have hpk := pick_ev hM (S := ordF p a3.toNat) (pl := p) (by omega) (fun j hj => by
      obtain ⟨u, q, _, hq, e, _⟩ := ordF_mem p _ _ (getD_mem hj)
      rw [e]; omega) (by omega)
    rw [hol, Int.toNat_of_nonneg (by omega)] at hpk
    refine .inr ⟨hperm, ?_⟩
    refine Ev.succ ?_
    simp only [tutorref04_Turn.l0]
    refine Ev.neg (by omega) ?_
    exact Ev.bind hpk (Ev.now _)
  | m + 1, t, ht, h => by
    have hN := hM.n1024
    have hol := ordF_len p t h
    have hw : wrap64 ((t : Int) + 1) = ((t + 1 : Nat) : Int) := step1 (by omega)
    have hgo : ∀ r : TAns, Ev (fun k => if ((ordF p t ++ idxF p (t : Int) p.length 0).length : Int) = wrap64 ((t : Int) + 1) then tutorref04_Turn.l0 k p (ordF p t ++ idxF p (t : Int) p.length 0) (wrap64 ((t : Int) + 1)) a0 a1 a2 a3 l4 l5 else some (0, 0, 0, 0, [], [], 1)) r →
        Ev (fun k => tutorref04_Turn.l0 k p (ordF p t) (t : Int) a0 a1 a2 a3 l4 l5) r := by
      intro r hr
      refine Ev.succ ?_
      simp only [tutorref04_Turn.l0]
      refine Ev.pos (by omega) ?_
      exact rturn_l1 (by omega) p.length 0 (ordF p t) (by omega) (by omega) hr
    by_cases hone : (idxF p (t : Int) p.length 0).length = 1
    · have ih := rturn_l0 hp hf m (t + 1) (by omega) (fun u hu => by
        by_cases e : u = t
        · subst e; exact hone
        · exact h u (by omega))
      have hstep : ∀ r : TAns, Ev (fun k => tutorref04_Turn.l0 k p (ordF p (t + 1)) ((t + 1 : Nat) : Int) a0 a1 a2 a3 l4 l5) r → Ev (fun k => tutorref04_Turn.l0 k p (ordF p t) (t : Int) a0 a1 a2 a3 l4 l5) r := by
        intro r hr
        refine hgo r ?_
        rw [hw]
        refine Ev.pos (by rw [List.length_append, hol, hone]) ?_
        exact hr
      rcases ih with ⟨hn, hh⟩ | ⟨hy, hh⟩
      · exact .inl ⟨hn, hstep _ hh⟩
      · exact .inr ⟨hy, hstep _ hh⟩
    · refine .inl ⟨fun hpm => ?_, hgo _ ?_⟩
      · obtain ⟨j, _, _, ei⟩ := ones_of_perm hpm (t := t) (by omega)
        rw [ei] at hone
        exact hone rfl
      · rw [hw]
        refine Ev.neg ?_ (Ev.now _)
        rw [List.length_append, hol]
        omega

theorem rturn_right {p : List Int} :
    (¬ Perm p a3 ∧ Ev (fun k => tutorref04_Turn.f k a0 a1 a2 a3 l4 l5 p) (0, 0, 0, 0, [], [], 1)) ∨
    (Perm p a3 ∧ ∀ was, Was p was a3 p.length → Ev (fun k => tutorref04_Turn.f k a0 a1 a2 a3 l4 l5 p) (a0, a1, a2, a3, turnN a1 l4 p was, turnO a0 a1 l5 was, 0)) := by
  have h1 := hM.n1
  have hN := hM.n1024
  have hle : l4.length ≤ maxLen ∧ l5.length ≤ maxLen := by
    have h := hM.next
    have h2 := hM.out
    have h5 := hM.k1
    have b := mul_bd (a := a3) (b := a1) (A := 1024) (B := 64) (by omega) (by omega) hN hM.k64
    unfold maxLen
    split at h2 <;> omega
  obtain ⟨at_, hc⟩ := rcheck_ev a0 a1 a2 a3 hle.1 hle.2
  rw [errM_zero.mpr hM] at hc
  have hbad : Ev (fun k => tutorref04_Turn.j0 k p true a0 a1 a2 a3 l4 l5) (0, 0, 0, 0, [], [], 1) := by
    refine Ev.succ ?_
    simp only [tutorref04_Turn.j0]
    exact Ev.pos trivial (Ev.now _)
  by_cases hp : (p.length : Int) = a3
  · by_cases hf : rd p 0 = 0
    · have hl0 := rturn_l0 hM hp hf a3.toNat 0 (by omega) (fun u hu => by omega)
      have hstep : ∀ r : TAns, Ev (fun k => tutorref04_Turn.l0 k p (ordF p 0) ((0 : Nat) : Int) a0 a1 a2 a3 l4 l5) r → Ev (fun k => tutorref04_Turn.f k a0 a1 a2 a3 l4 l5 p) r := by
        intro r hr
        refine Ev.bind hc ?_
        refine Ev.pos rfl ?_
        refine Ev.pos hp ?_
        refine Ev.pos (by omega) ?_
        rw [show (rd p 0 != 0) = false by rw [hf]; rfl]
        refine Ev.succ ?_
        simp only [tutorref04_Turn.j0]
        refine Ev.neg (by decide) ?_
        exact hr
      rcases hl0 with ⟨hn, h⟩ | ⟨hy, h⟩
      · exact .inl ⟨hn, hstep _ h⟩
      · refine .inr ⟨hy, fun was hw => ?_⟩
        have e := ordF_was hy hw a3.toNat (by omega)
        have hl := hw.1
        rw [List.take_of_length_le (by omega)] at e
        rw [e, List.flatMap_map, List.flatMap_map] at h
        exact hstep _ h
    · refine .inl ⟨fun h => hf h.first, ?_⟩
      refine Ev.bind hc ?_
      refine Ev.pos rfl ?_
      refine Ev.pos hp ?_
      refine Ev.pos (by omega) ?_
      rw [show (rd p 0 != 0) = true from bne_iff_ne.mpr hf]
      exact hbad
  · refine .inl ⟨fun h => hp h.len, ?_⟩
    refine Ev.bind hc ?_
    refine Ev.pos rfl ?_
    refine Ev.neg hp ?_
    exact hbad
end
end Go.Proofs.Ytllgeljacmpdjaa.PTrim
