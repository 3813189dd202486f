/- What the reference's After and Classes answer of a right machine: plain. -/
import Derived.Test.YtllgeljacmpdjaaGMin
import Derived.Test.YtllgeljacmpdjaaGRChk
import Derived.Test.YtllgeljacmpdjaaPTrimxf38
import Derived.Test.YtllgeljacmpdjaaPTrimxf41
import Derived.Test.YtllgeljacmpdjaaPTrimxf40
namespace Go.Proofs.Ytllgeljacmpdjaa.PTrim
open Go.RowKit Go.Proofs.YtllgeljacmpdjaaW.PrintWords Go.Proofs.YtllgeljacmpdjaaW.PrintLast Go.Proofs.YtllgeljacmpdjaaW.PrintMore Go.Proofs.Ytllgeljacmpdjaa.Bfs
set_option linter.unusedVariables false

/-! ### rows and squares of bools -/
def rowOf (f : Nat → Bool) (n t : Nat) : List Bool := (List.range n).map fun u => if u < t then f u else false
theorem rowOf_len (f : Nat → Bool) (n t : Nat) : (rowOf f n t).length = n := by simp [rowOf]
theorem rowOf_zero (f : Nat → Bool) (n : Nat) : rowOf f n 0 = List.replicate n false := by
  refine List.ext_getElem (by simp [rowOf]) (fun i h1 h2 => ?_)
  simp [rowOf]
theorem rowOf_set (f : Nat → Bool) {n t : Nat} (ht : t < n) (v : Bool) (hv : v = f t) : (rowOf f n t).set t v = rowOf f n (t + 1) := by
  subst hv
  refine List.ext_getElem (by simp [rowOf]) (fun i h1 h2 => ?_)
  rw [List.getElem_set]
  simp only [rowOf, List.getElem_map, List.getElem_range]
  by_cases e : t = i
  · subst e
    simp
  · rw [if_neg e]
    by_cases h : i < t
    · rw [if_pos h, if_pos (by omega)]
    · rw [if_neg h, if_neg (by omega)]
theorem rowOf_full (f : Nat → Bool) (n : Nat) : rowOf f n n = (List.range n).map f := by
  unfold rowOf
  refine List.map_congr_left (fun u hu => ?_)
  rw [if_pos (List.mem_range.mp hu)]
theorem set_get (f : Nat → Bool) {n t : Nat} (ht : t < n) (v : Bool) : rdOf false ((rowOf f n t).set t v) (t : Int) = v := by
  unfold rdOf
  rw [Int.toNat_natCast, List.getD_eq_getElem?_getD, List.getElem?_set_self (by rw [rowOf_len]; exact ht)]
  rfl
def matOf (A : Nat → Nat → Bool) (n s : Nat) : List (List Bool) := (List.range s).map fun u => (List.range n).map (A u)
theorem matOf_len (A : Nat → Nat → Bool) (n s : Nat) : (matOf A n s).length = s := by simp [matOf]
theorem matOf_snoc (A : Nat → Nat → Bool) (n s : Nat) : matOf A n s ++ [(List.range n).map (A s)] = matOf A n (s + 1) := by
  simp [matOf, List.range_succ]
theorem mat_row (A : Nat → Nat → Bool) {n m s : Nat} (hs : s < m) : rd_L2 (matOf A n m) (s : Int) = (List.range n).map (A s) := by
  unfold rd_L2 matOf
  rw [Int.toNat_natCast, List.getD_eq_getElem?_getD, List.getElem?_map, List.getElem?_range hs]
  rfl
theorem row_get (f : Nat → Bool) {n t : Nat} (ht : t < n) : rdOf false ((List.range n).map f) (t : Int) = f t := by
  unfold rdOf
  rw [Int.toNat_natCast, List.getD_eq_getElem?_getD, List.getElem?_map, List.getElem?_range ht]
  rfl
theorem row_len (f : Nat → Bool) (n : Nat) : ((List.range n).map f).length = n := by simp

section
variable {a0 a1 a2 a3 : Int} {l4 l5 : List Int} (hM : RightM a0 a1 a2 a3 l4 l5)
include hM

theorem out_place {s x : Nat} (hk : a0 ≠ 1) (hs : s < a3.toNat) (hx : x < a1.toNat) : wrap64 (wrap64 ((s : Int) * a1) + (x : Int)) = (s : Int) * a1 + (x : Int) ∧ 0 ≤ (s : Int) * a1 + (x : Int) ∧ (s : Int) * a1 + (x : Int) < (l5.length : Int) ∧ (s : Int) * a1 + (x : Int) < (l4.length : Int) := by
  have h := hM.place (s := (s : Int)) (x := (x : Int)) (by omega) (by omega) (by omega) (by omega)
  have ho := hM.out
  rw [if_neg hk] at ho
  have hn := hM.next
  exact ⟨h.2.2, h.1, by omega, h.2.1⟩

theorem now_l0 (hk : a0 ≠ 1) {s t : Nat} (hs : s < a3.toNat) (ht : t < a3.toNat) : ∀ (d x : Nat), x + d = a1.toNat → (∀ y : Nat, y < x → rd l5 ((s : Int) * a1 + (y : Int)) = rd l5 ((t : Int) * a1 + (y : Int))) →
    Ev (fun k => tutorref05_now.l0 k (s : Int) (t : Int) (x : Int) a0 a1 a2 a3 l4 l5) (sayB a0 a1 l5 s t)
  | 0, x, hd, hy => by
    have e : sayB a0 a1 l5 s t = true := by
      rw [sayB_iff]
      intro y hy'
      have ee : eachM a0 a1 = a1 := by unfold eachM; rw [if_neg hk]
      rw [ee] at hy' ⊢
      exact hy y (by omega)
    rw [e]
    refine Ev.step (f := fun _ => some true) (fun k => ?_) (Ev.now _)
    simp only [tutorref05_now.l0]
    rw [if_neg (by omega)]
  | d + 1, x, hd, hy => by
    obtain ⟨p1, p2, p3, _⟩ := out_place hM hk hs (x := x) (by omega)
    obtain ⟨q1, q2, q3, _⟩ := out_place hM hk ht (x := x) (by omega)
    have hk64 := hM.k64
    by_cases e : rd l5 ((s : Int) * a1 + (x : Int)) = rd l5 ((t : Int) * a1 + (x : Int))
    · refine Ev.step (fun k => ?_) (now_l0 hk hs ht d (x + 1) (by omega) (fun y hy' => by
        rcases Nat.lt_or_ge y x with h | h
        · exact hy y h
        · have : y = x := by omega
          subst this
          exact e))
      simp only [tutorref05_now.l0]
      rw [if_pos (by omega), p1, q1, if_pos p2, if_pos p3, if_pos q2, if_pos q3, if_pos e, step1 (by omega)]
    · have e2 : sayB a0 a1 l5 s t = false := by
        rw [Bool.eq_false_iff]
        intro h
        rw [sayB_iff] at h
        have ee : eachM a0 a1 = a1 := by unfold eachM; rw [if_neg hk]
        rw [ee] at h
        exact e (h x (by omega))
      rw [e2]
      refine Ev.step (f := fun _ => some false) (fun k => ?_) (Ev.now _)
      simp only [tutorref05_now.l0]
      rw [if_pos (by omega), p1, q1, if_pos p2, if_pos p3, if_pos q2, if_pos q3, if_neg e]
theorem now_ev {s t : Nat} (hs : s < a3.toNat) (ht : t < a3.toNat) : Ev (fun k => tutorref05_now.f k a0 a1 a2 a3 l4 l5 (s : Int) (t : Int)) (sayB a0 a1 l5 s t) := by
  unfold tutorref05_now.f
  by_cases hk : a0 = 1
  · have ho := hM.out
    rw [if_pos hk] at ho
    have ee : eachM a0 a1 = 1 := by unfold eachM; rw [if_pos hk]
    refine Ev.pos hk ?_
    refine Ev.pos (by omega) ?_
    refine Ev.pos (by omega) ?_
    refine Ev.pos (by omega) ?_
    refine Ev.pos (by omega) ?_
    have e : sayB a0 a1 l5 s t = (rd l5 (s : Int) == rd l5 (t : Int)) := by
      rw [Bool.eq_iff_iff, sayB_iff, ee, beq_iff_eq]
      constructor
      · intro h
        have := h 0 (by omega)
        simpa using this
      · intro h y hy
        have : y = 0 := by omega
        subst this
        simpa using h
    rw [e]
    exact Ev.now _
  · refine Ev.neg hk ?_
    exact now_l0 hM hk hs ht a1.toNat 0 (by omega) (fun y hy => by omega)

/-! ### start -/
theorem start_l1 {s : Nat} (hs : s < a3.toNat) {r : List (List Bool)} (hnx : Ev (fun k => tutorref05_start.l0 k (matOf (fun s t => !eqv a0 a1 l4 l5 0 s t) a3.toNat (s + 1)) ((s + 1 : Nat) : Int) a0 a1 a2 a3 l4 l5) r) :
    ∀ (d t : Nat), t + d = a3.toNat → Ev (fun k => tutorref05_start.l1 k (matOf (fun s t => !eqv a0 a1 l4 l5 0 s t) a3.toNat s) (s : Int) (rowOf (fun t => !eqv a0 a1 l4 l5 0 s t) a3.toNat t) (t : Int) a0 a1 a2 a3 l4 l5) r
  | 0, t, hd => by
    have hN := hM.n1024
    have : t = a3.toNat := by omega
    subst this
    rw [rowOf_full]
    refine Ev.step (fun k => ?_) hnx
    simp only [tutorref05_start.l1]
    rw [if_neg (by omega), if_pos (by rw [matOf_len]; omega), matOf_snoc, step1 (by omega)]
  | d + 1, t, hd => by
    have hN := hM.n1024
    have ih := start_l1 hs hnx d (t + 1) (by omega)
    by_cases hk : a0 = 1
    · have e0 : eqv a0 a1 l4 l5 0 s t = sayB a0 a1 l5 s t := by unfold eqv; simp [hk]
      refine Ev.succ ?_
      simp only [tutorref05_start.l1]
      refine Ev.pos (by omega) ?_
      refine Ev.pos hk ?_
      refine Ev.bind (now_ev hM hs (by omega)) ?_
      refine Ev.pos (by omega) ?_
      refine Ev.pos (by rw [rowOf_len]; omega) ?_
      rw [Int.toNat_natCast, rowOf_set _ (by omega) _ (by rw [e0]), step1 (by omega)]
      exact ih
    · have e0 : eqv a0 a1 l4 l5 0 s t = true := by unfold eqv; simp [hk]
      refine Ev.step (fun k => ?_) ih
      simp only [tutorref05_start.l1]
      rw [if_pos (by omega), if_neg hk, if_pos (by omega), if_pos (by rw [rowOf_len]; omega), Int.toNat_natCast, rowOf_set _ (by omega) _ (by rw [e0]; rfl), step1 (by omega)]
theorem start_l0 : ∀ (d s : Nat), s + d = a3.toNat → Ev (fun k => tutorref05_start.l0 k (matOf (fun s t => !eqv a0 a1 l4 l5 0 s t) a3.toNat s) (s : Int) a0 a1 a2 a3 l4 l5) (matOf (fun s t => !eqv a0 a1 l4 l5 0 s t) a3.toNat a3.toNat)
  | 0, s, hd => by
    have : s = a3.toNat := by omega
    subst this
    refine Ev.step (f := fun _ => some _) (fun k => ?_) (Ev.now _)
    simp only [tutorref05_start.l0]
    rw [if_neg (by omega)]
  | d + 1, s, hd => by
    have hN := hM.n1024
    have h := start_l1 hM (s := s) (by omega) (start_l0 d (s + 1) (by omega)) a3.toNat 0 (by omega)
    rw [rowOf_zero] at h
    refine Ev.step (fun k => ?_) h
    simp only [tutorref05_start.l0]
    rw [if_pos (by omega), if_pos (by omega), if_pos (by omega)]
    rfl

/-! ### round -/
theorem pair_place {s x : Nat} (hs : s < a3.toNat) (hx : x < a1.toNat) : wrap64 (wrap64 ((s : Int) * a1) + (x : Int)) = (s : Int) * a1 + (x : Int) ∧ 0 ≤ (s : Int) * a1 + (x : Int) ∧ (s : Int) * a1 + (x : Int) < (l4.length : Int) ∧ rd l4 ((s : Int) * a1 + (x : Int)) = (nxN a1 l4 s x : Int) ∧ nxN a1 l4 s x < a3.toNat := by
  have h := hM.place (s := (s : Int)) (x := (x : Int)) (by omega) (by omega) (by omega) (by omega)
  have h2 := nxN_lt hM hs hx
  exact ⟨h.2.2, h.1, h.2.1, h2.2, h2.1⟩

variable {A B : Nat → Nat → Bool} {x2 : Bool}
theorem round_l2 {s t : Nat} (hs : s < a3.toNat) (ht : t < a3.toNat) {x8 : List (List Bool)} {more : Bool} {r : List (List Bool) × Bool}
    (hnx : Ev (fun k => tutorref05_round.l1 k (matOf A a3.toNat a3.toNat) x2 x8 (more || (B s t != A s t)) (s : Int) (rowOf (B s) a3.toNat (t + 1)) ((t + 1 : Nat) : Int) a0 a1 a2 a3 l4 l5) r) :
    ∀ (d x : Nat) (v : Bool), x + d = a1.toNat → (B s t = true ↔ v = true ∨ ∃ y, x ≤ y ∧ y < a1.toNat ∧ A (nxN a1 l4 s y) (nxN a1 l4 t y) = true) →
      Ev (fun k => tutorref05_round.l2 k (matOf A a3.toNat a3.toNat) x2 x8 more (s : Int) ((rowOf (B s) a3.toNat t).set t v) (t : Int) (x : Int) a0 a1 a2 a3 l4 l5) r
  | 0, x, v, hd, hB => by
    have hN := hM.n1024
    have e : v = B s t := by
      rw [Bool.eq_iff_iff, hB]
      constructor
      · exact .inl
      · rintro (h | ⟨y, h1, h2, _⟩)
        · exact h
        · omega
    rw [rowOf_set _ ht _ e]
    refine Ev.step (fun k => ?_) hnx
    simp only [tutorref05_round.l2]
    rw [if_neg (by omega)]
    by_cases hm : more = true
    · rw [if_pos hm, step1 (by omega), hm, Bool.true_or]
    · have hm' : more = false := by simpa using hm
      rw [if_neg hm, if_pos (by omega), if_pos (by rw [rowOf_len]; omega), if_pos (by omega), if_pos (by rw [matOf_len]; omega), mat_row A hs, if_pos (by rw [row_len]; omega), row_get _ ht, step1 (by omega), hm', Bool.false_or]
      have e3 : rdOf false (rowOf (B s) a3.toNat (t + 1)) (t : Int) = B s t := by
        rw [← rowOf_set (B s) ht v e, set_get _ ht, e]
      rw [e3]
  | d + 1, x, v, hd, hB => by
    have hN := hM.n1024
    have hk64 := hM.k64
    by_cases hv : v = true
    · have e : v = B s t := by
        rw [Bool.eq_iff_iff, hB]
        exact ⟨.inl, fun _ => hv⟩
      refine Ev.step (fun k => ?_) hnx
      simp only [tutorref05_round.l2]
      rw [if_pos (by omega), if_pos (by omega), if_pos (by rw [List.length_set, rowOf_len]; omega), set_get _ ht, if_pos hv]
      by_cases hm : more = true
      · rw [if_pos hm, step1 (by omega), hm, Bool.true_or, rowOf_set _ ht _ e]
      · have hm' : more = false := by simpa using hm
        rw [if_neg hm, if_pos (by omega), if_pos (by rw [matOf_len]; omega), mat_row A hs, if_pos (by rw [row_len]; omega), row_get _ ht, step1 (by omega), hm', Bool.false_or, rowOf_set _ ht _ e, ← e]
    · have hv' : v = false := by simpa using hv
      obtain ⟨p1, p2, p3, p4, p5⟩ := pair_place hM hs (x := x) (by omega)
      obtain ⟨q1, q2, q3, q4, q5⟩ := pair_place hM ht (x := x) (by omega)
      have ih := round_l2 hs ht hnx d (x + 1) (A (nxN a1 l4 s x) (nxN a1 l4 t x)) (by omega) (by
        rw [hB]
        constructor
        · rintro (h | ⟨y, h1, h2, h3⟩)
          · exact absurd h hv
          · rcases Nat.lt_or_ge x y with h | h
            · exact .inr ⟨y, h, h2, h3⟩
            · have : y = x := by omega
              subst this
              exact .inl h3
        · rintro (h | ⟨y, h1, h2, h3⟩)
          · exact .inr ⟨x, Nat.le_refl _, by omega, h⟩
          · exact .inr ⟨y, by omega, h2, h3⟩)
      refine Ev.step (fun k => ?_) ih
      simp only [tutorref05_round.l2]
      rw [if_pos (by omega), if_pos (by omega), if_pos (by rw [List.length_set, rowOf_len]; omega), set_get _ ht, if_neg hv, p1, q1, p4, q4, if_pos p2, if_pos p3, if_pos (by omega), if_pos (by rw [matOf_len]; omega), if_pos q2, if_pos q3, if_pos (by omega), mat_row A p5, if_pos (by rw [row_len]; omega), row_get _ q5, Int.toNat_natCast, List.set_set, step1 (by omega)]

theorem round_l1 (hB : ∀ s t, s < a3.toNat → t < a3.toNat → (B s t = true ↔ (A s t = true ∨ (x2 = true ∧ sayB a0 a1 l5 s t = false)) ∨ ∃ y, 0 ≤ y ∧ y < a1.toNat ∧ A (nxN a1 l4 s y) (nxN a1 l4 t y) = true)) {s : Nat} (hs : s < a3.toNat) {r : List (List Bool) × Bool} :
    ∀ (d t : Nat) (more : Bool), t + d = a3.toNat → (∀ more', (more' = true ↔ more = true ∨ ∃ u, t ≤ u ∧ u < a3.toNat ∧ B s u ≠ A s u) → Ev (fun k => tutorref05_round.l0 k (matOf A a3.toNat a3.toNat) x2 (matOf B a3.toNat (s + 1)) more' ((s + 1 : Nat) : Int) a0 a1 a2 a3 l4 l5) r) →
      Ev (fun k => tutorref05_round.l1 k (matOf A a3.toNat a3.toNat) x2 (matOf B a3.toNat s) more (s : Int) (rowOf (B s) a3.toNat t) (t : Int) a0 a1 a2 a3 l4 l5) r
  | 0, t, more, hd, hnx => by
    have hN := hM.n1024
    have : t = a3.toNat := by omega
    subst this
    have h := hnx more ⟨.inl, by
      rintro (h | ⟨u, h1, h2, _⟩)
      · exact h
      · omega⟩
    rw [rowOf_full]
    refine Ev.step (fun k => ?_) h
    simp only [tutorref05_round.l1]
    rw [if_neg (by omega), if_pos (by rw [matOf_len]; omega), matOf_snoc, step1 (by omega)]
  | d + 1, t, more, hd, hnx => by
    have hN := hM.n1024
    have ht : t < a3.toNat := by omega
    have ih := round_l1 hB hs d (t + 1) (more || (B s t != A s t)) (by omega) (fun more' hm => hnx more' (by
      rw [hm, Bool.or_eq_true, bne_iff_ne]
      constructor
      · rintro ((h | h) | ⟨u, h1, h2, h3⟩)
        · exact .inl h
        · exact .inr ⟨t, Nat.le_refl _, ht, h⟩
        · exact .inr ⟨u, by omega, h2, h3⟩
      · rintro (h | ⟨u, h1, h2, h3⟩)
        · exact .inl (.inl h)
        · rcases Nat.lt_or_ge t u with h | h
          · exact .inr ⟨u, h, h2, h3⟩
          · have : u = t := by omega
            subst this
            exact .inl (.inr h3)))
    have hb := hB s t hs ht
    have go : ∀ v : Bool, (v = true ↔ A s t = true ∨ (x2 = true ∧ sayB a0 a1 l5 s t = false)) → Ev (fun k => tutorref05_round.j2 k (matOf A a3.toNat a3.toNat) x2 (matOf B a3.toNat s) more (s : Int) ((rowOf (B s) a3.toNat t).set t v) (t : Int) a0 a1 a2 a3 l4 l5) r := by
      intro v hv
      refine Ev.step (fun k => ?_) (round_l2 hM hs ht ih a1.toNat 0 v (by omega) (by rw [hb, hv]))
      simp only [tutorref05_round.j2]
      rfl
    have row := mat_row A (n := a3.toNat) hs
    by_cases hA : A s t = true
    · have g := go true ⟨fun _ => .inl hA, fun _ => rfl⟩
      refine Ev.step (fun k => ?_) g
      simp only [tutorref05_round.l1]
      rw [if_pos (by omega), if_pos (by omega), if_pos (by rw [matOf_len]; omega), if_pos (by omega), row, if_pos (by rw [row_len]; omega), row_get _ ht, if_pos hA, if_pos (by rw [rowOf_len]; omega), Int.toNat_natCast]
    · by_cases hx : x2 = true
      · have g := go (!sayB a0 a1 l5 s t) (by
          constructor
          · intro h
            exact .inr ⟨hx, by simpa using h⟩
          · rintro (h | ⟨_, h⟩)
            · exact absurd h hA
            · rw [h]; rfl)
        refine Ev.succ ?_
        simp only [tutorref05_round.l1]
        refine Ev.pos (by omega) ?_
        refine Ev.pos (by omega) ?_
        refine Ev.pos (by rw [matOf_len]; omega) ?_
        refine Ev.pos (by omega) ?_
        rw [row]
        refine Ev.pos (by rw [row_len]; omega) ?_
        refine Ev.neg (by rw [row_get _ ht]; exact hA) ?_
        refine Ev.pos hx ?_
        refine Ev.bind (now_ev hM hs ht) ?_
        refine Ev.pos (by rw [rowOf_len]; omega) ?_
        rw [Int.toNat_natCast]
        exact g
      · have g := go false (by
          constructor
          · intro h; cases h
          · rintro (h | ⟨h, _⟩)
            · exact absurd h hA
            · exact absurd h hx)
        refine Ev.step (fun k => ?_) g
        simp only [tutorref05_round.l1]
        rw [if_pos (by omega), if_pos (by omega), if_pos (by rw [matOf_len]; omega), if_pos (by omega), row, if_pos (by rw [row_len]; omega), row_get _ ht, if_neg hA, if_neg hx, if_pos (by rw [rowOf_len]; omega), Int.toNat_natCast]

theorem round_l0 (hB : ∀ s t, s < a3.toNat → t < a3.toNat → (B s t = true ↔ (A s t = true ∨ (x2 = true ∧ sayB a0 a1 l5 s t = false)) ∨ ∃ y, 0 ≤ y ∧ y < a1.toNat ∧ A (nxN a1 l4 s y) (nxN a1 l4 t y) = true)) {R : Bool} (hR : R = true ↔ ∃ s t, s < a3.toNat ∧ t < a3.toNat ∧ B s t ≠ A s t) :
    ∀ (d s : Nat) (more : Bool), s + d = a3.toNat → (more = true ↔ ∃ s' t, s' < s ∧ t < a3.toNat ∧ B s' t ≠ A s' t) →
      Ev (fun k => tutorref05_round.l0 k (matOf A a3.toNat a3.toNat) x2 (matOf B a3.toNat s) more (s : Int) a0 a1 a2 a3 l4 l5) (matOf B a3.toNat a3.toNat, R)
  | 0, s, more, hd, hm => by
    have : s = a3.toNat := by omega
    subst this
    have : more = R := by
      rw [Bool.eq_iff_iff, hm, hR]
    rw [this]
    refine Ev.step (f := fun _ => some _) (fun k => ?_) (Ev.now _)
    simp only [tutorref05_round.l0]
    rw [if_neg (by omega)]
  | d + 1, s, more, hd, hm => by
    have hN := hM.n1024
    have h := round_l1 hM hB (s := s) (by omega) (r := (matOf B a3.toNat a3.toNat, R)) a3.toNat 0 more (by omega) (fun more' hm' => round_l0 hB hR d (s + 1) more' (by omega) (by
      rw [hm', hm]
      constructor
      · rintro (⟨s', t, h1, h2, h3⟩ | ⟨u, _, h2, h3⟩)
        · exact ⟨s', t, by omega, h2, h3⟩
        · exact ⟨s, u, by omega, h2, h3⟩
      · rintro ⟨s', t, h1, h2, h3⟩
        rcases Nat.lt_or_ge s' s with h | h
        · exact .inl ⟨s', t, h, h2, h3⟩
        · have : s' = s := by omega
          subst this
          exact .inr ⟨t, by omega, h2, h3⟩))
    rw [rowOf_zero] at h
    refine Ev.step (fun k => ?_) h
    simp only [tutorref05_round.l0]
    rw [if_pos (by omega), if_pos (by omega), if_pos (by omega)]
    rfl

/-- the square of what is apart by i symbols -/
abbrev apt (a0 a1 a3 : Int) (l4 l5 : List Int) (i : Nat) : List (List Bool) := matOf (fun s t => !eqv a0 a1 l4 l5 i s t) a3.toNat a3.toNat
theorem round_ev (i : Nat) : ∃ R : Bool, (R = true ↔ ∃ s t, s < a3.toNat ∧ t < a3.toNat ∧ eqv a0 a1 l4 l5 (i + 1) s t ≠ eqv a0 a1 l4 l5 i s t) ∧
    Ev (fun k => tutorref05_round.f k a0 a1 a2 a3 l4 l5 (apt a0 a1 a3 l4 l5 i) (a0 == 2)) (apt a0 a1 a3 l4 l5 (i + 1), R) := by
  classical
  refine ⟨decide (∃ s t, s < a3.toNat ∧ t < a3.toNat ∧ eqv a0 a1 l4 l5 (i + 1) s t ≠ eqv a0 a1 l4 l5 i s t), decide_eq_true_iff, ?_⟩
  have hne : ∀ a b : Bool, ((!a) ≠ (!b)) ↔ a ≠ b := by decide
  refine round_l0 hM (A := fun s t => !eqv a0 a1 l4 l5 i s t) (B := fun s t => !eqv a0 a1 l4 l5 (i + 1) s t) (x2 := (a0 == 2)) (fun s t hs ht => ?_) ?_ a3.toNat 0 false (by omega) (by simp)
  · have hsucc := @eqv_succ a0 a1 l4 l5 i s t
    have hdown := @eqv_down a0 a1 l4 l5 i s t
    simp only [Bool.not_eq_true', beq_iff_eq]
    constructor
    · intro h
      by_cases hsay : sayB a0 a1 l5 s t = true
      · have : ¬ ∀ x, x < a1.toNat → eqv a0 a1 l4 l5 i (nxN a1 l4 s x) (nxN a1 l4 t x) = true := fun hall => by
          rw [hsucc.mpr ⟨hsay, hall⟩] at h
          cases h
        obtain ⟨x, hx⟩ := Classical.not_forall.mp this
        obtain ⟨hx1, hx2⟩ := Classical.not_imp.mp hx
        exact .inr ⟨x, by omega, hx1, by simpa using hx2⟩
      · have hs' : sayB a0 a1 l5 s t = false := by simpa using hsay
        by_cases h2 : a0 = 2
        · exact .inl (.inr ⟨h2, hs'⟩)
        · left; left
          have h1 : a0 = 1 := by rcases hM.kind with h | h; exact h; exact absurd h h2
          rw [Bool.eq_false_iff]
          intro he
          exact hsay (eqv_say (.inl h1) he)
    · intro h
      rw [Bool.eq_false_iff]
      intro he
      have hs' := hsucc.mp he
      rcases h with (h | ⟨_, h⟩) | ⟨y, _, h1, h2⟩
      · rw [hdown he] at h; cases h
      · rw [hs'.1] at h; cases h
      · rw [hs'.2 y h1] at h2; cases h2
  · rw [decide_eq_true_iff]
    simp only [hne]

/-! ### classes -/
theorem classes_l1 {f : Nat → Int × Int} (hf : ∀ s t, s < a3.toNat → t < a3.toNat → (f s = f t ↔ A s t = false)) {s : Nat} (hs : s < a3.toNat) {r : List Int}
    (hnx : Ev (fun k => tutorref05_classes.l0 k (matOf A a3.toNat a3.toNat) (numC f (s + 1)) ((numS f (s + 1)).length : Int) ((s + 1 : Nat) : Int)) r) :
    ∀ (d t : Nat), t + d = s → (∀ u, u < t → f u ≠ f s) → Ev (fun k => tutorref05_classes.l1 k (matOf A a3.toNat a3.toNat) (numC f s) ((numS f s).length : Int) (s : Int) (-1) (t : Int)) r
  | 0, t, hd, hno => by
    have hN := hM.n1024
    have : t = s := by omega
    subst this
    obtain ⟨h1, h2⟩ := nc_new f t hno
    have hl := numS_len f t
    have e : numC f (t + 1) = numC f t ++ [((numS f t).length : Int)] := by
      have : numC f (t + 1) = numC f t ++ [(nc f t : Int)] := by simp only [numC, List.range_succ, List.map_append, List.map_cons, List.map_nil, nc]
      rw [this, h1]
    rw [e, h2] at hnx
    refine Ev.succ ?_
    simp only [tutorref05_classes.l1]
    refine Ev.neg (by omega) ?_
    refine Ev.step (fun k => ?_) hnx
    simp only [tutorref05_classes.j2]
    rw [if_neg (by decide), if_pos (by omega), if_pos (by rw [numC_len]; omega), step1 (by omega), step1 (by omega)]
  | d + 1, t, hd, hno => by
    have hN := hM.n1024
    have row := mat_row A (n := a3.toNat) hs
    refine Ev.succ ?_
    simp only [tutorref05_classes.l1]
    refine Ev.pos (by omega) ?_
    by_cases he : f t = f s
    · have hA := (hf s t hs (by omega)).mp he.symm
      have hold := nc_old f s ⟨t, by omega, he⟩
      have hl := numS_len f s
      have hnc : nc f t = nc f s := (nc_eq f (n := s + 1) (by omega) (by omega)).mpr he
      have e : numC f (s + 1) = numC f s ++ [(nc f t : Int)] := by
        have : numC f (s + 1) = numC f s ++ [(nc f s : Int)] := by simp only [numC, List.range_succ, List.map_append, List.map_cons, List.map_nil, nc]
        rw [this, hnc]
      rw [e, hold.1] at hnx
      refine Ev.succ ?_
      simp only [tutorref05_classes.j2]
      refine Ev.pos (by decide) ?_
      refine Ev.pos (by omega) ?_
      refine Ev.pos (by rw [matOf_len]; omega) ?_
      refine Ev.pos (by omega) ?_
      rw [row]
      refine Ev.pos (by rw [row_len]; omega) ?_
      refine Ev.neg (by rw [row_get _ (by omega), hA]; decide) ?_
      refine Ev.pos (by rw [numC_len]; omega) ?_
      rw [numC_nc f (by omega : t < s), step1 (by omega)]
      have tail : ∀ (d u : Nat), u + d = s → Ev (fun k => tutorref05_classes.l1 k (matOf A a3.toNat a3.toNat) (numC f s) ((numS f s).length : Int) (s : Int) (nc f t : Int) (u : Int)) r := by
        intro d u hu
        have hnot : decide ((nc f t : Int) < 0) = false := decide_eq_false (by omega)
        have end_ : Ev (fun k => tutorref05_classes.j2 k (matOf A a3.toNat a3.toNat) (numC f s) ((numS f s).length : Int) (s : Int) (nc f t : Int) (u : Int) false) r := by
          refine Ev.step (fun k => ?_) hnx
          simp only [tutorref05_classes.j2]
          rw [if_neg (by decide), if_neg (by omega), if_pos (by rw [numC_len]; omega), step1 (by omega)]
        refine Ev.step (fun k => ?_) end_
        simp only [tutorref05_classes.l1]
        rw [hnot]
        split <;> rfl
      exact tail _ (t + 1) (by omega : t + 1 + (s - (t + 1)) = s)
    · have hA : A s t = true := by
        cases h : A s t with
        | true => rfl
        | false => exact absurd ((hf s t hs (by omega)).mpr h).symm he
      refine Ev.succ ?_
      simp only [tutorref05_classes.j2]
      refine Ev.pos (by decide) ?_
      refine Ev.pos (by omega) ?_
      refine Ev.pos (by rw [matOf_len]; omega) ?_
      refine Ev.pos (by omega) ?_
      rw [row]
      refine Ev.pos (by rw [row_len]; omega) ?_
      refine Ev.pos (by rw [row_get _ (by omega)]; exact hA) ?_
      rw [step1 (by omega)]
      exact classes_l1 hf hs hnx d (t + 1) (by omega) (fun u hu => by
        rcases Nat.lt_or_ge u t with h | h
        · exact hno u h
        · have : u = t := by omega
          subst this
          exact he)
theorem classes_l0 {f : Nat → Int × Int} (hf : ∀ s t, s < a3.toNat → t < a3.toNat → (f s = f t ↔ A s t = false)) : ∀ (d s : Nat), s + d = a3.toNat →
    Ev (fun k => tutorref05_classes.l0 k (matOf A a3.toNat a3.toNat) (numC f s) ((numS f s).length : Int) (s : Int)) (numC f a3.toNat)
  | 0, s, hd => by
    have : s = a3.toNat := by omega
    subst this
    refine Ev.step (f := fun _ => some _) (fun k => ?_) (Ev.now _)
    simp only [tutorref05_classes.l0]
    rw [if_neg (by rw [matOf_len]; omega)]
  | d + 1, s, hd => by
    refine Ev.step (fun k => ?_) (classes_l1 hM hf (s := s) (by omega) (classes_l0 hf d (s + 1) (by omega)) s 0 (by omega) (fun u hu => by omega))
    simp only [tutorref05_classes.l0]
    rw [if_pos (by rw [matOf_len]; omega)]
    rfl
theorem classes_ev (i : Nat) : Ev (fun k => tutorref05_classes.f k (apt a0 a1 a3 l4 l5 i)) (cls a0 a1 a3 l4 l5 i).1 := by
  obtain ⟨f, h1, h2, h3⟩ := cls_num hM i
  rw [h2]
  refine classes_l0 hM (A := fun s t => !eqv a0 a1 l4 l5 i s t) (f := f) (fun s t hs ht => ?_) a3.toNat 0 (by omega)
  rw [h1 s t hs ht]
  simp

/-! ### After -/
theorem rafter_l0 : ∀ (d j M : Nat) (more : Bool), j + d = M → M ≤ 9223372036854775807 → (more = false → ∀ e, cls a0 a1 a3 l4 l5 (j + e) = cls a0 a1 a3 l4 l5 j) →
    Ev (fun k => tutorref05_After.l0 k (M : Int) (apt a0 a1 a3 l4 l5 j) more (j : Int) a0 a1 a2 a3 l4 l5) ((cls a0 a1 a3 l4 l5 M).1, 0)
  | 0, j, M, more, hd, hM2, hm => by
    have : j = M := by omega
    subst this
    refine Ev.succ ?_
    simp only [tutorref05_After.l0]
    refine Ev.neg (by omega) ?_
    exact Ev.bind (classes_ev hM j) (Ev.now _)
  | d + 1, j, M, more, hd, hM2, hm => by
    refine Ev.succ ?_
    simp only [tutorref05_After.l0]
    refine Ev.pos (by omega) ?_
    by_cases h : more = true
    · refine Ev.pos h ?_
      obtain ⟨R, hR, hev⟩ := round_ev hM j
      refine Ev.bind hev ?_
      rw [step1 (by omega)]
      refine rafter_l0 d (j + 1) M R (by omega) hM2 (fun hr e => ?_)
      have hst : ∀ s t, s < a3.toNat → t < a3.toNat → eqv a0 a1 l4 l5 j s t = true → eqv a0 a1 l4 l5 (j + 1) s t = true := by
        intro s t hs ht he
        by_cases h' : eqv a0 a1 l4 l5 (j + 1) s t = true
        · exact h'
        · have := hR.mpr ⟨s, t, hs, ht, fun e => h' (e.trans he)⟩
          rw [hr] at this
          cases this
      have hc := ((cls_num hM (j + 1)).uniq ((cls_num hM j).mono (fun s t hs ht => ⟨hst s t hs ht, eqv_down⟩))).2
      have e1 := cls_still hM hc (1 + e)
      have e2 := cls_still hM hc 1
      rw [show j + 1 + e = j + (1 + e) by omega, e1, e2]
    · refine Ev.neg h ?_
      have hm' := hm (by simpa using h) (M - j)
      rw [show j + (M - j) = M by omega] at hm'
      rw [hm']
      exact Ev.bind (classes_ev hM j) (Ev.now _)
theorem rafter_right (hl4 : l4.length ≤ maxLen) (hl5 : l5.length ≤ maxLen) (m : Nat) (hm : m ≤ 9223372036854775807) : Ev (fun k => tutorref05_After.f k a0 a1 a2 a3 l4 l5 (m : Int)) ((cls a0 a1 a3 l4 l5 m).1, 0) := by
  obtain ⟨at_, hc⟩ := rcheck_ev a0 a1 a2 a3 hl4 hl5
  rw [errM_zero.mpr hM] at hc
  refine Ev.bind hc ?_
  refine Ev.pos rfl ?_
  refine Ev.neg (by omega) ?_
  refine Ev.bind (start_l0 hM a3.toNat 0 (by omega)) ?_
  exact rafter_l0 hM m 0 m true (by omega) hm (fun h => by cases h)
theorem rafter_neg {m : Int} (hm : m < 0) (hl4 : l4.length ≤ maxLen) (hl5 : l5.length ≤ maxLen) : Ev (fun k => tutorref05_After.f k a0 a1 a2 a3 l4 l5 m) ([], 1) := by
  obtain ⟨at_, hc⟩ := rcheck_ev a0 a1 a2 a3 hl4 hl5
  rw [errM_zero.mpr hM] at hc
  refine Ev.bind hc ?_
  refine Ev.pos rfl ?_
  exact Ev.pos hm (Ev.now _)

/-! ### Classes -/
theorem cls_grow : ∀ j, (∀ i, i < j → (cls a0 a1 a3 l4 l5 (i + 1)).2 ≠ (cls a0 a1 a3 l4 l5 i).2) → j < (cls a0 a1 a3 l4 l5 j).2
  | 0, _ => (cls_num hM 0).pos (by have := hM.n1; omega)
  | j + 1, h => by
    have h1 := cls_grow j (fun i hi => h i (by omega))
    have h2 := h j (by omega)
    have h3 := cls_up hM j
    omega
theorem cls_rounds : ∃ R, R < a3.toNat ∧ (cls a0 a1 a3 l4 l5 (R + 1)).2 = (cls a0 a1 a3 l4 l5 R).2 ∧ ∀ i, i < R → (cls a0 a1 a3 l4 l5 (i + 1)).2 ≠ (cls a0 a1 a3 l4 l5 i).2 := by
  have key : ∀ d j, (∀ i, i < j → (cls a0 a1 a3 l4 l5 (i + 1)).2 ≠ (cls a0 a1 a3 l4 l5 i).2) → a3.toNat ≤ j + d → ∃ R, R < a3.toNat ∧ (cls a0 a1 a3 l4 l5 (R + 1)).2 = (cls a0 a1 a3 l4 l5 R).2 ∧ ∀ i, i < R → (cls a0 a1 a3 l4 l5 (i + 1)).2 ≠ (cls a0 a1 a3 l4 l5 i).2 := by
    intro d
    induction d with
    | zero =>
      intro j h hd
      have h1 := cls_grow hM j h
      have h2 := (cls_num hM j).cnt_le
      omega
    | succ d ih =>
      intro j h hd
      by_cases e : (cls a0 a1 a3 l4 l5 (j + 1)).2 = (cls a0 a1 a3 l4 l5 j).2
      · have h1 := cls_grow hM j h
        have h2 := (cls_num hM j).cnt_le
        exact ⟨j, by omega, e, h⟩
      · exact ih (j + 1) (fun i hi => by
          rcases Nat.lt_or_ge i j with h' | h'
          · exact h i h'
          · have : i = j := by omega
            subst this
            exact e) (by omega)
  exact key a3.toNat 0 (fun i hi => by omega) (by omega)
end
theorem last_l0 {l : List Int} (hl : l.length ≤ 1024) : ∀ (d i : Nat) (m : Int), i + d = l.length → Ev (fun k => moore_last.l0 k m l (l.length : Int) (i : Int)) ((l.drop i).foldl mx m)
  | 0, i, m, hd => by
    rw [List.drop_eq_nil_of_le (by omega)]
    refine Ev.step (f := fun _ => some m) (fun k => ?_) (Ev.now _)
    simp only [moore_last.l0]
    rw [if_neg (by omega)]
  | d + 1, i, m, hd => by
    rw [drop_at (by omega : i < l.length)]
    refine Ev.step (fun k => ?_) (last_l0 hl d (i + 1) (mx m (rd l (i : Int))) (by omega))
    simp only [moore_last.l0]
    rw [if_pos (by omega), if_pos (by omega), if_pos (by omega), step1 (by omega)]
theorem fold_mx {c : Int} : ∀ (l : List Int) (m : Int), m ≤ c → (∀ x ∈ l, x ≤ c) → (m = c ∨ c ∈ l) → l.foldl mx m = c
  | [], m, _, _, h => by rcases h with h | h; exact h; cases h
  | x :: l, m, hm, hx, h => by
    have h1 := hx x (by simp)
    refine fold_mx l (mx m x) (by unfold mx; omega) (fun y hy => hx y (by simp [hy])) ?_
    rcases h with h | h
    · left; unfold mx; omega
    · rcases List.mem_cons.mp h with h | h
      · left; unfold mx; omega
      · exact .inr h
section
variable {a0 a1 a2 a3 : Int} {l4 l5 : List Int} (hM : RightM a0 a1 a2 a3 l4 l5)
include hM
theorem last_ev (i : Nat) : Ev (fun k => moore_last.f k (cls a0 a1 a3 l4 l5 i).1) (((cls a0 a1 a3 l4 l5 i).2 : Int) - 1) := by
  have hn := cls_num hM i
  have hN := hM.n1024
  have h1 := hM.n1
  have hpos := hn.pos (by omega)
  have h := last_l0 (l := (cls a0 a1 a3 l4 l5 i).1) (by rw [hn.len]; omega) (cls a0 a1 a3 l4 l5 i).1.length 0 0 (by omega)
  rw [List.drop_zero, fold_mx (c := ((cls a0 a1 a3 l4 l5 i).2 : Int) - 1) _ 0 (by omega) (fun x hx => by have := cls_mem hM i x hx; omega) (by
    right
    obtain ⟨s, hs, e, _⟩ := hn.hit (v := (cls a0 a1 a3 l4 l5 i).2 - 1) (by omega)
    have : ((cls a0 a1 a3 l4 l5 i).2 : Int) - 1 = (((cls a0 a1 a3 l4 l5 i).2 - 1 : Nat) : Int) := by omega
    rw [this, ← e]
    exact rd_mem (by omega) (by rw [hn.len]; omega))] at h
  exact h
theorem mclasses_right (hw4 : ∀ x ∈ l4, (Lit.int .i64 x).wf = true) (hw5 : ∀ x ∈ l5, (Lit.int .i64 x).wf = true) (hl4 : l4.length ≤ maxLen) (hl5 : l5.length ≤ maxLen) {R : Nat} (hR : R < a3.toNat) (hst : (cls a0 a1 a3 l4 l5 (R + 1)).2 = (cls a0 a1 a3 l4 l5 R).2) (hno : ∀ i, i < R → (cls a0 a1 a3 l4 l5 (i + 1)).2 ≠ (cls a0 a1 a3 l4 l5 i).2) :
    Ev (fun k => moore_Classes.f k a0 a1 a2 a3 l4 l5) ((cls a0 a1 a3 l4 l5 R).1, (R : Int), 0) := by
  have hN := hM.n1024
  have loop : ∀ d i, i + d = R → Ev (fun k => moore_Classes.l0 k (cls a0 a1 a3 l4 l5 i).1 ((i + 1 : Nat) : Int) a0 a1 a2 a3 l4 l5) ((cls a0 a1 a3 l4 l5 R).1, (R : Int), 0) := by
    intro d
    induction d with
    | zero =>
      intro i hi
      have : i = R := by omega
      subst this
      refine Ev.succ ?_
      simp only [moore_Classes.l0]
      refine Ev.bind (after_right hM hw4 hw5 hl4 hl5 (i + 1) (by omega)) ?_
      refine Ev.bind (last_ev hM (i + 1)) ?_
      refine Ev.bind (last_ev hM i) ?_
      refine Ev.pos (by omega) ?_
      rw [show wrap64 (((i + 1 : Nat) : Int) - 1) = (i : Int) by rw [wrap_id (by omega) (by omega)]; omega]
      exact Ev.now _
    | succ d ih =>
      intro i hi
      refine Ev.succ ?_
      simp only [moore_Classes.l0]
      refine Ev.bind (after_right hM hw4 hw5 hl4 hl5 (i + 1) (by omega)) ?_
      refine Ev.bind (last_ev hM (i + 1)) ?_
      refine Ev.bind (last_ev hM i) ?_
      refine Ev.neg (by have := hno i (by omega); omega) ?_
      rw [step1 (by omega)]
      exact ih (i + 1) (by omega)
  refine Ev.bind (after_right hM hw4 hw5 hl4 hl5 0 (by omega)) ?_
  refine Ev.pos rfl ?_
  exact loop R 0 (by omega)
theorem rclasses_right (hl4 : l4.length ≤ maxLen) (hl5 : l5.length ≤ maxLen) {R : Nat} (hR : R < a3.toNat) (hst : (cls a0 a1 a3 l4 l5 (R + 1)).2 = (cls a0 a1 a3 l4 l5 R).2) (hno : ∀ i, i < R → (cls a0 a1 a3 l4 l5 (i + 1)).2 ≠ (cls a0 a1 a3 l4 l5 i).2) :
    Ev (fun k => tutorref05_Classes.f k a0 a1 a2 a3 l4 l5) ((cls a0 a1 a3 l4 l5 R).1, (R : Int), 0) := by
  have hN := hM.n1024
  have flag : ∀ i (b : Bool), (b = true ↔ ∃ s t, s < a3.toNat ∧ t < a3.toNat ∧ eqv a0 a1 l4 l5 (i + 1) s t ≠ eqv a0 a1 l4 l5 i s t) → (b = true ↔ (cls a0 a1 a3 l4 l5 (i + 1)).2 ≠ (cls a0 a1 a3 l4 l5 i).2) := by
    intro i b hb
    rw [hb]
    constructor
    · rintro ⟨s, t, hs, ht, hne⟩ he
      have h1 := ((cls_num hM i).same (cls_num hM (i + 1)) (fun s t _ _ e => eqv_down e)).2 (by omega) s t hs ht
      refine hne (Bool.eq_iff_iff.mpr ⟨eqv_down, h1⟩)
    · intro hne
      by_cases h : ∃ s t, s < a3.toNat ∧ t < a3.toNat ∧ eqv a0 a1 l4 l5 (i + 1) s t ≠ eqv a0 a1 l4 l5 i s t
      · exact h
      · exfalso
        refine hne ((cls_num hM (i + 1)).uniq ((cls_num hM i).mono (fun s t hs ht => ?_))).2
        by_cases e : eqv a0 a1 l4 l5 (i + 1) s t = eqv a0 a1 l4 l5 i s t
        · rw [e]
        · exact absurd ⟨s, t, hs, ht, e⟩ h
  have loop : ∀ d i, i + d = R → Ev (fun k => tutorref05_Classes.l0 k (apt a0 a1 a3 l4 l5 i) (i : Int) a0 a1 a2 a3 l4 l5) ((cls a0 a1 a3 l4 l5 R).1, (R : Int), 0) := by
    intro d
    induction d with
    | zero =>
      intro i hi
      have : i = R := by omega
      subst this
      obtain ⟨b, hb, hev⟩ := round_ev hM i
      refine Ev.succ ?_
      simp only [tutorref05_Classes.l0]
      refine Ev.bind hev ?_
      refine Ev.neg (fun h => (flag i b hb).mp h hst) ?_
      exact Ev.bind (classes_ev hM i) (Ev.now _)
    | succ d ih =>
      intro i hi
      obtain ⟨b, hb, hev⟩ := round_ev hM i
      refine Ev.succ ?_
      simp only [tutorref05_Classes.l0]
      refine Ev.bind hev ?_
      refine Ev.pos ((flag i b hb).mpr (hno i (by omega))) ?_
      rw [step1 (by omega)]
      exact ih (i + 1) (by omega)
  obtain ⟨at_, hc⟩ := rcheck_ev a0 a1 a2 a3 hl4 hl5
  rw [errM_zero.mpr hM] at hc
  refine Ev.bind hc ?_
  refine Ev.pos rfl ?_
  refine Ev.bind (start_l0 hM a3.toNat 0 (by omega)) ?_
  exact loop R 0 (by omega)
end
section
variable {a0 a1 a2 a3 : Int} {l4 l5 : List Int} (hM : ¬ RightM a0 a1 a2 a3 l4 l5) (hl4 : l4.length ≤ maxLen) (hl5 : l5.length ≤ maxLen)
include hM hl4 hl5
theorem rafter_wrong (m : Int) : Ev (fun k => tutorref05_After.f k a0 a1 a2 a3 l4 l5 m) ([], errM a0 a1 a2 a3 l4 l5) := by
  have he : errM a0 a1 a2 a3 l4 l5 ≠ 0 := fun h => hM (errM_zero.mp h)
  obtain ⟨at_, hc⟩ := rcheck_ev a0 a1 a2 a3 hl4 hl5
  exact Ev.bind hc (Ev.neg he (Ev.now _))
theorem rclasses_wrong : Ev (fun k => tutorref05_Classes.f k a0 a1 a2 a3 l4 l5) ([], 0, errM a0 a1 a2 a3 l4 l5) := by
  have he : errM a0 a1 a2 a3 l4 l5 ≠ 0 := fun h => hM (errM_zero.mp h)
  obtain ⟨at_, hc⟩ := rcheck_ev a0 a1 a2 a3 hl4 hl5
  exact Ev.bind hc (Ev.neg he (Ev.now _))
theorem mclasses_wrong (hw4 : ∀ x ∈ l4, (Lit.int .i64 x).wf = true) (hw5 : ∀ x ∈ l5, (Lit.int .i64 x).wf = true) : Ev (fun k => moore_Classes.f k a0 a1 a2 a3 l4 l5) ([], 0, errM a0 a1 a2 a3 l4 l5) := by
  obtain ⟨he, h⟩ := after_wrong hM hw4 hw5 hl4 hl5 0
  exact Ev.bind h (Ev.neg he (Ev.now _))
end
end Go.Proofs.Ytllgeljacmpdjaa.PTrim
