/- Numbers of classes in the order in which these come: plain; no program. -/
import Derived.Test.YtllgeljacmpdjaaGMoore
namespace Go.Proofs.Ytllgeljacmpdjaa.PTrim
open Go.RowKit Go.Proofs.YtllgeljacmpdjaaW.PrintWords
set_option linter.unusedVariables false

section
variable {f g : Nat → Int × Int}
theorem numS_in (f : Nat → Int × Int) : ∀ (n : Nat) (p : Int × Int), p ∈ numS f n ↔ ∃ t, t < n ∧ f t = p
  | 0, p => by simp [numS]
  | n + 1, p => by
    have ih := numS_in f n p
    simp only [numS, numU]
    constructor
    · intro h
      split at h
      · obtain ⟨t, ht, e⟩ := ih.mp h
        exact ⟨t, by omega, e⟩
      · rcases List.mem_append.mp h with h | h
        · obtain ⟨t, ht, e⟩ := ih.mp h
          exact ⟨t, by omega, e⟩
        · exact ⟨n, by omega, (List.mem_singleton.mp h).symm⟩
    · rintro ⟨t, ht, e⟩
      rcases Nat.lt_or_ge t n with h | h
      · have := ih.mpr ⟨t, h, e⟩
        split
        · exact this
        · exact List.mem_append_left _ this
      · have : t = n := by omega
        subst this
        subst e
        split
        · assumption
        · simp
/-- the number of s's class -/
def nc (f : Nat → Int × Int) (s : Nat) : Nat := (numS f (s + 1)).idxOf (f s)
theorem numC_nc (f : Nat → Int × Int) {s n : Nat} (hs : s < n) : rd (numC f n) (s : Int) = (nc f s : Int) := numC_get f hs
theorem idx_grow (f : Nat → Int × Int) (n d : Nat) {p : Int × Int} (h : p ∈ numS f n) : (numS f (n + d)).idxOf p = (numS f n).idxOf p := by
  obtain ⟨v, hv⟩ := numS_mono f n d
  rw [hv, List.idxOf_append, if_pos h]
theorem nc_at (f : Nat → Int × Int) {s n : Nat} (hs : s < n) : nc f s = (numS f n).idxOf (f s) := by
  have := idx_grow f (s + 1) (n - (s + 1)) (numS_mem f s)
  rw [show s + 1 + (n - (s + 1)) = n by omega] at this
  exact this.symm
theorem idxOf_inj {l : List (Int × Int)} {p q : Int × Int} (hp : p ∈ l) (hq : q ∈ l) (h : l.idxOf p = l.idxOf q) : p = q := by
  have h1 := List.getElem_idxOf (List.idxOf_lt_length_of_mem hp)
  have h2 := List.getElem_idxOf (List.idxOf_lt_length_of_mem hq)
  rw [← h1, ← h2]
  congr 1
theorem nc_eq (f : Nat → Int × Int) {s t n : Nat} (hs : s < n) (ht : t < n) : nc f s = nc f t ↔ f s = f t := by
  rw [nc_at f hs, nc_at f ht]
  exact ⟨fun h => idxOf_inj ((numS_in f n _).mpr ⟨s, hs, rfl⟩) ((numS_in f n _).mpr ⟨t, ht, rfl⟩) h, fun h => by rw [h]⟩
theorem nc_lt (f : Nat → Int × Int) {s n : Nat} (hs : s < n) : nc f s < (numS f n).length := by
  rw [nc_at f hs]
  exact List.idxOf_lt_length_of_mem ((numS_in f n _).mpr ⟨s, hs, rfl⟩)
/-- what comes anew has the next number -/
theorem nc_new (f : Nat → Int × Int) (s : Nat) (h : ∀ t, t < s → f t ≠ f s) : nc f s = (numS f s).length ∧ (numS f (s + 1)).length = (numS f s).length + 1 := by
  have hn : f s ∉ numS f s := fun hm => by
    obtain ⟨t, ht, e⟩ := (numS_in f s _).mp hm
    exact h t ht e
  unfold nc
  simp only [numS, numU, if_neg hn]
  refine ⟨?_, by simp⟩
  rw [List.idxOf_append, if_neg hn]
  simp
theorem nc_old (f : Nat → Int × Int) (s : Nat) (h : ∃ t, t < s ∧ f t = f s) : (numS f (s + 1)).length = (numS f s).length ∧ nc f s < (numS f s).length := by
  have hm : f s ∈ numS f s := (numS_in f s _).mpr h
  have e : numS f (s + 1) = numS f s := by simp only [numS, numU, if_pos hm]
  refine ⟨by rw [e], ?_⟩
  unfold nc
  rw [e]
  exact List.idxOf_lt_length_of_mem hm
/-- each number up to the count is some state's -/
theorem nc_hit (f : Nat → Int × Int) : ∀ (n v : Nat), v < (numS f n).length → ∃ s, s < n ∧ nc f s = v ∧ (numS f s).length = v ∧ ∀ t, t < s → f t ≠ f s
  | 0, v, h => by simp [numS] at h
  | n + 1, v, h => by
    by_cases hx : ∃ t, t < n ∧ f t = f n
    · rw [(nc_old f n hx).1] at h
      obtain ⟨s, hs, e⟩ := nc_hit f n v h
      exact ⟨s, by omega, e⟩
    · have hx' : ∀ t, t < n → f t ≠ f n := fun t ht e => hx ⟨t, ht, e⟩
      obtain ⟨h1, h2⟩ := nc_new f n hx'
      rw [h2] at h
      by_cases hv : v < (numS f n).length
      · obtain ⟨s, hs, e⟩ := nc_hit f n v hv
        exact ⟨s, by omega, e⟩
      · exact ⟨n, by omega, by omega, by omega, hx'⟩

/-- two ways to tell classes that tell the same -/
theorem num_congr {n : Nat} (h : ∀ s t, s < n → t < n → (f s = f t ↔ g s = g t)) : ∀ m, m ≤ n → (numS f m).length = (numS g m).length ∧ ∀ s, s < m → nc f s = nc g s
  | 0, _ => by simp [numS]
  | m + 1, hm => by
    obtain ⟨h1, h2⟩ := num_congr h m (by omega)
    by_cases hx : ∃ t, t < m ∧ f t = f m
    · have hx' : ∃ t, t < m ∧ g t = g m := by
        obtain ⟨t, ht, e⟩ := hx
        exact ⟨t, ht, (h t m (by omega) (by omega)).mp e⟩
      refine ⟨by rw [(nc_old f m hx).1, (nc_old g m hx').1, h1], fun s hs => ?_⟩
      rcases Nat.lt_or_ge s m with hlt | hge
      · exact h2 s hlt
      · have : s = m := by omega
        subst this
        obtain ⟨t, ht, e⟩ := hx
        rw [← (nc_eq f (n := s + 1) (by omega) (by omega)).mpr e, ← (nc_eq g (n := s + 1) (by omega) (by omega)).mpr ((h t s (by omega) (by omega)).mp e)]
        exact h2 t ht
    · have hf : ∀ t, t < m → f t ≠ f m := fun t ht e => hx ⟨t, ht, e⟩
      have hg : ∀ t, t < m → g t ≠ g m := fun t ht e => hf t ht ((h t m (by omega) (by omega)).mpr e)
      obtain ⟨f1, f2⟩ := nc_new f m hf
      obtain ⟨g1, g2⟩ := nc_new g m hg
      refine ⟨by omega, fun s hs => ?_⟩
      rcases Nat.lt_or_ge s m with hlt | hge
      · exact h2 s hlt
      · have : s = m := by omega
        subst this
        omega
/-- one way tells no less, and both tell as many classes: they tell the same -/
theorem num_count {n : Nat} (h : ∀ s t, s < n → t < n → g s = g t → f s = f t) : ∀ m, m ≤ n → (numS f m).length ≤ (numS g m).length ∧ ((numS g m).length ≤ (numS f m).length → ∀ s t, s < m → t < m → f s = f t → g s = g t)
  | 0, _ => by simp [numS]
  | m + 1, hm => by
    obtain ⟨h1, h2⟩ := num_count h m (by omega)
    have key : ∀ (hsame : (∃ t, t < m ∧ f t = f m) → ∃ t, t < m ∧ g t = g m), (numS g m).length ≤ (numS f m).length → ∀ s t, s < m + 1 → t < m + 1 → f s = f t → g s = g t := by
      intro hsame hle s t hs ht e
      have h2' := h2 hle
      have last : ∀ t, t < m → f t = f m → g t = g m := by
        intro t ht e
        obtain ⟨u, hu, eu⟩ := hsame ⟨t, ht, e⟩
        rw [← eu]
        exact h2' t u ht hu (e.trans (h u m (by omega) (by omega) eu).symm)
      rcases Nat.lt_or_ge s m with hs' | hs' <;> rcases Nat.lt_or_ge t m with ht' | ht'
      · exact h2' s t hs' ht' e
      · have : t = m := by omega
        subst this
        exact last s hs' e
      · have : s = m := by omega
        subst this
        exact (last t ht' e.symm).symm
      · have e1 : s = m := by omega
        have e2 : t = m := by omega
        rw [e1, e2]
    by_cases hg : ∃ t, t < m ∧ g t = g m
    · have hf : ∃ t, t < m ∧ f t = f m := by
        obtain ⟨t, ht, e⟩ := hg
        exact ⟨t, ht, h t m (by omega) (by omega) e⟩
      rw [(nc_old f m hf).1, (nc_old g m hg).1]
      exact ⟨h1, fun hle => key (fun _ => hg) hle⟩
    · have hg' : ∀ t, t < m → g t ≠ g m := fun t ht e => hg ⟨t, ht, e⟩
      rw [(nc_new g m hg').2]
      by_cases hf : ∃ t, t < m ∧ f t = f m
      · rw [(nc_old f m hf).1]
        exact ⟨by omega, fun hle => by omega⟩
      · have hf' : ∀ t, t < m → f t ≠ f m := fun t ht e => hf ⟨t, ht, e⟩
        rw [(nc_new f m hf').2]
        exact ⟨by omega, fun hle => key (fun hx => absurd hx hf) (by omega)⟩
end

/-- c numbers the classes of E among the first n, cnt of them. -/
def IsNum (n : Nat) (E : Nat → Nat → Prop) (c : List Int) (cnt : Nat) : Prop :=
  ∃ f : Nat → Int × Int, (∀ s t, s < n → t < n → (f s = f t ↔ E s t)) ∧ c = numC f n ∧ cnt = (numS f n).length

section
variable {n cnt cnt' : Nat} {E E' : Nat → Nat → Prop} {c c' : List Int}
theorem IsNum.len (h : IsNum n E c cnt) : c.length = n := by
  obtain ⟨f, _, rfl, _⟩ := h
  exact numC_len f n
theorem IsNum.mono (h : IsNum n E c cnt) (he : ∀ s t, s < n → t < n → (E s t ↔ E' s t)) : IsNum n E' c cnt := by
  obtain ⟨f, h1, h2, h3⟩ := h
  exact ⟨f, fun s t hs ht => (h1 s t hs ht).trans (he s t hs ht), h2, h3⟩
theorem IsNum.uniq (h : IsNum n E c cnt) (h' : IsNum n E c' cnt') : c = c' ∧ cnt = cnt' := by
  obtain ⟨f, h1, rfl, rfl⟩ := h
  obtain ⟨g, g1, rfl, rfl⟩ := h'
  obtain ⟨e1, e2⟩ := num_congr (n := n) (fun s t hs ht => (h1 s t hs ht).trans (g1 s t hs ht).symm) n (Nat.le_refl _)
  refine ⟨?_, e1⟩
  unfold numC
  refine List.map_congr_left (fun s hs => ?_)
  have := e2 s (List.mem_range.mp hs)
  unfold nc at this
  rw [this]
theorem IsNum.eq (h : IsNum n E c cnt) {s t : Nat} (hs : s < n) (ht : t < n) : rd c (s : Int) = rd c (t : Int) ↔ E s t := by
  obtain ⟨f, h1, rfl, rfl⟩ := h
  rw [numC_nc f hs, numC_nc f ht, ← h1 s t hs ht, ← nc_eq f hs ht]
  omega
theorem IsNum.bd (h : IsNum n E c cnt) {s : Nat} (hs : s < n) : 0 ≤ rd c (s : Int) ∧ rd c (s : Int) < cnt := by
  obtain ⟨f, h1, rfl, rfl⟩ := h
  rw [numC_nc f hs]
  have := nc_lt f hs
  omega
theorem IsNum.cnt_le (h : IsNum n E c cnt) : cnt ≤ n := by
  obtain ⟨f, h1, rfl, rfl⟩ := h
  exact numS_len f n
theorem IsNum.refl (h : IsNum n E c cnt) {s : Nat} (hs : s < n) : E s s := by
  obtain ⟨f, h1, _, _⟩ := h
  exact (h1 s s hs hs).mp rfl
theorem IsNum.symm (h : IsNum n E c cnt) {s t : Nat} (hs : s < n) (ht : t < n) (e : E s t) : E t s := by
  obtain ⟨f, h1, _, _⟩ := h
  exact (h1 t s ht hs).mp ((h1 s t hs ht).mpr e).symm
theorem IsNum.trans (h : IsNum n E c cnt) {s t u : Nat} (hs : s < n) (ht : t < n) (hu : u < n) (e : E s t) (e' : E t u) : E s u := by
  obtain ⟨f, h1, _, _⟩ := h
  exact (h1 s u hs hu).mp (((h1 s t hs ht).mpr e).trans ((h1 t u ht hu).mpr e'))
/-- finer, and as many: the same -/
theorem IsNum.same (h : IsNum n E c cnt) (h' : IsNum n E' c' cnt') (hf : ∀ s t, s < n → t < n → E' s t → E s t) : cnt ≤ cnt' ∧ (cnt' ≤ cnt → ∀ s t, s < n → t < n → E s t → E' s t) := by
  obtain ⟨f, h1, rfl, rfl⟩ := h
  obtain ⟨g, g1, rfl, rfl⟩ := h'
  obtain ⟨e1, e2⟩ := num_count (f := f) (g := g) (n := n) (fun s t hs ht e => (h1 s t hs ht).mpr (hf s t hs ht ((g1 s t hs ht).mp e))) n (Nat.le_refl _)
  exact ⟨e1, fun hle s t hs ht e => (g1 s t hs ht).mp (e2 hle s t hs ht ((h1 s t hs ht).mpr e))⟩
/-- the first of each class -/
theorem IsNum.hit (h : IsNum n E c cnt) {v : Nat} (hv : v < cnt) : ∃ s, s < n ∧ rd c (s : Int) = (v : Int) ∧ ∀ t, t < s → rd c (t : Int) < (v : Int) := by
  obtain ⟨f, h1, rfl, rfl⟩ := h
  obtain ⟨s, hs, e1, e2, e3⟩ := nc_hit f n v hv
  refine ⟨s, hs, by rw [numC_nc f hs, e1], fun t ht => ?_⟩
  rw [numC_nc f (by omega)]
  have := nc_lt f ht
  omega
/-- what is ahead of a state: all numbers below its own -/
theorem IsNum.first (h : IsNum n E c cnt) {s : Nat} (hs : s < n) {v : Int} (h0 : 0 ≤ v) (hv : v < rd c (s : Int)) : ∃ t, t < s ∧ rd c (t : Int) = v := by
  have hb := h.bd hs
  obtain ⟨t, ht, e1, e2⟩ := h.hit (v := v.toNat) (by omega)
  refine ⟨t, ?_, by omega⟩
  rcases Nat.lt_or_ge t s with hlt | hge
  · exact hlt
  · exfalso
    rcases Nat.lt_or_ge s t with h3 | h3
    · have := e2 s h3
      omega
    · have : s = t := by omega
      subst this
      omega
theorem IsNum.zero (h : IsNum n E c cnt) (hn : 0 < n) : rd c 0 = 0 := by
  have hb := h.bd hn
  by_cases e : rd c ((0 : Nat) : Int) = 0
  · exact e
  · obtain ⟨t, ht, _⟩ := h.first hn (v := 0) (by omega) (by omega)
    omega
theorem IsNum.pos (h : IsNum n E c cnt) (hn : 0 < n) : 0 < cnt := by
  have hb := h.bd hn
  omega
end

end Go.Proofs.Ytllgeljacmpdjaa.PTrim
