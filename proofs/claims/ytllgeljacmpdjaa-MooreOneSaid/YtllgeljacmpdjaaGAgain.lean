/- Machines that are the same but for their states' numbers have one Canon. -/
import Derived.Test.YtllgeljacmpdjaaGCan
import Derived.Test.YtllgeljacmpdjaaPTrimxf23
namespace Go.Proofs.Ytllgeljacmpdjaa.PTrim
open Go.RowKit Go.Proofs.YtllgeljacmpdjaaW.PrintWords Go.Proofs.YtllgeljacmpdjaaW.PrintLast Go.Proofs.YtllgeljacmpdjaaW.PrintMore Go.Proofs.Ytllgeljacmpdjaa.Bfs
set_option linter.unusedVariables false
set_option linter.unusedSimpArgs false

/-! ### rounds enough -/
section
variable {nx : Int → Int → Int} {K : Nat}
theorem rowF_len : ∀ (d : Nat) (s : List Int × List (List Int)) (i x : Nat), s.1.length ≤ (rowF nx d s i x).1.length
  | 0, s, i, x => Nat.le_refl _
  | d + 1, s, i, x => Nat.le_trans (visit_len s i x) (rowF_len d _ i (x + 1))
theorem bfs_len : ∀ (f : Nat) (s : List Int × List (List Int)) (i : Nat), s.1.length ≤ (bfsF nx K f s i).1.length
  | 0, s, i => Nat.le_refl _
  | f + 1, s, i => by
    unfold bfsF
    split
    · exact Nat.le_trans (rowF_len K s i 0) (bfs_len f _ (i + 1))
    · exact Nat.le_refl _
theorem bfs_up : ∀ (f : Nat) (s : List Int × List (List Int)) (i : Nat), (bfsF nx K f s i).1.length < i + f → bfsF nx K (f + 1) s i = bfsF nx K f s i
  | 0, s, i, h => by
    have h' : s.1.length < i + 0 := h
    show (if i < s.1.length then _ else s) = s
    rw [if_neg (by omega)]
  | f + 1, s, i, h => by
    by_cases hi : i < s.1.length
    · have e : ∀ g, bfsF nx K (g + 1) s i = bfsF nx K g (rowF nx K s i 0) (i + 1) := fun g => by
        show (if i < s.1.length then _ else s) = _
        rw [if_pos hi]
      rw [e] at h
      rw [e (f + 1), e f]
      exact bfs_up f _ (i + 1) (by omega)
    · have e : ∀ g, bfsF nx K (g + 1) s i = s := fun g => by
        show (if i < s.1.length then _ else s) = _
        rw [if_neg hi]
      rw [e (f + 1), e f]
theorem bfs_down : ∀ (f : Nat) (s : List Int × List (List Int)) (i : Nat), (bfsF nx K (f + 1) s i).1.length < i + f → bfsF nx K f s i = bfsF nx K (f + 1) s i
  | 0, s, i, h => by
    have hl := bfs_len (nx := nx) (K := K) (0 + 1) s i
    show s = (if i < s.1.length then _ else s)
    rw [if_neg (by omega)]
  | f + 1, s, i, h => by
    by_cases hi : i < s.1.length
    · have e : ∀ g, bfsF nx K (g + 1) s i = bfsF nx K g (rowF nx K s i 0) (i + 1) := fun g => by
        show (if i < s.1.length then _ else s) = _
        rw [if_pos hi]
      rw [e (f + 1)] at h
      rw [e (f + 1), e f]
      exact bfs_down f _ (i + 1) (by omega)
    · have e : ∀ g, bfsF nx K (g + 1) s i = s := fun g => by
        show (if i < s.1.length then _ else s) = _
        rw [if_neg hi]
      rw [e (f + 1), e f]
theorem bfs_ups (g : Nat) (s : List Int × List (List Int)) (i : Nat) (h : (bfsF nx K g s i).1.length < i + g) : ∀ d, bfsF nx K (g + d) s i = bfsF nx K g s i
  | 0 => rfl
  | d + 1 => by
    have ih := bfs_ups g s i h d
    have := bfs_up (nx := nx) (K := K) (g + d) s i (by rw [ih]; omega)
    rw [ih] at this
    exact this
theorem bfs_downs (n : Nat) (s : List Int × List (List Int)) (i : Nat) : ∀ (d g : Nat), n < i + g → (bfsF nx K (g + d) s i).1.length = n → bfsF nx K g s i = bfsF nx K (g + d) s i
  | 0, g, _, _ => rfl
  | d + 1, g, hg, hn => by
    have hd := bfs_down (nx := nx) (K := K) (g + d) s i (by
      have : (bfsF nx K (g + d + 1) s i).1.length = n := hn
      omega)
    have ih := bfs_downs n s i d g hg (by rw [hd]; exact hn)
    rw [ih, hd]
    rfl
theorem bfs_fuel (g g' : Nat) (s : List Int × List (List Int)) (i : Nat) (h : (bfsF nx K g s i).1.length < i + g) (h' : (bfsF nx K g s i).1.length < i + g') : bfsF nx K g' s i = bfsF nx K g s i := by
  rcases Nat.le_total g g' with hle | hle
  · obtain ⟨d, rfl⟩ : ∃ d, g' = g + d := ⟨g' - g, by omega⟩
    exact bfs_ups g s i h d
  · obtain ⟨d, rfl⟩ : ∃ d, g = g' + d := ⟨g - g', by omega⟩
    exact bfs_downs _ s i d g' h' rfl

/-! ### other numbers -/
variable {nx' : Int → Int → Int} {h : Int → Int} {C : Int → Prop}
def mapS (h : Int → Int) (s : List Int × List (List Int)) : List Int × List (List Int) := (s.1.map h, s.2)
theorem map_getD (l : List Int) {i : Nat} (hi : i < l.length) : (l.map h).getD i 0 = h (l.getD i 0) := by
  rw [List.getD_eq_getElem?_getD, List.getD_eq_getElem?_getD, List.getElem?_map, List.getElem?_eq_getElem hi]
  rfl
variable (hinj : ∀ s t, C s → C t → h s = h t → s = t) (hcl : ∀ (s : Int) (x : Nat), C s → x < K → C (nx s x)) (hst : ∀ (s : Int) (x : Nat), C s → x < K → nx' (h s) x = h (nx s x))
include hinj hcl hst
theorem map_visit {s : List Int × List (List Int)} {i x : Nat} (hs : ∀ t ∈ s.1, C t) (hi : i < s.1.length) (hx : x < K) : visit nx' (mapS h s) i x = mapS h (visit nx s i x) ∧ ∀ t ∈ (visit nx s i x).1, C t := by
  have hc := hs _ (getD_mem hi)
  have hc2 := hcl _ x hc hx
  have e : nx' ((mapS h s).1.getD i 0) x = h (nx (s.1.getD i 0) x) := by
    show nx' ((s.1.map h).getD i 0) x = _
    rw [map_getD _ hi, hst _ x hc hx]
  have hm : (nx' ((mapS h s).1.getD i 0) x ∈ (mapS h s).1) ↔ nx (s.1.getD i 0) x ∈ s.1 := by
    rw [e]
    constructor
    · intro hh
      obtain ⟨t, ht, et⟩ := List.mem_map.mp hh
      rw [← hinj t _ (hs t ht) hc2 et]
      exact ht
    · exact fun hh => List.mem_map.mpr ⟨_, hh, rfl⟩
  unfold visit
  by_cases hh : nx (s.1.getD i 0) x ∈ s.1
  · rw [if_pos (hm.mpr hh), if_pos hh]
    exact ⟨rfl, hs⟩
  · rw [if_neg (fun q => hh (hm.mp q)), if_neg hh, e]
    refine ⟨?_, ?_⟩
    · simp [mapS]
    · intro t ht
      rcases List.mem_append.mp ht with ht | ht
      · exact hs t ht
      · simp at ht
        subst ht
        exact hc2
theorem map_row : ∀ (d : Nat) {s : List Int × List (List Int)} {i x : Nat}, (∀ t ∈ s.1, C t) → i < s.1.length → x + d = K → rowF nx' d (mapS h s) i x = mapS h (rowF nx d s i x) ∧ ∀ t ∈ (rowF nx d s i x).1, C t
  | 0, s, i, x, hs, _, _ => ⟨rfl, hs⟩
  | d + 1, s, i, x, hs, hi, hx => by
    obtain ⟨e, hs'⟩ := map_visit hinj hcl hst hs hi (by omega : x < K)
    have hl := visit_len (nx := nx) s i x
    show rowF nx' d (visit nx' (mapS h s) i x) i (x + 1) = _ ∧ _
    rw [e]
    exact map_row d hs' (by omega) (by omega)
theorem map_bfs : ∀ (f : Nat) {s : List Int × List (List Int)} {i : Nat}, (∀ t ∈ s.1, C t) → bfsF nx' K f (mapS h s) i = mapS h (bfsF nx K f s i)
  | 0, s, i, _ => rfl
  | f + 1, s, i, hs => by
    have hl : (mapS h s).1.length = s.1.length := by simp [mapS]
    unfold bfsF
    rw [hl]
    by_cases hi : i < s.1.length
    · rw [if_pos hi, if_pos hi]
      obtain ⟨e, hs'⟩ := map_row hinj hcl hst K hs hi (by omega : 0 + K = K)
      rw [e]
      exact map_bfs f hs'
    · rw [if_neg hi, if_neg hi]
end

/-- Rows of rows that read the same are the same. -/
theorem rows_eq {A B : List Int} {n : Nat} {K : Int} (hK : 1 ≤ K) (hA : A.length = n * K.toNat) (hB : B.length = n * K.toNat) (h : ∀ j x : Nat, j < n → (x : Int) < K → rd A ((j : Int) * K + x) = rd B ((j : Int) * K + x)) : A = B := by
  refine List.ext_getElem (by rw [hA, hB]) (fun p h1 h2 => ?_)
  have hKp : 0 < K.toNat := by omega
  have hj : p / K.toNat < n := Nat.div_lt_of_lt_mul (by rw [Nat.mul_comm, ← hA]; exact h1)
  have hx := Nat.mod_lt p hKp
  have ep : ((p / K.toNat : Nat) : Int) * K + ((p % K.toNat : Nat) : Int) = (p : Int) := by
    have h := Nat.div_add_mod p K.toNat
    have h2 : ((K.toNat * (p / K.toNat) + p % K.toNat : Nat) : Int) = (p : Int) := by rw [h]
    rw [Int.natCast_add, Int.natCast_mul, Int.toNat_of_nonneg (by omega), Int.mul_comm] at h2
    exact h2
  have := h (p / K.toNat) (p % K.toNat) hj (by omega)
  rw [ep, rd_getElem h1, rd_getElem h2] at this
  exact this

theorem wf_inR {l : List Int} {n : Int} (h : InR l n) (hn : n ≤ 1024) : ∀ x ∈ l, (Lit.int .i64 x).wf = true := fun x hx => by
  have := h x hx
  exact wf_key this.1 (by omega)

section
variable {a0 a1 a2 a3 b3 : Int} {l4 l5 k4 k5 : List Int} (hM : RightM a0 a1 a2 a3 l4 l5) (hM' : RightM a0 a1 a2 b3 k4 k5) {h : Int → Int}
  (h0 : h 0 = 0) (hr : ∀ s ∈ (reachS a1 a3 l4).1, 0 ≤ h s ∧ h s < b3) (hinj : ∀ s ∈ (reachS a1 a3 l4).1, ∀ t ∈ (reachS a1 a3 l4).1, h s = h t → s = t)
  (hst : ∀ s ∈ (reachS a1 a3 l4).1, ∀ x : Nat, (x : Int) < a1 → nxM a1 k4 (h s) x = h (nxM a1 l4 s x))
  (hout : ∀ s ∈ (reachS a1 a3 l4).1, ∀ x : Nat, (x : Int) < eachM a0 a1 → rd k5 (h s * eachM a0 a1 + x) = rd l5 (s * eachM a0 a1 + x))
include hM h0 hr hinj hst

theorem reach_map : reachS a1 b3 k4 = mapS h (reachS a1 a3 l4) := by
  have hinv := reach_inv hM
  have hk1 := hM.k1
  have hcl : ∀ (s : Int) (x : Nat), s ∈ (reachS a1 a3 l4).1 → x < a1.toNat → nxM a1 l4 s x ∈ (reachS a1 a3 l4).1 := by
    intro s x hs hx
    obtain ⟨j, hj, rfl⟩ := mem_getD hs
    obtain ⟨q, hq, e, _⟩ := hinv.clo j x hx (.inl hj) hj
    rw [← e]
    exact getD_mem hq
  have hb := map_bfs (nx := nxM a1 l4) (nx' := nxM a1 k4) (K := a1.toNat) (h := h) (C := fun s => s ∈ (reachS a1 a3 l4).1) (fun s t hs ht e => hinj s hs t ht e) hcl (fun s x hs hx => hst s hs x (by omega)) (b3.toNat + 1) (s := Bfs.start) (i := 0) (by
    intro t ht
    simp [Bfs.start] at ht
    subst ht
    have := getD_mem hinv.pos
    rw [hinv.s0] at this
    exact this)
  have es : mapS h Bfs.start = Bfs.start := by simp [mapS, Bfs.start, h0]
  rw [es] at hb
  have hn := (slen hM hinv).1
  have hn2 : (reachS a1 a3 l4).1.length ≤ b3.toNat := by
    have hnd : ((reachS a1 a3 l4).1.map h).Nodup := by
      refine List.pairwise_iff_getElem.mpr (fun i j hi hj hij => ?_)
      simp only [List.length_map] at hi hj
      rw [List.getElem_map, List.getElem_map]
      intro e
      have := hinj _ (List.getElem_mem hi) _ (List.getElem_mem hj) e
      exact (List.pairwise_iff_getElem.mp hinv.nodup) i j hi hj hij this
    have := nodup_len b3.toNat _ hnd (by
      intro t ht
      obtain ⟨s, hs, rfl⟩ := List.mem_map.mp ht
      have := hr s hs
      omega)
    simpa using this
  have hf := bfs_fuel (nx := nxM a1 l4) (K := a1.toNat) (a3.toNat + 1) (b3.toNat + 1) Bfs.start 0 (by show (reachS a1 a3 l4).1.length < _; omega) (by show (reachS a1 a3 l4).1.length < _; omega)
  show bfsF _ _ _ _ _ = _
  rw [hb, hf]
  rfl

include hM' hout
theorem canon_same : ((reachS a1 b3 k4).1.length : Int) = ((reachS a1 a3 l4).1.length : Int) ∧ canN a1 b3 k4 = canN a1 a3 l4 ∧ canO a0 a1 b3 k4 k5 = canO a0 a1 a3 l4 l5 := by
  have hm := reach_map hM h0 hr hinj hst
  have hinv := reach_inv hM
  have hinv' := reach_inv hM'
  have hk1 := hM.k1
  have hb := each_bd hM
  have hl : (reachS a1 b3 k4).1.length = (reachS a1 a3 l4).1.length := by rw [hm]; simp [mapS]
  have hg : ∀ j, j < (reachS a1 a3 l4).1.length → (reachS a1 b3 k4).1.getD j 0 = h ((reachS a1 a3 l4).1.getD j 0) := by
    intro j hj
    rw [hm]
    exact map_getD _ hj
  refine ⟨by rw [hl], ?_, ?_⟩
  · refine rows_eq (n := (reachS a1 a3 l4).1.length) hk1 (by rw [canN_len hM', hl]) (canN_len hM) (fun j x hj hx => ?_)
    obtain ⟨q, hq, e1, e2⟩ := can_step hM hj hx
    obtain ⟨q', hq', e3, e4⟩ := can_step hM' (by rw [hl]; exact hj) hx
    rw [hg j hj, hst _ (getD_mem hj) x hx, ← e2, hg q' (by omega)] at e4
    have := hinv.inj (by omega : q' < _) hq (hinj _ (getD_mem (by omega)) _ (getD_mem hq) e4)
    show nxM a1 (canN a1 b3 k4) (j : Int) (x : Int) = nxM a1 (canN a1 a3 l4) (j : Int) (x : Int)
    rw [e1, e3, this]
  · refine rows_eq (n := (reachS a1 a3 l4).1.length) hb.1 (by rw [canO_len hM', hl]) (canO_len hM) (fun j x hj hx => ?_)
    rw [can_out hM hj hx, can_out hM' (by rw [hl]; exact hj) hx, hg j hj]
    exact hout _ (getD_mem hj) x hx
end

section
variable {a0 a1 a2 a3 : Int} {l4 l5 : List Int} (hM : RightM a0 a1 a2 a3 l4 l5)
include hM
/-- Canon of Canon is it. -/
theorem canon_again : ((reachS a1 ((reachS a1 a3 l4).1.length : Int) (canN a1 a3 l4)).1.length : Int) = ((reachS a1 a3 l4).1.length : Int) ∧ canN a1 ((reachS a1 a3 l4).1.length : Int) (canN a1 a3 l4) = canN a1 a3 l4 ∧
    canO a0 a1 ((reachS a1 a3 l4).1.length : Int) (canN a1 a3 l4) (canO a0 a1 a3 l4 l5) = canO a0 a1 a3 l4 l5 := by
  have hinv := reach_inv hM
  have hp : ∀ j, j < (reachS a1 a3 l4).1.length → rd (placeM a1 a3 l4) ((reachS a1 a3 l4).1.getD j 0) = (j : Int) := fun j hj => place_of hM hj
  refine canon_same hM (canon_isRight hM) (h := rd (placeM a1 a3 l4)) ?_ ?_ ?_ ?_ ?_
  · have := hp 0 hinv.pos
    rw [hinv.s0] at this
    exact this
  · intro s hs
    obtain ⟨j, hj, rfl⟩ := mem_getD hs
    rw [hp j hj]
    omega
  · intro s hs t ht e
    obtain ⟨j, hj, rfl⟩ := mem_getD hs
    obtain ⟨k, hk, rfl⟩ := mem_getD ht
    rw [hp j hj, hp k hk] at e
    have : j = k := by omega
    rw [this]
  · intro s hs x hx
    obtain ⟨j, hj, rfl⟩ := mem_getD hs
    obtain ⟨q, hq, e1, e2⟩ := can_step hM hj hx
    rw [hp j hj, e1, ← e2, hp q hq]
  · intro s hs x hx
    obtain ⟨j, hj, rfl⟩ := mem_getD hs
    rw [hp j hj]
    exact can_out hM hj hx

end
end Go.Proofs.Ytllgeljacmpdjaa.PTrim
