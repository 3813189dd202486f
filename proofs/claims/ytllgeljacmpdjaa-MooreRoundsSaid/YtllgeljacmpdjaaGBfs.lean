/- Going through states in the order of words: the plain law. No program in sight. -/
namespace Go.Proofs.Ytllgeljacmpdjaa.Bfs

/-! ### the order of words: shorter ones first, then symbol by symbol -/
def lexlt : List Int → List Int → Bool
  | x :: a, y :: b => if x = y then lexlt a b else decide (x < y)
  | _, _ => false
def ah (a b : List Int) : Bool := if a.length = b.length then lexlt a b else decide (a.length < b.length)

theorem lexlt_irrefl : ∀ a : List Int, lexlt a a = false
  | [] => rfl
  | x :: a => by simp [lexlt, lexlt_irrefl a]
theorem lexlt_trans : ∀ {a b c : List Int}, a.length = b.length → b.length = c.length → lexlt a b = true → lexlt b c = true → lexlt a c = true
  | [], b, c, h1, h2, h, _ => by simp [lexlt] at h
  | x :: a, [], c, h1, h2, h, _ => by simp at h1
  | x :: a, y :: b, [], h1, h2, h, _ => by simp at h2
  | x :: a, y :: b, z :: c, h1, h2, hab, hbc => by
    simp only [List.length_cons, Nat.add_right_cancel_iff] at h1 h2
    simp only [lexlt] at hab hbc ⊢
    by_cases e1 : x = y
    · subst e1
      rw [if_pos rfl] at hab
      by_cases e2 : x = z
      · subst e2
        rw [if_pos rfl] at hbc ⊢
        exact lexlt_trans h1 h2 hab hbc
      · rw [if_neg e2] at hbc ⊢
        exact hbc
    · rw [if_neg e1] at hab
      have l1 := of_decide_eq_true hab
      by_cases e2 : y = z
      · subst e2
        rw [if_neg e1]
        exact hab
      · rw [if_neg e2] at hbc
        have l2 := of_decide_eq_true hbc
        rw [if_neg (by omega)]
        exact decide_eq_true (by omega)
theorem lexlt_append : ∀ {a b : List Int} (c d : List Int), a.length = b.length → lexlt (a ++ c) (b ++ d) = if a = b then lexlt c d else lexlt a b
  | [], [], c, d, _ => by simp
  | [], y :: b, c, d, h => by simp at h
  | x :: a, [], c, d, h => by simp at h
  | x :: a, y :: b, c, d, h => by
    simp only [List.length_cons, Nat.add_right_cancel_iff] at h
    simp only [List.cons_append, lexlt]
    by_cases e : x = y
    · subst e
      rw [if_pos rfl, lexlt_append c d h]
      by_cases e2 : a = b
      · subst e2; simp
      · rw [if_neg e2, if_neg (by simpa using e2), if_pos rfl]
    · rw [if_neg e, if_neg (by simp [e]), if_neg e]
theorem lexlt_total : ∀ {a b : List Int}, a.length = b.length → a ≠ b → lexlt a b = true ∨ lexlt b a = true
  | [], [], _, h => absurd rfl h
  | [], y :: b, h, _ => by simp at h
  | x :: a, [], h, _ => by simp at h
  | x :: a, y :: b, h, hne => by
    simp only [List.length_cons, Nat.add_right_cancel_iff] at h
    simp only [lexlt]
    by_cases e : x = y
    · subst e
      rw [if_pos rfl, if_pos rfl]
      exact lexlt_total h (fun e2 => hne (by rw [e2]))
    · rw [if_neg e, if_neg (fun e2 => e e2.symm)]
      rcases Int.lt_or_gt_of_ne e with h1 | h1
      · exact .inl (decide_eq_true h1)
      · exact .inr (decide_eq_true h1)

theorem ah_irrefl (a : List Int) : ah a a = false := by simp [ah, lexlt_irrefl]
theorem ah_len {a b : List Int} (h : ah a b = true) : a.length ≤ b.length := by
  unfold ah at h
  split at h
  · omega
  · have := of_decide_eq_true h; omega
theorem ah_trans {a b c : List Int} (h1 : ah a b = true) (h2 : ah b c = true) : ah a c = true := by
  have l1 := ah_len h1
  have l2 := ah_len h2
  unfold ah at h1 h2 ⊢
  by_cases e1 : a.length = b.length
  · rw [if_pos e1] at h1
    by_cases e2 : b.length = c.length
    · rw [if_pos e2] at h2
      rw [if_pos (by omega)]
      exact lexlt_trans e1 e2 h1 h2
    · rw [if_neg (by omega)]
      exact decide_eq_true (by omega)
  · rw [if_neg (by omega)]
    exact decide_eq_true (by omega)
theorem ah_total {a b : List Int} (hne : a ≠ b) : ah a b = true ∨ ah b a = true := by
  unfold ah
  by_cases e : a.length = b.length
  · rw [if_pos e, if_pos e.symm]
    exact lexlt_total e hne
  · rw [if_neg e, if_neg (fun h => e h.symm)]
    rcases Nat.lt_or_gt_of_ne e with h | h
    · exact .inl (decide_eq_true h)
    · exact .inr (decide_eq_true h)
theorem ah_asymm {a b : List Int} (h : ah a b = true) : ah b a = false := by
  cases hb : ah b a
  · rfl
  · have := ah_trans h hb
    rw [ah_irrefl] at this
    cases this
/-- One more symbol behind words that are in order. -/
theorem ah_snoc {a b : List Int} (h : ah a b = true) (x y : Int) : ah (a ++ [x]) (b ++ [y]) = true := by
  unfold ah at h ⊢
  simp only [List.length_append, List.length_cons, List.length_nil, Nat.add_right_cancel_iff]
  by_cases e : a.length = b.length
  · rw [if_pos e] at h ⊢
    rw [lexlt_append _ _ e, if_neg]
    · exact h
    · rintro rfl
      rw [lexlt_irrefl] at h
      cases h
  · rw [if_neg e] at h ⊢
    have := of_decide_eq_true h
    exact decide_eq_true (by omega)
theorem ah_last (a : List Int) {x y : Int} (h : x < y) : ah (a ++ [x]) (a ++ [y]) = true := by
  unfold ah
  rw [if_pos (by simp), lexlt_append _ _ rfl, if_pos rfl]
  simp only [lexlt]
  rw [if_neg (by omega)]
  exact decide_eq_true h
theorem ah_nil (a : List Int) : ah a [] = false := by
  unfold ah
  cases a <;> simp [lexlt]
/-- not ahead, one more symbol behind -/
theorem not_ah_snoc {u v : List Int} (h : ah u v = false) (y : Int) : ah (u ++ [y]) (v ++ [y]) = false := by
  by_cases e : u = v
  · subst e; exact ah_irrefl _
  · rcases ah_total e with h1 | h1
    · rw [h] at h1; cases h1
    · exact ah_asymm (ah_snoc h1 y y)
theorem not_ah_trans {a b c : List Int} (h1 : ah a b = false) (h2 : ah b c = false) : ah a c = false := by
  by_cases e : a = b
  · subst e; exact h2
  · rcases ah_total e with h | h
    · rw [h1] at h; cases h
    · by_cases e2 : b = c
      · subst e2; exact h1
      · rcases ah_total e2 with h3 | h3
        · rw [h2] at h3; cases h3
        · exact ah_asymm (ah_trans h3 h)

/-! ### the states, one by one -/
section
variable (nx : Int → Int → Int) (K : Nat) (N : Int)

def visit (s : List Int × List (List Int)) (i x : Nat) : List Int × List (List Int) :=
  if nx (s.1.getD i 0) x ∈ s.1 then s else (s.1 ++ [nx (s.1.getD i 0) x], s.2 ++ [s.2.getD i [] ++ [(x : Int)]])
/-- d more symbols, from x on -/
def rowF : Nat → List Int × List (List Int) → Nat → Nat → List Int × List (List Int)
  | 0, s, _, _ => s
  | d + 1, s, i, x => rowF d (visit nx s i x) i (x + 1)
def bfsF : Nat → List Int × List (List Int) → Nat → List Int × List (List Int)
  | 0, s, _ => s
  | f + 1, s, i => if i < s.1.length then bfsF f (rowF nx K s i 0) (i + 1) else s
def start : List Int × List (List Int) := ([0], [[]])

def before (p y i x : Nat) : Prop := p < i ∨ (p = i ∧ y < x)

structure Inv (s : List Int × List (List Int)) (i x : Nat) : Prop where
  len : s.1.length = s.2.length
  pos : 0 < s.1.length
  s0 : s.1.getD 0 0 = 0
  w0 : s.2.getD 0 [] = []
  nodup : s.1.Nodup
  rng : ∀ t ∈ s.1, 0 ≤ t ∧ t < N
  par : ∀ j, 0 < j → j < s.1.length → ∃ p y : Nat, p < j ∧ y < K ∧ before p y i x ∧ s.1.getD j 0 = nx (s.1.getD p 0) y ∧ s.2.getD j [] = s.2.getD p [] ++ [(y : Int)]
  clo : ∀ p y : Nat, y < K → before p y i x → p < s.1.length → ∃ j, j < s.1.length ∧ s.1.getD j 0 = nx (s.1.getD p 0) y ∧ ah (s.2.getD p [] ++ [(y : Int)]) (s.2.getD j []) = false
  ord : ∀ j k, j < k → k < s.1.length → ah (s.2.getD j []) (s.2.getD k []) = true

variable {nx K N}

theorem inv_start (hN : 0 < N) : Inv nx K N start 0 0 where
  len := rfl
  pos := by decide
  s0 := rfl
  w0 := rfl
  nodup := by simp [start]
  rng := by
    intro t ht
    simp [start] at ht
    subst ht
    exact ⟨Int.le_refl _, hN⟩
  par := by
    intro j h0 h1
    simp [start] at h1
    omega
  clo := by
    intro p y _ hb
    rcases hb with hb | ⟨_, hb⟩ <;> omega
  ord := by
    intro j k h0 h1
    simp [start] at h1
    omega

theorem getD_snoc_lt {α : Type} (l : List α) (a d : α) {j : Nat} (h : j < l.length) : (l ++ [a]).getD j d = l.getD j d := by
  rw [List.getD_eq_getElem?_getD, List.getD_eq_getElem?_getD, List.getElem?_append_left h]
theorem getD_snoc_eq {α : Type} (l : List α) (a d : α) : (l ++ [a]).getD l.length d = a := by
  rw [List.getD_eq_getElem?_getD, List.getElem?_append_right (Nat.le_refl _)]
  simp
theorem getD_mem {l : List Int} {j : Nat} (h : j < l.length) : l.getD j 0 ∈ l := by
  rw [List.getD_eq_getElem?_getD, List.getElem?_eq_getElem h]
  exact List.getElem_mem h
theorem mem_getD {l : List Int} {t : Int} (h : t ∈ l) : ∃ j, j < l.length ∧ l.getD j 0 = t := by
  obtain ⟨j, hj, e⟩ := List.getElem_of_mem h
  exact ⟨j, hj, by rw [List.getD_eq_getElem?_getD, List.getElem?_eq_getElem hj]; exact e⟩

/-- A word that comes from an earlier pair is ahead. -/
theorem Inv.ahead {s : List Int × List (List Int)} {i x p y : Nat} (h : Inv nx K N s i x) (hb : before p y i x) (hi : i < s.1.length) : ah (s.2.getD p [] ++ [(y : Int)]) (s.2.getD i [] ++ [(x : Int)]) = true := by
  rcases hb with hb | ⟨rfl, hb⟩
  · exact ah_snoc (h.ord p i hb hi) _ _
  · exact ah_last _ (by omega)

theorem before_step {p y i x : Nat} (h : before p y i (x + 1)) : before p y i x ∨ (p = i ∧ y = x) := by
  rcases h with h | ⟨h1, h2⟩
  · exact .inl (.inl h)
  · by_cases e : y = x
    · exact .inr ⟨h1, e⟩
    · exact .inl (.inr ⟨h1, by omega⟩)
theorem before_more {p y i x : Nat} (h : before p y i x) : before p y i (x + 1) := by
  rcases h with h | ⟨h1, h2⟩
  · exact .inl h
  · exact .inr ⟨h1, by omega⟩

theorem inv_visit {s : List Int × List (List Int)} {i x : Nat} (h : Inv nx K N s i x) (hi : i < s.1.length) (hx : x < K) (hn : 0 ≤ nx (s.1.getD i 0) x ∧ nx (s.1.getD i 0) x < N) : Inv nx K N (visit nx s i x) i (x + 1) := by
  unfold visit
  split
  · rename_i hm
    refine { len := h.len, pos := h.pos, s0 := h.s0, w0 := h.w0, nodup := h.nodup, rng := h.rng, par := ?_, clo := ?_, ord := h.ord }
    · intro j h0 h1
      obtain ⟨p, y, a, b, c, d⟩ := h.par j h0 h1
      exact ⟨p, y, a, b, before_more c, d⟩
    · intro p y hy hb hp
      rcases before_step hb with hb | ⟨rfl, rfl⟩
      · exact h.clo p y hy hb hp
      · obtain ⟨j, hj, e⟩ := mem_getD hm
        refine ⟨j, hj, e, ?_⟩
        by_cases hj0 : j = 0
        · subst hj0
          rw [h.w0]
          exact ah_nil _
        · obtain ⟨p', y', _, _, hb', _, ew⟩ := h.par j (by omega) hj
          rw [ew]
          exact ah_asymm (h.ahead hb' hp)
  · rename_i hm
    have hlen : s.2.length = s.1.length := h.len.symm
    refine { len := by simp [h.len], pos := by simp, s0 := ?_, w0 := ?_, nodup := ?_, rng := ?_, par := ?_, clo := ?_, ord := ?_ }
    · show (s.1 ++ [_]).getD 0 0 = 0
      rw [getD_snoc_lt _ _ _ h.pos]; exact h.s0
    · show (s.2 ++ [_]).getD 0 [] = []
      rw [getD_snoc_lt _ _ _ (by rw [hlen]; exact h.pos)]; exact h.w0
    · show (s.1 ++ [_]).Nodup
      rw [List.nodup_append]
      refine ⟨h.nodup, by simp, ?_⟩
      intro a ha b hb e
      simp at hb
      subst hb
      subst e
      exact hm ha
    · intro t ht
      have ht' : t ∈ s.1 ++ [nx (s.1.getD i 0) x] := ht
      rcases List.mem_append.mp ht' with ht' | ht'
      · exact h.rng t ht'
      · simp at ht'
        subst ht'
        exact hn
    · intro j h0 h1
      have h1' : j < s.1.length + 1 := by simpa using h1
      by_cases hj : j < s.1.length
      · obtain ⟨p, y, a, b, c, d, e⟩ := h.par j h0 hj
        refine ⟨p, y, a, b, before_more c, ?_, ?_⟩
        · show (s.1 ++ [_]).getD j 0 = nx ((s.1 ++ [_]).getD p 0) y
          rw [getD_snoc_lt _ _ _ hj, getD_snoc_lt _ _ _ (by omega)]; exact d
        · show (s.2 ++ [_]).getD j [] = (s.2 ++ [_]).getD p [] ++ [_]
          rw [getD_snoc_lt _ _ _ (by omega), getD_snoc_lt _ _ _ (by omega)]; exact e
      · have hj' : j = s.1.length := by omega
        refine ⟨i, x, by omega, hx, .inr ⟨rfl, by omega⟩, ?_, ?_⟩
        · show (s.1 ++ [_]).getD j 0 = nx ((s.1 ++ [_]).getD i 0) x
          rw [hj', getD_snoc_eq, getD_snoc_lt _ _ _ hi]
        · show (s.2 ++ [_]).getD j [] = (s.2 ++ [_]).getD i [] ++ [_]
          rw [hj', ← hlen, getD_snoc_eq, getD_snoc_lt _ _ _ (by omega)]
    · intro p y hy hb hp
      have hp' : p < s.1.length + 1 := by simpa using hp
      have hpi : p ≤ i := by rcases hb with hb | ⟨hb, _⟩ <;> omega
      rcases before_step hb with hb | ⟨rfl, rfl⟩
      · obtain ⟨j, hj, e, ew⟩ := h.clo p y hy hb (by omega)
        refine ⟨j, by simp; omega, ?_, ?_⟩
        · show (s.1 ++ [_]).getD j 0 = nx ((s.1 ++ [_]).getD p 0) y
          rw [getD_snoc_lt _ _ _ hj, getD_snoc_lt _ _ _ (by omega)]; exact e
        · show ah ((s.2 ++ [_]).getD p [] ++ [_]) ((s.2 ++ [_]).getD j []) = false
          rw [getD_snoc_lt _ _ _ (by omega), getD_snoc_lt _ _ _ (by omega)]; exact ew
      · refine ⟨s.1.length, by simp, ?_, ?_⟩
        · show (s.1 ++ [_]).getD s.1.length 0 = nx ((s.1 ++ [_]).getD p 0) y
          rw [getD_snoc_eq, getD_snoc_lt _ _ _ hi]
        · show ah ((s.2 ++ [_]).getD p [] ++ [_]) ((s.2 ++ [_]).getD s.1.length []) = false
          rw [← hlen, getD_snoc_eq, getD_snoc_lt _ _ _ (by omega)]
          exact ah_irrefl _
    · intro j k hjk hk
      have hk' : k < s.1.length + 1 := by simpa using hk
      show ah ((s.2 ++ [_]).getD j []) ((s.2 ++ [_]).getD k []) = true
      by_cases e : k < s.1.length
      · rw [getD_snoc_lt _ _ _ (by omega), getD_snoc_lt _ _ _ (by omega)]
        exact h.ord j k hjk e
      · have e' : k = s.2.length := by omega
        rw [e', getD_snoc_eq, getD_snoc_lt _ _ _ (by omega)]
        by_cases hj0 : j = 0
        · subst hj0
          rw [h.w0]
          unfold ah
          rw [if_neg (by simp)]
          exact decide_eq_true (by simp)
        · obtain ⟨p', y', _, _, hb', _, ew⟩ := h.par j (by omega) (by omega)
          rw [ew]
          exact h.ahead hb' hi

theorem visit_grows (s : List Int × List (List Int)) (i x : Nat) : ∃ u v, visit nx s i x = (s.1 ++ u, s.2 ++ v) := by
  unfold visit
  split
  · exact ⟨[], [], by simp⟩
  · exact ⟨_, _, rfl⟩
theorem visit_len (s : List Int × List (List Int)) (i x : Nat) : s.1.length ≤ (visit nx s i x).1.length := by
  unfold visit
  split <;> simp

theorem inv_row : ∀ (d : Nat) {s : List Int × List (List Int)} {i x : Nat}, x + d = K → Inv nx K N s i x → i < s.1.length →
    (∀ t y : Int, 0 ≤ t → t < N → 0 ≤ y → y < K → 0 ≤ nx t y ∧ nx t y < N) → Inv nx K N (rowF nx d s i x) i K ∧ s.1.length ≤ (rowF nx d s i x).1.length
  | 0, s, i, x, hd, h, hi, _ => by
    obtain rfl : x = K := by omega
    exact ⟨h, Nat.le_refl _⟩
  | d + 1, s, i, x, hd, h, hi, hn => by
    have hr := h.rng _ (getD_mem hi)
    have h' := inv_visit h hi (by omega) (hn _ _ hr.1 hr.2 (by omega) (by omega))
    have hl := visit_len (nx := nx) s i x
    obtain ⟨a, b⟩ := inv_row d (by omega) h' (by omega) hn
    exact ⟨a, by show s.1.length ≤ (rowF nx d (visit nx s i x) i (x + 1)).1.length; omega⟩

theorem inv_next {s : List Int × List (List Int)} {i : Nat} (h : Inv nx K N s i K) : Inv nx K N s (i + 1) 0 where
  len := h.len
  pos := h.pos
  s0 := h.s0
  w0 := h.w0
  nodup := h.nodup
  rng := h.rng
  par := by
    intro j h0 h1
    obtain ⟨p, y, a, b, c, d⟩ := h.par j h0 h1
    refine ⟨p, y, a, b, ?_, d⟩
    rcases c with c | ⟨c, _⟩
    · exact .inl (by omega)
    · exact .inl (by omega)
  clo := by
    intro p y hy hb hp
    refine h.clo p y hy ?_ hp
    rcases hb with hb | ⟨_, hb⟩
    · by_cases e : p = i
      · exact .inr ⟨e, hy⟩
      · exact .inl (by omega)
    · omega
  ord := h.ord

/-- As many different numbers below N as N: all of them. -/
theorem nodup_len : ∀ (n : Nat) (S : List Int), S.Nodup → (∀ t ∈ S, 0 ≤ t ∧ t < (n : Int)) → S.length ≤ n
  | 0, S, _, h => by
    cases S with
    | nil => exact Nat.le_refl _
    | cons a S => have := h a (by simp); omega
  | n + 1, S, hd, h => by
    have h2 : (S.filter (fun t => t ≠ (n : Int))).length ≤ n := by
      refine nodup_len n _ (hd.filter _) ?_
      intro t ht
      simp at ht
      have := h t ht.1
      omega
    have h3 : S.length ≤ (S.filter (fun t => t ≠ (n : Int))).length + 1 := by
      have hc : S.count (n : Int) ≤ 1 := List.nodup_iff_count.mp hd _
      have e := List.length_eq_countP_add_countP (p := fun t : Int => decide (t ≠ (n : Int))) (l := S)
      rw [List.countP_eq_length_filter] at e
      have e2 : S.countP (fun t => decide (¬ (decide (t ≠ (n : Int))) = true)) = S.count (n : Int) := by
        rw [List.count]
        congr 1
        funext t
        by_cases ht : t = (n : Int) <;> simp [ht]
      omega
    omega
theorem all_of_full {n : Nat} {S : List Int} (hd : S.Nodup) (h : ∀ t ∈ S, 0 ≤ t ∧ t < (n : Int)) (hl : S.length = n) {t : Int} (h0 : 0 ≤ t) (h1 : t < n) : t ∈ S := by
  by_cases e : t ∈ S
  · exact e
  · exfalso
    have := nodup_len n (t :: S) (List.nodup_cons.mpr ⟨e, hd⟩) (by
      intro u hu
      rcases List.mem_cons.mp hu with rfl | hu
      · exact ⟨h0, h1⟩
      · exact h u hu)
    simp at this
    omega

theorem inv_bfs : ∀ (f : Nat) {s : List Int × List (List Int)} {i : Nat}, Inv nx K N s i 0 → i ≤ s.1.length → (n : Nat) → N = n → n < i + f →
    (∀ t y : Int, 0 ≤ t → t < N → 0 ≤ y → y < K → 0 ≤ nx t y ∧ nx t y < N) →
    ∃ j, Inv nx K N (bfsF nx K f s i) j 0 ∧ j = (bfsF nx K f s i).1.length
  | 0, s, i, h, hi, n, hN, hf, hn => by
    exfalso
    have := nodup_len n s.1 h.nodup (by rw [← hN]; exact h.rng)
    omega
  | f + 1, s, i, h, hi, n, hN, hf, hn => by
    unfold bfsF
    split
    · rename_i hlt
      obtain ⟨a, b⟩ := inv_row K (by omega) h hlt hn
      exact inv_bfs f (inv_next a) (by omega) n hN (by omega) hn
    · exact ⟨i, h, by omega⟩

/-- where nothing new can come, nothing turns -/
theorem visit_full {s : List Int × List (List Int)} {i x : Nat} (h : nx (s.1.getD i 0) x ∈ s.1) : visit nx s i x = s := by
  unfold visit
  rw [if_pos h]
theorem row_full : ∀ (d : Nat) {s : List Int × List (List Int)} {i x : Nat}, (∀ y : Nat, y < x + d → nx (s.1.getD i 0) y ∈ s.1) → rowF nx d s i x = s
  | 0, s, i, x, _ => rfl
  | d + 1, s, i, x, h => by
    unfold rowF
    rw [visit_full (h x (by omega))]
    exact row_full d (fun y hy => h y (by omega))
theorem bfs_full : ∀ (f : Nat) {s : List Int × List (List Int)} {i : Nat}, (∀ j y : Nat, j < s.1.length → y < K → nx (s.1.getD j 0) y ∈ s.1) → bfsF nx K f s i = s
  | 0, s, i, _ => rfl
  | f + 1, s, i, h => by
    unfold bfsF
    split
    · rename_i hlt
      rw [row_full K (fun y hy => h i y hlt (by omega))]
      exact bfs_full f h
    · rfl

/-! ### what has been come to -/
def runTo (nx : Int → Int → Int) (s : Int) (w : List Int) : Int := w.foldl nx s

theorem runTo_snoc (s : Int) (w : List Int) (x : Int) : runTo nx s (w ++ [x]) = nx (runTo nx s w) x := by simp [runTo]

theorem Inv.runs {s : List Int × List (List Int)} {i : Nat} (h : Inv nx K N s i 0) : ∀ j, j < s.1.length → runTo nx 0 (s.2.getD j []) = s.1.getD j 0 := by
  intro j
  induction j using Nat.strongRecOn with
  | ind j ih =>
    intro hj
    by_cases h0 : j = 0
    · subst h0
      rw [h.w0, h.s0]
      rfl
    · obtain ⟨p, y, hp, _, _, es, ew⟩ := h.par j (by omega) hj
      rw [ew, runTo_snoc, ih p hp (by omega), es]

theorem Inv.wlen {s : List Int × List (List Int)} {i x : Nat} (h : Inv nx K N s i x) : ∀ j, j < s.1.length → (s.2.getD j []).length ≤ j := by
  intro j
  induction j using Nat.strongRecOn with
  | ind j ih =>
    intro hj
    by_cases h0 : j = 0
    · subst h0; rw [h.w0]; exact Nat.le_refl _
    · obtain ⟨p, y, hp, _, _, _, ew⟩ := h.par j (by omega) hj
      have := ih p hp (by omega)
      rw [ew, List.length_append]
      simp only [List.length_cons, List.length_nil]
      omega

theorem Inv.syms {s : List Int × List (List Int)} {i x : Nat} (h : Inv nx K N s i x) : ∀ j, j < s.1.length → ∀ y ∈ s.2.getD j [], 0 ≤ y ∧ y < (K : Int) := by
  intro j
  induction j using Nat.strongRecOn with
  | ind j ih =>
    intro hj
    by_cases h0 : j = 0
    · subst h0; rw [h.w0]; intro y hy; cases hy
    · obtain ⟨p, z, hp, hz, _, _, ew⟩ := h.par j (by omega) hj
      rw [ew]
      intro y hy
      rcases List.mem_append.mp hy with hy | hy
      · exact ih p hp (by omega) y hy
      · simp at hy
        subst hy
        omega
theorem Inv.inj {s : List Int × List (List Int)} {i x : Nat} (h : Inv nx K N s i x) {j k : Nat} (hj : j < s.1.length) (hk : k < s.1.length) (e : s.1.getD j 0 = s.1.getD k 0) : j = k := by
  rw [List.getD_eq_getElem?_getD, List.getD_eq_getElem?_getD, List.getElem?_eq_getElem hj, List.getElem?_eq_getElem hk] at e
  have hp := List.pairwise_iff_getElem.mp h.nodup
  rcases Nat.lt_trichotomy j k with hlt | heq | hgt
  · exact absurd e (hp j k hj hk hlt)
  · exact heq
  · exact absurd e.symm (hp k j hk hj hgt)

/-- Each word comes to one of the states, and is not ahead of that state's word. -/
theorem Inv.least {s : List Int × List (List Int)} (h : Inv nx K N s s.1.length 0) : ∀ (w : List Int), (∀ x ∈ w, 0 ≤ x ∧ x < (K : Int)) → ∃ j, j < s.1.length ∧ s.1.getD j 0 = runTo nx 0 w ∧ ah w (s.2.getD j []) = false := by
  suffices H : ∀ (n : Nat) (w : List Int), w.length = n → (∀ x ∈ w, 0 ≤ x ∧ x < (K : Int)) → ∃ j, j < s.1.length ∧ s.1.getD j 0 = runTo nx 0 w ∧ ah w (s.2.getD j []) = false from fun w => H w.length w rfl
  intro n
  induction n with
  | zero =>
    intro w hw _
    obtain rfl := List.length_eq_zero_iff.mp hw
    exact ⟨0, h.pos, by rw [h.s0]; rfl, by rw [h.w0]; exact ah_irrefl _⟩
  | succ n ih =>
    intro w hw hx
    obtain ⟨u, y, rfl⟩ : ∃ u y, w = u ++ [y] := ⟨w.dropLast, w.getLast (by intro e; subst e; simp at hw), (List.dropLast_concat_getLast _).symm⟩
    obtain ⟨p, hp, es, ew⟩ := ih u (by simpa using hw) (fun x hx' => hx x (by simp [hx']))
    have hy := hx y (by simp)
    obtain ⟨z, rfl⟩ : ∃ z : Nat, y = z := ⟨y.toNat, by omega⟩
    obtain ⟨j, hj, ej, ewj⟩ := h.clo p z (by omega) (.inl hp) hp
    refine ⟨j, hj, by rw [ej, runTo_snoc, es], ?_⟩
    exact not_ah_trans (not_ah_snoc ew _) ewj
end

end Go.Proofs.Ytllgeljacmpdjaa.Bfs
