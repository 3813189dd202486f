/- Which states of a machine are alike up to a length: plain; and what moore.After answers of it. -/
import Derived.Test.YtllgeljacmpdjaaGPart
import Derived.Test.YtllgeljacmpdjaaGCan
import Derived.Test.YtllgeljacmpdjaaPTrimxf37
namespace Go.Proofs.Ytllgeljacmpdjaa.PTrim
open Go.RowKit Go.Proofs.YtllgeljacmpdjaaW.PrintWords Go.Proofs.YtllgeljacmpdjaaW.PrintLast Go.Proofs.YtllgeljacmpdjaaW.PrintMore Go.Proofs.Ytllgeljacmpdjaa.Bfs
set_option linter.unusedVariables false

def nxN (a1 : Int) (l4 : List Int) (s x : Nat) : Nat := (nxM a1 l4 s x).toNat
def sayB (a0 a1 : Int) (l5 : List Int) (s t : Nat) : Bool := (List.range (eachM a0 a1).toNat).all fun y => decide (rd l5 ((s : Int) * eachM a0 a1 + (y : Int)) = rd l5 ((t : Int) * eachM a0 a1 + (y : Int)))
/-- alike up to i symbols -/
def eqv (a0 a1 : Int) (l4 l5 : List Int) : Nat → Nat → Nat → Bool
  | 0, s, t => decide (a0 ≠ 1) || sayB a0 a1 l5 s t
  | i + 1, s, t => sayB a0 a1 l5 s t && (List.range a1.toNat).all fun x => eqv a0 a1 l4 l5 i (nxN a1 l4 s x) (nxN a1 l4 t x)

theorem sayB_iff {a0 a1 : Int} {l5 : List Int} {s t : Nat} : sayB a0 a1 l5 s t = true ↔ ∀ y : Nat, (y : Int) < eachM a0 a1 → rd l5 ((s : Int) * eachM a0 a1 + (y : Int)) = rd l5 ((t : Int) * eachM a0 a1 + (y : Int)) := by
  unfold sayB
  rw [List.all_eq_true]
  constructor
  · intro h y hy
    exact of_decide_eq_true (h y (List.mem_range.mpr (by omega)))
  · intro h y hy
    have := List.mem_range.mp hy
    exact decide_eq_true (h y (by omega))
theorem eqv_zero {a0 a1 : Int} {l4 l5 : List Int} {s t : Nat} : eqv a0 a1 l4 l5 0 s t = true ↔ (a0 = 1 → sayB a0 a1 l5 s t = true) := by
  unfold eqv
  by_cases h : a0 = 1 <;> simp [h]
theorem eqv_succ {a0 a1 : Int} {l4 l5 : List Int} {i s t : Nat} : eqv a0 a1 l4 l5 (i + 1) s t = true ↔ sayB a0 a1 l5 s t = true ∧ ∀ x, x < a1.toNat → eqv a0 a1 l4 l5 i (nxN a1 l4 s x) (nxN a1 l4 t x) = true := by
  have e : eqv a0 a1 l4 l5 (i + 1) s t = (sayB a0 a1 l5 s t && (List.range a1.toNat).all fun x => eqv a0 a1 l4 l5 i (nxN a1 l4 s x) (nxN a1 l4 t x)) := rfl
  rw [e, Bool.and_eq_true, List.all_eq_true]
  exact ⟨fun h => ⟨h.1, fun x hx => h.2 x (List.mem_range.mpr hx)⟩, fun h => ⟨h.1, fun x hx => h.2 x (List.mem_range.mp hx)⟩⟩
theorem eqv_down {a0 a1 : Int} {l4 l5 : List Int} : ∀ {i s t : Nat}, eqv a0 a1 l4 l5 (i + 1) s t = true → eqv a0 a1 l4 l5 i s t = true
  | 0, s, t, h => eqv_zero.mpr (fun _ => (eqv_succ.mp h).1)
  | i + 1, s, t, h => eqv_succ.mpr ⟨(eqv_succ.mp h).1, fun x hx => eqv_down ((eqv_succ.mp h).2 x hx)⟩
theorem eqv_downs {a0 a1 : Int} {l4 l5 : List Int} {i : Nat} : ∀ d {s t : Nat}, eqv a0 a1 l4 l5 (i + d) s t = true → eqv a0 a1 l4 l5 i s t = true
  | 0, _, _, h => h
  | d + 1, _, _, h => eqv_downs d (eqv_down h)
theorem eqv_say {a0 a1 : Int} {l4 l5 : List Int} {i s t : Nat} (hi : a0 = 1 ∨ 0 < i) (h : eqv a0 a1 l4 l5 i s t = true) : sayB a0 a1 l5 s t = true := by
  cases i with
  | zero => exact eqv_zero.mp h (by rcases hi with hi | hi; exact hi; omega)
  | succ i => exact (eqv_succ.mp h).1

/-- the numbers of the classes up to i symbols, and how many there are -/
def cls (a0 a1 a3 : Int) (l4 l5 : List Int) : Nat → List Int × Nat
  | 0 => if a0 = 1 then lettersL a3.toNat (eachM a0 a1).toNat l5 (eachM a0 a1).toNat else (List.replicate a3.toNat 0, 1)
  | i + 1 => if a0 ≠ 1 ∧ i = 0 then lettersL a3.toNat (eachM a0 a1).toNat l5 (eachM a0 a1).toNat else finerL a3.toNat a1.toNat l4 (cls a0 a1 a3 l4 l5 i).1 a1.toNat

theorem zeros_num {n : Nat} (hn : 0 < n) : IsNum n (fun _ _ => True) (List.replicate n 0) 1 := by
  have h0 : ∀ m, 0 < m → numS (fun _ => (0, 0)) m = [(0, 0)] := by
    intro m hm
    induction m with
    | zero => omega
    | succ m ih =>
      rcases Nat.eq_zero_or_pos m with h | h
      · subst h; rfl
      · simp only [numS, ih h, numU]
        rfl
  refine ⟨fun _ => (0, 0), fun _ _ _ _ => by simp, ?_, by rw [h0 n hn]; rfl⟩
  unfold numC
  refine List.ext_getElem (by simp) (fun i h1 h2 => ?_)
  rw [List.getElem_replicate, List.getElem_map, h0 _ (by omega)]
  simp

theorem rd_replicate {n : Nat} (i : Int) : rd (List.replicate n 0) i = 0 := by
  unfold rd
  rw [List.getD_eq_getElem?_getD, List.getElem?_replicate]
  split <;> rfl

theorem letters_num {n each : Nat} {l5 : List Int} : ∀ i, 0 < i → IsNum n (fun s t => ∀ y, y < i → rd l5 ((s * each + y : Nat) : Int) = rd l5 ((t * each + y : Nat) : Int)) (lettersL n each l5 i).1 (lettersL n each l5 i).2
  | 0, h => by omega
  | i + 1, _ => by
    refine ⟨letterP (lettersL n each l5 i).1 l5 each i, fun s t hs ht => ?_, rfl, rfl⟩
    have e : letterP (lettersL n each l5 i).1 l5 each i s = letterP (lettersL n each l5 i).1 l5 each i t ↔ rd (lettersL n each l5 i).1 (s : Int) = rd (lettersL n each l5 i).1 (t : Int) ∧ rd l5 ((s * each + i : Nat) : Int) = rd l5 ((t * each + i : Nat) : Int) := by
      unfold letterP
      exact Prod.mk.injEq _ _ _ _ ▸ Iff.rfl
    rw [e]
    have e2 : rd (lettersL n each l5 i).1 (s : Int) = rd (lettersL n each l5 i).1 (t : Int) ↔ ∀ y, y < i → rd l5 ((s * each + y : Nat) : Int) = rd l5 ((t * each + y : Nat) : Int) := by
      rcases Nat.eq_zero_or_pos i with h | h
      · subst h
        simp only [lettersL, rd_replicate]
        simp
      · exact (letters_num i h).eq hs ht
    rw [e2]
    constructor
    · rintro ⟨h1, h2⟩ y hy
      rcases Nat.lt_or_ge y i with h | h
      · exact h1 y h
      · have : y = i := by omega
        subst this
        exact h2
    · intro h
      exact ⟨fun y hy => h y (by omega), h i (by omega)⟩

theorem finer_num {n K cnt : Nat} {l4 c : List Int} {E : Nat → Nat → Prop} (hc : IsNum n E c cnt) (hnx : ∀ s x, s < n → x < K → ∃ t : Nat, t < n ∧ rd l4 ((s * K + x : Nat) : Int) = (t : Int)) :
    ∀ x, x ≤ K → 0 < x → IsNum n (fun s t => E s t ∧ ∀ y, y < x → E (rd l4 ((s * K + y : Nat) : Int)).toNat (rd l4 ((t * K + y : Nat) : Int)).toNat) (finerL n K l4 c x).1 (finerL n K l4 c x).2
  | 0, _, h => by omega
  | x + 1, hx, _ => by
    refine ⟨finerP (finerL n K l4 c x).1 c l4 K x, fun s t hs ht => ?_, rfl, rfl⟩
    obtain ⟨s', hs', es⟩ := hnx s x hs (by omega)
    obtain ⟨t', ht', et⟩ := hnx t x ht (by omega)
    have e : finerP (finerL n K l4 c x).1 c l4 K x s = finerP (finerL n K l4 c x).1 c l4 K x t ↔ rd (finerL n K l4 c x).1 (s : Int) = rd (finerL n K l4 c x).1 (t : Int) ∧ rd c (rd l4 ((s * K + x : Nat) : Int)) = rd c (rd l4 ((t * K + x : Nat) : Int)) := by
      unfold finerP
      exact Prod.mk.injEq _ _ _ _ ▸ Iff.rfl
    rw [e, es, et, hc.eq hs' ht']
    have e2 : rd (finerL n K l4 c x).1 (s : Int) = rd (finerL n K l4 c x).1 (t : Int) ↔ E s t ∧ ∀ y, y < x → E (rd l4 ((s * K + y : Nat) : Int)).toNat (rd l4 ((t * K + y : Nat) : Int)).toNat := by
      rcases Nat.eq_zero_or_pos x with h | h
      · subst h
        simp only [finerL]
        rw [hc.eq hs ht]
        simp
      · exact (finer_num hc hnx x (by omega) h).eq hs ht
    rw [e2]
    constructor
    · rintro ⟨⟨h1, h2⟩, h3⟩
      refine ⟨h1, fun y hy => ?_⟩
      rcases Nat.lt_or_ge y x with h | h
      · exact h2 y h
      · have : y = x := by omega
        subst this
        rw [es, et]
        simpa using h3
    · rintro ⟨h1, h2⟩
      refine ⟨⟨h1, fun y hy => h2 y (by omega)⟩, ?_⟩
      have := h2 x (by omega)
      rw [es, et] at this
      simpa using this

section
variable {a0 a1 a2 a3 : Int} {l4 l5 : List Int} (hM : RightM a0 a1 a2 a3 l4 l5)
include hM

theorem nxN_lt {s x : Nat} (hs : s < a3.toNat) (hx : x < a1.toNat) : nxN a1 l4 s x < a3.toNat ∧ nxM a1 l4 (s : Int) (x : Int) = (nxN a1 l4 s x : Int) := by
  have h := hM.step (s := (s : Int)) (x := (x : Int)) (by omega) (by omega) (by omega) (by omega)
  unfold nxN
  omega
theorem nat_place {s x : Nat} : rd l4 ((s * a1.toNat + x : Nat) : Int) = nxM a1 l4 (s : Int) (x : Int) := by
  have h1 := hM.k1
  unfold nxM
  congr 1
  push_cast
  rw [Int.toNat_of_nonneg (by omega)]
theorem say_place {s y : Nat} : ((s * (eachM a0 a1).toNat + y : Nat) : Int) = (s : Int) * eachM a0 a1 + (y : Int) := by
  have h1 := each_bd hM
  push_cast
  rw [Int.toNat_of_nonneg (by omega)]
theorem lettersM_num : IsNum a3.toNat (fun s t => sayB a0 a1 l5 s t = true) (lettersL a3.toNat (eachM a0 a1).toNat l5 (eachM a0 a1).toNat).1 (lettersL a3.toNat (eachM a0 a1).toNat l5 (eachM a0 a1).toNat).2 := by
  have h1 := each_bd hM
  refine (letters_num (n := a3.toNat) (each := (eachM a0 a1).toNat) (l5 := l5) (eachM a0 a1).toNat (by omega)).mono (fun s t hs ht => ?_)
  rw [sayB_iff]
  constructor
  · intro h y hy
    have := h y (by omega)
    rwa [say_place hM, say_place hM] at this
  · intro h y hy
    have := h y (by omega)
    rw [say_place hM, say_place hM]
    exact this
theorem cls_num : ∀ i, IsNum a3.toNat (fun s t => eqv a0 a1 l4 l5 i s t = true) (cls a0 a1 a3 l4 l5 i).1 (cls a0 a1 a3 l4 l5 i).2
  | 0 => by
    have hn := hM.n1
    unfold cls
    split
    · rename_i h
      exact (lettersM_num hM).mono (fun s t _ _ => by rw [eqv_zero]; simp [h])
    · rename_i h
      exact (zeros_num (n := a3.toNat) (by omega)).mono (fun s t _ _ => by rw [eqv_zero]; simp [h])
  | i + 1 => by
    have hk := hM.k1
    have ih := cls_num i
    unfold cls
    split
    · rename_i h
      obtain ⟨h1, rfl⟩ := h
      refine (lettersM_num hM).mono (fun s t _ _ => ?_)
      rw [eqv_succ]
      exact ⟨fun h => ⟨h, fun x _ => eqv_zero.mpr (fun h0 => absurd h0 h1)⟩, fun h => h.1⟩
    · rename_i h
      have hi : a0 = 1 ∨ 0 < i := by
        by_cases h1 : a0 = 1
        · exact .inl h1
        · right
          rcases Nat.eq_zero_or_pos i with h2 | h2
          · exact absurd ⟨h1, h2⟩ h
          · exact h2
      refine (finer_num ih (l4 := l4) (K := a1.toNat) (fun s x hs hx => ?_) a1.toNat (Nat.le_refl _) (by omega)).mono (fun s t hs ht => ?_)
      · have := nxN_lt hM hs hx
        exact ⟨nxN a1 l4 s x, this.1, by rw [nat_place hM]; exact this.2⟩
      · rw [eqv_succ]
        constructor
        · rintro ⟨h1, h2⟩
          refine ⟨eqv_say hi h1, fun x hx => ?_⟩
          have := h2 x hx
          rwa [nat_place hM, nat_place hM] at this
        · rintro ⟨h1, h2⟩
          refine ⟨eqv_down (eqv_succ.mpr ⟨h1, h2⟩), fun x hx => ?_⟩
          rw [nat_place hM, nat_place hM]
          exact h2 x hx
/-- no more classes by one symbol more: no more ever -/
theorem eqv_still {i : Nat} (h : ∀ s t, s < a3.toNat → t < a3.toNat → eqv a0 a1 l4 l5 i s t = true → eqv a0 a1 l4 l5 (i + 1) s t = true) : ∀ d s t, s < a3.toNat → t < a3.toNat → eqv a0 a1 l4 l5 i s t = true → eqv a0 a1 l4 l5 (i + d) s t = true
  | 0, s, t, _, _, e => e
  | d + 1, s, t, hs, ht, e => by
    have h1 := eqv_succ.mp (h s t hs ht e)
    exact eqv_succ.mpr ⟨h1.1, fun x hx => eqv_still h d _ _ (nxN_lt hM hs hx).1 (nxN_lt hM ht hx).1 (h1.2 x hx)⟩
theorem cls_still {i : Nat} (h : (cls a0 a1 a3 l4 l5 (i + 1)).2 = (cls a0 a1 a3 l4 l5 i).2) (d : Nat) : cls a0 a1 a3 l4 l5 (i + d) = cls a0 a1 a3 l4 l5 i := by
  have h1 := ((cls_num hM i).same (cls_num hM (i + 1)) (fun s t _ _ e => eqv_down e)).2 (by omega)
  have h2 := (cls_num hM (i + d)).uniq ((cls_num hM i).mono (fun s t hs ht => ⟨eqv_still hM h1 d s t hs ht, eqv_downs d⟩))
  exact Prod.ext h2.1 h2.2
theorem cls_up (i : Nat) : (cls a0 a1 a3 l4 l5 i).2 ≤ (cls a0 a1 a3 l4 l5 (i + 1)).2 := ((cls_num hM i).same (cls_num hM (i + 1)) (fun s t _ _ e => eqv_down e)).1
/-! ### moore.After -/
theorem cls_mem (i : Nat) : ∀ x ∈ (cls a0 a1 a3 l4 l5 i).1, 0 ≤ x ∧ x < ((cls a0 a1 a3 l4 l5 i).2 : Int) ∧ x < 1024 := by
  intro x hx
  have hN := hM.n1024
  have hn := cls_num hM i
  obtain ⟨s, hs, rfl⟩ := List.getElem_of_mem hx
  have hl := hn.len
  have hb := hn.bd (s := s) (by omega)
  have hc := hn.cnt_le
  rw [rd_nat, List.getD_eq_getElem?_getD, List.getElem?_eq_getElem hs] at hb
  simp only [Option.getD_some] at hb
  exact ⟨hb.1, hb.2, by omega⟩
theorem each_nat : l5.length / a3.toNat = (eachM a0 a1).toNat := by
  have h1 := each_len hM
  have h2 := hM.n1
  have h3 := each_bd hM
  have e : l5.length = a3.toNat * (eachM a0 a1).toNat := by
    have : ((a3.toNat * (eachM a0 a1).toNat : Nat) : Int) = a3 * eachM a0 a1 := by push_cast; rw [Int.toNat_of_nonneg (by omega), Int.toNat_of_nonneg (by omega)]
    omega
  rw [e, Nat.mul_div_cancel_left _ (by omega)]
theorem next_nat : l4.length = a3.toNat * a1.toNat := by
  have h1 := hM.next
  have h2 := hM.n1
  have h3 := hM.k1
  have : ((a3.toNat * a1.toNat : Nat) : Int) = a3 * a1 := by push_cast; rw [Int.toNat_of_nonneg (by omega), Int.toNat_of_nonneg (by omega)]
  omega
theorem letters_right (hw5 : ∀ x ∈ l5, (Lit.int .i64 x).wf = true) : moore_letters.f a0 a1 a2 a3 l4 l5 = some ((lettersL a3.toNat (eachM a0 a1).toNat l5 (eachM a0 a1).toNat).1, ((lettersL a3.toNat (eachM a0 a1).toNat l5 (eachM a0 a1).toNat).2 : Int)) := by
  have h1 := each_len hM
  have h2 := hM.n1
  have h3 := each_bd hM
  have h4 := hM.n1024
  have hb := mul_bd (a := a3) (b := eachM a0 a1) (A := 1024) (B := 64) (by omega) (by omega) h4 h3.2
  unfold moore_letters.f
  rw [each_nat hM, if_pos ⟨by omega, h4, by omega, List.all_eq_true.mpr (fun x hx => hw5 x hx)⟩]
theorem finer_right {i : Nat} (hi : a0 = 1 ∨ 0 < i) : moore_finer.f a0 a1 a2 a3 l4 l5 (cls a0 a1 a3 l4 l5 i).1 = some ((cls a0 a1 a3 l4 l5 (i + 1)).1, ((cls a0 a1 a3 l4 l5 (i + 1)).2 : Int)) := by
  have h2 := hM.n1
  have h3 := hM.k1
  have hne : ¬ (a0 ≠ 1 ∧ i = 0) := by omega
  have e : cls a0 a1 a3 l4 l5 (i + 1) = finerL a3.toNat a1.toNat l4 (cls a0 a1 a3 l4 l5 i).1 a1.toNat := by
    show (if a0 ≠ 1 ∧ i = 0 then _ else _) = _
    rw [if_neg hne]
  unfold moore_finer.f
  rw [e, if_pos ⟨by omega, hM.n1024, by omega, hM.k64, next_nat hM, (cls_num hM i).len, List.all_eq_true.mpr (fun x hx => decide_eq_true (hM.nextIn x hx)), List.all_eq_true.mpr (fun x hx => wf_key (cls_mem hM i x hx).1 (cls_mem hM i x hx).2.2)⟩]

theorem after_l0 : ∀ (d i j M m : Nat), a3.toNat < (cls a0 a1 a3 l4 l5 i).2 + d → (a0 = 1 ∨ 0 < i) → j ≤ M → M ≤ 9223372036854775807 → i + (M - j) = m →
    Ev (fun k => moore_After.l0 k (cls a0 a1 a3 l4 l5 i).1 ((cls a0 a1 a3 l4 l5 i).2 : Int) (M : Int) (j : Int) a0 a1 a2 a3 l4 l5) ((cls a0 a1 a3 l4 l5 m).1, 0)
  | 0, i, j, M, m, hd, _, _, _, _ => by
    have := (cls_num hM i).cnt_le
    omega
  | d + 1, i, j, M, m, hd, hi, hj, hM2, he => by
    have hup := cls_up hM i
    by_cases hlt : j < M
    · refine Ev.succ ?_
      simp only [moore_After.l0]
      refine Ev.pos (by omega) ?_
      refine Ev.bind (show Ev (fun _ => moore_finer.f a0 a1 a2 a3 l4 l5 (cls a0 a1 a3 l4 l5 i).1) _ by rw [finer_right hM hi]; exact Ev.now _) ?_
      by_cases hs : (cls a0 a1 a3 l4 l5 (i + 1)).2 = (cls a0 a1 a3 l4 l5 i).2
      · refine Ev.pos (by simp only; omega) ?_
        have e := cls_still hM hs (M - j)
        rw [he] at e
        rw [e]
        exact Ev.now _
      · refine Ev.neg (by simp only; omega) ?_
        rw [step1 (by omega)]
        exact after_l0 d (i + 1) (j + 1) M m (by omega) (by omega) (by omega) hM2 (by omega)
    · have : m = i := by omega
      subst this
      refine Ev.step (f := fun _ => some _) (fun k => ?_) (Ev.now _)
      simp only [moore_After.l0]
      rw [if_neg (by omega)]

theorem after_right (hw4 : ∀ x ∈ l4, (Lit.int .i64 x).wf = true) (hw5 : ∀ x ∈ l5, (Lit.int .i64 x).wf = true) (hl4 : l4.length ≤ maxLen) (hl5 : l5.length ≤ maxLen) (m : Nat) (hm : m ≤ 9223372036854775807) :
    Ev (fun k => moore_After.f k a0 a1 a2 a3 l4 l5 (m : Int)) ((cls a0 a1 a3 l4 l5 m).1, 0) := by
  obtain ⟨at_, hc⟩ := mcheck_ev (a0 := a0) (a1 := a1) (a2 := a2) (a3 := a3) hw4 hw5 hl4 hl5
  rw [errM_zero.mpr hM] at hc
  have h1 := hM.n1
  have h4 := hM.n1024
  refine Ev.bind hc ?_
  refine Ev.pos rfl ?_
  refine Ev.neg (by omega) ?_
  refine Ev.pos (by omega) ?_
  refine Ev.pos (by omega) ?_
  by_cases hk : a0 = 1
  · have e0 : cls a0 a1 a3 l4 l5 0 = lettersL a3.toNat (eachM a0 a1).toNat l5 (eachM a0 a1).toNat := by
      show (if a0 = 1 then _ else _) = _
      rw [if_pos hk]
    refine Ev.pos hk ?_
    refine Ev.bind (show Ev (fun _ => moore_letters.f a0 a1 a2 a3 l4 l5) _ by rw [letters_right hM hw5]; exact Ev.now _) ?_
    refine Ev.succ ?_
    simp only [moore_After.j0]
    rw [← e0]
    exact after_l0 hM (a3.toNat + 1) 0 0 m m (by omega) (.inl hk) (by omega) hm (by omega)
  · refine Ev.neg hk ?_
    have e1 : cls a0 a1 a3 l4 l5 1 = lettersL a3.toNat (eachM a0 a1).toNat l5 (eachM a0 a1).toNat := by
      show (if a0 ≠ 1 ∧ 0 = 0 then _ else _) = _
      rw [if_pos ⟨hk, rfl⟩]
    by_cases hm0 : 0 < m
    · refine Ev.pos (by omega) ?_
      refine Ev.bind (show Ev (fun _ => moore_letters.f a0 a1 a2 a3 l4 l5) _ by rw [letters_right hM hw5]; exact Ev.now _) ?_
      refine Ev.succ ?_
      simp only [moore_After.j0]
      rw [← e1, show wrap64 ((m : Int) - 1) = ((m - 1 : Nat) : Int) by rw [wrap_id (by omega) (by omega)]; omega]
      exact after_l0 hM (a3.toNat + 1) 1 0 (m - 1) m (by omega) (.inr (by omega)) (by omega) (by omega) (by omega)
    · refine Ev.neg (by omega) ?_
      have : m = 0 := by omega
      subst this
      have e0 : (cls a0 a1 a3 l4 l5 0).1 = List.replicate a3.toNat 0 := by
        show (if a0 = 1 then _ else _ : List Int × Nat).1 = _
        rw [if_neg hk]
      rw [e0]
      exact Ev.now _
theorem after_neg {m : Int} (hm : m < 0) (hw4 : ∀ x ∈ l4, (Lit.int .i64 x).wf = true) (hw5 : ∀ x ∈ l5, (Lit.int .i64 x).wf = true) (hl4 : l4.length ≤ maxLen) (hl5 : l5.length ≤ maxLen) :
    Ev (fun k => moore_After.f k a0 a1 a2 a3 l4 l5 m) ([], 1) := by
  obtain ⟨at_, hc⟩ := mcheck_ev (a0 := a0) (a1 := a1) (a2 := a2) (a3 := a3) hw4 hw5 hl4 hl5
  rw [errM_zero.mpr hM] at hc
  refine Ev.bind hc ?_
  refine Ev.pos rfl ?_
  exact Ev.pos hm (Ev.now _)
end
theorem after_wrong {a0 a1 a2 a3 : Int} {l4 l5 : List Int} (hM : ¬ RightM a0 a1 a2 a3 l4 l5) (hw4 : ∀ x ∈ l4, (Lit.int .i64 x).wf = true) (hw5 : ∀ x ∈ l5, (Lit.int .i64 x).wf = true) (hl4 : l4.length ≤ maxLen) (hl5 : l5.length ≤ maxLen) (m : Int) :
    errM a0 a1 a2 a3 l4 l5 ≠ 0 ∧ Ev (fun k => moore_After.f k a0 a1 a2 a3 l4 l5 m) ([], errM a0 a1 a2 a3 l4 l5) := by
  have he : errM a0 a1 a2 a3 l4 l5 ≠ 0 := fun h => hM (errM_zero.mp h)
  obtain ⟨at_, hc⟩ := mcheck_ev (a0 := a0) (a1 := a1) (a2 := a2) (a3 := a3) hw4 hw5 hl4 hl5
  refine ⟨he, ?_⟩
  refine Ev.bind hc ?_
  exact Ev.neg he (Ev.now _)
end Go.Proofs.Ytllgeljacmpdjaa.PTrim
