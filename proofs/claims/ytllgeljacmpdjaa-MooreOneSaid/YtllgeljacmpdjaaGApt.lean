/- Does a word tell two machines apart? What the going through pairs of states answers. -/
import Derived.Test.YtllgeljacmpdjaaGOne
import Derived.Test.YtllgeljacmpdjaaPTrimxf44
namespace Go.Proofs.Ytllgeljacmpdjaa.PTrim
open Go.RowKit Go.Proofs.YtllgeljacmpdjaaW.PrintWords Go.Proofs.YtllgeljacmpdjaaW.PrintLast Go.Proofs.YtllgeljacmpdjaaW.PrintMore Go.Proofs.Ytllgeljacmpdjaa.Bfs
set_option linter.unusedVariables false
set_option linter.unusedSectionVars false

def KnP (x7 : List Bool) (S : List Int) (n : Int) : Prop := (x7.length : Int) = n ∧ ∀ t : Int, 0 ≤ t → t < n → rdOf false x7 t = decide (t ∈ S)
theorem knP_set {x7 : List Bool} {S : List Int} {n : Int} (h : KnP x7 S n) {t : Int} (h0 : 0 ≤ t) (h1 : t < n) : KnP (x7.set t.toNat true) (S ++ [t]) n := by
  refine ⟨by simpa using h.1, fun u u0 u1 => ?_⟩
  have hh := h.2 u u0 u1
  have hl := h.1
  unfold rdOf at hh ⊢
  rw [List.getD_eq_getElem?_getD] at hh ⊢
  by_cases e : u = t
  · subst e
    rw [List.getElem?_set_self (by omega)]
    simp
  · rw [List.getElem?_set_ne (by omega), hh]
    simp [e]
theorem code_at {s t b : Int} (h0 : 0 ≤ t) (h1 : t < b) (hs : 0 ≤ s) : Int.tdiv (s * b + t) b = s ∧ Int.tmod (s * b + t) b = t := by
  have hn : 0 ≤ s * b + t := Int.add_nonneg (Int.mul_nonneg hs (by omega)) h0
  rw [Int.tdiv_eq_ediv_of_nonneg hn, Int.tmod_eq_emod_of_nonneg hn]
  refine ⟨?_, ?_⟩
  · rw [Int.add_comm, Int.add_mul_ediv_right _ _ (by omega), Int.ediv_eq_zero_of_lt h0 h1, Int.zero_add]
  · rw [Int.add_comm, Int.add_mul_emod_self_right, Int.emod_eq_of_lt h0 h1]
theorem code_inj {s t s' t' b : Int} (h0 : 0 ≤ t) (h1 : t < b) (hs : 0 ≤ s) (h0' : 0 ≤ t') (h1' : t' < b) (hs' : 0 ≤ s') (h : s * b + t = s' * b + t') : s = s' ∧ t = t' := by
  have e := code_at h0 h1 hs
  have e' := code_at h0' h1' hs'
  rw [h] at e
  exact ⟨e.1.symm.trans e'.1, e.2.symm.trans e'.2⟩
theorem code_bd {s t a b : Int} (hs : 0 ≤ s) (hs2 : s < a) (h0 : 0 ≤ t) (h1 : t < b) : 0 ≤ s * b + t ∧ s * b + t < a * b := by
  have h2 : (s + 1) * b ≤ a * b := Int.mul_le_mul_of_nonneg_right (by omega) (by omega)
  have h3 : 0 ≤ s * b := Int.mul_nonneg hs (by omega)
  rw [Int.add_mul, Int.one_mul] at h2
  omega

section
variable {a0 a1 a2 a3 b2 b3 : Int} {l4 l5 k4 k5 : List Int} (hM : RightM a0 a1 a2 a3 l4 l5) (hM' : RightM a0 a1 b2 b3 k4 k5)
structure ApJ (a0 a1 a3 b3 : Int) (l4 l5 k4 k5 : List Int) (known : List Bool) (row : List Int) (i : Nat) : Prop where
  kn : KnP known row (a3 * b3)
  nd : row.Nodup
  mem : ∀ c ∈ row, ∃ w, InR w a1 ∧ c = runTo (nxM a1 l4) 0 w * b3 + runTo (nxM a1 k4) 0 w
  zero : (0 : Int) ∈ row
  clo : ∀ p, p < i → p < row.length → ∀ s t : Int, 0 ≤ s → s < a3 → 0 ≤ t → t < b3 → row.getD p 0 = s * b3 + t → dsay a0 a1 l5 k5 s t ∧ ∀ y : Nat, (y : Int) < a1 → nxM a1 l4 s y * b3 + nxM a1 k4 t y ∈ row
def apP (a0 a1 : Int) (l4 l5 k4 k5 : List Int) (b : Bool) : Prop := b = true ↔ ∃ w, InR w a1 ∧ ¬ dsay a0 a1 l5 k5 (runTo (nxM a1 l4) 0 w) (runTo (nxM a1 k4) 0 w)
include hM hM'
theorem ap_bd {known : List Bool} {row : List Int} {i : Nat} (h : ApJ a0 a1 a3 b3 l4 l5 k4 k5 known row i) : (∀ c ∈ row, 0 ≤ c ∧ c < a3 * b3) ∧ (row.length : Int) ≤ a3 * b3 ∧ 0 ≤ a3 * b3 ∧ a3 * b3 ≤ 1048576 := by
  have n1 := hM.n1
  have n2 := hM'.n1
  have b := mul_bd (a := a3) (b := b3) (A := 1024) (B := 1024) (by omega) (by omega) hM.n1024 hM'.n1024
  have hr : ∀ c ∈ row, 0 ≤ c ∧ c < a3 * b3 := by
    intro c hc
    obtain ⟨w, hw, rfl⟩ := h.mem c hc
    have h1 := hM.runs w 0 (by omega) (by omega) hw
    have h2 := hM'.runs w 0 (by omega) (by omega) hw
    exact code_bd h1.1 h1.2 h2.1 h2.2
  have := nodup_len (a3 * b3).toNat row h.nd (fun t ht => by have := hr t ht; omega)
  exact ⟨hr, by omega, b.1, b.2⟩
theorem ap_hit {known : List Bool} {row : List Int} {i : Nat} (h : ApJ a0 a1 a3 b3 l4 l5 k4 k5 known row i) {s t : Nat} (hs : s < a3.toNat) (ht : t < b3.toNat) (hm : (s : Int) * b3 + (t : Int) ∈ row) : ∃ w, InR w a1 ∧ runTo (nxM a1 l4) 0 w = (s : Int) ∧ runTo (nxM a1 k4) 0 w = (t : Int) := by
  have n1 := hM.n1
  have n2 := hM'.n1
  obtain ⟨w, hw, e⟩ := h.mem _ hm
  have h1 := hM.runs w 0 (by omega) (by omega) hw
  have h2 := hM'.runs w 0 (by omega) (by omega) hw
  have := code_inj (by omega) (by omega) (by omega) h2.1 h2.2 h1.1 e
  exact ⟨w, hw, this.1.symm, this.2.symm⟩
theorem ap_l1 {i s t : Nat} (hs : s < a3.toNat) (ht : t < b3.toNat) (hD : a0 = 1 → dsay a0 a1 l5 k5 (s : Int) (t : Int))
    (hnx : ∀ known row, ApJ a0 a1 a3 b3 l4 l5 k4 k5 known row (i + 1) → i + 1 ≤ row.length → ∃ b, Ev (fun k => tutorlaw05_apart.l0 k known row ((i + 1 : Nat) : Int) a0 a1 a2 a3 l4 l5 a0 a1 b2 b3 k4 k5) b ∧ apP a0 a1 l4 l5 k4 k5 b) :
    ∀ (d x : Nat) (known : List Bool) (row : List Int), x + d = a1.toNat → ApJ a0 a1 a3 b3 l4 l5 k4 k5 known row i → i < row.length → row.getD i 0 = (s : Int) * b3 + (t : Int) →
      (∀ y : Nat, y < x → nxM a1 l4 (s : Int) y * b3 + nxM a1 k4 (t : Int) y ∈ row ∧ (a0 = 2 → rd l5 ((s : Int) * a1 + (y : Int)) = rd k5 ((t : Int) * a1 + (y : Int)))) →
      ∃ b, Ev (fun k => tutorlaw05_apart.l1 k known row (i : Int) (s : Int) (t : Int) (x : Int) a0 a1 a2 a3 l4 l5 a0 a1 b2 b3 k4 k5) b ∧ apP a0 a1 l4 l5 k4 k5 b
  | 0, x, known, row, hd, h, hi, hg, hy => by
    have hk := hM.k1
    obtain ⟨r1, r2, r3, r4⟩ := ap_bd hM hM' h
    obtain ⟨b, hb, hp⟩ := hnx known row ⟨h.kn, h.nd, h.mem, h.zero, fun p hp hpl s' t' h1 h2 h3 h4 e => by
      by_cases hpi : p < i
      · exact h.clo p hpi hpl s' t' h1 h2 h3 h4 e
      · have : p = i := by omega
        subst this
        obtain ⟨rfl, rfl⟩ := code_inj h3 h4 h1 (by omega) (by omega) (by omega) (e.symm.trans hg)
        refine ⟨?_, fun y hy' => (hy y (by omega)).1⟩
        rcases hM.kind with e | e
        · exact hD e
        · intro y hy'
          have ee : eachM a0 a1 = a1 := by unfold eachM; rw [if_neg (by omega)]
          rw [ee] at hy' ⊢
          exact (hy y (by omega)).2 e⟩ (by omega)
    refine ⟨b, ?_, hp⟩
    refine Ev.step (fun k => ?_) hb
    simp only [tutorlaw05_apart.l1]
    rw [if_neg (by omega), step1 (by omega)]
  | d + 1, x, known, row, hd, h, hi, hg, hy => by
    have hk := hM.k64
    have n1 := hM.n1
    have n2 := hM'.n1
    obtain ⟨r1, r2, r3, r4⟩ := ap_bd hM hM' h
    have hm : (s : Int) * b3 + (t : Int) ∈ row := by rw [← hg]; exact getD_mem hi
    obtain ⟨w, hw, ew, ew'⟩ := ap_hit hM hM' h hs ht hm
    obtain ⟨p1, p2, p3, p4, p5⟩ := pair_place hM hs (x := x) (by omega)
    obtain ⟨q1, q2, q3, q4, q5⟩ := pair_place hM' ht (x := x) (by omega)
    have e1 := (nxN_lt hM hs (x := x) (by omega)).2
    have e2 := (nxN_lt hM' ht (x := x) (by omega)).2
    have cb := code_bd (s := (nxN a1 l4 s x : Int)) (t := (nxN a1 k4 t x : Int)) (a := a3) (b := b3) (by omega) (by omega) (by omega) (by omega)
    have mb := mul_bd (a := (nxN a1 l4 s x : Int)) (b := b3) (A := 1024) (B := 1024) (by omega) (by omega) (by have := hM.n1024; omega) hM'.n1024
    have wc : wrap64 (wrap64 ((nxN a1 l4 s x : Int) * b3) + (nxN a1 k4 t x : Int)) = (nxN a1 l4 s x : Int) * b3 + (nxN a1 k4 t x : Int) := by
      rw [wrap_id (n := (nxN a1 l4 s x : Int) * b3) (by omega) (by omega), wrap_id (by omega) (by omega)]
    -- behind the looking at what is said
    have hj3 : (a0 = 2 → rd l5 ((s : Int) * a1 + (x : Int)) = rd k5 ((t : Int) * a1 + (x : Int))) → ∃ b, Ev (fun k => tutorlaw05_apart.j3 k known row (i : Int) (s : Int) (t : Int) (x : Int) false a0 a1 a2 a3 l4 l5 a0 a1 b2 b3 k4 k5) b ∧ apP a0 a1 l4 l5 k4 k5 b := by
      intro hsay
      have hkn := h.kn.2 _ cb.1 cb.2
      have hkl := h.kn.1
      by_cases hin : (nxN a1 l4 s x : Int) * b3 + (nxN a1 k4 t x : Int) ∈ row
      · obtain ⟨b, hb, hp⟩ := ap_l1 hs ht hD hnx d (x + 1) known row (by omega) h hi hg (fun y hy' => by
          by_cases e : y < x
          · exact hy y e
          · have : y = x := by omega
            subst this
            rw [e1, e2]
            exact ⟨hin, hsay⟩)
        refine ⟨b, ?_, hp⟩
        refine Ev.step (fun k => ?_) hb
        rw [decide_eq_true hin] at hkn
        simp only [tutorlaw05_apart.j3]
        rw [if_neg (by decide), p1, q1, if_pos p2, if_pos p3, if_pos q2, if_pos q3, p4, q4, wc, if_pos cb.1, if_pos (by omega), if_pos hkn, step1 (by omega)]
      · have hrow : ∀ p, p < row.length → (row ++ [(nxN a1 l4 s x : Int) * b3 + (nxN a1 k4 t x : Int)]).getD p 0 = row.getD p 0 := fun p hp => getD_snoc_lt _ _ _ hp
        obtain ⟨b, hb, hp⟩ := ap_l1 hs ht hD hnx d (x + 1) (known.set ((nxN a1 l4 s x : Int) * b3 + (nxN a1 k4 t x : Int)).toNat true) (row ++ [(nxN a1 l4 s x : Int) * b3 + (nxN a1 k4 t x : Int)]) (by omega)
          ⟨knP_set h.kn cb.1 cb.2, List.nodup_append.mpr ⟨h.nd, by simp, fun c hc c' hc' => by rw [List.mem_singleton.mp hc']; intro e; exact hin (e ▸ hc)⟩, fun c hc => by
            rcases List.mem_append.mp hc with hc | hc
            · exact h.mem c hc
            · refine ⟨w ++ [(x : Int)], fun z hz => ?_, ?_⟩
              · rcases List.mem_append.mp hz with hz | hz
                · exact hw z hz
                · rw [List.mem_singleton.mp hz]; omega
              · rw [List.mem_singleton.mp hc, runTo_snoc, runTo_snoc, ew, ew', e1, e2], List.mem_append_left _ h.zero, fun p hp hpl s' t' h1 h2 h3 h4 e => by
            rw [hrow p (by omega)] at e
            obtain ⟨g1, g2⟩ := h.clo p hp (by omega) s' t' h1 h2 h3 h4 e
            exact ⟨g1, fun y hy' => List.mem_append_left _ (g2 y hy')⟩⟩ (by rw [List.length_append]; omega) (by rw [hrow i hi]; exact hg) (fun y hy' => by
          by_cases e : y < x
          · exact ⟨List.mem_append_left _ (hy y e).1, (hy y e).2⟩
          · have : y = x := by omega
            subst this
            rw [e1, e2]
            exact ⟨List.mem_append_right _ (by simp), hsay⟩)
        refine ⟨b, ?_, hp⟩
        refine Ev.step (fun k => ?_) hb
        rw [decide_eq_false hin] at hkn
        simp only [tutorlaw05_apart.j3]
        rw [if_neg (by decide), p1, q1, if_pos p2, if_pos p3, if_pos q2, if_pos q3, p4, q4, wc, if_pos cb.1, if_pos (by omega), if_neg (by rw [hkn]; decide), if_pos (by omega), step1 (by omega)]
    rcases hM.kind with e | e
    · obtain ⟨b, hb, hp⟩ := hj3 (fun e' => by omega)
      refine ⟨b, ?_, hp⟩
      refine Ev.step (fun k => ?_) hb
      simp only [tutorlaw05_apart.l1]
      rw [if_pos (by omega), if_neg (by omega)]
    · have o1 := out_place hM (show a0 ≠ 1 by omega) hs (x := x) (by omega)
      have o2 := out_place hM' (show a0 ≠ 1 by omega) ht (x := x) (by omega)
      by_cases hsay : rd l5 ((s : Int) * a1 + (x : Int)) = rd k5 ((t : Int) * a1 + (x : Int))
      · obtain ⟨b, hb, hp⟩ := hj3 (fun _ => hsay)
        refine ⟨b, ?_, hp⟩
        refine Ev.step (fun k => ?_) hb
        simp only [tutorlaw05_apart.l1]
        rw [if_pos (by omega), if_pos e, o1.1, o2.1, if_pos o1.2.1, if_pos o1.2.2.1, if_pos o2.2.1, if_pos o2.2.2.1, hsay, bne_self_eq_false]
      · refine ⟨true, ?_, ⟨fun _ => ⟨w, hw, fun hh => hsay ?_⟩, fun _ => rfl⟩⟩
        · refine Ev.step (f := fun k => tutorlaw05_apart.j3 k known row (i : Int) (s : Int) (t : Int) (x : Int) true a0 a1 a2 a3 l4 l5 a0 a1 b2 b3 k4 k5) (fun k => ?_) ?_
          · simp only [tutorlaw05_apart.l1]
            rw [if_pos (by omega), if_pos e, o1.1, o2.1, if_pos o1.2.1, if_pos o1.2.2.1, if_pos o2.2.1, if_pos o2.2.2.1, bne_iff_ne.mpr hsay]
          · refine Ev.step (fun k => ?_) (Ev.now true)
            simp only [tutorlaw05_apart.j3]
            rw [if_pos trivial]
        · have ee : eachM a0 a1 = a1 := by unfold eachM; rw [if_neg (by omega)]
          have := hh x (by rw [ee]; omega)
          rw [ee, ew, ew'] at this
          exact this
theorem ap_done {known : List Bool} {row : List Int} {i : Nat} (h : ApJ a0 a1 a3 b3 l4 l5 k4 k5 known row i) (hi : row.length ≤ i) : apP a0 a1 l4 l5 k4 k5 false := by
  have n1 := hM.n1
  have n2 := hM'.n1
  have hall : ∀ (v u : List Int), runTo (nxM a1 l4) 0 u * b3 + runTo (nxM a1 k4) 0 u ∈ row → InR (u ++ v) a1 → runTo (nxM a1 l4) 0 (u ++ v) * b3 + runTo (nxM a1 k4) 0 (u ++ v) ∈ row := by
    intro v
    induction v with
    | nil => intro u hu _; rw [List.append_nil]; exact hu
    | cons x v ih =>
      intro u hu hw
      have hx := hw x (by simp)
      have hu2 : InR u a1 := fun z hz => hw z (List.mem_append_left _ hz)
      have h1 := hM.runs u 0 (by omega) (by omega) hu2
      have h2 := hM'.runs u 0 (by omega) (by omega) hu2
      obtain ⟨p, hp, e⟩ := mem_getD hu
      obtain ⟨y, rfl⟩ : ∃ y : Nat, x = y := ⟨x.toNat, by omega⟩
      have h3 := (h.clo p (by omega) hp _ _ h1.1 h1.2 h2.1 h2.2 e).2 y hx.2
      have h4 := ih (u ++ [(y : Int)]) (by rw [runTo_snoc, runTo_snoc]; exact h3) (by rw [List.append_assoc]; exact hw)
      rw [List.append_assoc] at h4
      exact h4
  refine ⟨fun e => (by cases e), fun ⟨w, hw, hn⟩ => ?_⟩
  exfalso
  have h0 := hall w [] (by show (0 : Int) * b3 + 0 ∈ row; rw [Int.zero_mul, Int.add_zero]; exact h.zero) hw
  have h1 := hM.runs w 0 (by omega) (by omega) hw
  have h2 := hM'.runs w 0 (by omega) (by omega) hw
  obtain ⟨p, hp, e⟩ := mem_getD h0
  exact hn (h.clo p (by omega) hp _ _ h1.1 h1.2 h2.1 h2.2 e).1
theorem ap_l0 : ∀ (d i : Nat) (known : List Bool) (row : List Int), i + d = (a3 * b3).toNat → ApJ a0 a1 a3 b3 l4 l5 k4 k5 known row i → i ≤ row.length → ∃ b, Ev (fun k => tutorlaw05_apart.l0 k known row (i : Int) a0 a1 a2 a3 l4 l5 a0 a1 b2 b3 k4 k5) b ∧ apP a0 a1 l4 l5 k4 k5 b := by
  intro d
  induction d with
  | zero =>
    intro i known row hd h hi
    obtain ⟨r1, r2, r3, r4⟩ := ap_bd hM hM' h
    refine ⟨false, ?_, ap_done hM hM' h (by omega)⟩
    refine Ev.step (fun k => ?_) (Ev.now false)
    simp only [tutorlaw05_apart.l0]
    rw [if_neg (by omega)]
  | succ d ih =>
    intro i known row hd h hi
    obtain ⟨r1, r2, r3, r4⟩ := ap_bd hM hM' h
    by_cases hlt : i < row.length
    · have n1 := hM.n1
      have n2 := hM'.n1
      have N1 := hM.n1024
      have N2 := hM'.n1024
      obtain ⟨w, hw, ec⟩ := h.mem _ (getD_mem hlt)
      have h1 := hM.runs w 0 (by omega) (by omega) hw
      have h2 := hM'.runs w 0 (by omega) (by omega) hw
      obtain ⟨s, es⟩ : ∃ s : Nat, runTo (nxM a1 l4) 0 w = (s : Int) := ⟨_, (Int.toNat_of_nonneg h1.1).symm⟩
      obtain ⟨t, et⟩ : ∃ t : Nat, runTo (nxM a1 k4) 0 w = (t : Int) := ⟨_, (Int.toNat_of_nonneg h2.1).symm⟩
      rw [es, et] at ec
      rw [es] at h1
      rw [et] at h2
      obtain ⟨c1, c2⟩ := code_at (s := (s : Int)) (t := (t : Int)) (b := b3) (by omega) (by omega) (by omega)
      have hrd : rd row (i : Int) = (s : Int) * b3 + (t : Int) := by rw [rd_nat]; exact ec
      have hl1 : (a0 = 1 → dsay a0 a1 l5 k5 (s : Int) (t : Int)) → ∃ b, Ev (fun k => tutorlaw05_apart.j1 k known row (i : Int) (s : Int) (t : Int) false a0 a1 a2 a3 l4 l5 a0 a1 b2 b3 k4 k5) b ∧ apP a0 a1 l4 l5 k4 k5 b := by
        intro hD
        obtain ⟨b, hb, hp⟩ := ap_l1 hM hM' (i := i) (s := s) (t := t) (by omega) (by omega) hD (fun known' row' h' hl' => ih (i + 1) known' row' (by omega) h' hl') a1.toNat 0 known row (by omega) h hlt ec (fun y hy => absurd hy (Nat.not_lt_zero y))
        refine ⟨b, ?_, hp⟩
        refine Ev.step (fun k => ?_) hb
        simp only [tutorlaw05_apart.j1]
        rw [if_neg (by decide)]
        rfl
      rcases hM.kind with e | e
      · have hO := hM.out
        have hO' := hM'.out
        rw [if_pos e] at hO hO'
        have ee : eachM a0 a1 = 1 := by unfold eachM; rw [if_pos e]
        by_cases hsay : rd l5 (s : Int) = rd k5 (t : Int)
        · obtain ⟨b, hb, hp⟩ := hl1 (fun _ y hy => by
            rw [ee] at hy ⊢
            have : y = 0 := by omega
            subst this
            simp only [Int.mul_one, Int.natCast_zero, Int.add_zero]
            exact hsay)
          refine ⟨b, ?_, hp⟩
          refine Ev.step (fun k => ?_) hb
          simp only [tutorlaw05_apart.l0]
          rw [if_pos (by omega), if_pos (by omega), if_neg (by omega), if_pos e, hrd, c1, c2, wrap_id (by omega) (by omega), if_pos (by omega), if_pos (by omega), if_pos (by omega), if_pos (by omega), hsay, bne_self_eq_false]
        · refine ⟨true, ?_, ⟨fun _ => ⟨w, hw, fun hh => hsay ?_⟩, fun _ => rfl⟩⟩
          · refine Ev.step (f := fun k => tutorlaw05_apart.j1 k known row (i : Int) (s : Int) (t : Int) true a0 a1 a2 a3 l4 l5 a0 a1 b2 b3 k4 k5) (fun k => ?_) ?_
            · simp only [tutorlaw05_apart.l0]
              rw [if_pos (by omega), if_pos (by omega), if_neg (by omega), if_pos e, hrd, c1, c2, wrap_id (by omega) (by omega), if_pos (by omega), if_pos (by omega), if_pos (by omega), if_pos (by omega), bne_iff_ne.mpr hsay]
            · refine Ev.step (fun k => ?_) (Ev.now true)
              simp only [tutorlaw05_apart.j1]
              rw [if_pos trivial]
          · have := hh 0 (by rw [ee]; decide)
            rw [ee, es, et] at this
            simp only [Int.mul_one, Int.natCast_zero, Int.add_zero] at this
            exact this
      · obtain ⟨b, hb, hp⟩ := hl1 (fun e' => by omega)
        refine ⟨b, ?_, hp⟩
        refine Ev.step (fun k => ?_) hb
        simp only [tutorlaw05_apart.l0]
        rw [if_pos (by omega), if_pos (by omega), if_neg (by omega), if_neg (by omega), hrd, c1, c2, wrap_id (by omega) (by omega)]
    · refine ⟨false, ?_, ap_done hM hM' h (by omega)⟩
      refine Ev.step (fun k => ?_) (Ev.now false)
      simp only [tutorlaw05_apart.l0]
      rw [if_neg (by omega)]
theorem apart_ev' : ∃ b, Ev (fun k => tutorlaw05_apart.f k a0 a1 a2 a3 l4 l5 a0 a1 b2 b3 k4 k5) b ∧ apP a0 a1 l4 l5 k4 k5 b := by
  have n1 := hM.n1
  have n2 := hM'.n1
  have b := mul_bd (a := a3) (b := b3) (A := 1024) (B := 1024) (by omega) (by omega) hM.n1024 hM'.n1024
  have b2' : 1 ≤ a3 * b3 := by
    have := Int.mul_le_mul_of_nonneg_right (show (1 : Int) ≤ a3 by omega) (show 0 ≤ b3 by omega)
    omega
  have hk : KnP (List.replicate (a3 * b3).toNat false) [] (a3 * b3) := ⟨by rw [List.length_replicate]; omega, fun t _ _ => by rw [rdOf_replicate]; simp⟩
  have hJ : ApJ a0 a1 a3 b3 l4 l5 k4 k5 ((List.replicate (a3 * b3).toNat false).set (0 : Int).toNat true) [0] 0 :=
    ⟨knP_set hk (by omega) (by omega), by simp, fun c hc => ⟨[], fun x hx => (by cases hx), by
      rw [List.mem_singleton.mp hc]
      show (0 : Int) = 0 * b3 + 0
      omega⟩, by simp, fun p hp => absurd hp (Nat.not_lt_zero p)⟩
  obtain ⟨r, hr, hp⟩ := ap_l0 hM hM' (a3 * b3).toNat 0 _ _ (by omega) hJ (by simp)
  refine ⟨r, ?_, hp⟩
  unfold tutorlaw05_apart.f
  rw [wrap_id (by omega) (by omega)]
  refine Ev.pos (by omega) ?_
  refine Ev.pos (by omega) ?_
  refine Ev.bind (Ev.now _) ?_
  refine Ev.pos (by rw [List.length_replicate]; omega) ?_
  exact hr
end
end Go.Proofs.Ytllgeljacmpdjaa.PTrim
