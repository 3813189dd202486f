/- The machine of the classes: plain; and what the two Minimise answer. -/
import Derived.Test.YtllgeljacmpdjaaGRMin
import Derived.Test.YtllgeljacmpdjaaPTrimxf42
namespace Go.Proofs.Ytllgeljacmpdjaa.PTrim
open Go.RowKit Go.Proofs.YtllgeljacmpdjaaW.PrintWords Go.Proofs.YtllgeljacmpdjaaW.PrintLast Go.Proofs.YtllgeljacmpdjaaW.PrintMore Go.Proofs.Ytllgeljacmpdjaa.Bfs
set_option linter.unusedVariables false

/-- the first state of each class, in order -/
def firsts (c : List Int) : Nat → List Int
  | 0 => []
  | s + 1 => if rd c (s : Int) < ((firsts c s).length : Int) then firsts c s else firsts c s ++ [(s : Int)]
def quoN (a1 : Int) (l4 c : List Int) (s : Nat) : List Int := (firsts c s).flatMap fun u => (sl l4 u a1).map (rd c)
def quoO (a0 a1 : Int) (l5 c : List Int) (s : Nat) : List Int := (firsts c s).flatMap fun u => sl l5 u (eachM a0 a1)

theorem firsts_lt (c : List Int) : ∀ (s : Nat), ∀ u ∈ firsts c s, 0 ≤ u ∧ u < (s : Int)
  | 0, u, h => by simp [firsts] at h
  | s + 1, u, h => by
    unfold firsts at h
    split at h
    · have := firsts_lt c s u h
      omega
    · rcases List.mem_append.mp h with h | h
      · have := firsts_lt c s u h
        omega
      · rw [List.mem_singleton.mp h]
        omega
theorem firsts_len (c : List Int) : ∀ s, (firsts c s).length ≤ s
  | 0 => by simp [firsts]
  | s + 1 => by
    have := firsts_len c s
    unfold firsts
    split
    · omega
    · simp
      omega
theorem firsts_num {f : Nat → Int × Int} {n : Nat} : ∀ s, s ≤ n → (firsts (numC f n) s).length = (numS f s).length ∧ ∀ v, v < (numS f s).length → rd (numC f n) ((firsts (numC f n) s).getD v 0) = (v : Int)
  | 0, _ => by simp [firsts, numS]
  | s + 1, hs => by
    obtain ⟨h1, h2⟩ := firsts_num (f := f) (n := n) s (by omega)
    have e := numC_nc f (by omega : s < n)
    by_cases hx : ∃ t, t < s ∧ f t = f s
    · have ho := nc_old f s hx
      have e2 : firsts (numC f n) (s + 1) = firsts (numC f n) s := by
        show (if _ then _ else _) = _
        rw [if_pos (by rw [e, h1]; omega)]
      rw [e2, ho.1]
      exact ⟨h1, h2⟩
    · have hn := nc_new f s (fun t ht e => hx ⟨t, ht, e⟩)
      have e2 : firsts (numC f n) (s + 1) = firsts (numC f n) s ++ [(s : Int)] := by
        show (if _ then _ else _) = _
        rw [if_neg (by rw [e, h1]; omega)]
      rw [e2, hn.2]
      refine ⟨by simp [h1], fun v hv => ?_⟩
      rcases Nat.lt_or_ge v (numS f s).length with h | h
      · rw [getD_snoc_lt _ _ _ (by omega)]
        exact h2 v h
      · have : v = (firsts (numC f n) s).length := by omega
        subst this
        rw [getD_snoc_eq, e, hn.1, h1]

theorem sl_snoc {l : List Int} {s n : Int} {x : Nat} (h0 : 0 ≤ s) (hn : 0 ≤ n) (hx : (x : Int) < n) (hl : (s + 1) * n ≤ (l.length : Int)) : (sl l s n).take (x + 1) = (sl l s n).take x ++ [rd l (s * n + x)] := by
  have hlen := sl_len h0 hn hl
  have hx' : x < (sl l s n).length := by omega
  rw [List.take_succ_eq_append_getElem hx', ← sl_get h0 hn hx, List.getD_eq_getElem?_getD, List.getElem?_eq_getElem hx']
  rfl

section
variable {a0 a1 a2 a3 : Int} {l4 l5 : List Int} (hM : RightM a0 a1 a2 a3 l4 l5)
include hM

/-! ### the program's Minimise, up to Canon -/
theorem rows_bd {c : List Int} (s : Nat) (hs : s ≤ a3.toNat) : (quoN a1 l4 c s).length = (firsts c s).length * a1.toNat ∧ (quoO a0 a1 l5 c s).length = (firsts c s).length * (eachM a0 a1).toNat := by
  have hk := hM.k1
  have he := each_bd hM
  have hN := hM.n1024
  have hne := hM.next
  have hel := each_len hM
  refine ⟨flat_len _ _ _ (fun u hu => ?_), flat_len _ _ _ (fun u hu => ?_)⟩
  · have hb := firsts_lt c s u hu
    rw [List.length_map, sl_len hb.1 (by omega)]
    rw [hne]
    exact Int.mul_le_mul_of_nonneg_right (by omega) (by omega)
  · have hb := firsts_lt c s u hu
    rw [sl_len hb.1 (by omega)]
    rw [hel]
    exact Int.mul_le_mul_of_nonneg_right (by omega) (by omega)
theorem quo_small {c : List Int} (s : Nat) (hs : s ≤ a3.toNat) : (quoN a1 l4 c s).length ≤ 65536 ∧ (quoO a0 a1 l5 c s).length ≤ 65536 := by
  obtain ⟨h1, h2⟩ := rows_bd hM (c := c) s hs
  have hk := hM.k64
  have he := each_bd hM
  have hN := hM.n1024
  have hl := firsts_len c s
  rw [h1, h2]
  exact ⟨Nat.le_trans (Nat.mul_le_mul (by omega : _ ≤ 1024) (by omega : _ ≤ 64)) (by omega), Nat.le_trans (Nat.mul_le_mul (by omega : _ ≤ 1024) (by omega : _ ≤ 64)) (by omega)⟩

variable {c : List Int} {r : Int × Int × Int × Int × List Int × List Int × Int}
theorem min_l2 (hc : c.length = a3.toNat) {s : Nat} (hs : s < a3.toNat) {N : Int} {Nx O : List Int} (hO : O.length ≤ 65536)
    (hnx : Ev (fun k => moore_Minimise.l0 k c a3 ((s + 1 : Nat) : Int) a0 a1 a2 a3 l4 l5 a0 a1 a2 N Nx (O ++ sl l5 (s : Int) (eachM a0 a1))) r) :
    ∀ (d y : Nat), y + d = (eachM a0 a1).toNat → Ev (fun k => moore_Minimise.l2 k c (s : Int) a3 (s : Int) (eachM a0 a1) (y : Int) a0 a1 a2 a3 l4 l5 a0 a1 a2 N Nx (O ++ (sl l5 (s : Int) (eachM a0 a1)).take y)) r
  | 0, y, hd => by
    have he := each_bd hM
    have hN := hM.n1024
    have hel := each_len hM
    have hl := sl_len (l := l5) (s := (s : Int)) (n := eachM a0 a1) (by omega) (by omega) (by rw [hel]; exact Int.mul_le_mul_of_nonneg_right (by omega) (by omega))
    rw [List.take_of_length_le (by omega)]
    refine Ev.step (fun k => ?_) hnx
    simp only [moore_Minimise.l2]
    rw [if_neg (by omega), step1 (by omega)]
  | d + 1, y, hd => by
    have he := each_bd hM
    have hN := hM.n1024
    have h1 := hM.n1
    have hel := each_len hM
    have hle : ((s : Int) + 1) * eachM a0 a1 ≤ (l5.length : Int) := by rw [hel]; exact Int.mul_le_mul_of_nonneg_right (by omega) (by omega)
    have ih := min_l2 hc hs hO hnx d (y + 1) (by omega)
    rw [sl_snoc (by omega) (by omega) (by omega) hle, ← List.append_assoc] at ih
    have hsaid := said_eq (a0 := a0) (a1 := a1) (a2 := a2) (l4 := l4) (l5 := l5) (n := a3.toNat) (each := (eachM a0 a1).toNat) (i := y) (s := s) (each_nat hM).symm hs (by omega) (by
      have := mul_bd (a := a3) (b := eachM a0 a1) (A := 1024) (B := 64) (by omega) (by omega) hN he.2
      omega)
    rw [Int.toNat_of_nonneg (by omega), say_place hM] at hsaid
    refine Ev.succ ?_
    simp only [moore_Minimise.l2]
    refine Ev.pos (by omega) ?_
    refine Ev.bind (show Ev (fun _ => moore_said.f a0 a1 a2 a3 l4 l5 (s : Int) (y : Int)) _ by rw [hsaid]; exact Ev.now _) ?_
    refine Ev.pos (by rw [List.length_append, List.length_take]; omega) ?_
    rw [step1 (by omega)]
    exact ih
theorem min_l1 (hc : c.length = a3.toNat) {s : Nat} (hs : s < a3.toNat) {N : Int} {Nx O : List Int} (hX : Nx.length ≤ 65536) (hO : O.length ≤ 65536)
    (hnx : Ev (fun k => moore_Minimise.l0 k c a3 ((s + 1 : Nat) : Int) a0 a1 a2 a3 l4 l5 a0 a1 a2 N (Nx ++ (sl l4 (s : Int) a1).map (rd c)) (O ++ sl l5 (s : Int) (eachM a0 a1))) r) :
    ∀ (d x : Nat), x + d = a1.toNat → Ev (fun k => moore_Minimise.l1 k c (s : Int) a3 (s : Int) a1 (x : Int) a0 a1 a2 a3 l4 l5 a0 a1 a2 N (Nx ++ ((sl l4 (s : Int) a1).take x).map (rd c)) O) r
  | 0, x, hd => by
    have hk := hM.k1
    have hN := hM.n1024
    have h1 := hM.n1
    have hnl := hM.next
    have hl := sl_len (l := l4) (s := (s : Int)) (n := a1) (by omega) (by omega) (by rw [hnl]; exact Int.mul_le_mul_of_nonneg_right (by omega) (by omega))
    have h := min_l2 hM hc hs hO hnx (eachM a0 a1).toNat 0 (by omega)
    rw [List.take_zero, List.append_nil] at h
    rw [List.take_of_length_le (by omega)]
    refine Ev.step (fun k => ?_) h
    simp only [moore_Minimise.l1]
    rw [if_neg (by omega), if_neg (by omega), each_div hM]
    rfl
  | d + 1, x, hd => by
    have hk := hM.k64
    have hN := hM.n1024
    have h1 := hM.n1
    have hnl := hM.next
    have hle : ((s : Int) + 1) * a1 ≤ (l4.length : Int) := by rw [hnl]; exact Int.mul_le_mul_of_nonneg_right (by omega) (by omega)
    have ih := min_l1 hc hs hX hO hnx d (x + 1) (by omega)
    rw [sl_snoc (by omega) (by omega) (by omega) hle, List.map_append, ← List.append_assoc] at ih
    obtain ⟨p1, p2, p3, p4, p5⟩ := pair_place hM hs (x := x) (by omega)
    refine Ev.step (fun k => ?_) ih
    simp only [moore_Minimise.l1]
    rw [if_pos (by omega), p1, if_pos p2, if_pos p3, if_pos (by omega), if_pos (by omega), if_pos (by rw [List.length_append, List.length_map, List.length_take]; omega), step1 (by omega)]
    rfl
theorem min_l0 (hc : c.length = a3.toNat) (hr : Ev (fun k => (trim_Canon.f k a0 a1 a2 ((firsts c a3.toNat).length : Int) (quoN a1 l4 c a3.toNat) (quoO a0 a1 l5 c a3.toNat)).bind fun bt196 => (some (bt196.1, bt196.2.1, bt196.2.2.1, bt196.2.2.2.1, bt196.2.2.2.2.1, bt196.2.2.2.2.2.1, bt196.2.2.2.2.2.2))) r) :
    ∀ (d s : Nat), s + d = a3.toNat → Ev (fun k => moore_Minimise.l0 k c a3 (s : Int) a0 a1 a2 a3 l4 l5 a0 a1 a2 ((firsts c s).length : Int) (quoN a1 l4 c s) (quoO a0 a1 l5 c s)) r
  | 0, s, hd => by
    have h1 := hM.n1
    have : s = a3.toNat := by omega
    subst this
    refine Ev.step (fun k => ?_) hr
    simp only [moore_Minimise.l0]
    rw [if_neg (by omega)]
  | d + 1, s, hd => by
    have h1 := hM.n1
    have hN := hM.n1024
    have ih := min_l0 hc hr d (s + 1) (by omega)
    have hq := quo_small hM (c := c) s (by omega)
    have hfl := firsts_len c s
    by_cases hlt : rd c (s : Int) < ((firsts c s).length : Int)
    · have e : firsts c (s + 1) = firsts c s := by
        show (if _ then _ else _) = _
        rw [if_pos hlt]
      unfold quoN quoO at ih
      rw [e] at ih
      refine Ev.step (fun k => ?_) ih
      simp only [moore_Minimise.l0]
      rw [if_pos (by omega), if_pos (by omega), if_pos (by omega), if_pos hlt, step1 (by omega)]
      rfl
    · have e : firsts c (s + 1) = firsts c s ++ [(s : Int)] := by
        show (if _ then _ else _) = _
        rw [if_neg hlt]
      unfold quoN quoO at ih
      rw [e, List.flatMap_append, List.flatMap_append, List.length_append] at ih
      simp only [List.flatMap_cons, List.flatMap_nil, List.append_nil, List.length_cons, List.length_nil] at ih
      have h := min_l1 hM hc (s := s) (by omega) (N := ((firsts c s).length : Int) + 1) hq.1 hq.2 (r := r) (by
        push_cast at ih ⊢
        exact ih) a1.toNat 0 (by omega)
      rw [List.take_zero, List.map_nil, List.append_nil] at h
      refine Ev.step (fun k => ?_) h
      simp only [moore_Minimise.l0]
      rw [if_pos (by omega), if_pos (by omega), if_pos (by omega), if_neg hlt, wrap_id (by omega) (by omega)]
      rfl

/-! ### the classes' machine -/
end

theorem map_getD' {g : Int → Int} {l : List Int} {i : Nat} (hi : i < l.length) : (l.map g).getD i 0 = g (l.getD i 0) := by
  rw [List.getD_eq_getElem?_getD, List.getD_eq_getElem?_getD, List.getElem?_map, List.getElem?_eq_getElem hi]
  rfl
/-- h takes one machine's states to another's, step by step -/
structure Hom (a0 a1 : Int) (l4 l5 k4 k5 : List Int) (n m : Nat) (h : Nat → Nat) : Prop where
  rng : ∀ s, s < n → h s < m
  nx : ∀ s x, s < n → x < a1.toNat → nxN a1 k4 (h s) x = h (nxN a1 l4 s x)
  out : ∀ s y : Nat, s < n → (y : Int) < eachM a0 a1 → rd k5 ((h s : Int) * eachM a0 a1 + (y : Int)) = rd l5 ((s : Int) * eachM a0 a1 + (y : Int))

section
variable {a0 a1 a2 a3 : Int} {l4 l5 : List Int} (hM : RightM a0 a1 a2 a3 l4 l5)
include hM
theorem Hom.eqv {k4 k5 : List Int} {m : Nat} {h : Nat → Nat} (hh : Hom a0 a1 l4 l5 k4 k5 a3.toNat m h) : ∀ (i s t : Nat), s < a3.toNat → t < a3.toNat → (eqv a0 a1 k4 k5 i (h s) (h t) = true ↔ eqv a0 a1 l4 l5 i s t = true) := by
  have hsay : ∀ s t, s < a3.toNat → t < a3.toNat → (sayB a0 a1 k5 (h s) (h t) = true ↔ sayB a0 a1 l5 s t = true) := by
    intro s t hs ht
    rw [sayB_iff, sayB_iff]
    constructor
    · intro e y hy
      rw [← hh.out s y hs hy, ← hh.out t y ht hy]
      exact e y hy
    · intro e y hy
      rw [hh.out s y hs hy, hh.out t y ht hy]
      exact e y hy
  intro i
  induction i with
  | zero =>
    intro s t hs ht
    rw [eqv_zero, eqv_zero, hsay s t hs ht]
  | succ i ih =>
    intro s t hs ht
    rw [eqv_succ, eqv_succ, hsay s t hs ht]
    constructor
    · rintro ⟨h1, h2⟩
      refine ⟨h1, fun x hx => ?_⟩
      have := h2 x hx
      rw [hh.nx s x hs hx, hh.nx t x ht hx] at this
      exact (ih _ _ (nxN_lt hM hs hx).1 (nxN_lt hM ht hx).1).mp this
    · rintro ⟨h1, h2⟩
      refine ⟨h1, fun x hx => ?_⟩
      rw [hh.nx s x hs hx, hh.nx t x ht hx]
      exact (ih _ _ (nxN_lt hM hs hx).1 (nxN_lt hM ht hx).1).mpr (h2 x hx)

variable {R : Nat}
theorem quo_first {v : Nat} (hv : v < (cls a0 a1 a3 l4 l5 R).2) : ∃ u : Nat, u < a3.toNat ∧ (firsts (cls a0 a1 a3 l4 l5 R).1 a3.toNat).getD v 0 = (u : Int) ∧ rd (cls a0 a1 a3 l4 l5 R).1 (u : Int) = (v : Int) := by
  obtain ⟨f, h1, h2, h3⟩ := cls_num hM R
  rw [h2]
  rw [h3] at hv
  obtain ⟨e1, e2⟩ := firsts_num (f := f) (n := a3.toNat) a3.toNat (Nat.le_refl _)
  have hm := getD_mem (l := firsts (numC f a3.toNat) a3.toNat) (j := v) (by omega)
  have hb := firsts_lt _ _ _ hm
  exact ⟨((firsts (numC f a3.toNat) a3.toNat).getD v 0).toNat, by omega, by omega, by rw [Int.toNat_of_nonneg hb.1]; exact e2 v hv⟩
theorem quo_len : (firsts (cls a0 a1 a3 l4 l5 R).1 a3.toNat).length = (cls a0 a1 a3 l4 l5 R).2 := by
  obtain ⟨f, h1, h2, h3⟩ := cls_num hM R
  rw [h2, h3]
  exact (firsts_num (f := f) (n := a3.toNat) a3.toNat (Nat.le_refl _)).1

abbrev qN (a0 a1 a3 : Int) (l4 l5 : List Int) (R : Nat) : List Int := quoN a1 l4 (cls a0 a1 a3 l4 l5 R).1 a3.toNat
abbrev qO (a0 a1 a3 : Int) (l4 l5 : List Int) (R : Nat) : List Int := quoO a0 a1 l5 (cls a0 a1 a3 l4 l5 R).1 a3.toNat
/-- the class of a state -/
abbrev qh (a0 a1 a3 : Int) (l4 l5 : List Int) (R s : Nat) : Nat := (rd (cls a0 a1 a3 l4 l5 R).1 (s : Int)).toNat

theorem quo_next {v x : Nat} (hv : v < (cls a0 a1 a3 l4 l5 R).2) (hx : x < a1.toNat) {u : Nat} (hu : u < a3.toNat) (e1 : (firsts (cls a0 a1 a3 l4 l5 R).1 a3.toNat).getD v 0 = (u : Int)) : nxM a1 (qN a0 a1 a3 l4 l5 R) (v : Int) (x : Int) = rd (cls a0 a1 a3 l4 l5 R).1 (nxN a1 l4 u x : Int) := by
  have hk := hM.k1
  have hl := quo_len hM (R := R)
  have hnl := hM.next
  have hx2 := nxN_lt hM hu hx
  have hrow : ∀ w ∈ firsts (cls a0 a1 a3 l4 l5 R).1 a3.toNat, ((sl l4 w a1).map (rd (cls a0 a1 a3 l4 l5 R).1)).length = a1.toNat := by
    intro w hw
    have hb := firsts_lt _ _ _ hw
    have h1 := hM.n1
    rw [List.length_map, sl_len hb.1 (by omega)]
    rw [hnl]
    exact Int.mul_le_mul_of_nonneg_right (by omega) (by omega)
  have hg := flat_get (fun w => (sl l4 w a1).map (rd (cls a0 a1 a3 l4 l5 R).1)) a1.toNat _ v x hrow (by omega) hx
  unfold nxM
  rw [show ((v : Int) * a1 + (x : Int)) = ((v * a1.toNat + x : Nat) : Int) by push_cast; rw [Int.toNat_of_nonneg (by omega)], rd_nat]
  unfold qN quoN
  rw [hg, e1, map_getD' (by rw [← List.length_map (f := rd (cls a0 a1 a3 l4 l5 R).1), hrow _ (by rw [← e1]; exact getD_mem (by omega))]; exact hx), sl_get (by omega) (by omega) (by omega)]
  congr 1
  exact hx2.2
theorem quo_out {v y : Nat} (hv : v < (cls a0 a1 a3 l4 l5 R).2) (hy : (y : Int) < eachM a0 a1) {u : Nat} (hu : u < a3.toNat) (e1 : (firsts (cls a0 a1 a3 l4 l5 R).1 a3.toNat).getD v 0 = (u : Int)) : rd (qO a0 a1 a3 l4 l5 R) ((v : Int) * eachM a0 a1 + (y : Int)) = rd l5 ((u : Int) * eachM a0 a1 + (y : Int)) := by
  have hk := each_bd hM
  have hl := quo_len hM (R := R)
  have hnl := each_len hM
  have hrow : ∀ w ∈ firsts (cls a0 a1 a3 l4 l5 R).1 a3.toNat, (sl l5 w (eachM a0 a1)).length = (eachM a0 a1).toNat := by
    intro w hw
    have hb := firsts_lt _ _ _ hw
    have h1 := hM.n1
    rw [sl_len hb.1 (by omega)]
    rw [hnl]
    exact Int.mul_le_mul_of_nonneg_right (by omega) (by omega)
  have hg := flat_get (fun w => sl l5 w (eachM a0 a1)) (eachM a0 a1).toNat _ v y hrow (by omega) (by omega)
  rw [show ((v : Int) * eachM a0 a1 + (y : Int)) = ((v * (eachM a0 a1).toNat + y : Nat) : Int) by push_cast; rw [Int.toNat_of_nonneg (by omega)], rd_nat]
  unfold qO quoO
  rw [hg, e1, sl_get (by omega) (by omega) (by omega)]
theorem quo_right (h0 : 0 < (cls a0 a1 a3 l4 l5 R).2 := (cls_num hM R).pos (by have := hM.n1; omega)) : RightM a0 a1 a2 ((cls a0 a1 a3 l4 l5 R).2 : Int) (qN a0 a1 a3 l4 l5 R) (qO a0 a1 a3 l4 l5 R) := by
  have hk := hM.k1
  have he := each_bd hM
  have hN := hM.n1024
  have hn := (cls_num hM R).cnt_le
  obtain ⟨r1, r2⟩ := rows_bd hM (c := (cls a0 a1 a3 l4 l5 R).1) a3.toNat (Nat.le_refl _)
  rw [quo_len hM] at r1 r2
  refine ⟨hM.kind, hM.k1, hM.k64, hM.dfa, hM.o1, hM.o64, by omega, by omega, ?_, ?_, ?_, ?_⟩
  · rw [r1]
    push_cast
    rw [Int.toNat_of_nonneg (by omega)]
  · rw [r2]
    push_cast
    rw [Int.toNat_of_nonneg (by omega)]
    unfold eachM
    split <;> simp
  · intro x hx
    unfold qN quoN at hx
    obtain ⟨u, hu, hx⟩ := List.mem_flatMap.mp hx
    obtain ⟨t, ht, rfl⟩ := List.mem_map.mp hx
    have hb := hM.nextIn t (sl_mem ht)
    have := (cls_num hM R).bd (s := t.toNat) (by omega)
    rwa [Int.toNat_of_nonneg hb.1] at this
  · intro x hx
    unfold qO quoO at hx
    obtain ⟨u, hu, hx⟩ := List.mem_flatMap.mp hx
    exact hM.outIn x (sl_mem hx)
theorem lens_ok : l4.length ≤ maxLen ∧ l5.length ≤ maxLen := by
  have h1 := hM.next
  have h2 := each_len hM
  have hk := hM.k64
  have hk1 := hM.k1
  have he := each_bd hM
  have hn := hM.n1
  have hN := hM.n1024
  have b1 := mul_bd (a := a3) (b := a1) (A := 1024) (B := 64) (by omega) (by omega) hN hk
  have b2 := mul_bd (a := a3) (b := eachM a0 a1) (A := 1024) (B := 64) (by omega) (by omega) hN he.2
  unfold maxLen
  omega
variable (hst : (cls a0 a1 a3 l4 l5 (R + 1)).2 = (cls a0 a1 a3 l4 l5 R).2)
include hst
theorem still_all {s t : Nat} (hs : s < a3.toNat) (ht : t < a3.toNat) (h : eqv a0 a1 l4 l5 R s t = true) (i : Nat) : eqv a0 a1 l4 l5 i s t = true := by
  have h1 := ((cls_num hM R).same (cls_num hM (R + 1)) (fun s t _ _ e => eqv_down e)).2 (by omega)
  rcases Nat.le_total R i with hle | hle
  · have := eqv_still hM h1 (i - R) s t hs ht h
    rwa [show R + (i - R) = i by omega] at this
  · obtain ⟨d, rfl⟩ : ∃ d, R = i + d := ⟨R - i, by omega⟩
    exact eqv_downs d h
theorem quo_hom : Hom a0 a1 l4 l5 (qN a0 a1 a3 l4 l5 R) (qO a0 a1 a3 l4 l5 R) a3.toNat (cls a0 a1 a3 l4 l5 R).2 (qh a0 a1 a3 l4 l5 R) := by
  have hbd : ∀ s, s < a3.toNat → qh a0 a1 a3 l4 l5 R s < (cls a0 a1 a3 l4 l5 R).2 ∧ (qh a0 a1 a3 l4 l5 R s : Int) = rd (cls a0 a1 a3 l4 l5 R).1 (s : Int) := by
    intro s hs
    have := (cls_num hM R).bd hs
    unfold qh
    omega
  have hrep : ∀ s, s < a3.toNat → ∃ u : Nat, u < a3.toNat ∧ (firsts (cls a0 a1 a3 l4 l5 R).1 a3.toNat).getD (qh a0 a1 a3 l4 l5 R s) 0 = (u : Int) ∧ eqv a0 a1 l4 l5 (R + 1) u s = true := by
    intro s hs
    obtain ⟨u, hu, e1, e2⟩ := quo_first hM (hbd s hs).1
    refine ⟨u, hu, e1, still_all hM hst hu hs (((cls_num hM R).eq hu hs).mp ?_) (R + 1)⟩
    rw [e2, (hbd s hs).2]
  refine ⟨fun s hs => (hbd s hs).1, fun s x hs hx => ?_, fun s y hs hy => ?_⟩
  · obtain ⟨u, hu, e1, e2⟩ := hrep s hs
    have h2 := (eqv_succ.mp e2).2 x hx
    have h3 := ((cls_num hM R).eq (nxN_lt hM hu hx).1 (nxN_lt hM hs hx).1).mpr h2
    have h4 := quo_next hM (hbd s hs).1 hx hu e1
    unfold nxN
    rw [h4, h3]
    rfl
  · obtain ⟨u, hu, e1, e2⟩ := hrep s hs
    rw [quo_out hM (hbd s hs).1 hy hu e1]
    exact sayB_iff.mp (eqv_say (Or.inr (by omega)) e2) y hy
end
theorem wf_in {l : List Int} {n : Int} (h : InR l n) (hn : n ≤ 1024) : ∀ x ∈ l, (Lit.int .i64 x).wf = true := fun x hx => by
  have := h x hx
  exact wf_key this.1 (by omega)
section
variable {a0 a1 a2 a3 : Int} {l4 l5 : List Int} (hM : RightM a0 a1 a2 a3 l4 l5)
include hM
theorem min_right {R : Nat} (hR : R < a3.toNat) (hst : (cls a0 a1 a3 l4 l5 (R + 1)).2 = (cls a0 a1 a3 l4 l5 R).2) (hno : ∀ i, i < R → (cls a0 a1 a3 l4 l5 (i + 1)).2 ≠ (cls a0 a1 a3 l4 l5 i).2) :
    Ev (fun k => moore_Minimise.f k a0 a1 a2 a3 l4 l5) (a0, a1, a2, ((reachS a1 ((cls a0 a1 a3 l4 l5 R).2 : Int) (qN a0 a1 a3 l4 l5 R)).1.length : Int), canN a1 ((cls a0 a1 a3 l4 l5 R).2 : Int) (qN a0 a1 a3 l4 l5 R), canO a0 a1 ((cls a0 a1 a3 l4 l5 R).2 : Int) (qN a0 a1 a3 l4 l5 R) (qO a0 a1 a3 l4 l5 R), 0) := by
  have hQ := quo_right hM (R := R)
  have hc := canon_right hQ (wf_in hQ.nextIn hQ.n1024) (wf_in hQ.outIn (Int.le_trans hQ.o64 (by decide))) (lens_ok hQ).1 (lens_ok hQ).2
  refine Ev.bind (mclasses_right hM (wf_in hM.nextIn hM.n1024) (wf_in hM.outIn (Int.le_trans hM.o64 (by decide))) (lens_ok hM).1 (lens_ok hM).2 hR hst hno) ?_
  refine Ev.pos rfl ?_
  have h := min_l0 hM (c := (cls a0 a1 a3 l4 l5 R).1) (cls_num hM R).len (r := (a0, a1, a2, ((reachS a1 ((cls a0 a1 a3 l4 l5 R).2 : Int) (qN a0 a1 a3 l4 l5 R)).1.length : Int), canN a1 ((cls a0 a1 a3 l4 l5 R).2 : Int) (qN a0 a1 a3 l4 l5 R), canO a0 a1 ((cls a0 a1 a3 l4 l5 R).2 : Int) (qN a0 a1 a3 l4 l5 R) (qO a0 a1 a3 l4 l5 R), 0)) ?_ a3.toNat 0 (by omega)
  · exact h
  · rw [quo_len hM]
    exact Ev.bind hc (Ev.now _)
end
theorem min_wrong {a0 a1 a2 a3 : Int} {l4 l5 : List Int} (hM : ¬ RightM a0 a1 a2 a3 l4 l5) (hw4 : ∀ x ∈ l4, (Lit.int .i64 x).wf = true) (hw5 : ∀ x ∈ l5, (Lit.int .i64 x).wf = true) (hl4 : l4.length ≤ maxLen) (hl5 : l5.length ≤ maxLen) :
    Ev (fun k => moore_Minimise.f k a0 a1 a2 a3 l4 l5) (0, 0, 0, 0, [], [], errM a0 a1 a2 a3 l4 l5) := by
  have he : errM a0 a1 a2 a3 l4 l5 ≠ 0 := fun h => hM (errM_zero.mp h)
  exact Ev.bind (mclasses_wrong hM hl4 hl5 hw4 hw5) (Ev.neg he (Ev.now _))
end Go.Proofs.Ytllgeljacmpdjaa.PTrim
