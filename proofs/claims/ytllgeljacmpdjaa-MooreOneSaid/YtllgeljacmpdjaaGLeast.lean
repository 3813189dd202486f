/- The least machine: it says what the machine says; no two of its states are alike; minimised again it is the same. -/
import Derived.Test.YtllgeljacmpdjaaGQuo
import Derived.Test.YtllgeljacmpdjaaGAgain
namespace Go.Proofs.Ytllgeljacmpdjaa.PTrim
open Go.RowKit Go.Proofs.YtllgeljacmpdjaaW.PrintWords Go.Proofs.YtllgeljacmpdjaaW.PrintLast Go.Proofs.YtllgeljacmpdjaaW.PrintMore Go.Proofs.Ytllgeljacmpdjaa.Bfs
set_option linter.unusedVariables false

/-- numbers of states that are all apart: each state's own -/
theorem num_id {n cnt : Nat} {E : Nat → Nat → Prop} {c : List Int} (h : IsNum n E c cnt) (hE : ∀ s t, s < n → t < n → E s t → s = t) (hn : 0 < n) : (∀ s, s < n → rd c (s : Int) = (s : Int)) ∧ cnt = n := by
  have hid : ∀ s, s < n → rd c (s : Int) = (s : Int) := by
    intro s
    induction s using Nat.strongRecOn with
    | ind s ih =>
      intro hs
      have hb := h.bd hs
      by_cases hlt : rd c (s : Int) < (s : Int)
      · exfalso
        have e := ih (rd c (s : Int)).toNat (by omega) (by omega)
        rw [Int.toNat_of_nonneg hb.1] at e
        have e2 : rd c (((rd c (s : Int)).toNat : Nat) : Int) = rd c (s : Int) := by rw [Int.toNat_of_nonneg hb.1]; exact e
        have := hE _ _ (by omega) hs ((h.eq (by omega) hs).mp e2)
        omega
      · by_cases hgt : (s : Int) < rd c (s : Int)
        · exfalso
          obtain ⟨t, ht, e⟩ := h.first hs (by omega) hgt
          rw [ih t ht (by omega)] at e
          omega
        · omega
  refine ⟨hid, ?_⟩
  have h1 := h.cnt_le
  have h2 := h.bd (s := n - 1) (by omega)
  rw [hid (n - 1) (by omega)] at h2
  omega
section
variable {a0 a1 a2 a3 : Int} {l4 l5 : List Int} (hM : RightM a0 a1 a2 a3 l4 l5)
include hM
/-! ### a machine and one to which its states are taken -/
theorem Hom.run {k4 k5 : List Int} {m : Nat} {h : Nat → Nat} (hh : Hom a0 a1 l4 l5 k4 k5 a3.toNat m h) (hM' : RightM a0 a1 a2 (m : Int) k4 k5) : ∀ (w : List Int) (s : Nat), s < a3.toNat → InR w a1 → ∃ t : Nat, t < a3.toNat ∧ runTo (nxM a1 l4) (s : Int) w = (t : Int) ∧ runTo (nxM a1 k4) (h s : Int) w = (h t : Int)
  | [], s, hs, _ => ⟨s, hs, rfl, rfl⟩
  | x :: w, s, hs, hw => by
    have hx := hw x (by simp)
    obtain ⟨y, rfl⟩ : ∃ y : Nat, x = y := ⟨x.toNat, by omega⟩
    have e1 := nxN_lt hM hs (x := y) (by omega)
    have e2 := nxN_lt hM' (s := h s) (x := y) (by have := hh.rng s hs; omega) (by omega)
    have e3 := hh.nx s y hs (by omega)
    obtain ⟨t, ht, e4, e5⟩ := Hom.run hh hM' w (nxN a1 l4 s y) e1.1 (fun z hz => hw z (List.mem_cons_of_mem _ hz))
    refine ⟨t, ht, ?_, ?_⟩
    · show runTo (nxM a1 l4) (nxM a1 l4 (s : Int) (y : Int)) w = _
      rw [e1.2]
      exact e4
    · show runTo (nxM a1 k4) (nxM a1 k4 (h s : Int) (y : Int)) w = _
      rw [e2.2, e3]
      exact e5
theorem Hom.mealy {k4 k5 : List Int} {m : Nat} {h : Nat → Nat} (hh : Hom a0 a1 l4 l5 k4 k5 a3.toNat m h) (hM' : RightM a0 a1 a2 (m : Int) k4 k5) (h2 : a0 ≠ 1) : ∀ (w : List Int) (s : Nat), s < a3.toNat → InR w a1 → PTrim.mealy (nxM a1 k4) (nxM a1 k5) (h s : Int) w = PTrim.mealy (nxM a1 l4) (nxM a1 l5) (s : Int) w
  | [], s, hs, _ => rfl
  | x :: w, s, hs, hw => by
    have hx := hw x (by simp)
    obtain ⟨y, rfl⟩ : ∃ y : Nat, x = y := ⟨x.toNat, by omega⟩
    have e1 := nxN_lt hM hs (x := y) (by omega)
    have e2 := nxN_lt hM' (s := h s) (x := y) (by have := hh.rng s hs; omega) (by omega)
    have e3 := hh.nx s y hs (by omega)
    have ih := Hom.mealy hh hM' h2 w (nxN a1 l4 s y) e1.1 (fun z hz => hw z (List.mem_cons_of_mem _ hz))
    have ee : eachM a0 a1 = a1 := by unfold eachM; rw [if_neg h2]
    have eo := hh.out s y hs (by rw [ee]; exact hx.2)
    rw [ee] at eo
    simp only [PTrim.mealy]
    rw [e1.2, e2.2, e3, ih]
    congr 1
theorem Hom.goOut {k4 k5 : List Int} {m : Nat} {h : Nat → Nat} (hh : Hom a0 a1 l4 l5 k4 k5 a3.toNat m h) (hM' : RightM a0 a1 a2 (m : Int) k4 k5) {w : List Int} {s : Nat} (hs : s < a3.toNat) (hw : InR w a1) : PTrim.goOut a0 a1 k4 k5 (h s : Int) w = PTrim.goOut a0 a1 l4 l5 (s : Int) w := by
  unfold PTrim.goOut
  by_cases h1 : a0 = 1
  · rw [if_pos h1, if_pos h1]
    obtain ⟨t, ht, e1, e2⟩ := hh.run hM hM' w s hs hw
    have ee : eachM a0 a1 = 1 := by unfold eachM; rw [if_pos h1]
    have eo := hh.out t 0 ht (by rw [ee]; decide)
    rw [ee] at eo
    rw [e1, e2]
    simp only [Int.mul_one, Int.natCast_zero, Int.add_zero] at eo
    rw [eo]
  · rw [if_neg h1, if_neg h1]
    exact hh.mealy hM hM' h1 w s hs hw
/-- Canon's machine lies in the machine -/
theorem can_hom : Hom a0 a1 (canN a1 a3 l4) (canO a0 a1 a3 l4 l5) l4 l5 (((reachS a1 a3 l4).1.length : Int)).toNat a3.toNat (fun j => ((reachS a1 a3 l4).1.getD j 0).toNat) := by
  have hinv := reach_inv hM
  have hS : ∀ j, j < (reachS a1 a3 l4).1.length → 0 ≤ (reachS a1 a3 l4).1.getD j 0 ∧ (reachS a1 a3 l4).1.getD j 0 < a3 := fun j hj => hinv.rng _ (getD_mem hj)
  refine ⟨fun s hs => ?_, fun s x hs hx => ?_, fun s y hs hy => ?_⟩
  · have := hS s (by omega)
    show ((reachS a1 a3 l4).1.getD s 0).toNat < _
    omega
  · obtain ⟨q, hq, e1, e2⟩ := can_step hM (j := s) (x := x) (by omega) (by omega)
    have := hS s (by omega)
    show nxN a1 l4 ((reachS a1 a3 l4).1.getD s 0).toNat x = ((reachS a1 a3 l4).1.getD (nxN a1 (canN a1 a3 l4) s x) 0).toNat
    unfold nxN
    rw [e1, Int.toNat_of_nonneg this.1, ← e2]
    rfl
  · have h1 := can_out hM (j := s) (x := y) (by omega) hy
    have := hS s (by omega)
    show rd l5 ((((reachS a1 a3 l4).1.getD s 0).toNat : Int) * eachM a0 a1 + (y : Int)) = _
    rw [Int.toNat_of_nonneg this.1, h1]
end

section
variable {a0 a1 a2 a3 : Int} {l4 l5 : List Int} (hM : RightM a0 a1 a2 a3 l4 l5)
include hM
variable {R : Nat} (hst : (cls a0 a1 a3 l4 l5 (R + 1)).2 = (cls a0 a1 a3 l4 l5 R).2)
include hst
/-- no two states of the quotient are alike -/
theorem quo_apart {v v' : Nat} (hv : v < (cls a0 a1 a3 l4 l5 R).2) (hv' : v' < (cls a0 a1 a3 l4 l5 R).2) (h : eqv a0 a1 (qN a0 a1 a3 l4 l5 R) (qO a0 a1 a3 l4 l5 R) R v v' = true) : v = v' := by
  obtain ⟨u, hu, _, e⟩ := quo_first hM hv
  obtain ⟨u', hu', _, e'⟩ := quo_first hM hv'
  have hh := quo_hom hM hst
  have hq : qh a0 a1 a3 l4 l5 R u = v := by unfold qh; omega
  have hq' : qh a0 a1 a3 l4 l5 R u' = v' := by unfold qh; omega
  have h2 := (hh.eqv hM R u u' hu hu').mp (by rw [hq, hq']; exact h)
  have := ((cls_num hM R).eq hu hu').mpr h2
  omega
abbrev lN (a0 a1 a3 : Int) (l4 l5 : List Int) (R : Nat) : Int := ((reachS a1 ((cls a0 a1 a3 l4 l5 R).2 : Int) (qN a0 a1 a3 l4 l5 R)).1.length : Int)
abbrev lNx (a0 a1 a3 : Int) (l4 l5 : List Int) (R : Nat) : List Int := canN a1 ((cls a0 a1 a3 l4 l5 R).2 : Int) (qN a0 a1 a3 l4 l5 R)
abbrev lO (a0 a1 a3 : Int) (l4 l5 : List Int) (R : Nat) : List Int := canO a0 a1 ((cls a0 a1 a3 l4 l5 R).2 : Int) (qN a0 a1 a3 l4 l5 R) (qO a0 a1 a3 l4 l5 R)
omit hst in
theorem least_right : RightM a0 a1 a2 (lN a0 a1 a3 l4 l5 R) (lNx a0 a1 a3 l4 l5 R) (lO a0 a1 a3 l4 l5 R) := canon_isRight (quo_right hM (R := R))
omit hst in
theorem least_small : lN a0 a1 a3 l4 l5 R ≤ a3 := by
  have hQ := quo_right hM (R := R)
  have h1 := (slen hQ (reach_inv hQ)).1
  have h2 := (cls_num hM R).cnt_le
  have h3 := hM.n1
  unfold lN
  omega
theorem least_goOut {w : List Int} (hw : InR w a1) : goOut a0 a1 (lNx a0 a1 a3 l4 l5 R) (lO a0 a1 a3 l4 l5 R) 0 w = goOut a0 a1 l4 l5 0 w := by
  have hQ := quo_right hM (R := R)
  have h1 := hM.n1
  unfold lNx lO
  rw [can_goOut hQ hw]
  have h := (quo_hom hM hst).goOut hM hQ (w := w) (s := 0) (by omega) hw
  have hz : qh a0 a1 a3 l4 l5 R 0 = 0 := by
    unfold qh
    have := (cls_num hM R).zero (by omega)
    rw [show ((0 : Nat) : Int) = 0 from rfl, this]
    rfl
  rw [hz] at h
  exact h
/-- no two states of the least machine are alike -/
theorem least_apart {s t : Nat} (hs : s < (lN a0 a1 a3 l4 l5 R).toNat) (ht : t < (lN a0 a1 a3 l4 l5 R).toNat) (h : eqv a0 a1 (lNx a0 a1 a3 l4 l5 R) (lO a0 a1 a3 l4 l5 R) R s t = true) : s = t := by
  have hQ := quo_right hM (R := R)
  have hL := least_right hM (R := R)
  have hinv := reach_inv hQ
  have hh := can_hom hQ
  have h2 := (hh.eqv hL R s t hs ht).mpr h
  have h3 := quo_apart hM hst (by have := hh.rng s hs; omega) (by have := hh.rng t ht; omega) h2
  have b1 := hinv.rng _ (getD_mem (show s < (reachS a1 ((cls a0 a1 a3 l4 l5 R).2 : Int) (qN a0 a1 a3 l4 l5 R)).1.length by unfold lN at hs; omega))
  have b2 := hinv.rng _ (getD_mem (show t < (reachS a1 ((cls a0 a1 a3 l4 l5 R).2 : Int) (qN a0 a1 a3 l4 l5 R)).1.length by unfold lN at ht; omega))
  exact hinv.inj (by unfold lN at hs; omega) (by unfold lN at ht; omega) (by omega)
theorem least_cls {r : Nat} (hr : (cls a0 a1 (lN a0 a1 a3 l4 l5 R) (lNx a0 a1 a3 l4 l5 R) (lO a0 a1 a3 l4 l5 R) (r + 1)).2 = (cls a0 a1 (lN a0 a1 a3 l4 l5 R) (lNx a0 a1 a3 l4 l5 R) (lO a0 a1 a3 l4 l5 R) r).2) :
    (∀ s, s < (lN a0 a1 a3 l4 l5 R).toNat → rd (cls a0 a1 (lN a0 a1 a3 l4 l5 R) (lNx a0 a1 a3 l4 l5 R) (lO a0 a1 a3 l4 l5 R) r).1 (s : Int) = (s : Int)) ∧ (cls a0 a1 (lN a0 a1 a3 l4 l5 R) (lNx a0 a1 a3 l4 l5 R) (lO a0 a1 a3 l4 l5 R) r).2 = (lN a0 a1 a3 l4 l5 R).toNat := by
  have hL := least_right hM (R := R)
  have h1 := hL.n1
  refine num_id (cls_num hL r) (fun s t hs ht e => least_apart hM hst hs ht (still_all hL hr hs ht e R)) (by omega)
theorem least_again {r : Nat} (hr : (cls a0 a1 (lN a0 a1 a3 l4 l5 R) (lNx a0 a1 a3 l4 l5 R) (lO a0 a1 a3 l4 l5 R) (r + 1)).2 = (cls a0 a1 (lN a0 a1 a3 l4 l5 R) (lNx a0 a1 a3 l4 l5 R) (lO a0 a1 a3 l4 l5 R) r).2) :
    lN a0 a1 (lN a0 a1 a3 l4 l5 R) (lNx a0 a1 a3 l4 l5 R) (lO a0 a1 a3 l4 l5 R) r = lN a0 a1 a3 l4 l5 R ∧ lNx a0 a1 (lN a0 a1 a3 l4 l5 R) (lNx a0 a1 a3 l4 l5 R) (lO a0 a1 a3 l4 l5 R) r = lNx a0 a1 a3 l4 l5 R ∧ lO a0 a1 (lN a0 a1 a3 l4 l5 R) (lNx a0 a1 a3 l4 l5 R) (lO a0 a1 a3 l4 l5 R) r = lO a0 a1 a3 l4 l5 R := by
  have hQ := quo_right hM (R := R)
  have hL := least_right hM (R := R)
  have h1 := hL.n1
  have hk := hM.k1
  have he := each_bd hM
  obtain ⟨hid, hcnt⟩ := least_cls hM hst hr
  have hQ2 := quo_right hL (R := r)
  have eN : qN a0 a1 (lN a0 a1 a3 l4 l5 R) (lNx a0 a1 a3 l4 l5 R) (lO a0 a1 a3 l4 l5 R) r = lNx a0 a1 a3 l4 l5 R := by
    refine rows_eq (n := (lN a0 a1 a3 l4 l5 R).toNat) hk ?_ ?_ (fun j x hj hx => ?_)
    · have := hQ2.next
      rw [hcnt] at this
      have h2 : ((lN a0 a1 a3 l4 l5 R).toNat * a1.toNat : Nat) = (((lN a0 a1 a3 l4 l5 R).toNat : Int) * a1).toNat := by
        rw [Int.toNat_mul (by omega) (by omega)]
        simp
      omega
    · have := hL.next
      have h2 : ((lN a0 a1 a3 l4 l5 R).toNat * a1.toNat : Nat) = (lN a0 a1 a3 l4 l5 R * a1).toNat := by
        rw [Int.toNat_mul (by omega) (by omega)]
      omega
    · obtain ⟨u, hu, e1, e2⟩ := quo_first hL (R := r) (v := j) (by omega)
      rw [hid u hu] at e2
      have : u = j := by omega
      subst this
      have h2 := quo_next hL (R := r) (v := u) (x := x) (by omega) (by omega) hu e1
      have h3 := nxN_lt hL hu (x := x) (by omega)
      rw [hid _ h3.1, ← h3.2] at h2
      exact h2
  have eO : qO a0 a1 (lN a0 a1 a3 l4 l5 R) (lNx a0 a1 a3 l4 l5 R) (lO a0 a1 a3 l4 l5 R) r = lO a0 a1 a3 l4 l5 R := by
    refine rows_eq (n := (lN a0 a1 a3 l4 l5 R).toNat) he.1 ?_ ?_ (fun j x hj hx => ?_)
    · have := each_len hQ2
      rw [hcnt] at this
      have h2 : ((lN a0 a1 a3 l4 l5 R).toNat * (eachM a0 a1).toNat : Nat) = (((lN a0 a1 a3 l4 l5 R).toNat : Int) * eachM a0 a1).toNat := by
        rw [Int.toNat_mul (by omega) (by omega)]
        simp
      omega
    · have := each_len hL
      have h2 : ((lN a0 a1 a3 l4 l5 R).toNat * (eachM a0 a1).toNat : Nat) = (lN a0 a1 a3 l4 l5 R * eachM a0 a1).toNat := by
        rw [Int.toNat_mul (by omega) (by omega)]
      omega
    · obtain ⟨u, hu, e1, e2⟩ := quo_first hL (R := r) (v := j) (by omega)
      rw [hid u hu] at e2
      have : u = j := by omega
      subst this
      exact quo_out hL (R := r) (v := u) (y := x) (by omega) hx hu e1
  have eC : ((cls a0 a1 (lN a0 a1 a3 l4 l5 R) (lNx a0 a1 a3 l4 l5 R) (lO a0 a1 a3 l4 l5 R) r).2 : Int) = lN a0 a1 a3 l4 l5 R := by rw [hcnt]; omega
  have hA := canon_again hQ
  refine ⟨?_, ?_, ?_⟩
  · show ((reachS a1 _ (qN a0 a1 (lN a0 a1 a3 l4 l5 R) (lNx a0 a1 a3 l4 l5 R) (lO a0 a1 a3 l4 l5 R) r)).1.length : Int) = _
    rw [eN, eC]
    exact hA.1
  · show canN a1 _ (qN a0 a1 (lN a0 a1 a3 l4 l5 R) (lNx a0 a1 a3 l4 l5 R) (lO a0 a1 a3 l4 l5 R) r) = _
    rw [eN, eC]
    exact hA.2.1
  · show canO a0 a1 _ (qN a0 a1 (lN a0 a1 a3 l4 l5 R) (lNx a0 a1 a3 l4 l5 R) (lO a0 a1 a3 l4 l5 R) r) (qO a0 a1 (lN a0 a1 a3 l4 l5 R) (lNx a0 a1 a3 l4 l5 R) (lO a0 a1 a3 l4 l5 R) r) = _
    rw [eN, eC, eO]
    exact hA.2.2
end
end Go.Proofs.Ytllgeljacmpdjaa.PTrim
