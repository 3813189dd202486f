/- Two machines that say the same of every word come to one least machine. -/
import Derived.Test.YtllgeljacmpdjaaGLeast
namespace Go.Proofs.Ytllgeljacmpdjaa.PTrim
open Go.RowKit Go.Proofs.YtllgeljacmpdjaaW.PrintWords Go.Proofs.YtllgeljacmpdjaaW.PrintLast Go.Proofs.YtllgeljacmpdjaaW.PrintMore Go.Proofs.Ytllgeljacmpdjaa.Bfs
set_option linter.unusedVariables false
set_option linter.unusedSectionVars false

theorem runTo_append (nx : Int → Int → Int) (s : Int) (u w : List Int) : runTo nx s (u ++ w) = runTo nx (runTo nx s u) w := by simp [runTo]
theorem mealy_append (nx ox : Int → Int → Int) : ∀ (u : List Int) (s : Int) (w : List Int), mealy nx ox s (u ++ w) = mealy nx ox s u ++ mealy nx ox (runTo nx s u) w
  | [], s, w => rfl
  | x :: u, s, w => by
    show ox s x :: mealy nx ox (nx s x) (u ++ w) = ox s x :: (mealy nx ox (nx s x) u ++ mealy nx ox (runTo nx (nx s x) u) w)
    rw [mealy_append nx ox u (nx s x) w]
theorem mealy_length (nx ox : Int → Int → Int) : ∀ (u : List Int) (s : Int), (mealy nx ox s u).length = u.length
  | [], s => rfl
  | x :: u, s => by
    show (mealy nx ox (nx s x) u).length + 1 = u.length + 1
    rw [mealy_length nx ox u]
theorem goOut_after {a0 a1 : Int} {l4 l5 k4 k5 : List Int} {s t : Int} {u v w : List Int} (hl : u.length = v.length) (h : goOut a0 a1 l4 l5 s (u ++ w) = goOut a0 a1 k4 k5 t (v ++ w)) : goOut a0 a1 l4 l5 (runTo (nxM a1 l4) s u) w = goOut a0 a1 k4 k5 (runTo (nxM a1 k4) t v) w := by
  unfold goOut at h ⊢
  by_cases e : a0 = 1
  · rw [if_pos e, if_pos e] at h ⊢
    rw [← runTo_append, ← runTo_append]
    exact h
  · rw [if_neg e, if_neg e] at h ⊢
    rw [mealy_append, mealy_append] at h
    exact (List.append_inj h (by rw [mealy_length, mealy_length, hl])).2
/-- what is said in two states is the same -/
def dsay (a0 a1 : Int) (l5 k5 : List Int) (s t : Int) : Prop := ∀ y : Nat, (y : Int) < eachM a0 a1 → rd l5 (s * eachM a0 a1 + (y : Int)) = rd k5 (t * eachM a0 a1 + (y : Int))
section
variable {a0 a1 a2 a3 b3 : Int} {l4 l5 k4 k5 : List Int} (hM : RightM a0 a1 a2 a3 l4 l5) (hM' : RightM a0 a1 a2 b3 k4 k5)
include hM hM'
theorem dsay_out {s t : Int} (h : ∀ w, InR w a1 → goOut a0 a1 l4 l5 s w = goOut a0 a1 k4 k5 t w) : dsay a0 a1 l5 k5 s t := by
  intro y hy
  by_cases e : a0 = 1
  · have h1 := h [] (fun x hx => by cases hx)
    have ee : eachM a0 a1 = 1 := by unfold eachM; rw [if_pos e]
    unfold goOut at h1
    rw [if_pos e, if_pos e] at h1
    injection h1 with h1
    rw [ee] at hy ⊢
    have : y = 0 := by omega
    subst this
    simp only [Int.mul_one, Int.natCast_zero, Int.add_zero]
    exact h1
  · have ee : eachM a0 a1 = a1 := by unfold eachM; rw [if_neg e]
    rw [ee] at hy ⊢
    have h1 := h [(y : Int)] (fun x hx => by rw [List.mem_singleton.mp hx]; omega)
    unfold goOut at h1
    rw [if_neg e, if_neg e] at h1
    injection h1 with h1
theorem out_dsay (h : ∀ w, InR w a1 → dsay a0 a1 l5 k5 (runTo (nxM a1 l4) 0 w) (runTo (nxM a1 k4) 0 w)) : ∀ w, InR w a1 → goOut a0 a1 l4 l5 0 w = goOut a0 a1 k4 k5 0 w := by
  intro w hw
  unfold goOut
  by_cases e : a0 = 1
  · rw [if_pos e, if_pos e]
    have ee : eachM a0 a1 = 1 := by unfold eachM; rw [if_pos e]
    have h1 := h w hw 0 (by rw [ee]; decide)
    rw [ee] at h1
    simp only [Int.mul_one, Int.natCast_zero, Int.add_zero] at h1
    rw [h1]
  · rw [if_neg e, if_neg e]
    have ee : eachM a0 a1 = a1 := by unfold eachM; rw [if_neg e]
    have : ∀ (v u : List Int), InR (u ++ v) a1 → mealy (nxM a1 l4) (nxM a1 l5) (runTo (nxM a1 l4) 0 u) v = mealy (nxM a1 k4) (nxM a1 k5) (runTo (nxM a1 k4) 0 u) v := by
      intro v
      induction v with
      | nil => intro u _; rfl
      | cons x v ih =>
        intro u hu
        have hx := hu x (by simp)
        obtain ⟨y, rfl⟩ : ∃ y : Nat, x = y := ⟨x.toNat, by omega⟩
        have h1 := h u (fun z hz => hu z (List.mem_append_left _ hz)) y (by rw [ee]; exact hx.2)
        rw [ee] at h1
        have h2 := ih (u ++ [(y : Int)]) (by rw [List.append_assoc]; exact hu)
        rw [runTo_snoc, runTo_snoc] at h2
        show nxM a1 l5 _ _ :: _ = nxM a1 k5 _ _ :: _
        rw [h2]
        congr 1
    exact this w [] hw
omit hM' in
/-- states that say the same of every word are alike up to any length -/
theorem eqv_of_out : ∀ (i s t : Nat), s < a3.toNat → t < a3.toNat → (∀ w, InR w a1 → goOut a0 a1 l4 l5 (s : Int) w = goOut a0 a1 l4 l5 (t : Int) w) → eqv a0 a1 l4 l5 i s t = true
  | 0, s, t, hs, ht, h => eqv_zero.mpr (fun _ => sayB_iff.mpr (dsay_out hM hM h))
  | i + 1, s, t, hs, ht, h => by
    refine eqv_succ.mpr ⟨sayB_iff.mpr (dsay_out hM hM h), fun x hx => ?_⟩
    have e1 := nxN_lt hM hs hx
    have e2 := nxN_lt hM ht hx
    refine eqv_of_out i _ _ e1.1 e2.1 (fun w hw => ?_)
    have h1 := h ((x : Int) :: w) (fun z hz => by
      rcases List.mem_cons.mp hz with rfl | hz
      · omega
      · exact hw z hz)
    have h2 := goOut_after (u := [(x : Int)]) (v := [(x : Int)]) (w := w) rfl h1
    rw [← e1.2, ← e2.2]
    exact h2
end

section
variable {a0 a1 a2 a3 b3 : Int} {l4 l5 k4 k5 : List Int} (hM : RightM a0 a1 a2 a3 l4 l5) (hM' : RightM a0 a1 a2 b3 k4 k5)
  (hap : ∀ s t : Nat, s < a3.toNat → t < a3.toNat → (∀ i, eqv a0 a1 l4 l5 i s t = true) → s = t)
  (hap' : ∀ s t : Nat, s < b3.toNat → t < b3.toNat → (∀ i, eqv a0 a1 k4 k5 i s t = true) → s = t)
  (hout : ∀ w, InR w a1 → goOut a0 a1 l4 l5 0 w = goOut a0 a1 k4 k5 0 w)
include hM hM' hap hap' hout
omit hap in
theorem run_det {u v : List Int} (hu : InR u a1) (hv : InR v a1) (h : runTo (nxM a1 l4) 0 u = runTo (nxM a1 l4) 0 v) : runTo (nxM a1 k4) 0 u = runTo (nxM a1 k4) 0 v := by
  have h1 := hM'.runs u 0 (by omega) (by have := hM'.n1; omega) hu
  have h2 := hM'.runs v 0 (by omega) (by have := hM'.n1; omega) hv
  have h3 := hap' (runTo (nxM a1 k4) 0 u).toNat (runTo (nxM a1 k4) 0 v).toNat (by omega) (by omega) (fun i => eqv_of_out hM' i _ _ (by omega) (by omega) (fun w hw => by
    rw [Int.toNat_of_nonneg h1.1, Int.toNat_of_nonneg h2.1]
    have w1 : InR (u ++ w) a1 := fun z hz => by rcases List.mem_append.mp hz with hz | hz; exact hu z hz; exact hw z hz
    have w2 : InR (v ++ w) a1 := fun z hz => by rcases List.mem_append.mp hz with hz | hz; exact hv z hz; exact hw z hz
    rw [← goOut_after rfl (hout (u ++ w) w1), ← goOut_after rfl (hout (v ++ w) w2), h]))
  omega
theorem canon_one : ((reachS a1 b3 k4).1.length : Int) = ((reachS a1 a3 l4).1.length : Int) ∧ canN a1 b3 k4 = canN a1 a3 l4 ∧ canO a0 a1 b3 k4 k5 = canO a0 a1 a3 l4 l5 := by
  have hinv := reach_inv hM
  have hk := hM.k1
  -- a state's first word
  have hw : ∀ s ∈ (reachS a1 a3 l4).1, ∃ w, (reachS a1 a3 l4).2.getD ((reachS a1 a3 l4).1.idxOf s) [] = w ∧ InR w a1 ∧ runTo (nxM a1 l4) 0 w = s := by
    intro s hs
    have hlt := List.idxOf_lt_length_of_mem hs
    refine ⟨_, rfl, fun y hy => ?_, ?_⟩
    · have := hinv.syms _ hlt y hy
      rwa [Int.toNat_of_nonneg (by omega)] at this
    · have hinv2 : Bfs.Inv (nxM a1 l4) a1.toNat a3 (reachS a1 a3 l4) (reachS a1 a3 l4).1.length 0 := hinv
      rw [hinv2.runs _ hlt, List.getD_eq_getElem?_getD, List.getElem?_eq_getElem hlt]
      exact List.getElem_idxOf hlt
  have hrun' : ∀ w, InR w a1 → 0 ≤ runTo (nxM a1 k4) 0 w ∧ runTo (nxM a1 k4) 0 w < b3 := fun w hw => hM'.runs w 0 (by omega) (by have := hM'.n1; omega) hw
  have hrun : ∀ w, InR w a1 → 0 ≤ runTo (nxM a1 l4) 0 w ∧ runTo (nxM a1 l4) 0 w < a3 := fun w hw => hM.runs w 0 (by omega) (by have := hM.n1; omega) hw
  have h0m : (0 : Int) ∈ (reachS a1 a3 l4).1 := by
    have := getD_mem hinv.pos
    rw [hinv.s0] at this
    exact this
  have hnx : ∀ s ∈ (reachS a1 a3 l4).1, ∀ x : Nat, (x : Int) < a1 → nxM a1 l4 s x ∈ (reachS a1 a3 l4).1 := by
    intro s hs x hx
    obtain ⟨j, hj, rfl⟩ := mem_getD hs
    obtain ⟨q, hq, e1, e2⟩ := can_step hM hj hx
    rw [← e2]
    exact getD_mem hq
  refine canon_same hM hM' (h := fun s => runTo (nxM a1 k4) 0 ((reachS a1 a3 l4).2.getD ((reachS a1 a3 l4).1.idxOf s) [])) ?_ ?_ ?_ ?_ ?_
  · obtain ⟨w, e, h1, h2⟩ := hw 0 h0m
    show runTo (nxM a1 k4) 0 _ = 0
    rw [e, run_det hM hM' hap' hout h1 (v := []) (fun x hx => by cases hx) h2]
    rfl
  · intro s hs
    obtain ⟨w, e, h1, h2⟩ := hw s hs
    show 0 ≤ runTo (nxM a1 k4) 0 _ ∧ runTo (nxM a1 k4) 0 _ < b3
    rw [e]
    exact hrun' w h1
  · intro s hs t ht h
    obtain ⟨w, e, h1, h2⟩ := hw s hs
    obtain ⟨w', e', h1', h2'⟩ := hw t ht
    change runTo (nxM a1 k4) 0 _ = runTo (nxM a1 k4) 0 _ at h
    rw [e, e'] at h
    rw [← h2, ← h2']
    exact run_det hM' hM hap (fun w hw => (hout w hw).symm) h1 h1' h
  · intro s hs x hx
    obtain ⟨w, e, h1, h2⟩ := hw s hs
    obtain ⟨w', e', h1', h2'⟩ := hw _ (hnx s hs x hx)
    show nxM a1 k4 (runTo (nxM a1 k4) 0 _) x = runTo (nxM a1 k4) 0 _
    rw [e, e', show nxM a1 k4 (runTo (nxM a1 k4) 0 w) (x : Int) = runTo (nxM a1 k4) 0 (w ++ [(x : Int)]) from (runTo_snoc _ _ _).symm]
    refine run_det hM hM' hap' hout (fun z hz => ?_) h1' ?_
    · rcases List.mem_append.mp hz with hz | hz
      · exact h1 z hz
      · rw [List.mem_singleton.mp hz]; omega
    · rw [runTo_snoc, h2, h2']
  · intro s hs x hx
    obtain ⟨w, e, h1, h2⟩ := hw s hs
    show rd k5 (runTo (nxM a1 k4) 0 _ * eachM a0 a1 + x) = _
    rw [e]
    have h3 := dsay_out hM hM' (s := s) (t := runTo (nxM a1 k4) 0 w) (fun v hv => by
      have w1 : InR (w ++ v) a1 := fun z hz => by rcases List.mem_append.mp hz with hz | hz; exact h1 z hz; exact hv z hz
      rw [← h2]
      exact goOut_after rfl (hout (w ++ v) w1))
    exact (h3 x hx).symm
end
/-- two machines that say the same of every word come to one least machine -/
theorem least_one {a0 a1 a2 a3 b3 : Int} {l4 l5 k4 k5 : List Int} (hM : RightM a0 a1 a2 a3 l4 l5) (hM' : RightM a0 a1 a2 b3 k4 k5) {R R' : Nat} (hst : (cls a0 a1 a3 l4 l5 (R + 1)).2 = (cls a0 a1 a3 l4 l5 R).2) (hst' : (cls a0 a1 b3 k4 k5 (R' + 1)).2 = (cls a0 a1 b3 k4 k5 R').2)
    (hout : ∀ w, InR w a1 → goOut a0 a1 l4 l5 0 w = goOut a0 a1 k4 k5 0 w) : lN a0 a1 b3 k4 k5 R' = lN a0 a1 a3 l4 l5 R ∧ lNx a0 a1 b3 k4 k5 R' = lNx a0 a1 a3 l4 l5 R ∧ lO a0 a1 b3 k4 k5 R' = lO a0 a1 a3 l4 l5 R := by
  have hQ := quo_right hM (R := R)
  have hQ' := quo_right hM' (R := R')
  have hL := least_right hM (R := R)
  have hL' := least_right hM' (R := R')
  have h := canon_one hL hL' (fun s t hs ht h => least_apart hM hst hs ht (h R)) (fun s t hs ht h => least_apart hM' hst' hs ht (h R')) (fun w hw => by rw [least_goOut hM hst hw, least_goOut hM' hst' hw]; exact hout w hw)
  have h1 := canon_again hQ
  have h2 := canon_again hQ'
  exact ⟨h2.1.symm.trans (h.1.trans h1.1), h2.2.1.symm.trans (h.2.1.trans h1.2.1), h2.2.2.symm.trans (h.2.2.trans h1.2.2)⟩
end Go.Proofs.Ytllgeljacmpdjaa.PTrim
