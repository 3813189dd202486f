/- trim.Reach, as printed, answers what going through the states tells. -/
import Derived.Test.YtllgeljacmpdjaaGChk
import Derived.Test.YtllgeljacmpdjaaGBfs
import Derived.Test.YtllgeljacmpdjaaGReach
namespace Go.Proofs.Ytllgeljacmpdjaa.PTrim
open Go.RowKit Go.Proofs.YtllgeljacmpdjaaW.PrintWords Go.Proofs.YtllgeljacmpdjaaW.PrintLast Go.Proofs.YtllgeljacmpdjaaW.PrintMore Go.Proofs.Ytllgeljacmpdjaa.Bfs
set_option linter.unusedVariables false
set_option linter.unusedSimpArgs false

/-- Where a symbol leads. -/
def nxM (a1 : Int) (l4 : List Int) (s x : Int) : Int := rd l4 (s * a1 + x)

section
variable {a0 a1 a2 a3 : Int} {l4 l5 : List Int}

theorem RightM.place (h : RightM a0 a1 a2 a3 l4 l5) {s x : Int} (h0 : 0 ≤ s) (h1 : s < a3) (h2 : 0 ≤ x) (h3 : x < a1) :
    0 ≤ s * a1 + x ∧ s * a1 + x < l4.length ∧ wrap64 (wrap64 (s * a1) + x) = s * a1 + x := by
  have hk := h.k64
  have hk1 := h.k1
  have hn := h.n1024
  have b1 := mul_bd (a := s) (b := a1) (A := 1024) (B := 64) h0 (by omega) (by omega) hk
  have b2 : s * a1 + a1 ≤ a3 * a1 := by
    have : (s + 1) * a1 ≤ a3 * a1 := Int.mul_le_mul_of_nonneg_right (by omega) (by omega)
    rw [Int.add_mul, Int.one_mul] at this
    exact this
  have hl := h.next
  rw [wrap_id (n := s * a1) (by omega) (by omega), wrap_id (by omega) (by omega)]
  omega
theorem RightM.step (h : RightM a0 a1 a2 a3 l4 l5) {s x : Int} (h0 : 0 ≤ s) (h1 : s < a3) (h2 : 0 ≤ x) (h3 : x < a1) : 0 ≤ nxM a1 l4 s x ∧ nxM a1 l4 s x < a3 := by
  obtain ⟨b0, b1, _⟩ := h.place h0 h1 h2 h3
  exact h.nextIn _ (rd_mem b0 b1)

theorem rd_nat (l : List Int) (i : Nat) : rd l (i : Int) = l.getD i 0 := by unfold rd; rw [Int.toNat_natCast]
theorem rdL_nat (l : List (List Int)) (i : Nat) : rd_L3 l (i : Int) = l.getD i [] := by unfold rd_L3; rw [Int.toNat_natCast]
theorem step1 {i : Nat} (h : i < 9223372036854775807) : wrap64 ((i : Int) + 1) = ((i + 1 : Nat) : Int) := by rw [wrap_id (by omega) (by omega)]; rfl

def Known (x7 : List Bool) (S : List Int) : Prop := x7.length = 1024 ∧ ∀ t : Int, 0 ≤ t → t < 1024 → rdOf false x7 t = decide (t ∈ S)
theorem known_set {x7 : List Bool} {S : List Int} (h : Known x7 S) {t : Int} (h0 : 0 ≤ t) (h1 : t < 1024) : Known (x7.set t.toNat true) (S ++ [t]) := by
  refine ⟨by simpa using h.1, fun u u0 u1 => ?_⟩
  have hh := h.2 u u0 u1
  unfold rdOf at hh ⊢
  rw [List.getD_eq_getElem?_getD] at hh ⊢
  by_cases e : u = t
  · subst e
    rw [List.getElem?_set_self (by rw [h.1]; omega)]
    simp
  · rw [List.getElem?_set_ne (by omega), hh]
    simp [e]
theorem known_start : Known ((List.replicate 1024 false).set (0 : Int).toNat true) [0] := by
  have h : Known (List.replicate 1024 false) [] := ⟨List.length_replicate, fun t _ _ => by rw [rdOf_replicate]; simp⟩
  exact known_set h (by omega) (by omega)

variable (hM : RightM a0 a1 a2 a3 l4 l5)
include hM

abbrev MInv (a1 a3 : Int) (l4 : List Int) := Inv (nxM a1 l4) a1.toNat a3
abbrev Res (s : List Int × List (List Int)) : List Int × List (List Int) × Int := (s.1, s.2, 0)

theorem slen {s : List Int × List (List Int)} {i x : Nat} (h : MInv a1 a3 l4 s i x) : s.1.length ≤ a3.toNat ∧ a3.toNat ≤ 1024 := by
  have := hM.n1
  have := hM.n1024
  exact ⟨nodup_len a3.toNat s.1 h.nodup (fun t ht => by have := h.rng t ht; omega), by omega⟩

theorem reach_l1 {f i : Nat} (ih : ∀ (s : List Int × List (List Int)) (x7 : List Bool), MInv a1 a3 l4 s (i + 1) 0 → i + 1 ≤ s.1.length → Known x7 s.1 →
      Ev (fun k => trim_Reach.l0 k s.1 s.2 x7 ((i + 1 : Nat) : Int) a0 a1 a2 a3 l4 l5) (Res (bfsF (nxM a1 l4) a1.toNat f s (i + 1)))) :
    ∀ (d : Nat) (s : List Int × List (List Int)) (x7 : List Bool) (x : Nat), x + d = a1.toNat → MInv a1 a3 l4 s i x → i < s.1.length → Known x7 s.1 →
      Ev (fun k => trim_Reach.l1 k s.1 s.2 x7 (i : Int) a1 (x : Int) a0 a1 a2 a3 l4 l5) (Res (bfsF (nxM a1 l4) a1.toNat f (rowF (nxM a1 l4) d s i x) (i + 1)))
  | 0, s, x7, x, hd, h, hi, hk => by
    have hs := slen hM h
    have := hM.k1
    have hx : x = a1.toNat := by omega
    refine Ev.step (fun k => ?_) (ih s x7 (inv_next (by rw [hx] at h; exact h)) (by omega) hk)
    simp only [trim_Reach.l1]
    rw [if_neg (by omega), step1 (by omega)]
  | d + 1, s, x7, x, hd, h, hi, hk => by
    have hs := slen hM h
    have hk1 := hM.k1
    have hk64 := hM.k64
    have hrng := h.rng _ (getD_mem hi)
    have hN := hM.n1024
    obtain ⟨p0, p1, p2⟩ := hM.place (s := s.1.getD i 0) (x := (x : Int)) hrng.1 hrng.2 (by omega) (by omega)
    have hst := hM.step (s := s.1.getD i 0) (x := (x : Int)) hrng.1 hrng.2 (by omega) (by omega)
    have et : rd l4 (s.1.getD i 0 * a1 + (x : Int)) = nxM a1 l4 (s.1.getD i 0) x := rfl
    have hkn := hk.2 _ hst.1 (by omega)
    have hw := h.wlen i hi
    have hinv := inv_visit h hi (by omega) hst
    by_cases hm : nxM a1 l4 (s.1.getD i 0) x ∈ s.1
    · have hv : visit (nxM a1 l4) s i x = s := visit_full hm
      rw [hv] at hinv
      have ihd := reach_l1 ih d s x7 (x + 1) (by omega) hinv hi hk
      show Ev _ (Res (bfsF _ _ f (rowF _ d (visit (nxM a1 l4) s i x) i (x + 1)) (i + 1)))
      rw [hv]
      refine Ev.step (fun k => ?_) ihd
      simp only [trim_Reach.l1]
      rw [if_pos (by omega), if_pos (by omega), if_pos (by omega), rd_nat s.1 i, p2, if_pos p0, if_pos p1, et, if_pos hst.1, if_pos (by rw [hk.1]; omega), if_pos (by rw [hkn]; simpa using hm), step1 (by omega)]
    · have hv : visit (nxM a1 l4) s i x = (s.1 ++ [nxM a1 l4 (s.1.getD i 0) x], s.2 ++ [s.2.getD i [] ++ [(x : Int)]]) := by unfold visit; rw [if_neg hm]
      rw [hv] at hinv
      have hlen : (s.1 ++ [nxM a1 l4 (s.1.getD i 0) x]).length = s.1.length + 1 := by simp
      show Ev _ (Res (bfsF _ _ f (rowF _ d (visit (nxM a1 l4) s i x) i (x + 1)) (i + 1)))
      rw [hv]
      have hlen2 := h.len
      have hs2 := slen hM hinv
      by_cases hfull : ((s.1 ++ [nxM a1 l4 (s.1.getD i 0) x]).length : Int) = a3
      · have hall : ∀ j y : Nat, j < (s.1 ++ [nxM a1 l4 (s.1.getD i 0) x]).length → y < a1.toNat → nxM a1 l4 ((s.1 ++ [nxM a1 l4 (s.1.getD i 0) x]).getD j 0) y ∈ (s.1 ++ [nxM a1 l4 (s.1.getD i 0) x]) := by
          intro j y hj hy
          have hr : 0 ≤ (s.1 ++ [nxM a1 l4 (s.1.getD i 0) x]).getD j 0 ∧ (s.1 ++ [nxM a1 l4 (s.1.getD i 0) x]).getD j 0 < a3 := hinv.rng _ (getD_mem hj)
          have hst2 := hM.step (x := (y : Int)) hr.1 hr.2 (by omega) (by omega)
          exact all_of_full (n := a3.toNat) (S := s.1 ++ [nxM a1 l4 (s.1.getD i 0) x]) hinv.nodup (fun t ht => by have := hinv.rng t ht; omega) (by omega) hst2.1 (by omega)
        rw [row_full d (fun y hy => hall i y (by omega) (by omega)), bfs_full f hall]
        refine Ev.step (f := fun _ => some (Res (s.1 ++ [nxM a1 l4 (s.1.getD i 0) x], s.2 ++ [s.2.getD i [] ++ [(x : Int)]]))) (fun k => ?_) (Ev.now _)
        simp only [trim_Reach.l1]
        rw [if_pos (by omega), if_pos (by omega), if_pos (by omega), rd_nat s.1 i, p2, if_pos p0, if_pos p1, et, if_pos hst.1, if_pos (by rw [hk.1]; omega), if_neg (by rw [hkn]; simpa using hm), if_pos (by omega)]
        simp only [Option.bind_some]
        rw [if_pos (by omega), rdL_nat]
        unfold slices_Clone_int_int.f
        rw [if_pos (by omega)]
        simp only [Option.bind_some]
        rw [if_pos (by omega), if_pos (by omega), if_pos hfull]
      · have ihd := reach_l1 ih d (s.1 ++ [nxM a1 l4 (s.1.getD i 0) x], s.2 ++ [s.2.getD i [] ++ [(x : Int)]]) _ (x + 1) (by omega) hinv (by rw [hlen]; omega) (known_set hk hst.1 (by omega))
        refine Ev.step (fun k => ?_) ihd
        simp only [trim_Reach.l1]
        rw [if_pos (by omega), if_pos (by omega), if_pos (by omega), rd_nat s.1 i, p2, if_pos p0, if_pos p1, et, if_pos hst.1, if_pos (by rw [hk.1]; omega), if_neg (by rw [hkn]; simpa using hm), if_pos (by omega)]
        simp only [Option.bind_some]
        rw [if_pos (by omega), rdL_nat]
        unfold slices_Clone_int_int.f
        rw [if_pos (by omega)]
        simp only [Option.bind_some]
        rw [if_pos (by omega), if_pos (by omega), if_neg hfull, step1 (by omega)]

theorem reach_l0 : ∀ (f : Nat) (s : List Int × List (List Int)) (x7 : List Bool) (i : Nat), MInv a1 a3 l4 s i 0 → i ≤ s.1.length → a3.toNat < i + f → Known x7 s.1 →
    Ev (fun k => trim_Reach.l0 k s.1 s.2 x7 (i : Int) a0 a1 a2 a3 l4 l5) (Res (bfsF (nxM a1 l4) a1.toNat f s i))
  | 0, s, x7, i, h, hi, hf, hk => by
    have hs := slen hM h
    omega
  | f + 1, s, x7, i, h, hi, hf, hk => by
    have hs := slen hM h
    unfold bfsF
    by_cases hlt : i < s.1.length
    · rw [if_pos hlt]
      refine Ev.step (fun k => ?_) (reach_l1 hM (fun s x7 a b c => reach_l0 f s x7 (i + 1) a b (by omega) c) a1.toNat s x7 0 (by omega) h hlt hk)
      simp only [trim_Reach.l0]
      rw [if_pos (by omega)]
      rfl
    · rw [if_neg hlt]
      refine Ev.step (f := fun _ => some (Res s)) (fun k => ?_) (Ev.now _)
      simp only [trim_Reach.l0]
      rw [if_neg (by omega)]

end

/-- What trim.Reach answers of a right machine. -/
def reachS (a1 a3 : Int) (l4 : List Int) : List Int × List (List Int) := bfsF (nxM a1 l4) a1.toNat (a3.toNat + 1) Bfs.start 0

section
variable {a0 a1 a2 a3 : Int} {l4 l5 : List Int}
theorem reach_right (hM : RightM a0 a1 a2 a3 l4 l5) (hw4 : ∀ x ∈ l4, (Lit.int .i64 x).wf = true) (hw5 : ∀ x ∈ l5, (Lit.int .i64 x).wf = true) (hl4 : l4.length ≤ maxLen) (hl5 : l5.length ≤ maxLen) :
    Ev (fun k => trim_Reach.f k a0 a1 a2 a3 l4 l5) (Res (reachS a1 a3 l4)) := by
  obtain ⟨at_, hc⟩ := mcheck_ev (a0 := a0) (a1 := a1) (a2 := a2) (a3 := a3) hw4 hw5 hl4 hl5
  rw [errM_zero.mpr hM] at hc
  have h1 := hM.n1
  refine Ev.bind hc ?_
  refine Ev.pos rfl ?_
  refine Ev.pos (by omega) ?_
  refine Ev.bind (Ev.now _) ?_
  refine Ev.pos (by rw [List.length_replicate]; omega) ?_
  exact reach_l0 hM (a3.toNat + 1) Bfs.start _ 0 (inv_start (by omega)) (by decide) (by omega) known_start

theorem reach_wrong (hM : ¬ RightM a0 a1 a2 a3 l4 l5) (hw4 : ∀ x ∈ l4, (Lit.int .i64 x).wf = true) (hw5 : ∀ x ∈ l5, (Lit.int .i64 x).wf = true) (hl4 : l4.length ≤ maxLen) (hl5 : l5.length ≤ maxLen) :
    errM a0 a1 a2 a3 l4 l5 ≠ 0 ∧ Ev (fun k => trim_Reach.f k a0 a1 a2 a3 l4 l5) ([], [], errM a0 a1 a2 a3 l4 l5) := by
  have he : errM a0 a1 a2 a3 l4 l5 ≠ 0 := fun h => hM (errM_zero.mp h)
  obtain ⟨at_, hc⟩ := mcheck_ev (a0 := a0) (a1 := a1) (a2 := a2) (a3 := a3) hw4 hw5 hl4 hl5
  refine ⟨he, ?_⟩
  refine Ev.bind hc ?_
  exact Ev.neg he (Ev.now _)

theorem reach_inv (hM : RightM a0 a1 a2 a3 l4 l5) : MInv a1 a3 l4 (reachS a1 a3 l4) (reachS a1 a3 l4).1.length 0 := by
  have h1 := hM.n1
  obtain ⟨j, h, rfl⟩ := inv_bfs (nx := nxM a1 l4) (K := a1.toNat) (N := a3) (a3.toNat + 1) (inv_start (by omega)) (i := 0) (by decide) a3.toNat (by omega) (by omega)
    (fun t y h0 h1 h2 h3 => hM.step h0 h1 h2 (by have := hM.k1; omega))
  exact h
end
end Go.Proofs.Ytllgeljacmpdjaa.PTrim
