/- The reference's Reach and Canon, as printed: they answer what the program's do. -/
import Derived.Test.YtllgeljacmpdjaaGPick
import Derived.Test.YtllgeljacmpdjaaGRChk
import Derived.Test.YtllgeljacmpdjaaPTrimxf19
import Derived.Test.YtllgeljacmpdjaaPTrimxf26
namespace Go.Proofs.Ytllgeljacmpdjaa.PTrim
open Go.RowKit Go.Proofs.YtllgeljacmpdjaaW.PrintWords Go.Proofs.YtllgeljacmpdjaaW.PrintLast Go.Proofs.YtllgeljacmpdjaaW.PrintMore Go.Proofs.Ytllgeljacmpdjaa.Bfs
set_option linter.unusedVariables false
set_option linter.unusedSimpArgs false

/-! ### the reference's Reach -/
def KnownN (x7 : List Bool) (S : List Int) (n : Int) : Prop := (x7.length : Int) = n ∧ ∀ t : Int, 0 ≤ t → t < n → rdOf false x7 t = decide (t ∈ S)
theorem knownN_set {x7 : List Bool} {S : List Int} {n : Int} (h : KnownN x7 S n) {t : Int} (h0 : 0 ≤ t) (h1 : t < n) : KnownN (x7.set t.toNat true) (S ++ [t]) n := by
  refine ⟨by simpa using h.1, fun u u0 u1 => ?_⟩
  have hh := h.2 u u0 u1
  have hl := h.1
  unfold rdOf at hh ⊢
  rw [List.getD_eq_getElem?_getD] at hh ⊢
  by_cases e : u = t
  · subst e
    rw [List.getElem?_set_self (by omega)]
    simp
  · rw [List.getElem?_set_ne (by omega), hh]
    simp [e]

section
variable {a0 a1 a2 a3 : Int} {l4 l5 : List Int} (hM : RightM a0 a1 a2 a3 l4 l5)
include hM
theorem rreach_l2 {i u : Nat} {r : List Int × List (List Int) × Int} : ∀ (d : Nat) (s : List Int × List (List Int)) (x7 : List Bool) (x : Nat), x + d = a1.toNat → MInv a1 a3 l4 s i x → i < s.1.length → KnownN x7 s.1 a3 →
    (∀ (x7' : List Bool), MInv a1 a3 l4 (rowF (nxM a1 l4) d s i x) i a1.toNat → s.1.length ≤ (rowF (nxM a1 l4) d s i x).1.length → KnownN x7' (rowF (nxM a1 l4) d s i x).1 a3 →
      Ev (fun k => tutorref04_Reach.l1 k x7' (rowF (nxM a1 l4) d s i x).1 (rowF (nxM a1 l4) d s i x).2 (u : Int) ((i + 1 : Nat) : Int) a0 a1 a2 a3 l4 l5) r) →
    Ev (fun k => tutorref04_Reach.l2 k x7 s.1 s.2 (u : Int) (i : Int) (x : Int) a0 a1 a2 a3 l4 l5) r
  | 0, s, x7, x, hd, h, hi, hk, hc => by
    have hs := slen hM h
    have hk1 := hM.k1
    obtain rfl : x = a1.toNat := by omega
    have := hc x7 h (Nat.le_refl _) hk
    refine Ev.succ ?_
    simp only [tutorref04_Reach.l2]
    rw [step1 (i := i) (by omega)]
    refine Ev.neg (by omega) ?_
    exact this
  | d + 1, s, x7, x, hd, h, hi, hk, hc => by
    have hs := slen hM h
    have hk1 := hM.k1
    have hk64 := hM.k64
    have hrng := h.rng _ (getD_mem hi)
    have hN := hM.n1024
    obtain ⟨p0, p1, p2⟩ := hM.place (s := s.1.getD i 0) (x := (x : Int)) hrng.1 hrng.2 (by omega) (by omega)
    have hst := hM.step (s := s.1.getD i 0) (x := (x : Int)) hrng.1 hrng.2 (by omega) (by omega)
    have et : rd l4 (s.1.getD i 0 * a1 + (x : Int)) = nxM a1 l4 (s.1.getD i 0) x := rfl
    have hkn := hk.2 _ hst.1 hst.2
    have hkl := hk.1
    have hw := h.wlen i hi
    have hlen2 := h.len
    have hinv := inv_visit h hi (by omega) hst
    by_cases hm : nxM a1 l4 (s.1.getD i 0) x ∈ s.1
    · have hv : visit (nxM a1 l4) s i x = s := visit_full hm
      rw [hv] at hinv
      have er : rowF (nxM a1 l4) (d + 1) s i x = rowF (nxM a1 l4) d s i (x + 1) := by
        show rowF (nxM a1 l4) d (visit (nxM a1 l4) s i x) i (x + 1) = _
        rw [hv]
      rw [er] at hc
      refine Ev.succ ?_
      simp only [tutorref04_Reach.l2]
      rw [rd_nat s.1 i, p2, et, step1 (i := x) (by omega)]
      refine Ev.pos (by omega) ?_
      refine Ev.pos (by omega) ?_
      refine Ev.pos (by omega) ?_
      refine Ev.pos p0 ?_
      refine Ev.pos p1 ?_
      refine Ev.pos hst.1 ?_
      refine Ev.pos (by omega) ?_
      refine Ev.pos (by rw [hkn]; simpa using hm) ?_
      exact rreach_l2 d s x7 (x + 1) (by omega) hinv hi hk hc
    · have hv : visit (nxM a1 l4) s i x = (s.1 ++ [nxM a1 l4 (s.1.getD i 0) x], s.2 ++ [s.2.getD i [] ++ [(x : Int)]]) := by unfold visit; rw [if_neg hm]
      rw [hv] at hinv
      have hlen : (s.1 ++ [nxM a1 l4 (s.1.getD i 0) x]).length = s.1.length + 1 := by simp
      have er : rowF (nxM a1 l4) (d + 1) s i x = rowF (nxM a1 l4) d (s.1 ++ [nxM a1 l4 (s.1.getD i 0) x], s.2 ++ [s.2.getD i [] ++ [(x : Int)]]) i (x + 1) := by
        show rowF (nxM a1 l4) d (visit (nxM a1 l4) s i x) i (x + 1) = _
        rw [hv]
      rw [er] at hc
      have hj : Ev (fun k => tutorref01_Join.f (s.2.getD i []) [(x : Int)]) (s.2.getD i [] ++ [(x : Int)]) := by
        unfold tutorref01_Join.f
        refine Ev.bind (Ev.now _) ?_
        refine Ev.pos (by simp only [List.length_nil]; omega) ?_
        refine Ev.bind (Ev.now _) ?_
        refine Ev.pos (by simp only [List.length_append, List.length_cons, List.length_nil]; omega) ?_
        exact Ev.now _
      refine Ev.succ ?_
      simp only [tutorref04_Reach.l2]
      rw [rd_nat s.1 i, p2, et, step1 (i := x) (by omega), rdL_nat]
      refine Ev.pos (by omega) ?_
      refine Ev.pos (by omega) ?_
      refine Ev.pos (by omega) ?_
      refine Ev.pos p0 ?_
      refine Ev.pos p1 ?_
      refine Ev.pos hst.1 ?_
      refine Ev.pos (by omega) ?_
      refine Ev.neg (by rw [hkn]; simpa using hm) ?_
      refine Ev.pos (by omega) ?_
      refine Ev.pos (by omega) ?_
      refine Ev.bind hj ?_
      refine Ev.pos (by omega) ?_
      exact rreach_l2 d (s.1 ++ [nxM a1 l4 (s.1.getD i 0) x], s.2 ++ [s.2.getD i [] ++ [(x : Int)]]) _ (x + 1) (by omega) hinv (by rw [hlen]; omega) (knownN_set hk hst.1 hst.2)
        (fun x7' c1 c2 c3 => hc x7' c1 (by rw [hlen] at c2; omega) c3)

/-- the rows of one length -/
theorem rreach_l1 : ∀ (f : Nat) (s : List Int × List (List Int)) (x7 : List Bool) (i u : Nat), MInv a1 a3 l4 s i 0 → i ≤ u → u ≤ s.1.length → a3.toNat < i + f → KnownN x7 s.1 a3 →
    Ev (fun k => tutorref04_Reach.l1 k x7 s.1 s.2 (u : Int) (i : Int) a0 a1 a2 a3 l4 l5) (Res (bfsF (nxM a1 l4) a1.toNat f s i))
  | 0, s, x7, i, u, h, hiu, hu, hf, hk => by
    have hs := slen hM h
    omega
  | f + 1, s, x7, i, u, h, hiu, hu, hf, hk => by
    have hs := slen hM h
    have row : ∀ u' : Nat, i < u' → u' ≤ s.1.length → Ev (fun k => tutorref04_Reach.l1 k x7 s.1 s.2 (u' : Int) (i : Int) a0 a1 a2 a3 l4 l5) (Res (bfsF (nxM a1 l4) a1.toNat (f + 1) s i)) := by
      intro u' hiu' hu'
      have hlt : i < s.1.length := by omega
      unfold bfsF
      rw [if_pos hlt]
      refine Ev.succ ?_
      simp only [tutorref04_Reach.l1]
      refine Ev.pos (by omega) ?_
      refine rreach_l2 hM a1.toNat s x7 0 (by omega) h hlt hk (fun x7' c1 c2 c3 => ?_)
      exact rreach_l1 f _ x7' (i + 1) u' (inv_next c1) (by omega) (by omega) (by omega) c3
    by_cases hlt : i < u
    · exact row u hlt hu
    · obtain rfl : i = u := by omega
      refine Ev.succ ?_
      simp only [tutorref04_Reach.l1]
      refine Ev.neg (by omega) ?_
      refine Ev.succ ?_
      simp only [tutorref04_Reach.l0]
      by_cases hl : i < s.1.length
      · refine Ev.pos (by omega) ?_
        exact row s.1.length hl (Nat.le_refl _)
      · refine Ev.neg (by omega) ?_
        unfold bfsF
        rw [if_neg hl]
        exact Ev.now _

theorem rreach_right : Ev (fun k => tutorref04_Reach.f k a0 a1 a2 a3 l4 l5) (Res (reachS a1 a3 l4)) := by
  have hle : l4.length ≤ maxLen ∧ l5.length ≤ maxLen := by
    have h := hM.next
    have h2 := hM.out
    have h1 := hM.n1
    have h5 := hM.k1
    have hN := hM.n1024
    have b := mul_bd (a := a3) (b := a1) (A := 1024) (B := 64) (by omega) (by omega) hN hM.k64
    unfold maxLen
    split at h2 <;> omega
  obtain ⟨at_, hc⟩ := rcheck_ev a0 a1 a2 a3 hle.1 hle.2
  rw [errM_zero.mpr hM] at hc
  have h1 := hM.n1
  have hN := hM.n1024
  have hkn : KnownN ((List.replicate a3.toNat false).set (0 : Int).toNat true) [0] a3 := by
    have h : KnownN (List.replicate a3.toNat false) [] a3 := ⟨by rw [List.length_replicate]; omega, fun t _ _ => by rw [rdOf_replicate]; simp⟩
    exact knownN_set h (by omega) (by omega)
  refine Ev.bind hc ?_
  refine Ev.pos rfl ?_
  refine Ev.pos (by omega) ?_
  refine Ev.pos (by omega) ?_
  refine Ev.bind (Ev.now _) ?_
  refine Ev.pos (by rw [List.length_replicate]; omega) ?_
  refine Ev.succ ?_
  simp only [tutorref04_Reach.l0]
  refine Ev.pos (by decide) ?_
  exact rreach_l1 hM (a3.toNat + 1) Bfs.start _ 0 1 (inv_start (by omega)) (by omega) (by decide) (by omega) hkn

theorem rcanon_l0 {S : List Int} (hS : ∀ j, j < S.length → 0 ≤ S.getD j 0 ∧ S.getD j 0 < a3) (hSl : S.length ≤ 1024) {r : Int × Int × Int × Int × List Int × List Int} :
    ∀ (n i : Nat) (pl : List Int), i + n = S.length → pl.length = a3.toNat →
      Ev (fun k => tutorref04_pick.f k a0 a1 a2 a3 l4 l5 S (placeFrom S n i pl)) r →
      Ev (fun k => tutorref04_Canon.l0 k S pl (i : Int) a0 a1 a2 a3 l4 l5) (r.1, r.2.1, r.2.2.1, r.2.2.2.1, r.2.2.2.2.1, r.2.2.2.2.2, 0)
  | 0, i, pl, hn, hl, h => by
    refine Ev.succ ?_
    simp only [tutorref04_Canon.l0]
    refine Ev.neg (by omega) ?_
    exact Ev.bind h (Ev.now _)
  | n + 1, i, pl, hn, hl, h => by
    have hr := hS i (by omega)
    have h1 := hM.n1
    refine Ev.succ ?_
    simp only [tutorref04_Canon.l0]
    rw [rd_nat, step1 (by omega)]
    refine Ev.pos (by omega) ?_
    refine Ev.pos (by omega) ?_
    refine Ev.pos hr.1 ?_
    refine Ev.pos (by rw [hl]; omega) ?_
    exact rcanon_l0 hS hSl n (i + 1) _ (by omega) (by simpa using hl) h

theorem rcanon_right : Ev (fun k => tutorref04_Canon.f k a0 a1 a2 a3 l4 l5) (a0, a1, a2, ((reachS a1 a3 l4).1.length : Int), canN a1 a3 l4, canO a0 a1 a3 l4 l5, 0) := by
  have hr := rreach_right hM
  have hinv := reach_inv hM
  have hs := slen hM hinv
  have h1 := hM.n1
  unfold canN canO placeM
  generalize reachS a1 a3 l4 = s at hr hinv hs
  have hS : ∀ j, j < s.1.length → 0 ≤ s.1.getD j 0 ∧ s.1.getD j 0 < a3 := fun j hj => hinv.rng _ (getD_mem hj)
  refine Ev.bind hr ?_
  refine Ev.pos rfl ?_
  refine Ev.pos (by omega) ?_
  refine Ev.pos (by omega) ?_
  exact rcanon_l0 hM hS (by omega) s.1.length 0 _ (by omega) List.length_replicate (pick_ev hM (by rw [place_len, List.length_replicate]) hS (by omega))
end

theorem rreach_wrong {a0 a1 a2 a3 : Int} {l4 l5 : List Int} (hM : ¬ RightM a0 a1 a2 a3 l4 l5) (hl4 : l4.length ≤ maxLen) (hl5 : l5.length ≤ maxLen) : Ev (fun k => tutorref04_Reach.f k a0 a1 a2 a3 l4 l5) ([], [], errM a0 a1 a2 a3 l4 l5) := by
  have he : errM a0 a1 a2 a3 l4 l5 ≠ 0 := fun h => hM (errM_zero.mp h)
  obtain ⟨at_, hc⟩ := rcheck_ev a0 a1 a2 a3 hl4 hl5
  exact Ev.bind hc (Ev.neg he (Ev.now _))
theorem rcanon_wrong {a0 a1 a2 a3 : Int} {l4 l5 : List Int} (hM : ¬ RightM a0 a1 a2 a3 l4 l5) (hl4 : l4.length ≤ maxLen) (hl5 : l5.length ≤ maxLen) : Ev (fun k => tutorref04_Canon.f k a0 a1 a2 a3 l4 l5) (0, 0, 0, 0, [], [], errM a0 a1 a2 a3 l4 l5) := by
  have he : errM a0 a1 a2 a3 l4 l5 ≠ 0 := fun h => hM (errM_zero.mp h)
  exact Ev.bind (rreach_wrong hM hl4 hl5) (Ev.neg he (Ev.now _))
end Go.Proofs.Ytllgeljacmpdjaa.PTrim
