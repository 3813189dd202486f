/- trim.Canon, as printed: what it answers, and that the machine it makes runs as the one it was made of. -/
import Derived.Test.YtllgeljacmpdjaaGLib
import Derived.Test.YtllgeljacmpdjaaPTrimxf25
namespace Go.Proofs.Ytllgeljacmpdjaa.PTrim
open Go.RowKit Go.Proofs.YtllgeljacmpdjaaW.PrintWords Go.Proofs.YtllgeljacmpdjaaW.PrintLast Go.Proofs.YtllgeljacmpdjaaW.PrintMore Go.Proofs.Ytllgeljacmpdjaa.Bfs
set_option linter.unusedVariables false
set_option linter.unusedSimpArgs false

/-! ### rows of rows -/
def sl (l : List Int) (s n : Int) : List Int := (l.take ((s + 1) * n).toNat).drop (s * n).toNat

theorem sl_bd {s n : Int} (hs : 0 ≤ s) (hn : 0 ≤ n) : 0 ≤ s * n ∧ (s + 1) * n = s * n + n := by
  refine ⟨Int.mul_nonneg hs hn, ?_⟩
  rw [Int.add_mul, Int.one_mul]
theorem sl_len {l : List Int} {s n : Int} (hs : 0 ≤ s) (hn : 0 ≤ n) (hl : (s + 1) * n ≤ (l.length : Int)) : (sl l s n).length = n.toNat := by
  obtain ⟨h0, h1⟩ := sl_bd hs hn
  unfold sl
  rw [List.length_drop, List.length_take]
  omega
theorem sl_get {l : List Int} {s n : Int} (hs : 0 ≤ s) (hn : 0 ≤ n) {x : Nat} (hx : (x : Int) < n) : (sl l s n).getD x 0 = rd l (s * n + x) := by
  obtain ⟨h0, h1⟩ := sl_bd hs hn
  unfold sl rd
  rw [List.getD_eq_getElem?_getD, List.getElem?_drop, List.getElem?_take, if_pos (by omega), List.getD_eq_getElem?_getD]
  congr 2
  omega
theorem sl_mem {l : List Int} {s n t : Int} (h : t ∈ sl l s n) : t ∈ l := List.mem_of_mem_take (List.mem_of_mem_drop h)

theorem flat_len {α : Type} (g : α → List Int) (n : Nat) : ∀ (S : List α), (∀ s ∈ S, (g s).length = n) → (S.flatMap g).length = S.length * n
  | [], _ => by simp
  | s :: S, h => by
    rw [List.flatMap_cons, List.length_append, h s (by simp), flat_len g n S (fun t ht => h t (List.mem_cons_of_mem _ ht)), List.length_cons, Nat.add_mul, Nat.one_mul, Nat.add_comm]
theorem flat_get (g : Int → List Int) (n : Nat) : ∀ (S : List Int) (j x : Nat), (∀ s ∈ S, (g s).length = n) → j < S.length → x < n → (S.flatMap g).getD (j * n + x) 0 = (g (S.getD j 0)).getD x 0
  | [], j, x, _, hj, _ => by simp at hj
  | s :: S, 0, x, h, hj, hx => by
    rw [List.flatMap_cons, Nat.zero_mul, Nat.zero_add]
    rw [List.getD_eq_getElem?_getD, List.getElem?_append_left (by rw [h s (by simp)]; exact hx), ← List.getD_eq_getElem?_getD]
    rfl
  | s :: S, j + 1, x, h, hj, hx => by
    have ih := flat_get g n S j x (fun t ht => h t (List.mem_cons_of_mem _ ht)) (by simpa using hj) hx
    rw [List.flatMap_cons, List.getD_eq_getElem?_getD, List.getElem?_append_right (by rw [h s (by simp), Nat.add_mul]; omega), h s (by simp)]
    have e : (j + 1) * n + x - n = j * n + x := by rw [Nat.add_mul]; omega
    rw [e, ← List.getD_eq_getElem?_getD, ih]
    rfl

/-! ### places -/
def placeFrom (S : List Int) : Nat → Nat → List Int → List Int
  | 0, _, pl => pl
  | n + 1, i, pl => placeFrom S n (i + 1) (pl.set (S.getD i 0).toNat (i : Int))
theorem place_len (S : List Int) : ∀ (n i : Nat) (pl : List Int), (placeFrom S n i pl).length = pl.length
  | 0, _, _ => rfl
  | n + 1, i, pl => by
    unfold placeFrom
    rw [place_len S n]
    simp
theorem place_at (S : List Int) (N : Nat) (hinj : ∀ j k, j < S.length → k < S.length → S.getD j 0 = S.getD k 0 → j = k) (hr : ∀ j, j < S.length → 0 ≤ S.getD j 0 ∧ S.getD j 0 < (N : Int)) :
    ∀ (n i : Nat) (pl : List Int), i + n = S.length → pl.length = N → (∀ j, j < i → pl.getD (S.getD j 0).toNat 0 = (j : Int)) → ∀ j, j < S.length → (placeFrom S n i pl).getD (S.getD j 0).toNat 0 = (j : Int)
  | 0, i, pl, hn, _, h, j, hj => h j (by omega)
  | n + 1, i, pl, hn, hl, h, j, hj => by
    unfold placeFrom
    refine place_at S N hinj hr n (i + 1) _ (by omega) (by simpa using hl) ?_ j hj
    intro q hq
    have hrq := hr q (by omega)
    have hri := hr i (by omega)
    by_cases e : q = i
    · subst e
      rw [List.getD_eq_getElem?_getD, List.getElem?_set_self (by rw [hl]; omega)]
      rfl
    · have hne : S.getD q 0 ≠ S.getD i 0 := fun e2 => e (hinj q i (by omega) (by omega) e2)
      rw [List.getD_eq_getElem?_getD, List.getElem?_set_ne (by omega), ← List.getD_eq_getElem?_getD]
      exact h q (by omega)

/-- How many entries of Out a state has. -/
def eachM (a0 a1 : Int) : Int := if a0 = 1 then 1 else a1
def placeM (a1 a3 : Int) (l4 : List Int) : List Int := placeFrom (reachS a1 a3 l4).1 (reachS a1 a3 l4).1.length 0 (List.replicate a3.toNat 0)
def canN (a1 a3 : Int) (l4 : List Int) : List Int := (reachS a1 a3 l4).1.flatMap fun s => (sl l4 s a1).map (rd (placeM a1 a3 l4))
def canO (a0 a1 a3 : Int) (l4 l5 : List Int) : List Int := (reachS a1 a3 l4).1.flatMap fun s => sl l5 s (eachM a0 a1)

section
variable {a0 a1 a2 a3 : Int} {l4 l5 : List Int} (hM : RightM a0 a1 a2 a3 l4 l5)
include hM

theorem each_bd : 1 ≤ eachM a0 a1 ∧ eachM a0 a1 ≤ 64 := by
  have := hM.k1
  have := hM.k64
  unfold eachM
  split <;> omega
theorem each_len : (l5.length : Int) = a3 * eachM a0 a1 := by
  have := hM.out
  unfold eachM
  by_cases e : a0 = 1
  · rw [if_pos e] at this ⊢; omega
  · rw [if_neg e] at this ⊢; exact this
theorem each_div : wrap64 ((l5.length : Int) / a3) = eachM a0 a1 := by
  have h1 := hM.n1
  have hb := each_bd hM
  rw [each_len hM, Int.mul_ediv_cancel_left _ (by omega)]
  exact wrap_id (by omega) (by omega)
theorem row_bd {s n : Int} {l : List Int} (hs : 0 ≤ s) (h1 : s < a3) (hn : 1 ≤ n) (hn2 : n ≤ 64) (hl : (l.length : Int) = a3 * n) :
    wrap64 (s * n) = s * n ∧ wrap64 (s + 1) = s + 1 ∧ wrap64 ((s + 1) * n) = (s + 1) * n ∧ 0 ≤ s * n ∧ s * n ≤ (s + 1) * n ∧ (s + 1) * n ≤ (l.length : Int) := by
  have hN := hM.n1024
  have b := mul_bd (a := s) (b := n) (A := 1024) (B := 64) hs (by omega) (by omega) hn2
  have b2 := mul_bd (a := s + 1) (b := n) (A := 1024) (B := 64) (by omega) (by omega) (by omega) hn2
  obtain ⟨h0, he⟩ := sl_bd (s := s) (n := n) hs (by omega)
  have b3 : (s + 1) * n ≤ a3 * n := Int.mul_le_mul_of_nonneg_right (by omega) (by omega)
  rw [wrap_id (n := s * n) (by omega) (by omega), wrap_id (n := s + 1) (by omega) (by omega), wrap_id (n := (s + 1) * n) (by omega) (by omega)]
  exact ⟨rfl, rfl, rfl, h0, by omega, by omega⟩

theorem can_l0 {S : List Int} (hS : ∀ j, j < S.length → 0 ≤ S.getD j 0 ∧ S.getD j 0 < a3) (hSl : S.length ≤ 1024) {r : Int × Int × Int × Int × List Int × List Int × Int} :
    ∀ (n i : Nat) (pl : List Int), i + n = S.length → pl.length = a3.toNat →
      Ev (fun k => trim_Canon.l1 k (placeFrom S n i pl) S (S.length : Int) 0 a0 a1 a2 a3 l4 l5 a0 a1 a2 (S.length : Int) [] []) r →
      Ev (fun k => trim_Canon.l0 k S pl S (S.length : Int) (i : Int) a0 a1 a2 a3 l4 l5) r
  | 0, i, pl, hn, hl, h => by
    refine Ev.succ ?_
    simp only [trim_Canon.l0]
    refine Ev.neg (by omega) ?_
    exact h
  | n + 1, i, pl, hn, hl, h => by
    have hr := hS i (by omega)
    have h1 := hM.n1
    refine Ev.succ ?_
    simp only [trim_Canon.l0]
    rw [rd_nat, step1 (by omega)]
    refine Ev.pos (by omega) ?_
    refine Ev.pos (by omega) ?_
    refine Ev.pos (by omega) ?_
    refine Ev.pos hr.1 ?_
    refine Ev.pos (by rw [hl]; omega) ?_
    exact can_l0 hS hSl n (i + 1) _ (by omega) (by simpa using hl) h

theorem can_l2 {S pl R out : List Int} {s : Int} {i : Nat} (hpl : pl.length = a3.toNat) (hR : InR R a3) (hRl : R.length ≤ 64) {r : Int × Int × Int × Int × List Int × List Int × Int} {o0 o1 o2 o3 : Int} :
    ∀ (n q : Nat) (nxt : List Int), q + n = R.length → nxt.length + n ≤ 100000 →
      Ev (fun k => trim_Canon.l2 k pl s S (S.length : Int) (i : Int) R (R.length : Int) (R.length : Int) a0 a1 a2 a3 l4 l5 o0 o1 o2 o3 (nxt ++ (R.drop q).map (rd pl)) out) r →
      Ev (fun k => trim_Canon.l2 k pl s S (S.length : Int) (i : Int) R (R.length : Int) (q : Int) a0 a1 a2 a3 l4 l5 o0 o1 o2 o3 nxt out) r
  | 0, q, nxt, hn, hx, h => by
    obtain rfl : q = R.length := by omega
    simpa using h
  | n + 1, q, nxt, hn, hx, h => by
    have h1 := hM.n1
    have hq : q < R.length := by omega
    have hr := hR _ (rd_mem (l := R) (i := (q : Int)) (by omega) (by omega))
    rw [drop_at hq, List.map_cons] at h
    refine Ev.succ ?_
    simp only [trim_Canon.l2]
    rw [step1 (by omega)]
    refine Ev.pos (by omega) ?_
    refine Ev.pos (by omega) ?_
    refine Ev.pos (by omega) ?_
    refine Ev.pos hr.1 ?_
    refine Ev.pos (by rw [hpl]; omega) ?_
    refine Ev.pos (by omega) ?_
    refine can_l2 hpl hR hRl n (q + 1) _ (by omega) (by simp; omega) ?_
    simpa using h

theorem can_l1 {S pl : List Int} (hS : ∀ j, j < S.length → 0 ≤ S.getD j 0 ∧ S.getD j 0 < a3) (hSl : S.length ≤ 1024) (hpl : pl.length = a3.toNat) {o0 o1 o2 o3 : Int} :
    ∀ (n i : Nat) (nxt out : List Int), i + n = S.length → nxt.length + n * 64 ≤ 70000 → out.length + n * 64 ≤ 70000 →
      Ev (fun k => trim_Canon.l1 k pl S (S.length : Int) (i : Int) a0 a1 a2 a3 l4 l5 o0 o1 o2 o3 nxt out)
        (o0, o1, o2, o3, nxt ++ (S.drop i).flatMap (fun s => (sl l4 s a1).map (rd pl)), out ++ (S.drop i).flatMap (fun s => sl l5 s (eachM a0 a1)), 0)
  | 0, i, nxt, out, hn, _, _ => by
    rw [List.drop_eq_nil_of_le (by omega)]
    simp only [List.flatMap_nil, List.append_nil]
    refine Ev.succ ?_
    simp only [trim_Canon.l1]
    refine Ev.neg (by omega) ?_
    exact Ev.now _
  | n + 1, i, nxt, out, hn, hx, ho => by
    have hi : i < S.length := by omega
    have hr := hS i hi
    have hk1 := hM.k1
    have hk64 := hM.k64
    have h1 := hM.n1
    have hb := each_bd hM
    obtain ⟨w1, w2, w3, g0, g1, g2⟩ := row_bd hM (l := l4) hr.1 hr.2 hk1 hk64 hM.next
    obtain ⟨u1, _, u3, v0, v1, v2⟩ := row_bd hM (l := l5) hr.1 hr.2 hb.1 hb.2 (each_len hM)
    have hl4 := sl_len (l := l4) hr.1 (by omega) g2
    have hl5 := sl_len (l := l5) hr.1 (by omega) v2
    have ih := can_l1 hS hSl hpl (o0 := o0) (o1 := o1) (o2 := o2) (o3 := o3) n (i + 1) (nxt ++ (sl l4 (S.getD i 0) a1).map (rd pl)) (out ++ sl l5 (S.getD i 0) (eachM a0 a1)) (by omega)
      (by rw [List.length_append, List.length_map, hl4]; omega) (by rw [List.length_append, hl5]; omega)
    rw [drop_at hi, rd_nat]
    simp only [List.flatMap_cons]
    rw [← List.append_assoc, ← List.append_assoc]
    refine Ev.succ ?_
    simp only [trim_Canon.l1]
    rw [rd_nat, w2, w1, w3]
    refine Ev.pos (by omega) ?_
    refine Ev.pos (by omega) ?_
    refine Ev.pos (by omega) ?_
    refine Ev.pos g0 ?_
    refine Ev.pos g1 ?_
    refine Ev.pos g2 ?_
    refine can_l2 hM (S := S) (R := sl l4 (S.getD i 0) a1) hpl (fun t ht => hM.nextIn t (sl_mem ht)) (by omega) (sl l4 (S.getD i 0) a1).length 0 nxt (by omega) (by omega) ?_
    rw [List.drop_zero]
    refine Ev.succ ?_
    simp only [trim_Canon.l2]
    rw [each_div hM, w2, u1, u3, step1 (i := i) (by omega)]
    refine Ev.neg (by omega) ?_
    refine Ev.neg (by omega) ?_
    refine Ev.pos v0 ?_
    refine Ev.pos v1 ?_
    refine Ev.pos v2 ?_
    refine Ev.pos (show out.length + (sl l5 (S.getD i 0) (eachM a0 a1)).length < 17592186044416 by omega) ?_
    exact ih

theorem canon_right (hw4 : ∀ x ∈ l4, (Lit.int .i64 x).wf = true) (hw5 : ∀ x ∈ l5, (Lit.int .i64 x).wf = true) (hl4 : l4.length ≤ maxLen) (hl5 : l5.length ≤ maxLen) :
    Ev (fun k => trim_Canon.f k a0 a1 a2 a3 l4 l5) (a0, a1, a2, ((reachS a1 a3 l4).1.length : Int), canN a1 a3 l4, canO a0 a1 a3 l4 l5, 0) := by
  have hr := reach_right hM hw4 hw5 hl4 hl5
  have hinv := reach_inv hM
  have hs := slen hM hinv
  have h1 := hM.n1
  unfold canN canO placeM
  generalize reachS a1 a3 l4 = s at hr hinv hs
  have hS : ∀ j, j < s.1.length → 0 ≤ s.1.getD j 0 ∧ s.1.getD j 0 < a3 := fun j hj => hinv.rng _ (getD_mem hj)
  refine Ev.bind hr ?_
  refine Ev.pos rfl ?_
  refine Ev.pos (by omega) ?_
  refine Ev.pos (by omega) ?_
  have h2 := can_l1 hM hS (by omega) (pl := placeFrom s.1 s.1.length 0 (List.replicate a3.toNat 0)) (by rw [place_len, List.length_replicate]) (o0 := a0) (o1 := a1) (o2 := a2) (o3 := (s.1.length : Int)) s.1.length 0 [] [] (by omega) (by simp; omega) (by simp; omega)
  refine can_l0 hM hS (by omega) s.1.length 0 _ (by omega) List.length_replicate ?_
  simpa using h2

/-! ### what the machine is that Canon makes -/
theorem place_of {j : Nat} (hj : j < (reachS a1 a3 l4).1.length) : rd (placeM a1 a3 l4) ((reachS a1 a3 l4).1.getD j 0) = (j : Int) := by
  have hinv := reach_inv hM
  have hN := hM.n1
  unfold placeM rd
  generalize reachS a1 a3 l4 = s at hinv hj
  exact place_at s.1 a3.toNat (fun p q hp hq e => hinv.inj hp hq e) (fun q hq => by have := hinv.rng _ (getD_mem hq); omega) s.1.length 0 _ (by omega) List.length_replicate (fun q hq => by omega) j hj

theorem canN_len : (canN a1 a3 l4).length = (reachS a1 a3 l4).1.length * a1.toNat := by
  have hinv := reach_inv hM
  have hk1 := hM.k1
  have hk64 := hM.k64
  refine flat_len _ _ _ (fun s hs => ?_)
  have hr := hinv.rng s hs
  obtain ⟨_, _, _, _, _, g2⟩ := row_bd hM (l := l4) hr.1 hr.2 hk1 hk64 hM.next
  rw [List.length_map, sl_len hr.1 (by omega) g2]
theorem canO_len : (canO a0 a1 a3 l4 l5).length = (reachS a1 a3 l4).1.length * (eachM a0 a1).toNat := by
  have hinv := reach_inv hM
  have hb := each_bd hM
  refine flat_len _ _ _ (fun s hs => ?_)
  have hr := hinv.rng s hs
  obtain ⟨_, _, _, _, _, g2⟩ := row_bd hM (l := l5) hr.1 hr.2 hb.1 hb.2 (each_len hM)
  rw [sl_len hr.1 (by omega) g2]
/-- Where a symbol leads in the made machine. -/
theorem can_step {j x : Nat} (hj : j < (reachS a1 a3 l4).1.length) (hx : (x : Int) < a1) :
    ∃ q, q < (reachS a1 a3 l4).1.length ∧ nxM a1 (canN a1 a3 l4) (j : Int) (x : Int) = (q : Int) ∧ (reachS a1 a3 l4).1.getD q 0 = nxM a1 l4 ((reachS a1 a3 l4).1.getD j 0) (x : Int) := by
  have hinv := reach_inv hM
  have hk1 := hM.k1
  have hk64 := hM.k64
  obtain ⟨q, hq, e, _⟩ := hinv.clo j x (by omega) (.inl hj) hj
  refine ⟨q, hq, ?_, e⟩
  have hr := hinv.rng _ (getD_mem hj)
  have hlen : ∀ s ∈ (reachS a1 a3 l4).1, ((sl l4 s a1).map (rd (placeM a1 a3 l4))).length = a1.toNat := by
    intro s hs
    have hr := hinv.rng s hs
    obtain ⟨_, _, _, _, _, g2⟩ := row_bd hM (l := l4) hr.1 hr.2 hk1 hk64 hM.next
    rw [List.length_map, sl_len hr.1 (by omega) g2]
  obtain ⟨K, hK⟩ : ∃ K : Nat, a1 = (K : Int) := ⟨a1.toNat, by omega⟩
  have e1 : nxM a1 (canN a1 a3 l4) (j : Int) (x : Int) = (canN a1 a3 l4).getD (j * a1.toNat + x) 0 := by
    unfold nxM rd
    congr 1
    rw [hK, Int.toNat_natCast]
    omega
  rw [e1]
  unfold canN
  rw [flat_get _ a1.toNat _ j x hlen hj (by omega)]
  have hl := hlen _ (getD_mem hj)
  rw [List.length_map] at hl
  rw [List.getD_eq_getElem?_getD, List.getElem?_map, List.getElem?_eq_getElem (by omega)]
  show rd (placeM a1 a3 l4) _ = _
  have e2 : (sl l4 ((reachS a1 a3 l4).1.getD j 0) a1)[x]'(by omega) = nxM a1 l4 ((reachS a1 a3 l4).1.getD j 0) (x : Int) := by
    have := sl_get (l := l4) hr.1 (by omega : 0 ≤ a1) hx
    rw [List.getD_eq_getElem?_getD, List.getElem?_eq_getElem (by omega)] at this
    exact this
  rw [e2, ← e]
  exact place_of hM hq
theorem can_out {j x : Nat} (hj : j < (reachS a1 a3 l4).1.length) (hx : (x : Int) < eachM a0 a1) :
    rd (canO a0 a1 a3 l4 l5) ((j : Int) * eachM a0 a1 + (x : Int)) = rd l5 ((reachS a1 a3 l4).1.getD j 0 * eachM a0 a1 + (x : Int)) := by
  have hinv := reach_inv hM
  have hb := each_bd hM
  have hr := hinv.rng _ (getD_mem hj)
  have hlen : ∀ s ∈ (reachS a1 a3 l4).1, (sl l5 s (eachM a0 a1)).length = (eachM a0 a1).toNat := by
    intro s hs
    have hr := hinv.rng s hs
    obtain ⟨_, _, _, _, _, g2⟩ := row_bd hM (l := l5) hr.1 hr.2 hb.1 hb.2 (each_len hM)
    rw [sl_len hr.1 (by omega) g2]
  rw [← sl_get (l := l5) hr.1 (by omega) hx, ← flat_get (fun s => sl l5 s (eachM a0 a1)) (eachM a0 a1).toNat _ j x hlen hj (by omega)]
  obtain ⟨K, hK⟩ : ∃ K : Nat, eachM a0 a1 = (K : Int) := ⟨(eachM a0 a1).toNat, by omega⟩
  unfold rd canO
  congr 1
  rw [hK, Int.toNat_natCast]
  omega

theorem canon_isRight : RightM a0 a1 a2 ((reachS a1 a3 l4).1.length : Int) (canN a1 a3 l4) (canO a0 a1 a3 l4 l5) := by
  have hinv := reach_inv hM
  have hs := slen hM hinv
  have hpos := hinv.pos
  have hk1 := hM.k1
  have hb := each_bd hM
  refine { kind := hM.kind, k1 := hM.k1, k64 := hM.k64, dfa := hM.dfa, o1 := hM.o1, o64 := hM.o64, n1 := by omega, n1024 := by omega, next := ?_, out := ?_, nextIn := ?_, outIn := ?_ }
  · rw [canN_len hM, Int.natCast_mul, Int.toNat_of_nonneg (by omega)]
  · rw [canO_len hM, Int.natCast_mul, Int.toNat_of_nonneg (by omega)]
    unfold eachM
    split
    · omega
    · rfl
  · rw [inR_iff]
    intro p hp
    rw [canN_len hM] at hp
    have hK : 0 < a1.toNat := by omega
    have hj : p / a1.toNat < (reachS a1 a3 l4).1.length := Nat.div_lt_of_lt_mul (by rw [Nat.mul_comm]; exact hp)
    have hx := Nat.mod_lt p hK
    obtain ⟨q, hq, e, _⟩ := can_step hM (j := p / a1.toNat) (x := p % a1.toNat) hj (by omega)
    have ep : ((p / a1.toNat : Nat) : Int) * a1 + ((p % a1.toNat : Nat) : Int) = (p : Int) := by
      have h := Nat.div_add_mod p a1.toNat
      have h2 : ((a1.toNat * (p / a1.toNat) + p % a1.toNat : Nat) : Int) = (p : Int) := by rw [h]
      rw [Int.natCast_add, Int.natCast_mul, Int.toNat_of_nonneg (by omega), Int.mul_comm] at h2
      exact h2
    have e' : rd (canN a1 a3 l4) (p : Int) = (q : Int) := by
      have : nxM a1 (canN a1 a3 l4) ((p / a1.toNat : Nat) : Int) ((p % a1.toNat : Nat) : Int) = rd (canN a1 a3 l4) (p : Int) := by unfold nxM; rw [ep]
      rw [← this, e]
    rw [e']
    omega
  · intro t ht
    obtain ⟨s, _, hs⟩ := List.mem_flatMap.mp ht
    exact hM.outIn t (sl_mem hs)

/-- A word leads to the same place. -/
theorem can_run : ∀ (w : List Int) (j : Nat), j < (reachS a1 a3 l4).1.length → InR w a1 →
    ∃ q, q < (reachS a1 a3 l4).1.length ∧ runTo (nxM a1 (canN a1 a3 l4)) (j : Int) w = (q : Int) ∧ (reachS a1 a3 l4).1.getD q 0 = runTo (nxM a1 l4) ((reachS a1 a3 l4).1.getD j 0) w
  | [], j, hj, _ => ⟨j, hj, rfl, rfl⟩
  | x :: w, j, hj, hw => by
    have hx := hw x (by simp)
    obtain ⟨y, rfl⟩ : ∃ y : Nat, x = y := ⟨x.toNat, by omega⟩
    obtain ⟨q, hq, e1, e2⟩ := can_step hM hj hx.2
    obtain ⟨q', hq', e3, e4⟩ := can_run w q hq (fun t ht => hw t (List.mem_cons_of_mem _ ht))
    refine ⟨q', hq', ?_, ?_⟩
    · show runTo (nxM a1 (canN a1 a3 l4)) (nxM a1 (canN a1 a3 l4) (j : Int) (y : Int)) w = _
      rw [e1]; exact e3
    · show _ = runTo (nxM a1 l4) (nxM a1 l4 ((reachS a1 a3 l4).1.getD j 0) (y : Int)) w
      rw [← e2]; exact e4
theorem can_mealy (h2 : a0 ≠ 1) : ∀ (w : List Int) (j : Nat), j < (reachS a1 a3 l4).1.length → InR w a1 →
    mealy (nxM a1 (canN a1 a3 l4)) (nxM a1 (canO a0 a1 a3 l4 l5)) (j : Int) w = mealy (nxM a1 l4) (nxM a1 l5) ((reachS a1 a3 l4).1.getD j 0) w
  | [], j, hj, _ => rfl
  | x :: w, j, hj, hw => by
    have hx := hw x (by simp)
    obtain ⟨y, rfl⟩ : ∃ y : Nat, x = y := ⟨x.toNat, by omega⟩
    obtain ⟨q, hq, e1, e2⟩ := can_step hM hj hx.2
    have ih := can_mealy h2 w q hq (fun t ht => hw t (List.mem_cons_of_mem _ ht))
    have ee : eachM a0 a1 = a1 := by unfold eachM; rw [if_neg h2]
    have eo := can_out hM (x := y) hj (by rw [ee]; exact hx.2)
    rw [ee] at eo
    simp only [mealy]
    rw [e1, ih, e2]
    congr 1
theorem can_goOut {w : List Int} (hw : InR w a1) : goOut a0 a1 (canN a1 a3 l4) (canO a0 a1 a3 l4 l5) 0 w = goOut a0 a1 l4 l5 0 w := by
  have hinv := reach_inv hM
  have hpos := hinv.pos
  have h0 := hinv.s0
  unfold goOut
  by_cases h1 : a0 = 1
  · rw [if_pos h1, if_pos h1]
    obtain ⟨q, hq, e1, e2⟩ := can_run hM w 0 hpos hw
    have ee : eachM a0 a1 = 1 := by unfold eachM; rw [if_pos h1]
    have eo := can_out hM (x := 0) hq (by rw [ee]; decide)
    rw [ee] at eo
    rw [h0] at e2
    have e1' : runTo (nxM a1 (canN a1 a3 l4)) 0 w = (q : Int) := e1
    rw [e1', ← e2]
    simp only [Int.mul_one, Int.natCast_zero, Int.add_zero] at eo
    rw [eo]
  · rw [if_neg h1, if_neg h1]
    have := can_mealy hM h1 w 0 hpos hw
    rw [h0] at this
    exact this
end

theorem canon_wrong {a0 a1 a2 a3 : Int} {l4 l5 : List Int} (hM : ¬ RightM a0 a1 a2 a3 l4 l5) (hw4 : ∀ x ∈ l4, (Lit.int .i64 x).wf = true) (hw5 : ∀ x ∈ l5, (Lit.int .i64 x).wf = true) (hl4 : l4.length ≤ maxLen) (hl5 : l5.length ≤ maxLen) :
    errM a0 a1 a2 a3 l4 l5 ≠ 0 ∧ Ev (fun k => trim_Canon.f k a0 a1 a2 a3 l4 l5) (0, 0, 0, 0, [], [], errM a0 a1 a2 a3 l4 l5) := by
  obtain ⟨he, hr⟩ := reach_wrong hM hw4 hw5 hl4 hl5
  refine ⟨he, ?_⟩
  refine Ev.bind hr ?_
  exact Ev.neg he (Ev.now _)
end Go.Proofs.Ytllgeljacmpdjaa.PTrim
