/- trim.Turn, as printed: where it answers a machine, each state's new number is told by the row, and symbols and entries go along. -/
import Derived.Test.YtllgeljacmpdjaaGCan
import Derived.Test.YtllgeljacmpdjaaPTrimxf33
namespace Go.Proofs.Ytllgeljacmpdjaa.PTrim
open Go.RowKit Go.Proofs.YtllgeljacmpdjaaW.PrintWords Go.Proofs.YtllgeljacmpdjaaW.PrintLast Go.Proofs.YtllgeljacmpdjaaW.PrintMore Go.Proofs.Ytllgeljacmpdjaa.Bfs
set_option linter.unusedVariables false
set_option linter.unusedSimpArgs false

/-- A row of n different numbers from 0 to n - 1, 0 first. -/
structure Perm (p : List Int) (n : Int) : Prop where
  len : (p.length : Int) = n
  first : rd p 0 = 0
  rng : InR p n
  nodup : p.Nodup

/-- what was: by new numbers, from 1 on: the states before place i -/
def Was (p was : List Int) (n : Int) (i : Nat) : Prop :=
  (was.length : Int) = n ∧ ∀ t : Nat, (t : Int) < n → (was.getD t 0 = 0 ∧ ∀ j, j < i → p.getD j 0 ≠ (t : Int)) ∨ ∃ j, j < i ∧ p.getD j 0 = (t : Int) ∧ was.getD t 0 = (j : Int) + 1

theorem was_start (p : List Int) {n : Int} (h : 0 ≤ n) : Was p (List.replicate n.toNat 0) n 0 := by
  refine ⟨by rw [List.length_replicate]; omega, fun t ht => .inl ⟨?_, fun j hj => by omega⟩⟩
  rw [List.getD_eq_getElem?_getD, List.getElem?_replicate]
  split <;> rfl
theorem was_next {p was : List Int} {n : Int} {i : Nat} (h : Was p was n i) (hi : i < p.length) (h0 : 0 ≤ p.getD i 0) (h1 : p.getD i 0 < n) (hz : was.getD (p.getD i 0).toNat 0 = 0) :
    Was p (was.set (p.getD i 0).toNat ((i + 1 : Nat) : Int)) n (i + 1) ∧ ∀ j, j < i → p.getD j 0 ≠ p.getD i 0 := by
  have hfree : ∀ j, j < i → p.getD j 0 ≠ p.getD i 0 := by
    rcases h.2 (p.getD i 0).toNat (by omega) with ⟨_, hh⟩ | ⟨j, hj, e, ew⟩
    · intro j hj e
      exact hh j hj (by omega)
    · rw [hz] at ew
      omega
  refine ⟨⟨by simpa using h.1, fun t ht => ?_⟩, hfree⟩
  have hl := h.1
  by_cases e : t = (p.getD i 0).toNat
  · subst e
    refine .inr ⟨i, by omega, by omega, ?_⟩
    rw [List.getD_eq_getElem?_getD, List.getElem?_set_self (by omega)]
    show ((i + 1 : Nat) : Int) = _
    omega
  · rw [List.getD_eq_getElem?_getD, List.getElem?_set_ne (by omega), ← List.getD_eq_getElem?_getD]
    rcases h.2 t ht with ⟨hz', hh⟩ | ⟨j, hj, e1, e2⟩
    · refine .inl ⟨hz', fun j hj => ?_⟩
      by_cases ej : j = i
      · subst ej; omega
      · exact hh j (by omega)
    · exact .inr ⟨j, by omega, e1, e2⟩

theorem pair_nodup {p : List Int} (h : ∀ i, i < p.length → ∀ j, j < i → p.getD j 0 ≠ p.getD i 0) : p.Nodup := by
  refine List.pairwise_iff_getElem.mpr (fun i j hi hj hij => ?_)
  have := h j hj i hij
  rw [List.getD_eq_getElem?_getD, List.getD_eq_getElem?_getD, List.getElem?_eq_getElem hi, List.getElem?_eq_getElem hj] at this
  exact this

section
variable {a0 a1 a2 a3 : Int} {l4 l5 : List Int} (hM : RightM a0 a1 a2 a3 l4 l5)
include hM

/-- What Turn answers with 'was' of each new number: the states' rows. -/
def turnN (a1 : Int) (l4 p : List Int) (was : List Int) : List Int := was.flatMap fun s => (sl l4 (s - 1) a1).map (rd p)
def turnO (a0 a1 : Int) (l5 : List Int) (was : List Int) : List Int := was.flatMap fun s => sl l5 (s - 1) (eachM a0 a1)

abbrev TAns := Int × Int × Int × Int × List Int × List Int × Int

theorem turn_l3 {p was nxt : List Int} {s : Int} {i : Nat} (hs : 0 ≤ s - 1) (hs1 : s - 1 < a3) {o0 o1 o2 o3 : Int} {r : TAns} : ∀ (n q : Nat) (out : List Int), (q : Int) + n = eachM a0 a1 → out.length + n ≤ 100000 →
    Ev (fun k => trim_Turn.l1 k p (eachM a0 a1) was (was.length : Int) (wrap64 ((i : Int) + 1)) a0 a1 a2 a3 l4 l5 o0 o1 o2 o3 nxt (out ++ (sl l5 (s - 1) (eachM a0 a1)).drop q)) r →
    Ev (fun k => trim_Turn.l3 k p (eachM a0 a1) s was (was.length : Int) (i : Int) (eachM a0 a1) (q : Int) a0 a1 a2 a3 l4 l5 o0 o1 o2 o3 nxt out) r
  | 0, q, out, hn, _, h => by
    have hb := each_bd hM
    obtain ⟨u1, _, u3, v0, v1, v2⟩ := row_bd hM (l := l5) hs hs1 hb.1 hb.2 (each_len hM)
    have hl5 := sl_len (l := l5) hs (by omega) v2
    rw [List.drop_eq_nil_of_le (by omega), List.append_nil] at h
    refine Ev.succ ?_
    simp only [trim_Turn.l3]
    refine Ev.neg (by omega) ?_
    exact h
  | n + 1, q, out, hn, ho, h => by
    have hb := each_bd hM
    have hN := hM.n1024
    obtain ⟨u1, _, u3, v0, v1, v2⟩ := row_bd hM (l := l5) hs hs1 hb.1 hb.2 (each_len hM)
    have hl5 := sl_len (l := l5) hs (by omega) v2
    have hd := (sl_bd hs (by omega : 0 ≤ eachM a0 a1)).2
    have b := mul_bd (a := s - 1) (b := eachM a0 a1) (A := 1024) (B := 64) hs (by omega) (by omega) hb.2
    have eg := sl_get (l := l5) hs (by omega : 0 ≤ eachM a0 a1) (x := q) (by omega)
    rw [drop_at (by omega), rd_nat, eg] at h
    have w1 : wrap64 (s - 1) = s - 1 := wrap_id (by omega) (by omega)
    have w2 : wrap64 ((s - 1) * eachM a0 a1 + (q : Int)) = (s - 1) * eachM a0 a1 + (q : Int) := wrap_id (by omega) (by omega)
    refine Ev.succ ?_
    simp only [trim_Turn.l3]
    rw [w1, u1, w2, step1 (i := q) (by omega)]
    refine Ev.pos (by omega) ?_
    refine Ev.pos (by omega) ?_
    refine Ev.pos (by omega) ?_
    refine Ev.pos (by omega) ?_
    refine turn_l3 hs hs1 n (q + 1) _ (by omega) (by simp; omega) ?_
    simpa using h

theorem turn_l2 {p was out : List Int} (hp : (p.length : Int) = a3) {s : Int} {i : Nat} (hs : 0 ≤ s - 1) (hs1 : s - 1 < a3) {o0 o1 o2 o3 : Int} {r : TAns} : ∀ (n q : Nat) (nxt : List Int), (q : Int) + n = a1 → nxt.length + n ≤ 100000 →
    Ev (fun k => trim_Turn.l3 k p (eachM a0 a1) s was (was.length : Int) (i : Int) (eachM a0 a1) 0 a0 a1 a2 a3 l4 l5 o0 o1 o2 o3 (nxt ++ ((sl l4 (s - 1) a1).drop q).map (rd p)) out) r →
    Ev (fun k => trim_Turn.l2 k p (eachM a0 a1) s was (was.length : Int) (i : Int) a1 (q : Int) a0 a1 a2 a3 l4 l5 o0 o1 o2 o3 nxt out) r
  | 0, q, nxt, hn, _, h => by
    have hk1 := hM.k1
    obtain ⟨u1, _, u3, v0, v1, v2⟩ := row_bd hM (l := l4) hs hs1 hk1 hM.k64 hM.next
    have hl4 := sl_len (l := l4) hs (by omega) v2
    rw [List.drop_eq_nil_of_le (by omega), List.map_nil, List.append_nil] at h
    refine Ev.succ ?_
    simp only [trim_Turn.l2]
    refine Ev.neg (by omega) ?_
    exact h
  | n + 1, q, nxt, hn, ho, h => by
    have hk1 := hM.k1
    have hk64 := hM.k64
    have hN := hM.n1024
    obtain ⟨u1, _, u3, v0, v1, v2⟩ := row_bd hM (l := l4) hs hs1 hk1 hk64 hM.next
    have hl4 := sl_len (l := l4) hs (by omega) v2
    have eg := sl_get (l := l4) hs (by omega : 0 ≤ a1) (x := q) (by omega)
    obtain ⟨p0, p1, p2⟩ := hM.place hs hs1 (x := (q : Int)) (by omega) (by omega)
    have hst := hM.step hs hs1 (x := (q : Int)) (by omega) (by omega)
    have et : rd l4 ((s - 1) * a1 + (q : Int)) = nxM a1 l4 (s - 1) q := rfl
    rw [drop_at (by omega), List.map_cons, rd_nat, eg] at h
    have w1 : wrap64 (s - 1) = s - 1 := wrap_id (by omega) (by omega)
    refine Ev.succ ?_
    simp only [trim_Turn.l2]
    rw [w1, p2, step1 (i := q) (by omega), et]
    refine Ev.pos (by omega) ?_
    refine Ev.pos p0 ?_
    refine Ev.pos p1 ?_
    refine Ev.pos hst.1 ?_
    refine Ev.pos (by omega) ?_
    refine Ev.pos (by omega) ?_
    refine turn_l2 hp hs hs1 n (q + 1) _ (by omega) (by simp; omega) ?_
    simpa [et] using h

theorem turn_l1 {p was : List Int} (hp : (p.length : Int) = a3) (hw : ∀ j, j < was.length → 0 ≤ was.getD j 0 - 1 ∧ was.getD j 0 - 1 < a3) (hwl : was.length ≤ 1024) {o0 o1 o2 o3 : Int} : ∀ (n i : Nat) (nxt out : List Int), i + n = was.length → nxt.length + n * 64 ≤ 70000 → out.length + n * 64 ≤ 70000 →
    Ev (fun k => trim_Turn.l1 k p (eachM a0 a1) was (was.length : Int) (i : Int) a0 a1 a2 a3 l4 l5 o0 o1 o2 o3 nxt out) (o0, o1, o2, o3, nxt ++ turnN a1 l4 p (was.drop i), out ++ turnO a0 a1 l5 (was.drop i), 0)
  | 0, i, nxt, out, hn, _, _ => by
    rw [List.drop_eq_nil_of_le (by omega)]
    simp only [turnN, turnO, List.flatMap_nil, List.append_nil]
    refine Ev.succ ?_
    simp only [trim_Turn.l1]
    refine Ev.neg (by omega) ?_
    exact Ev.now _
  | n + 1, i, nxt, out, hn, hx, ho => by
    have hi : i < was.length := by omega
    have hr := hw i hi
    have hk1 := hM.k1
    have hk64 := hM.k64
    have hb := each_bd hM
    obtain ⟨_, _, _, _, _, g2⟩ := row_bd hM (l := l4) hr.1 hr.2 hk1 hk64 hM.next
    obtain ⟨_, _, _, _, _, v2⟩ := row_bd hM (l := l5) hr.1 hr.2 hb.1 hb.2 (each_len hM)
    have hl4 := sl_len (l := l4) hr.1 (by omega) g2
    have hl5 := sl_len (l := l5) hr.1 (by omega) v2
    have ih := turn_l1 hp hw hwl (o0 := o0) (o1 := o1) (o2 := o2) (o3 := o3) n (i + 1) (nxt ++ (sl l4 (was.getD i 0 - 1) a1).map (rd p)) (out ++ sl l5 (was.getD i 0 - 1) (eachM a0 a1)) (by omega)
      (by rw [List.length_append, List.length_map, hl4]; omega) (by rw [List.length_append, hl5]; omega)
    rw [drop_at hi, rd_nat]
    simp only [turnN, turnO, List.flatMap_cons] at ih ⊢
    rw [← List.append_assoc, ← List.append_assoc]
    refine Ev.succ ?_
    simp only [trim_Turn.l1]
    rw [rd_nat]
    refine Ev.pos (by omega) ?_
    refine Ev.pos (by omega) ?_
    refine Ev.pos (by omega) ?_
    refine turn_l2 hM hp hr.1 hr.2 a1.toNat 0 nxt (by omega) (by omega) ?_
    rw [List.drop_zero]
    refine turn_l3 hM hr.1 hr.2 (eachM a0 a1).toNat 0 out (by omega) (by omega) ?_
    rw [List.drop_zero, step1 (by omega)]
    exact ih

theorem turn_l0 {p : List Int} (hp : (p.length : Int) = a3) (hf : rd p 0 = 0) (hwp : ∀ x ∈ p, (Lit.int .i64 x).wf = true) : ∀ (n i : Nat) (was : List Int), i + n = p.length → Was p was a3 i →
    (∀ j, j < i → 0 ≤ p.getD j 0 ∧ p.getD j 0 < a3) → (∀ q, q < i → ∀ j, j < q → p.getD j 0 ≠ p.getD q 0) →
    (¬ Perm p a3 ∧ Ev (fun k => trim_Turn.l0 k p was p (p.length : Int) (i : Int) a0 a1 a2 a3 l4 l5) (0, 0, 0, 0, [], [], 1)) ∨
    ∃ was', Perm p a3 ∧ Was p was' a3 p.length ∧ Ev (fun k => trim_Turn.l0 k p was p (p.length : Int) (i : Int) a0 a1 a2 a3 l4 l5) (a0, a1, a2, a3, turnN a1 l4 p was', turnO a0 a1 l5 was', 0)
  | 0, i, was, hn, hw, hr, hd => by
    obtain rfl : i = p.length := by omega
    have h1 := hM.n1
    have hN := hM.n1024
    have hperm : Perm p a3 := by
      refine ⟨hp, hf, ?_, pair_nodup hd⟩
      rw [inR_iff]
      intro i hi
      rw [rd_nat]
      exact hr i hi
    refine .inr ⟨was, hperm, hw, ?_⟩
    have hwb : ∀ j, j < was.length → 0 ≤ was.getD j 0 - 1 ∧ was.getD j 0 - 1 < a3 := by
      intro t ht
      have hl := hw.1
      rcases hw.2 t (by omega) with ⟨_, hh⟩ | ⟨j, hj, _, e⟩
      · exfalso
        have hmem : (t : Int) ∈ p := all_of_full (n := a3.toNat) hperm.nodup (fun u hu => by have := hperm.rng u hu; omega) (by omega) (by omega) (by omega)
        obtain ⟨j, hj, ej⟩ := mem_getD hmem
        exact hh j hj ej
      · rw [e]; omega
    have hl1 := turn_l1 hM hp hwb (by have := hw.1; omega) (o0 := a0) (o1 := a1) (o2 := a2) (o3 := a3) was.length 0 [] [] (by omega) (by have := hw.1; simp; omega) (by have := hw.1; simp; omega)
    refine Ev.succ ?_
    simp only [trim_Turn.l0]
    rw [each_div hM]
    refine Ev.neg (by omega) ?_
    refine Ev.neg (by omega) ?_
    simpa using hl1
  | n + 1, i, was, hn, hw, hr, hd => by
    have hN := hM.n1024
    have hi : i < p.length := by omega
    have hl := hw.1
    by_cases hb : 0 ≤ p.getD i 0 ∧ p.getD i 0 < a3
    · by_cases hz : was.getD (p.getD i 0).toNat 0 = 0
      · obtain ⟨hw', hfree⟩ := was_next hw hi hb.1 hb.2 hz
        have ih := turn_l0 hp hf hwp n (i + 1) _ (by omega) hw' (fun j hj => by
            by_cases e : j = i
            · subst e; exact hb
            · exact hr j (by omega)) (fun q hq j hj => by
            by_cases e : q = i
            · subst e; exact hfree j hj
            · exact hd q (by omega) j hj)
        have hstep : ∀ r : TAns, Ev (fun k => trim_Turn.l0 k p (was.set (p.getD i 0).toNat ((i + 1 : Nat) : Int)) p (p.length : Int) ((i + 1 : Nat) : Int) a0 a1 a2 a3 l4 l5) r →
            Ev (fun k => trim_Turn.l0 k p was p (p.length : Int) (i : Int) a0 a1 a2 a3 l4 l5) r := by
          intro r hr'
          refine Ev.succ ?_
          simp only [trim_Turn.l0]
          rw [rd_nat, step1 (i := i) (by omega)]
          refine Ev.pos (by omega) ?_
          refine Ev.pos (by omega) ?_
          refine Ev.pos (by omega) ?_
          refine Ev.neg (by omega) ?_
          refine Ev.neg (by omega) ?_
          refine Ev.pos hb.1 ?_
          refine Ev.pos (by omega) ?_
          refine Ev.pos hz ?_
          exact hr'
        rcases ih with ⟨hn', h⟩ | ⟨was', h1, h2, h3⟩
        · exact .inl ⟨hn', hstep _ h⟩
        · exact .inr ⟨was', h1, h2, hstep _ h3⟩
      · refine .inl ⟨fun hpm => ?_, ?_⟩
        · rcases hw.2 (p.getD i 0).toNat (by omega) with ⟨hz', _⟩ | ⟨j, hj, e, _⟩
          · exact hz hz'
          · have hnd := List.pairwise_iff_getElem.mp hpm.nodup j i (by omega) hi hj
            apply hnd
            have e2 : p.getD j 0 = p.getD i 0 := by omega
            rw [List.getD_eq_getElem?_getD, List.getD_eq_getElem?_getD, List.getElem?_eq_getElem hi, List.getElem?_eq_getElem (by omega : j < p.length)] at e2
            exact e2
        refine Ev.succ ?_
        simp only [trim_Turn.l0]
        rw [rd_nat]
        refine Ev.pos (by omega) ?_
        refine Ev.pos (by omega) ?_
        refine Ev.pos (by omega) ?_
        refine Ev.neg (by omega) ?_
        refine Ev.neg (by omega) ?_
        refine Ev.pos hb.1 ?_
        refine Ev.pos (by omega) ?_
        refine Ev.neg hz ?_
        exact Ev.now _
    · refine .inl ⟨fun hpm => hb (hpm.rng _ (getD_mem hi)), ?_⟩
      refine Ev.succ ?_
      simp only [trim_Turn.l0]
      rw [rd_nat]
      refine Ev.pos (by omega) ?_
      refine Ev.pos (by omega) ?_
      refine Ev.pos (by omega) ?_
      by_cases h0 : p.getD i 0 < 0
      · exact Ev.pos h0 (Ev.now _)
      · refine Ev.neg h0 ?_
        exact Ev.pos (by omega) (Ev.now _)

/-- What Turn answers of a right machine. -/
theorem turn_right {p : List Int} (hw4 : ∀ x ∈ l4, (Lit.int .i64 x).wf = true) (hw5 : ∀ x ∈ l5, (Lit.int .i64 x).wf = true) (hwp : ∀ x ∈ p, (Lit.int .i64 x).wf = true) :
    (¬ Perm p a3 ∧ Ev (fun k => trim_Turn.f k a0 a1 a2 a3 l4 l5 p) (0, 0, 0, 0, [], [], 1)) ∨
    ∃ was, Perm p a3 ∧ Was p was a3 p.length ∧ Ev (fun k => trim_Turn.f k a0 a1 a2 a3 l4 l5 p) (a0, a1, a2, a3, turnN a1 l4 p was, turnO a0 a1 l5 was, 0) := by
  have h1 := hM.n1
  have hN := hM.n1024
  have hle : l4.length ≤ maxLen ∧ l5.length ≤ maxLen := by
    have h := hM.next
    have h2 := hM.out
    have h5 := hM.k1
    have b := mul_bd (a := a3) (b := a1) (A := 1024) (B := 64) (by omega) (by omega) hN hM.k64
    unfold maxLen
    split at h2 <;> omega
  obtain ⟨at_, hc⟩ := mcheck_ev (a0 := a0) (a1 := a1) (a2 := a2) (a3 := a3) hw4 hw5 hle.1 hle.2
  rw [errM_zero.mpr hM] at hc
  have hbad : Ev (fun k => trim_Turn.j0 k p true a0 a1 a2 a3 l4 l5) (0, 0, 0, 0, [], [], 1) := by
    refine Ev.succ ?_
    simp only [trim_Turn.j0]
    exact Ev.pos trivial (Ev.now _)
  by_cases hp : (p.length : Int) = a3
  · by_cases hf : rd p 0 = 0
    · have hl0 := turn_l0 hM hp hf hwp p.length 0 (List.replicate a3.toNat 0) (by omega) (was_start p (by omega)) (fun j hj => by omega) (fun q hq => by omega)
      have hstep : ∀ r : TAns, Ev (fun k => trim_Turn.l0 k p (List.replicate a3.toNat 0) p (p.length : Int) ((0 : Nat) : Int) a0 a1 a2 a3 l4 l5) r → Ev (fun k => trim_Turn.f k a0 a1 a2 a3 l4 l5 p) r := by
        intro r hr
        refine Ev.bind hc ?_
        refine Ev.pos rfl ?_
        refine Ev.pos hp ?_
        refine Ev.pos (by omega) ?_
        rw [show (rd p 0 != 0) = false by rw [hf]; rfl]
        refine Ev.succ ?_
        simp only [trim_Turn.j0]
        refine Ev.neg (by decide) ?_
        refine Ev.pos (by omega) ?_
        refine Ev.pos (by omega) ?_
        exact hr
      rcases hl0 with ⟨hn, h⟩ | ⟨was, h1, h2, h3⟩
      · exact .inl ⟨hn, hstep _ h⟩
      · exact .inr ⟨was, h1, h2, hstep _ h3⟩
    · refine .inl ⟨fun hpm => hf hpm.first, ?_⟩
      refine Ev.bind hc ?_
      refine Ev.pos rfl ?_
      refine Ev.pos hp ?_
      refine Ev.pos (by omega) ?_
      rw [show (rd p 0 != 0) = true from bne_iff_ne.mpr hf]
      exact hbad
  · refine .inl ⟨fun hpm => hp hpm.len, ?_⟩
    refine Ev.bind hc ?_
    refine Ev.pos rfl ?_
    refine Ev.neg hp ?_
    exact hbad
end
end Go.Proofs.Ytllgeljacmpdjaa.PTrim
