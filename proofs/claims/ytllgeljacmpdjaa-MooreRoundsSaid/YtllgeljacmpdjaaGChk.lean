/- What the two Checks of a machine answer: plain. -/
import Derived.Test.YtllgeljacmpdjaaPTrimxf45
import Derived.Test.YtllgeljacmpdjaaPTrimxs
namespace Go.Proofs.Ytllgeljacmpdjaa.PTrim
open Go.RowKit Go.Proofs.YtllgeljacmpdjaaW.PrintWords Go.Proofs.YtllgeljacmpdjaaW.PrintLast Go.Proofs.YtllgeljacmpdjaaW.PrintMore
set_option linter.unusedVariables false
set_option linter.unusedSimpArgs false

def InR (l : List Int) (n : Int) : Prop := ∀ x ∈ l, 0 ≤ x ∧ x < n
/-- A right machine. -/
structure RightM (a0 a1 a2 a3 : Int) (l4 l5 : List Int) : Prop where
  kind : a0 = 1 ∨ a0 = 2
  k1 : 1 ≤ a1
  k64 : a1 ≤ 64
  dfa : a0 = 1 → a2 = 2
  o1 : 1 ≤ a2
  o64 : a2 ≤ 64
  n1 : 1 ≤ a3
  n1024 : a3 ≤ 1024
  next : (l4.length : Int) = a3 * a1
  out : (l5.length : Int) = if a0 = 1 then a3 else a3 * a1
  nextIn : InR l4 a3
  outIn : InR l5 a2

theorem Ev.pos {α : Type} {c : Prop} [Decidable c] {g f : Nat → Option α} {r : α} (h : c) (k : Ev g r) : Ev (fun n => if c then g n else f n) r := by simpa only [if_pos h] using k
theorem Ev.neg {α : Type} {c : Prop} [Decidable c] {g f : Nat → Option α} {r : α} (h : ¬ c) (k : Ev f r) : Ev (fun n => if c then g n else f n) r := by simpa only [if_neg h] using k

/-- One round, unfolded in place. -/
theorem Ev.succ {α : Type} {g : Nat → Option α} {r : α} (k : Ev (fun n => g (n + 1)) r) : Ev g r := Ev.step (fun _ => rfl) k

theorem wrap_id {n : Int} (h0 : -9223372036854775808 ≤ n) (h1 : n ≤ 9223372036854775807) : wrap64 n = n := by unfold wrap64; omega
theorem mul_bd {a b A B : Int} (ha : 0 ≤ a) (hb : 0 ≤ b) (hA : a ≤ A) (hB : b ≤ B) : 0 ≤ a * b ∧ a * b ≤ A * B :=
  ⟨Int.mul_nonneg ha hb, Int.mul_le_mul hA hB hb (Int.le_trans ha hA)⟩

def headE (a0 a1 a2 a3 : Int) (l4 l5 : List Int) : Int :=
  if ¬ (a0 = 1 ∨ a0 = 2) then 30 else if ¬ (1 ≤ a1 ∧ a1 ≤ 64) then 1 else if ¬ ((a0 = 1 → a2 = 2) ∧ 1 ≤ a2 ∧ a2 ≤ 64) then 33 else if ¬ (1 ≤ a3 ∧ a3 ≤ 1024) then 3
  else if ¬ ((l4.length : Int) = a3 * a1 ∧ (l5.length : Int) = if a0 = 1 then a3 else a3 * a1) then 31 else 0

theorem head_ev (a0 a1 a2 a3 : Int) (l4 l5 : List Int) : Ev (fun k => machine_head.f k a0 a1 a2 a3 l4 l5) (headE a0 a1 a2 a3 l4 l5) := by
  refine Ev.of (fun k => machine_head.mono _ _ _ _ _ _ k) (k := 6) ?_
  unfold headE
  by_cases c1 : a0 = 1 ∨ a0 = 2
  · rw [if_neg (not_not_intro c1)]
    by_cases c2 : 1 ≤ a1 ∧ a1 ≤ 64
    · rw [if_neg (not_not_intro c2)]
      have d1 : ¬ a1 < 1 := by omega
      have d2 : ¬ a1 > 64 := by omega
      by_cases c3 : (a0 = 1 → a2 = 2) ∧ 1 ≤ a2 ∧ a2 ≤ 64
      · rw [if_neg (not_not_intro c3)]
        have d3 : ¬ a2 < 1 := by omega
        have d4 : ¬ a2 > 64 := by omega
        by_cases c4 : 1 ≤ a3 ∧ a3 ≤ 1024
        · rw [if_neg (not_not_intro c4)]
          have d5 : ¬ a3 < 1 := by omega
          have d6 : ¬ a3 > 1024 := by omega
          have hm := mul_bd (a := a3) (b := a1) (by omega) (by omega) c4.2 c2.2
          have hw : wrap64 (a3 * a1) = a3 * a1 := wrap_id (by omega) (by omega)
          rcases c1 with rfl | rfl
          · have := c3.1 rfl
            subst this
            simp [machine_head.f, machine_head.j0, machine_head.j1, machine_head.j2, machine_head.j3, machine_head.j4, machine_says.f, d1, d2, d5, d6, hw]
            split <;> split <;> simp_all
          · simp [machine_head.f, machine_head.j0, machine_head.j1, machine_head.j2, machine_head.j3, machine_head.j4, machine_says.f, d1, d2, d3, d4, d5, d6, hw]
            split <;> split <;> simp_all
        · rw [if_pos c4]
          rcases c1 with rfl | rfl
          · have := c3.1 rfl
            subst this
            simp [machine_head.f, machine_head.j0, machine_head.j1, machine_head.j2, machine_head.j3, machine_head.j4, d1, d2]
            by_cases e : a3 < 1
            · simp [e]
            · simp [e]; omega
          · simp [machine_head.f, machine_head.j0, machine_head.j1, machine_head.j2, machine_head.j3, machine_head.j4, d1, d2, d3, d4]
            by_cases e : a3 < 1
            · simp [e]
            · simp [e]; omega
      · rw [if_pos c3]
        rcases c1 with rfl | rfl
        · simp [machine_head.f, machine_head.j0, machine_head.j1, machine_head.j2, machine_head.j3, machine_head.j4, d1, d2]
          by_cases e : a2 = 2
          · subst e; simp at c3
          · simp [e]
        · simp [machine_head.f, machine_head.j0, machine_head.j1, machine_head.j2, machine_head.j3, machine_head.j4, d1, d2]
          by_cases e : a2 < 1
          · simp [e]
          · have : a2 > 64 := by
              simp at c3
              omega
            simp [e, this]
    · rw [if_pos c2]
      have h0 : ∀ b, machine_head.f 6 a0 a1 a2 a3 l4 l5 = b → machine_head.f 6 a0 a1 a2 a3 l4 l5 = b := fun _ h => h
      rcases c1 with rfl | rfl <;>
      · simp [machine_head.f, machine_head.j0, machine_head.j1]
        by_cases e : a1 < 1
        · simp [e]
        · have : a1 > 64 := by omega
          simp [e, this]
  · rw [if_pos c1]
    have e1 : a0 ≠ 1 := fun h => c1 (.inl h)
    have e2 : a0 ≠ 2 := fun h => c1 (.inr h)
    simp [machine_head.f, machine_head.j0, e1, e2]

/-! ### loops over a row -/
theorem rd_getElem {l : List Int} {i : Nat} (h : i < l.length) : rd l (i : Int) = l[i] := by
  unfold rd
  rw [List.getD_eq_getElem?_getD, Int.toNat_natCast, List.getElem?_eq_getElem h]
  rfl
theorem rd_mem {l : List Int} {i : Int} (h0 : 0 ≤ i) (h : i < l.length) : rd l i ∈ l := by
  obtain ⟨n, rfl⟩ : ∃ n : Nat, i = n := ⟨i.toNat, by omega⟩
  rw [rd_getElem (by omega)]
  exact List.getElem_mem _
theorem inR_iff {l : List Int} {n : Int} : InR l n ↔ ∀ i : Nat, i < l.length → 0 ≤ rd l i ∧ rd l i < n := by
  constructor
  · intro h i hi
    exact h _ (rd_mem (by omega) (by omega))
  · intro h x hx
    obtain ⟨i, hi, rfl⟩ := List.getElem_of_mem hx
    have := h i hi
    rw [rd_getElem hi] at this
    exact this

theorem u64_out {x n : Int} (hx : (Lit.int .i64 x).wf = true) (h0 : 1 ≤ n) (h1 : n ≤ 1024) : (IntKind.u64.wrap x ≥ IntKind.u64.wrap n) ↔ ¬ (0 ≤ x ∧ x < n) := by
  have e1 : IntKind.i64.min = -9223372036854775808 := rfl
  have e2 : IntKind.i64.max = 9223372036854775807 := rfl
  have w : ∀ y : Int, IntKind.u64.wrap y = y % 18446744073709551616 := fun y => rfl
  simp only [Lit.wf, e1, e2, Bool.and_eq_true, decide_eq_true_eq] at hx
  rw [w, w]
  omega

/-- the first entry that is not from 0 to n - 1, from place i on -/
def badFrom (n : Int) : List Int → Nat → Int
  | [], _ => -1
  | x :: l, i => if 0 ≤ x ∧ x < n then badFrom n l (i + 1) else (i : Int)
theorem badFrom_cons (n x : Int) (l : List Int) (i : Nat) : badFrom n (x :: l) i = if 0 ≤ x ∧ x < n then badFrom n l (i + 1) else (i : Int) := rfl
theorem badFrom_neg {n : Int} : ∀ {l : List Int} {i : Nat}, badFrom n l i < 0 ↔ InR l n
  | [], i => by simp [badFrom, InR]
  | x :: l, i => by
    unfold badFrom
    split
    · rename_i h
      rw [badFrom_neg]
      constructor
      · intro hl y hy
        rcases List.mem_cons.mp hy with rfl | hy
        · exact h
        · exact hl y hy
      · intro hl y hy
        exact hl y (List.mem_cons_of_mem _ hy)
    · rename_i h
      constructor
      · intro hi; omega
      · intro hl
        exact absurd (hl x (by simp)) h

theorem beyond_l0 {l : List Int} {n : Int} (hw : ∀ x ∈ l, (Lit.int .i64 x).wf = true) (h0 : 1 ≤ n) (h1 : n ≤ 1024) (hl : l.length ≤ maxLen) : ∀ (r : List Int) (i : Nat), l.drop i = r → i ≤ l.length →
    Ev (fun k => machine_beyond.l0 k l n (l.length : Int) (i : Int)) (badFrom n r i)
  | [], i, hr, hi => by
    have hi' : l.length ≤ i := by simpa using hr
    refine Ev.step (f := fun _ => some (-1)) (fun k => ?_) (Ev.now _)
    simp only [machine_beyond.l0]
    rw [if_neg (by omega)]
  | x :: r, i, hr, hi => by
    have hi' : i < l.length := by
      rcases Nat.lt_or_ge i l.length with h | h
      · exact h
      · rw [List.drop_eq_nil_of_le h] at hr; cases hr
    rw [List.drop_eq_getElem_cons hi'] at hr
    injection hr with hx hr
    have hrd : rd l (i : Int) = x := by rw [rd_getElem hi', hx]
    have hx' : (Lit.int .i64 x).wf = true := hw x (by rw [← hx]; exact List.getElem_mem _)
    have hwr : wrap64 ((i : Int) + 1) = ((i + 1 : Nat) : Int) := by unfold maxLen at hl; rw [wrap_id (by omega) (by omega)]; rfl
    unfold badFrom
    by_cases hb : 0 ≤ x ∧ x < n
    · rw [if_pos hb]
      refine Ev.step (fun k => ?_) (beyond_l0 hw h0 h1 hl r (i + 1) hr (by omega))
      simp only [machine_beyond.l0]
      rw [if_pos (by omega), if_pos (by omega), if_pos (by omega), hrd, if_neg (by rw [u64_out hx' h0 h1]; simpa using hb), hwr]
    · rw [if_neg hb]
      refine Ev.step (f := fun _ => some (i : Int)) (fun k => ?_) (Ev.now _)
      simp only [machine_beyond.l0]
      rw [if_pos (by omega), if_pos (by omega), if_pos (by omega), hrd, if_pos ((u64_out hx' h0 h1).mpr hb)]

theorem beyond_ev {l : List Int} {n : Int} (hw : ∀ x ∈ l, (Lit.int .i64 x).wf = true) (h0 : 1 ≤ n) (h1 : n ≤ 1024) (hl : l.length ≤ maxLen) : Ev (fun k => machine_beyond.f k l n) (badFrom n l 0) := by
  have := beyond_l0 hw h0 h1 hl l 0 (by simp) (by omega)
  exact this

/-- What is wrong with a machine: 0: nothing. -/
def errM (a0 a1 a2 a3 : Int) (l4 l5 : List Int) : Int :=
  if headE a0 a1 a2 a3 l4 l5 ≠ 0 then headE a0 a1 a2 a3 l4 l5 else if 0 ≤ badFrom a3 l4 0 then 32 else if 0 ≤ badFrom a2 l5 0 then 33 else 0

theorem headE_zero {a0 a1 a2 a3 : Int} {l4 l5 : List Int} (h : headE a0 a1 a2 a3 l4 l5 = 0) :
    (a0 = 1 ∨ a0 = 2) ∧ (1 ≤ a1 ∧ a1 ≤ 64) ∧ ((a0 = 1 → a2 = 2) ∧ 1 ≤ a2 ∧ a2 ≤ 64) ∧ (1 ≤ a3 ∧ a3 ≤ 1024) ∧ ((l4.length : Int) = a3 * a1 ∧ (l5.length : Int) = if a0 = 1 then a3 else a3 * a1) := by
  unfold headE at h
  by_cases c1 : a0 = 1 ∨ a0 = 2
  · rw [if_neg (not_not_intro c1)] at h
    by_cases c2 : 1 ≤ a1 ∧ a1 ≤ 64
    · rw [if_neg (not_not_intro c2)] at h
      by_cases c3 : (a0 = 1 → a2 = 2) ∧ 1 ≤ a2 ∧ a2 ≤ 64
      · rw [if_neg (not_not_intro c3)] at h
        by_cases c4 : 1 ≤ a3 ∧ a3 ≤ 1024
        · rw [if_neg (not_not_intro c4)] at h
          by_cases c5 : (l4.length : Int) = a3 * a1 ∧ (l5.length : Int) = if a0 = 1 then a3 else a3 * a1
          · exact ⟨c1, c2, c3, c4, c5⟩
          · rw [if_pos c5] at h; omega
        · rw [if_pos c4] at h; omega
      · rw [if_pos c3] at h; omega
    · rw [if_pos c2] at h; omega
  · rw [if_pos c1] at h; omega
theorem headE_of {a0 a1 a2 a3 : Int} {l4 l5 : List Int} (h : RightM a0 a1 a2 a3 l4 l5) : headE a0 a1 a2 a3 l4 l5 = 0 := by
  unfold headE
  rw [if_neg (not_not_intro h.kind), if_neg (not_not_intro ⟨h.k1, h.k64⟩), if_neg (not_not_intro ⟨h.dfa, h.o1, h.o64⟩), if_neg (not_not_intro ⟨h.n1, h.n1024⟩), if_neg (not_not_intro ⟨h.next, h.out⟩)]

theorem errM_zero {a0 a1 a2 a3 : Int} {l4 l5 : List Int} : errM a0 a1 a2 a3 l4 l5 = 0 ↔ RightM a0 a1 a2 a3 l4 l5 := by
  constructor
  · intro h
    unfold errM at h
    split at h
    · rename_i c; exact absurd h c
    · rename_i c
      have c := Classical.not_not.mp c
      obtain ⟨b1, b2, b3, b4, b5⟩ := headE_zero c
      split at h
      · omega
      · rename_i c1
        split at h
        · omega
        · rename_i c2
          exact ⟨b1, b2.1, b2.2, b3.1, b3.2.1, b3.2.2, b4.1, b4.2, b5.1, b5.2, badFrom_neg (i := 0) |>.mp (by omega), badFrom_neg (i := 0) |>.mp (by omega)⟩
  · intro h
    unfold errM
    have e1 := badFrom_neg (i := 0).mpr h.nextIn
    have e2 := badFrom_neg (i := 0).mpr h.outIn
    rw [headE_of h, if_neg (by simp), if_neg (by omega), if_neg (by omega)]

theorem mcheck_ev {a0 a1 a2 a3 : Int} {l4 l5 : List Int} (hw4 : ∀ x ∈ l4, (Lit.int .i64 x).wf = true) (hw5 : ∀ x ∈ l5, (Lit.int .i64 x).wf = true) (hl4 : l4.length ≤ maxLen) (hl5 : l5.length ≤ maxLen) :
    ∃ at_, Ev (fun k => machine_Check.f k a0 a1 a2 a3 l4 l5) (at_, errM a0 a1 a2 a3 l4 l5) := by
  have hh := head_ev a0 a1 a2 a3 l4 l5
  by_cases c : headE a0 a1 a2 a3 l4 l5 = 0
  · obtain ⟨b1, b2, b3, b4, b5⟩ := headE_zero c
    have h4 := beyond_ev (n := a3) hw4 b4.1 b4.2 hl4
    have h5 := beyond_ev (n := a2) hw5 b3.2.1 (by omega) hl5
    unfold errM
    rw [if_neg (not_not_intro c)]
    by_cases c1 : 0 ≤ badFrom a3 l4 0
    · rw [if_pos c1]
      refine ⟨badFrom a3 l4 0, ?_⟩
      refine Ev.bind hh ?_
      rw [c]
      refine Ev.pos rfl ?_
      refine Ev.bind h4 ?_
      refine Ev.pos (by omega) ?_
      exact Ev.now _
    · rw [if_neg c1]
      by_cases c2 : 0 ≤ badFrom a2 l5 0
      · rw [if_pos c2]
        refine ⟨badFrom a2 l5 0, ?_⟩
        refine Ev.bind hh ?_
        rw [c]
        refine Ev.pos rfl ?_
        refine Ev.bind h4 ?_
        refine Ev.neg (by omega) ?_
        refine Ev.bind h5 ?_
        refine Ev.pos (by omega) ?_
        exact Ev.now _
      · rw [if_neg c2]
        refine ⟨0, ?_⟩
        refine Ev.bind hh ?_
        rw [c]
        refine Ev.pos rfl ?_
        refine Ev.bind h4 ?_
        refine Ev.neg (by omega) ?_
        refine Ev.bind h5 ?_
        refine Ev.neg (by omega) ?_
        exact Ev.now _
  · unfold errM
    rw [if_pos c]
    refine ⟨0, ?_⟩
    refine Ev.bind hh ?_
    exact Ev.neg c (Ev.now _)

/-! ### a word's Check -/
theorem wl0_ev {l : List Int} {n : Int} (hl : l.length ≤ maxLen) : ∀ (r : List Int) (i : Nat), l.drop i = r → i ≤ l.length → ∃ at_, Ev (fun k => tutorref01_Check.l0 k l n (i : Int)) (at_, if 0 ≤ badFrom n r i then 10 else 0)
  | [], i, hr, hi => by
    have hi' : l.length ≤ i := by simpa using hr
    refine ⟨0, Ev.step (f := fun _ => some (0, 0)) (fun k => ?_) (Ev.now _)⟩
    simp only [tutorref01_Check.l0]
    rw [if_neg (by omega)]
  | x :: r, i, hr, hi => by
    have hi' : i < l.length := by
      rcases Nat.lt_or_ge i l.length with h | h
      · exact h
      · rw [List.drop_eq_nil_of_le h] at hr; cases hr
    rw [List.drop_eq_getElem_cons hi'] at hr
    injection hr with hx hr
    have hrd : rd l (i : Int) = x := by rw [rd_getElem hi', hx]
    have hwr : wrap64 ((i : Int) + 1) = ((i + 1 : Nat) : Int) := by unfold maxLen at hl; rw [wrap_id (by omega) (by omega)]; rfl
    obtain ⟨at_, ih⟩ := wl0_ev hl r (i + 1) hr (by omega)
    rw [badFrom_cons]
    by_cases hb : 0 ≤ x ∧ x < n
    · rw [if_pos hb]
      refine ⟨at_, Ev.step (fun k => ?_) ih⟩
      simp only [tutorref01_Check.l0]
      rw [if_pos (by omega), if_pos (by omega), hrd, if_neg (by omega), if_neg (by omega), hwr]
    · rw [if_neg hb, if_pos (by omega)]
      refine ⟨(i : Int), Ev.step (f := fun _ => some ((i : Int), 10)) (fun k => ?_) (Ev.now _)⟩
      simp only [tutorref01_Check.l0]
      rw [if_pos (by omega), if_pos (by omega), hrd]
      by_cases h0 : x < 0
      · rw [if_pos h0]
      · rw [if_neg h0, if_pos (by omega)]
/-- Of a short word over right many symbols: what Check says. -/
theorem wcheck_ev {l : List Int} {n : Int} (h0 : 1 ≤ n) (h1 : n ≤ 64) (hl : l.length ≤ 4096) : ∃ at_, Ev (fun k => tutorref01_Check.f k l n) (at_, if 0 ≤ badFrom n l 0 then 10 else 0) := by
  obtain ⟨at_, h⟩ := wl0_ev (n := n) (l := l) (by unfold maxLen; omega) l 0 (by simp) (by omega)
  refine ⟨at_, ?_⟩
  have h2 : Ev (fun k => tutorref01_Check.j0 k l n false) (at_, if 0 ≤ badFrom n l 0 then 10 else 0) := by
    refine Ev.step (fun k => ?_) h
    simp only [tutorref01_Check.j0]
    rw [if_neg (by simp), if_neg (by omega)]
    rfl
  refine Ev.congr (fun k => ?_) h2
  unfold tutorref01_Check.f
  rw [if_neg (by omega), show decide (n > 64) = false from decide_eq_false (by omega)]

end Go.Proofs.Ytllgeljacmpdjaa.PTrim
