/- Rows in a row that are told apart: no two of them lie in one block. -/
import Derived.Test.YtllgeljacmpdjaaPTrimx0
import Derived.Test.YtllgeljacmpdjaaGSeen
namespace Go.Proofs.Ytllgeljacmpdjaa.PTrim
open Go.RowKit Go.Proofs.YtllgeljacmpdjaaW.PrintWords Go.Proofs.YtllgeljacmpdjaaW.PrintLast Go.Proofs.YtllgeljacmpdjaaW.PrintMore
set_option linter.unusedVariables false
set_option linter.unusedSimpArgs false

section
variable {w w1 W : World} {base g M : Nat} {x : List Bool} {B B' : Nat → Prop} {v v1 u u1 : Value} {xss : List (List Int)}
abbrev IRow (w : World) (base : Nat) (v : Value) (xs : List Int) : Prop := Kd.R (Kd.int .i64) 3 w base (fun _ => True) v xs
theorem IRow_move {xs : List Int} (h : IRow w base v xs) (hm : ∀ k, v.ownBlock = some k → w1.heap[k]? = w.heap[k]?) : IRow w1 base v xs :=
 Kd.R_of_own (own_move (Kd.own_of_R h) hm) (fun _ _ => trivial)
def Ds (w : World) (base : Nat) (B : Nat → Prop) (v : Value) (xss : List (List Int)) : Prop :=
 ∃ vs : List Value, vs.length = xss.length ∧ (Kd.raw 1).R 22 w base (fun _ => True) v (vs.map fun s => [s]) ∧
  (∀ (j : Nat) s xs, vs[j]? = some s → xss[j]? = some xs → IRow w base s xs) ∧
  (∀ (j : Nat) s, vs[j]? = some s → ∀ k, s.ownBlock = some k → ¬ B k) ∧
  (∀ (i j : Nat) s t k, i ≠ j → vs[i]? = some s → vs[j]? = some t → s.ownBlock = some k → t.ownBlock ≠ some k)
theorem raw_move {rows : List (List Value)} (h : (Kd.raw 1).R 22 w base (fun _ => True) v rows) (hm : ∀ k, v.ownBlock = some k → w1.heap[k]? = w.heap[k]?) : (Kd.raw 1).R 22 w1 base (fun _ => True) v rows := by
 obtain ⟨h0, inner, ho, hr⟩ := h
 exact ⟨h0, inner, own_move ho hm, hr.imp_ (fun _ _ hp => hp)⟩
theorem raw_get {rows : List (List Value)} (h : (Kd.raw 1).R 22 w base B v rows) : ∃ inner, w.ownsRow base 22 1 v rows.length inner ∧ ∀ j p, rows[j]? = some p → p = (inner.drop j).take 1 := by
 obtain ⟨_, inner, ho, hr⟩ := h
 refine ⟨inner, ho, fun j p hj => ?_⟩
 have := hr.2 j p hj
 have e : (Kd.raw 1).sz = 1 := rfl
 rw [e, Nat.mul_one] at this
 exact this.1.symm
theorem raw_unique {rows rows' : List (List Value)} (h : (Kd.raw 1).R 22 w base B v rows) (h' : (Kd.raw 1).R 22 w base B' v rows') (hl : rows.length = rows'.length) : rows = rows' := by
 obtain ⟨i1, o1, e1⟩ := raw_get h
 obtain ⟨i2, o2, e2⟩ := raw_get h'
 have hi : i1 = i2 := by
  rcases o1.2 with ⟨q1, q2⟩ | ⟨g1, c1, cur1, q1, _, hh1, _, _, _, t1⟩
  · have l1 := o1.1
    have l2 := o2.1
    rw [q2] at l1
    rw [← hl, q2] at l2
    rw [List.eq_nil_of_length_eq_zero (by omega : i1.length = 0), List.eq_nil_of_length_eq_zero (by omega : i2.length = 0)]
  · rcases o2.2 with ⟨r1, _⟩ | ⟨g2, c2, cur2, r1, _, hh2, _, _, _, t2⟩
    · rw [q1] at r1
      cases r1
    · rw [q1] at r1
      injection r1 with r1
      injection r1 with r1
      injection r1 with r1
      subst r1
      rw [hh1] at hh2
      injection hh2 with hh2
      injection hh2 with hh2
      subst hh2
      rw [← t1, ← t2, hl]
 subst hi
 apply List.ext_getElem?
 intro j
 rcases Nat.lt_or_ge j rows.length with hj | hj
 · have a1 := e1 j _ (List.getElem?_eq_getElem hj)
   have a2 := e2 j _ (List.getElem?_eq_getElem (by omega : j < rows'.length))
   rw [List.getElem?_eq_getElem hj, List.getElem?_eq_getElem (by omega : j < rows'.length), a1, a2]
 · rw [List.getElem?_eq_none hj, List.getElem?_eq_none (by omega)]
theorem Ds.lt (h : Ds w base B v xss) {vs : List Value} (hv : vs.length = xss.length) (hr : ∀ (j : Nat) s xs, vs[j]? = some s → xss[j]? = some xs → IRow w base s xs) {j : Nat} {s : Value} (hs : vs[j]? = some s) {k : Nat} (hk : s.ownBlock = some k) : k < w.heap.size := by
 obtain ⟨hj, _⟩ := List.getElem?_eq_some_iff.mp hs
 exact Kd.R_lt (hr j s _ hs (List.getElem?_eq_getElem (by omega : j < xss.length))) k hk
theorem Ds.step (h : Ds w base B v xss) (h1 : ∀ k, v.ownBlock = some k → k < w.heap.size → w1.heap[k]? = w.heap[k]?) (h2 : ∀ s xs, IRow w base s xs → (∀ k, s.ownBlock = some k → ¬ B k) → IRow w1 base s xs) : Ds w1 base B v xss := by
 obtain ⟨vs, a1, a2, a3, a4, a5⟩ := h
 refine ⟨vs, a1, raw_move a2 (fun k hk => h1 k hk (Kd.R_lt a2 k hk)), fun j s xs hs hx => h2 s xs (a3 j s xs hs hx) (a4 j s hs), a4, a5⟩
theorem Ds.below (h : Ds w base B v xss) (hb : Below w.heap.size w w1) : Ds w1 base B v xss :=
 h.step (fun k _ hk => hb.block k hk) (fun s xs hs _ => Kd.R_below hs hb)
theorem DM (h : Ds w base B v xss) (hb : Below w.heap.size w w1 := by repeat (first | exact Below.refl _ _ | (with_reducible first | apply below_alloc | apply pw_below_drewN | apply below_drew))) : Ds w1 base B v xss := h.below hb
theorem Ds_at {m : Nat} (hq : w.drewN m = w1) (h : Ds w base B v xss) : Ds w1 base B v xss := by subst hq; exact DM h
theorem Ds.mono (h : Ds w base B v xss) (hB : ∀ k, B' k → B k) : Ds w base B' v xss := by
 obtain ⟨vs, a1, a2, a3, a4, a5⟩ := h
 exact ⟨vs, a1, a2, a3, fun j s hs k hk hb => a4 j s hs k hk (hB k hb), a5⟩
theorem Ds.freshen (h : Ds w base B v xss) (hB : ∀ k, B' k → B k ∨ w.heap.size ≤ k) : Ds w base B' v xss := by
 have h' := h
 obtain ⟨vs, a1, a2, a3, a4, a5⟩ := h
 refine ⟨vs, a1, a2, a3, fun j s hs k hk hb => ?_, a5⟩
 rcases hB k hb with hb | hb
 · exact a4 j s hs k hk hb
 · have := h'.lt a1 a3 hs hk
   omega
theorem Ds.grown (h : Ds w base B v xss) {row : Option Nat} (hg : w.grownBy w1 row) (hB : ∀ k, row = some k → B k) (hne : ∀ k, v.ownBlock = some k → row ≠ some k) : Ds w1 base B v xss :=
 h.step (fun k hk hlt => hg.block k hlt (fun he => hne k hk he.symm)) (fun s xs hs hb => IRow_move hs (fun k hk => hg.block k (Kd.R_lt hs k hk) (fun he => hb k hk (hB k he.symm))))
theorem Ds.seen (h : Ds w base B v xss) {b0 : Nat} (hs : Seen w b0 g M x) (hg : w.grownBy w1 (some g)) : Ds w1 base B v xss := by
 obtain ⟨vs, a1, a2, a3, a4, a5⟩ := h
 exact ⟨vs, a1, R_over_seen a2 hs hg, fun j s xs e1 e2 => R_over_seen (a3 j s xs e1 e2) hs hg, a4, a5⟩
/-- another row of whole numbers, which lies apart, is gone on with -/
theorem Ds.went {d : Kd Int} {b0 : Nat} {ok : Nat → Prop} {xs : List Int} (h : Ds W base B v xss) (hu : d.R 3 W b0 ok u xs) (hB : ∀ k, u.ownBlock = some k → B k) (hg : W.grownBy w1 u.ownBlock) (hat : u1.ownBlock = u.ownBlock ∨ ∃ b, u1.ownBlock = some b ∧ W.heap.size ≤ b) : Ds w1 base (fun k => B k ∨ some k = u1.ownBlock) v xss := by
 have h1 := h.freshen (B' := fun k => B k ∨ some k = u1.ownBlock) (fun k hk => by
  rcases hk with hk | hk
  · exact .inl hk
  · rcases hat with hat | ⟨b, hb, hle⟩
    · exact .inl (hB k (by rw [← hat, hk]))
    · rw [hb] at hk
      injection hk with hk
      exact .inr (by omega))
 refine h1.grown hg (fun k hk => .inl (hB k hk)) (fun k hk he => ?_)
 obtain ⟨vs, a1, a2, _⟩ := h
 obtain ⟨inner, ho, _⟩ := raw_get a2
 obtain ⟨c1, hc1⟩ := own_typed ho k hk
 obtain ⟨inner2, ho2⟩ := Kd.R_own hu
 obtain ⟨c2, hc2⟩ := own_typed ho2 k he
 rw [hc1] at hc2
 injection hc2 with hc2
 injection hc2 with _ hc2
 cases hc2
theorem Ds.nil (w : World) (base : Nat) (B : Nat → Prop) : Ds w base B (.slice none 0 0) [] := ⟨[], rfl, Kd.R_nil _ _ _ _ _, by simp, by simp, by simp⟩
theorem Ds.one {s : Value} {xs : List Int} {B0 : Nat → Prop} (h : (Kd.raw 1).R 22 w base B0 v [[s]]) (hs : IRow w base s xs) (hB : ∀ k, s.ownBlock = some k → ¬ B k) : Ds w base B v [xs] := by
 refine ⟨[s], rfl, Kd.R_mono h (fun _ _ => trivial), fun j t ys h1 h2 => ?_, fun j t h1 => ?_, fun i j t t' k hij h1 h2 => ?_⟩
 · rcases j with _ | j
   · simp only [List.getElem?_cons_zero, Option.some.injEq] at h1 h2
     rw [← h1, ← h2]; exact hs
   · simp at h1
 · rcases j with _ | j
   · simp only [List.getElem?_cons_zero, Option.some.injEq] at h1
     rw [← h1]; exact hB
   · simp at h1
 · rcases i with _ | i <;> rcases j with _ | j
   · exact absurd rfl hij
   · simp at h2
   · simp at h1
   · simp at h1
variable {P : Program} {ops : Array Oper} {rest : List Oper} {o : Oper} {a : Act} {Q : Exit → Act → World → Prop}
abbrev KS : Kd (List Int) := Kd.slice 3 (Kd.int .i64)
theorem N_append_ds {w0 W : World} (base : Nat) (hgd : o.guard = none) (s x : Operand) (t : TypeId) (z : Value) (bytes : Nat)
    (ho : o.op = .call { callee := .builtin .append, args := #[s, x], argTypes := #[t, t] })
    (ht : P.underlying t = some (.slice 22)) (hinfo : (P.info? 22).map (fun i => (i.zero, i.size, i.bytes)) = some (some z, 1, bytes)) (hz : z.cells.size = 1) (hb0 : 0 < bytes)
    (v : Value) (xs : List (List Int)) (p : List Int) (c : Value) (ok okp : Nat → Prop) (hs : a.eval s = v) (hx : a.eval x = .slice (some ⟨W.heap.size, 0, none⟩) 1 1) (hp : Kd.FK KS W okp p [c]) (hokp : ∀ k, okp k → ok k ∧ some k ≠ v.ownBlock) (hfresh : ∀ k, W.heap.size ≤ k → ok k)
    (HO : Kd.N KS 22 W base ok v xs) (HD : Ds W base B v xs) (HC : IRow W base c p) (hCB : ∀ k, c.ownBlock = some k → B k) (HB : Below base w0 W) (hbase : base ≤ W.heap.size) (hl : (xs.length + 1) * bytes ≤ 140737488355328)
    (h : ∀ v1 w1, Kd.N KS 22 w1 base ok v1 (xs ++ [p]) → (∀ B', (∀ k, B' k → B k ∧ some k ≠ c.ownBlock) → Ds w1 base B' v1 (xs ++ [p])) → Below base w0 w1 → W.grownBy w1 v.ownBlock → (v1.ownBlock = v.ownBlock ∨ ∃ b, v1.ownBlock = some b ∧ W.heap.size ≤ b) → wpList P ops Q rest (a.put o.dst v1) w1) :
    wpList P ops Q (o :: rest) a (W.alloc (.cells [c].toArray 22)) := by
 obtain ⟨h0, rows, hlr, hR, hf⟩ := HO
 have HD' := HD
 obtain ⟨vs, a1, a2, a3, a4, a5⟩ := HD
 have hrw : rows = vs.map fun s => [s] := raw_unique hR a2 (by rw [hlr, List.length_map, a1])
 refine Kd.R_append (Kd.raw 1) base hgd s x t 22 z bytes ho ht hinfo hz (by decide) hb0 v rows [c] [c] (fun _ => True) (fun _ => False) hs hx (Kd.FK_raw hp) (fun _ hk => hk.elim) (fun _ _ => trivial) (Kd.raw_any hR) HB hbase (by rw [hlr]; exact hl) ?_
 intro v1 w1 hr hb hg hat
 have mv : ∀ {s : Value} {ys : List Int}, IRow W base s ys → IRow w1 base s ys := by
  intro s ys hs
  refine IRow_move hs (fun k hk => hg.block k (Kd.R_lt hs k hk) (fun he => ?_))
  obtain ⟨c1, hc1⟩ := own_typed (Kd.own_of_R hs) k hk
  obtain ⟨inner, ho2, _⟩ := raw_get a2
  obtain ⟨c2, hc2⟩ := own_typed ho2 k he.symm
  rw [hc1] at hc2
  injection hc2 with hc2
  injection hc2 with _ hc2
  cases hc2
 refine h v1 w1 (Kd.N_appended h0 hlr hf (ys := [p]) (news := [[c]]) rfl (fun j y c' hy hc => by
    rcases j with _ | j
    · simp only [List.getElem?_cons_zero, Option.some.injEq] at hy hc
      rw [← hy, ← hc]; exact hp
    · simp at hy) hokp hfresh hr hg hat) (fun B' hB' => ⟨vs ++ [c], by simp [a1], by rw [hrw] at hr; simpa using hr, ?_, ?_, ?_⟩) hb hg hat
 · intro j s ys hs hy
   rcases Nat.lt_or_ge j vs.length with hj | hj
   · rw [List.getElem?_append_left hj] at hs
     rw [List.getElem?_append_left (by omega)] at hy
     exact mv (a3 j s ys hs hy)
   · rw [List.getElem?_append_right hj] at hs
     rw [List.getElem?_append_right (by omega)] at hy
     have hj0 : j - vs.length = 0 := by
      rcases Nat.eq_zero_or_pos (j - vs.length) with h | h
      · exact h
      · rw [List.getElem?_eq_none (by simp; omega)] at hs
        cases hs
     rw [hj0] at hs
     rw [← a1, hj0] at hy
     simp only [List.getElem?_cons_zero, Option.some.injEq] at hs hy
     rw [← hs, ← hy]
     exact mv HC
 · intro j s hs k hk hb'
   rcases Nat.lt_or_ge j vs.length with hj | hj
   · rw [List.getElem?_append_left hj] at hs
     exact a4 j s hs k hk (hB' k hb').1
   · rw [List.getElem?_append_right hj] at hs
     have hj0 : j - vs.length = 0 := by
      rcases Nat.eq_zero_or_pos (j - vs.length) with h | h
      · exact h
      · rw [List.getElem?_eq_none (by simp; omega)] at hs
        cases hs
     rw [hj0] at hs
     simp only [List.getElem?_cons_zero, Option.some.injEq] at hs
     rw [← hs] at hk
     exact (hB' k hb').2 hk.symm
 · intro i j s t' k hij hs ht' hk he
   have last : ∀ {j : Nat} {s : Value}, vs.length ≤ j → (vs ++ [c])[j]? = some s → j = vs.length ∧ s = c := by
    intro j s hj hs
    rw [List.getElem?_append_right hj] at hs
    rcases Nat.eq_zero_or_pos (j - vs.length) with h | h
    · rw [h] at hs
      simp only [List.getElem?_cons_zero, Option.some.injEq] at hs
      exact ⟨by omega, hs.symm⟩
    · rw [List.getElem?_eq_none (by simp; omega)] at hs
      cases hs
   rcases Nat.lt_or_ge i vs.length with hi | hi <;> rcases Nat.lt_or_ge j vs.length with hj | hj
   · rw [List.getElem?_append_left hi] at hs
     rw [List.getElem?_append_left hj] at ht'
     exact a5 i j s t' k hij hs ht' hk he
   · rw [List.getElem?_append_left hi] at hs
     obtain ⟨_, rfl⟩ := last hj ht'
     exact a4 i s hs k hk (hCB k he)
   · rw [List.getElem?_append_left hj] at ht'
     obtain ⟨_, rfl⟩ := last hi hs
     exact a4 j t' ht' k he (hCB k hk)
   · obtain ⟨e1, _⟩ := last hi hs
     obtain ⟨e2, _⟩ := last hj ht'
     omega
theorem N_lit_ds {w0 W : World} (base : Nat) (hgd : o.guard = none) {N' : Tmp} (_hd : o.dst = some N') {p : List Int} {c : Value} {ok okp : Nat → Prop}
    (hrun : (execOp a.eval o).run P W = .ok (.value (.slice (some ⟨W.heap.size, 0, none⟩) 1 1)) (W.alloc (.cells [c].toArray 22)))
    (hrep : Reps (Kd.FK KS W okp) 1 [p] [c]) (hok : ∀ k, okp k → ok k) (hfresh : ok W.heap.size) (HB : Below base w0 W) (hbase : base ≤ W.heap.size)
    (h : ∀ v1 w1, Kd.N KS 22 w1 base ok v1 [p] → (∀ b0, b0 ≤ base → (Kd.raw 1).R 22 w1 b0 (fun _ => True) v1 [[c]]) → Below base w0 w1 → W.grownBy w1 none → (∃ b, v1.ownBlock = some b ∧ W.heap.size ≤ b) → wpList P ops Q rest (a.put o.dst v1) w1) :
    wpList P ops Q (o :: rest) a W := by
 refine Kd.R_lit (Kd.raw 1) base 22 hgd _hd (xs := Kd.chunks 1 1 [c]) (inner := [c]) (ok := fun k => k = W.heap.size) (okp := fun _ => False) (by rw [Kd.chunks_length]; exact hrun) (Kd.reps_raw hrep (fun y c hk => ⟨KS.K_len (Kd.FK_now hk), KS.K_one (Kd.FK_now hk)⟩)) (fun _ hk => hk.elim) rfl HB hbase (by rw [Kd.chunks_length]; omega) ?_
 intro v1 w1 hr hb hg hat
 refine h v1 w1 (Kd.N_made hr hg hat (Kd.chunks_length _ _ _) (fun j y c' hy hc => by rw [Kd.chunks_get hc]; exact hrep.2 j y hy) hok hfresh) (fun b0 hb0 => Kd.R_mono (Kd.R_lower hr hb0) (fun _ _ => trivial)) hb hg hat
end
end Go.Proofs.Ytllgeljacmpdjaa.PTrim
