/- Rows that share no memory are told to share none: all rows are written full, gone on with, and looked at. -/
import Derived.Test.YtllgeljacmpdjaaPTrimx0
namespace Go.Proofs.Ytllgeljacmpdjaa.PTrim
open Go.RowKit Go.Proofs.YtllgeljacmpdjaaW.PrintWords Go.Proofs.YtllgeljacmpdjaaW.PrintLast Go.Proofs.YtllgeljacmpdjaaW.PrintMore
attribute [local go_sem] max2_int min2_int max_two min_two max_three min_three max_four min_four   -- for this text's walks alone
set_option linter.unusedVariables false
set_option linter.unusedSimpArgs false

section
variable {w w1 : World} {base N : Nat} {vs : Nat → Value} {ns : Nat → Nat} {D D' : Nat → Nat → Prop} {ad : Addr}
abbrev IR (w : World) (base : Nat) (v : Value) (xs : List Int) : Prop := Kd.R (Kd.int .i64) 3 w base (fun _ => True) v xs
theorem IR_move {v : Value} {xs : List Int} (h : IR w base v xs) (hm : ∀ k, v.ownBlock = some k → w1.heap[k]? = w.heap[k]?) : IR w1 base v xs :=
 Kd.R_of_own (own_move (Kd.own_of_R h) hm) (fun _ _ => trivial)
/-- what lies in the rows -/
def Rw (w : World) (base N : Nat) (vs : Nat → Value) (ns : Nat → Nat) (D : Nat → Nat → Prop) : Prop :=
 ∀ j, j < N → ∃ xs : List Int, IR w base (vs j) xs ∧ xs.length = ns j ∧ ∀ p, p < ns j → D j p → xs[p]? = some (wrap64 (-1000 - (j : Int)))
/-- the rows as they lie in the outer row -/
def Ou (w : World) (ad : Addr) (N : Nat) (vs : Nat → Value) : Prop := ∀ x : Int, 0 ≤ x → x < N → w.cell? (ad.add x.toNat) = some (vs x.toNat)
def Dist (N : Nat) (vs : Nat → Value) (b : Nat) : Prop := (∀ j, j < N → (vs j).ownBlock ≠ some b) ∧ ∀ i j, i < N → j < N → i ≠ j → ∀ g, (vs i).ownBlock = some g → (vs j).ownBlock ≠ some g

theorem Rw.mono (h : Rw w base N vs ns D) (hD : ∀ j p, D' j p → D j p) : Rw w base N vs ns D' := by
 intro j hj
 obtain ⟨xs, h1, h2, h3⟩ := h j hj
 exact ⟨xs, h1, h2, fun p hp hd => h3 p hp (hD j p hd)⟩
theorem Rw.mono' (h : Rw w base N vs ns D) (hD : ∀ j p, j < N → p < ns j → D' j p → D j p) : Rw w base N vs ns D' := by
 intro j hj
 obtain ⟨xs, h1, h2, h3⟩ := h j hj
 exact ⟨xs, h1, h2, fun p hp hd => h3 p hp (hD j p hj hp hd)⟩
theorem Rw.below (h : Rw w base N vs ns D) (hb : Below w.heap.size w w1) : Rw w1 base N vs ns D := by
 intro j hj
 obtain ⟨xs, h1, h2, h3⟩ := h j hj
 exact ⟨xs, Kd.R_below h1 hb, h2, h3⟩
theorem Ou.below (h : Ou w ad N vs) (hb : Below w.heap.size w w1) : Ou w1 ad N vs := by
 intro x h0 h1
 have := h x h0 h1
 rw [hb.cell (World.block_lt_of_cell? w _ this)]
 exact this
theorem Ou.grown (h : Ou w ad N vs) {row : Option Nat} (hg : w.grownBy w1 row) (hne : some ad.block ≠ row) : Ou w1 ad N vs := by
 intro x h0 h1
 exact hg.cell (h x h0 h1) (by unfold Addr.add; split <;> exact hne)
theorem Rw.row (h : Rw w base N vs ns D) {j : Nat} (hj : j < N) : ∃ A c xs, vs j = .slice A (ns j) c ∧ ns j ≤ c ∧ IR w base (.slice A (ns j) c) xs ∧ xs.length = ns j ∧ Kd.C (Kd.int .i64) w A (ns j) xs ∧ ∀ p, p < ns j → D j p → xs[p]? = some (wrap64 (-1000 - (j : Int))) := by
 obtain ⟨xs, h1, h2, h3⟩ := h j hj
 obtain ⟨A, c, he, hl, hc⟩ := Kd.R_reads h1
 rw [h2] at he hl hc
 refine ⟨A, c, xs, he, hl, ?_, h2, hc, h3⟩
 rw [← he]
 exact h1
/-- one cell of one row is written -/
theorem Rw.put (h : Rw w base N vs ns D) (hd : Dist N vs ad.block) {j g n c : Nat} (hj : j < N) (hv : vs j = .slice (some ⟨g, 0, none⟩) n c) (x : Int) (h0 : 0 ≤ x) (h1 : x < ns j) :
  Rw (w.setCell ⟨g, x.toNat, none⟩ (.int .i64 (wrap64 (-1000 - (j : Int))))) base N vs ns (fun i p => D i p ∨ (i = j ∧ p = x.toNat)) ∧ w.grownBy (w.setCell ⟨g, x.toNat, none⟩ (.int .i64 (wrap64 (-1000 - (j : Int))))) (some g) ∧ base ≤ g := by
 obtain ⟨xs, a1, a2, a3⟩ := h j hj
 have hn : n = xs.length := by rw [hv] at a1; exact (Kd.R_reads' a1).1
 have a1' := a1
 rw [hv] at a1'
 have hp := Kd.R_putg a1' x (wrap64 (-1000 - (j : Int)))
 have hg := hp.2
 refine ⟨?_, hg, Kd.R_base a1' g rfl⟩
 intro i hi
 by_cases hij : i = j
 · subst hij
   refine ⟨xs.set x.toNat (wrap64 (-1000 - (i : Int))), by rw [hv]; exact hp.1, by simpa using a2, fun p hp' hD => ?_⟩
   by_cases hpx : p = x.toNat
   · subst hpx
     rw [List.getElem?_set_self (by omega)]
   · rw [List.getElem?_set_ne (by omega)]
     rcases hD with hD | hD
     · exact a3 p hp' hD
     · exact absurd hD.2 hpx
 · obtain ⟨ys, b1, b2, b3⟩ := h i hi
   refine ⟨ys, IR_move b1 (fun k hk => ?_), b2, fun p hp' hD => ?_⟩
   · refine hg.block k (Kd.R_lt b1 k hk) (fun he => ?_)
     have h5 := hd.2 i j hi hj hij k hk
     rw [hv] at h5
     exact h5 (by rw [he]; rfl)
   · rcases hD with hD | hD
     · exact b3 p hp' hD
     · exact absurd hD.1 hij

/-- a row that is gone on with: its own spare room, or a new block -/
def Onw (N : Nat) (vs : Nat → Value) (n0 b j : Nat) (v : Value) : Prop := v.ownBlock = (vs j).ownBlock ∨ ∃ g, v.ownBlock = some g ∧ n0 ≤ g ∧ g ≠ b ∧ ∀ i, i < N → (vs i).ownBlock ≠ some g
/-- what stays: all below a bound, and all that lies in none of the rows -/
def Bk (w w' : World) (base N : Nat) (vs : Nat → Value) : Prop := Below base w w' ∧ ∀ k, k < w.heap.size → (∀ j, j < N → (vs j).ownBlock ≠ some k) → w'.heap[k]? = w.heap[k]?
theorem Bk.refl (w : World) (base N : Nat) (vs : Nat → Value) : Bk w w base N vs := ⟨Below.refl _ _, fun _ _ _ => rfl⟩
theorem Bk.grown {w0 : World} (h : Bk w0 w base N vs) {row : Option Nat} (hg : w.grownBy w1 row) (hB : base ≤ w.heap.size) (hr : ∀ k, row = some k → base ≤ k) (hr2 : ∀ k, row = some k → w0.heap.size ≤ k ∨ ∃ j, j < N ∧ (vs j).ownBlock = some k) : Bk w0 w1 base N vs := by
 refine ⟨h.1.grown hg hB hr, fun k hk hv => ?_⟩
 rw [hg.block k (by have := h.1.size; omega) (fun he => ?_)]
 · exact h.2 k hk hv
 · rcases hr2 k he.symm with h1 | ⟨j, h1, h2⟩
   · omega
   · exact hv j h1 h2

variable {P : Program} {ops : Array Oper} {rest : List Oper} {o : Oper} {a : Act} {Q : Exit → Act → World → Prop}
theorem append_sharp (hi : (P.info? 3).map (fun i => (i.zero, i.size, i.bytes)) = some (some (.int .i64 0), 1, 8)) (ht : P.underlying 22 = some (.slice 3)) {W : World} {v : Value} {xs : List Int} (h : IR W base v xs) (u : Int) (t3 : TypeId) (hbase : base ≤ W.heap.size) (hl : (xs.length + 1) * 8 ≤ 140737488355328) :
  ∃ v1 w1, (Builtin.append_ #[22, 22] t3 #[v, .slice (some ⟨W.heap.size, 0, none⟩) 1 1]).run P (W.alloc (.cells #[.int .i64 u] 3)) = .ok v1 w1 ∧ IR w1 base v1 (xs ++ [u]) ∧ W.grownBy w1 v.ownBlock ∧
   ((∃ g cap, v = .slice (some ⟨g, 0, none⟩) xs.length cap ∧ v1 = .slice (some ⟨g, 0, none⟩) (xs.length + 1) cap) ∨ (∃ b, v1.ownBlock = some b ∧ W.heap.size ≤ b ∧ W.grownBy w1 none)) := by
 obtain ⟨i, hi', hz, hs, hb⟩ := info_parts hi
 have hown := (Kd.own_of_R h).alloc (.cells #[.int .i64 u] 3)
 have hg0 : W.grownBy (W.alloc (.cells #[.int .i64 u] 3)) none := World.grownBy_alloc W _ _
 have hsz : (W.alloc (.cells #[.int .i64 u] 3)).heap.size = W.heap.size + 1 := by simp
 have hnews : ∀ j v, ([.int .i64 u] : List Value)[j]? = some v → (W.alloc (.cells #[.int .i64 u] 3)).cell? ((⟨W.heap.size, 0, none⟩ : Addr).add j) = some v := cell_one_new _ _ _
 have h1 : ∀ x ∈ ([.int .i64 u] : List Value), x.oneCell' = true := by simp [Value.oneCell']
 have e1 : encs (Value.int .i64) xs ++ [.int .i64 u] = encs (Value.int .i64) (xs ++ [u]) := by simp [encs]
 have hmx : xs.length + 1 ≤ maxLen := by simp only [maxLen]; omega
 have fin : ∀ {v1 : Value} {w1 : World}, w1.ownsRow base 3 1 v1 (xs.length + 1) (encs (Value.int .i64) xs ++ [.int .i64 u]) → IR w1 base v1 (xs ++ [u]) := by
  intro v1 w1 hh
  rw [e1] at hh
  exact Kd.R_of_own (by simpa using hh) (fun _ _ => trivial)
 rcases hown.2 with ⟨rfl, hn0⟩ | ⟨g, cap, cur, rfl, hbg, hg, hnc, hcm, hcs, htake⟩
 · obtain ⟨v1, w1, hr, q1, q2, q3, q4⟩ := run_append_own_at (P := P) _ base 22 t3 3 i (.int .i64 0) 1 8 ht hi' hz hs hb rfl (by omega) (.slice none 0 0) xs.length _ hown ⟨W.heap.size, 0, none⟩ 1 1 [.int .i64 u] rfl hnews h1 hmx hl (by omega)
   refine ⟨v1, w1, hr, fin q1, hg0.trans q2, .inr ?_⟩
   rcases q4 with q4 | q4
   · exfalso
     rcases q1.2 with ⟨_, q5⟩ | ⟨g', cap', cur', rfl, _⟩
     · omega
     · simp [Value.ownBlock] at q4
   · exact ⟨_, q4, by omega, hg0.trans q2⟩
 · by_cases hroom : xs.length + 1 ≤ cap
   · obtain ⟨w1, hr, q1, q2⟩ := run_append_fits (P := P) _ base 22 t3 3 i 1 ht hi' hs g xs.length cap _ hown ⟨W.heap.size, 0, none⟩ 1 1 [.int .i64 u] rfl hnews h1 hroom
     exact ⟨_, w1, hr, fin q1, World.grownBy.trans (World.grownBy_alloc W _ _) q2, .inl ⟨g, cap, rfl, rfl⟩⟩
   · obtain ⟨v1, w1, hr, q1, q2⟩ := run_append_arg_grows (P := P) _ 22 t3 3 i (.int .i64 0) 1 8 ht hi' hz hs hb rfl (by omega) ⟨g, 0, none⟩ xs.length cap (encs (Value.int .i64) xs) (by simp [encs]) (hown.cells (g := g) rfl) ⟨W.heap.size, 0, none⟩ 1 1 [.int .i64 u] rfl hnews (by omega) hmx hl
     have hk : ∀ k, W.heap.size ≤ k → True := fun _ _ => trivial
     refine ⟨v1, w1, hr, fin (own_weaken q1 (by omega)), ⟨q2.os, q2.tape, q2.output, by have := q2.size; omega, fun k hk _ => ?_⟩, .inr ?_⟩
     · exact (q2.block k (by omega) (by simp)).trans (hg0.block k hk (by simp))
     · rcases q1.2 with ⟨_, q5⟩ | ⟨g', cap', cur', rfl, hb', _⟩
       · omega
       · exact ⟨g', rfl, by omega, hg0.trans q2⟩
theorem wp_append_sharp (hgd : o.guard = none) (s x : Operand) (ho : o.op = .call { callee := .builtin .append, args := #[s, x], argTypes := #[22, 22] })
  (hi : (P.info? 3).map (fun i => (i.zero, i.size, i.bytes)) = some (some (.int .i64 0), 1, 8)) (ht : P.underlying 22 = some (.slice 3)) {W : World} {v : Value} {xs : List Int} (u : Int) (hs : a.eval s = v) (hx : a.eval x = .slice (some ⟨W.heap.size, 0, none⟩) 1 1) (h : IR W base v xs) (hbase : base ≤ W.heap.size) (hl : (xs.length + 1) * 8 ≤ 140737488355328)
  (hk : ∀ v1 w1, IR w1 base v1 (xs ++ [u]) → W.grownBy w1 v.ownBlock → ((∃ g cap, v = .slice (some ⟨g, 0, none⟩) xs.length cap ∧ v1 = .slice (some ⟨g, 0, none⟩) (xs.length + 1) cap) ∨ (∃ b, v1.ownBlock = some b ∧ W.heap.size ≤ b ∧ W.grownBy w1 none)) → wpList P ops Q rest (a.put o.dst v1) w1) :
  wpList P ops Q (o :: rest) a (W.alloc (.cells #[.int .i64 u] 3)) := by
 refine wpList_plain hgd fun K hK => ?_
 obtain ⟨v1, w1, hr, h2, h3, h4⟩ := append_sharp (P := P) hi ht h u o.type hbase hl
 unfold Oper.wp execOp
 simp only [ho, resolve, invoke, builtin, Sem.run_bind, Sem.run_pure, Result.andThen_ok, List.map_toArray, List.map_cons, List.map_nil, hs, hx, hr]
 exact hK _ _ (hk v1 w1 h2 h3 h4)

/-- gone on with: the rows are as they were -/
theorem Rw.went (h : Rw w base N vs ns D) (ho : Ou w ad N vs) (hd : Dist N vs ad.block) (hab : ad.block < w.heap.size) {j : Nat} (hj : j < N) {v v1 : Value} {xs : List Int} {u : Int} (hv : IR w base v xs) (hx : ns j ≤ xs.length) {n0 : Nat} (hn0 : n0 ≤ w.heap.size) (hon : Onw N vs n0 ad.block j v)
  (h1 : IR w1 base v1 (xs ++ [u])) (h2 : w.grownBy w1 v.ownBlock) (h3 : (∃ g cap, v = .slice (some ⟨g, 0, none⟩) xs.length cap ∧ v1 = .slice (some ⟨g, 0, none⟩) (xs.length + 1) cap) ∨ (∃ b, v1.ownBlock = some b ∧ w.heap.size ≤ b ∧ w.grownBy w1 none)) :
  Rw w1 base N vs ns D ∧ Ou w1 ad N vs ∧ Onw N vs n0 ad.block j v1 := by
 have hlt : ∀ i, i < N → ∀ k, (vs i).ownBlock = some k → k < w.heap.size := by
  intro i hi k hk
  obtain ⟨ys, b1, _⟩ := h i hi
  exact Kd.R_lt b1 k hk
 rcases h3 with ⟨g, cap, rfl, rfl⟩ | ⟨b, hb, hbs, hgn⟩
 · have hgb : g ≠ ad.block := by
    rcases hon with hon | ⟨g', e1, e0, e2, e3⟩
    · have := hd.1 j hj
      rw [← hon] at this
      intro he
      exact this (by rw [← he]; rfl)
    · have : g = g' := by simpa [Value.ownBlock] using e1
      rw [this]
      exact e2
   refine ⟨?_, ho.grown h2 (by intro he; exact hgb (by simpa [Value.ownBlock] using he.symm)), ?_⟩
   · intro i hi
     obtain ⟨ys, b1, b2, b3⟩ := h i hi
     by_cases hig : (vs i).ownBlock = some g
     · have hij : i = j := by
        rcases hon with hon | ⟨g', e1, e0, e2, e3⟩
        · have hj' : (vs j).ownBlock = some g := by rw [← hon]; rfl
          by_cases hij : i = j
          · exact hij
          · exact absurd hj' (hd.2 i j hi hj hij g hig)
        · have : g = g' := by simpa [Value.ownBlock] using e1
          rw [this] at hig
          exact absurd hig (e3 i hi)
       subst hij
       refine ⟨ys, ?_, b2, b3⟩
       have o1 := Kd.own_of_R b1
       have o2 := Kd.own_of_R hv
       have o3 := Kd.own_of_R h1
       rcases o1.2 with ⟨q1, _⟩ | ⟨g1, cap1, cur1, q1, qb, qh, qn, qm, qs, qt⟩
       · rw [q1] at hig
         simp [Value.ownBlock] at hig
       · have : g1 = g := by rw [q1] at hig; simpa [Value.ownBlock] using hig
         subst this
         rcases o2.2 with ⟨r1, _⟩ | ⟨g2, cap2, cur2, r1, rb, rh, rn, rm, rs, rt⟩
         · cases r1
         · injection r1 with r1 r1' r1''
           injection r1 with r1
           injection r1 with r1
           subst r1
           rw [qh] at rh
           injection rh with rh
           injection rh with rh
           subst rh
           rcases o3.2 with ⟨s1, _⟩ | ⟨g3, cap3, cur3, s1, sb, sh, sn, sm, ss, st⟩
           · cases s1
           · injection s1 with s1 s1' s1''
             injection s1 with s1
             injection s1 with s1
             subst s1
             have hcap : cap3 = cap1 := by omega
             refine Kd.R_of_own ⟨o1.1, .inr ⟨g1, cap1, cur3, q1, qb, sh, qn, qm, by omega, ?_⟩⟩ (fun _ _ => trivial)
             have t1 : cur3.toList.take (ys.length * 1) = (cur3.toList.take ((xs ++ [u]).length * 1)).take (ys.length * 1) := by
              rw [List.take_take, Nat.min_eq_left (by simp; omega)]
             have t2 : cur1.toList.take (ys.length * 1) = (cur1.toList.take (xs.length * 1)).take (ys.length * 1) := by
              rw [List.take_take, Nat.min_eq_left (by simp; omega)]
             rw [t1, st, ← qt, t2, rt]
             simp only [encs, List.map_append]
             rw [List.take_append_of_le_length (by simp; omega)]
     · exact ⟨ys, IR_move b1 (fun k hk => h2.block k (Kd.R_lt b1 k hk) (fun he => hig (by rw [hk, he]; rfl))), b2, b3⟩
   · rcases hon with hon | hon
     · exact .inl (by rw [← hon]; rfl)
     · exact .inr hon
 · refine ⟨?_, ho.grown hgn (by simp), .inr ⟨b, hb, by omega, by omega, fun i hi he => ?_⟩⟩
   · intro i hi
     obtain ⟨ys, b1, b2, b3⟩ := h i hi
     exact ⟨ys, IR_move b1 (fun k hk => hgn.block k (Kd.R_lt b1 k hk) (by simp)), b2, b3⟩
   · have := hlt i hi b he
     omega
end
end Go.Proofs.Ytllgeljacmpdjaa.PTrim
