/- Short words for what the printed walks say again and again. -/
import Derived.Test.YtllgeljacmpdjaaProg
import Derived.Test.YtllgeljacmpdjaaWordsMore
namespace Go.Proofs.Ytllgeljacmpdjaa.PTrim
open Go.RowKit Go.Proofs.YtllgeljacmpdjaaW.PrintWords Go.Proofs.YtllgeljacmpdjaaW.PrintLast Go.Proofs.YtllgeljacmpdjaaW.PrintMore
set_option linter.unusedVariables false

section
variable {α : Type} {d : Kd α} {e base : Nat} {ok : Nat → Prop} {w W : World} {v : Value} {xs : List α}
theorem RM (h : d.R e w base ok v xs) (hb : Below w.heap.size w W := by repeat (first | exact Below.refl _ _ | (with_reducible first | apply below_alloc | apply pw_below_drewN | apply below_drew))) : d.R e W base ok v xs := Kd.R_below h hb
theorem NM (h : Kd.N d e w base ok v xs) (hb : Below w.heap.size w W := by repeat (first | exact Below.refl _ _ | (with_reducible first | apply below_alloc | apply pw_below_drewN | apply below_drew))) : Kd.N d e W base ok v xs := Kd.N_below h hb
theorem KM {g : Nat} {o : Obj} (h : w.heap[g]? = some o) (hb : Below w.heap.size w W := by repeat (first | exact Below.refl _ _ | (with_reducible first | apply below_alloc | apply pw_below_drewN | apply below_drew))) : W.heap[g]? = some o := blk_below h hb
theorem SB {w0 : World} (h : Below w0.heap.size w0 w) (k : Below w0.heap.size w0 w → Below w0.heap.size w0 W := by intro h_; repeat (first | exact h_ | (with_reducible first | apply below_alloc | apply pw_below_drewN | apply below_drew1 | refine below_set ?_ (Aside0.out (by assumption))))) : Below w0.heap.size w0 W := k h
theorem mach_cells {g : Nat} {v0 v1 v2 v3 v4 v5 : Value} (h : w.heap[g]? = some (.cells #[v0, v1, v2, v3, v4, v5] 24 (0, 0))) :
    w.cell? ⟨g, 0, none⟩ = some v0 ∧ w.cell? ⟨g, 1, none⟩ = some v1 ∧ w.cell? ⟨g, 2, none⟩ = some v2 ∧ w.cell? ⟨g, 3, none⟩ = some v3 ∧ w.cell? ⟨g, 4, none⟩ = some v4 ∧ w.cell? ⟨g, 5, none⟩ = some v5 ∧
    w.frozen? ⟨g, 0, none⟩ = false ∧ w.frozen? ⟨g, 1, none⟩ = false ∧ w.frozen? ⟨g, 2, none⟩ = false ∧ w.frozen? ⟨g, 3, none⟩ = false ∧ w.frozen? ⟨g, 4, none⟩ = false ∧ w.frozen? ⟨g, 5, none⟩ = false :=
  ⟨(blk_cell h 0).trans rfl, (blk_cell h 1).trans rfl, (blk_cell h 2).trans rfl, (blk_cell h 3).trans rfl, (blk_cell h 4).trans rfl, (blk_cell h 5).trans rfl, blk_frozen h 0, blk_frozen h 1, blk_frozen h 2, blk_frozen h 3, blk_frozen h 4, blk_frozen h 5⟩
end
/-- what has come up, as a number -/
def ob (n m : Nat) : Array Bool := ((List.range n).map fun i => m.testBit i).toArray
section
variable {P : Program} {md : Region.Mode} {ops : Array Oper} {Q : Exit → Act → World → Prop} {S : World → Prop} {ds : List Nat} {oi : Oper} {fuel : Nat} {l : Array Bool} {a : Act} {w : World}
theorem pu_ (i N n m : Nat) (hc : anyB md ops l (ob n m) i = true) (hi : ops[i]? = some oi) (hN : oi.dst = some N) (hQ : ∀ c a v w, Q (.panic c) (a.put oi.dst v) w → Q (.panic c) a w) (hw : Region.wanted oi (yielded ops a.tmps) = true) (v : Value) (hy : ∀ w, (execOp a.eval oi).run P w = .ok (.value v) w) (a' : Act) (ha : a.put (some N) v = a')
    (h : wpAnyLast P md ops Q S ds fuel (ob n m) a' w) : wpAnyLast P md ops Q S ds (fuel + 1) l a w := pure_ (ob n m) hi hN hc (fun c a w => hQ c a v w) (Or.inl ⟨hw, hy⟩) ha h
theorem pn_ (i N n m : Nat) (hc : anyB md ops l (ob n m) i = true) (hi : ops[i]? = some oi) (hN : oi.dst = some N) (hQ : ∀ c a w, Q (.panic c) (a.put oi.dst undef) w → Q (.panic c) a w) (hw : Region.wanted oi (yielded ops a.tmps) = false) (a' : Act) (ha : a.put (some N) undef = a')
    (h : wpAnyLast P md ops Q S ds fuel (ob n m) a' w) : wpAnyLast P md ops Q S ds (fuel + 1) l a w := pure_ (ob n m) hi hN hc hQ (Or.inr ⟨hw, rfl⟩) ha h
theorem tk_ (i N n m : Nat) (hc : takeB md ops ds l (ob n m) i = true) (hi : ops[i]? = some oi) (hN : oi.dst = some N) (hQ : ∀ c a v w, Q (.panic c) (a.put oi.dst v) w → Q (.panic c) a w) (hS : S w) (hw : Region.wanted oi (yielded ops a.tmps) = true) (v : Value) (hy : ∀ w, S w → (execOp a.eval oi).run P w = .ok (.value v) w) (a' : Act) (ha : a.put (some N) v = a')
    (h : wpAnyLast P md ops Q S ds fuel (ob n m) a' w) : wpAnyLast P md ops Q S ds (fuel + 1) l a w := take_ (ob n m) hi hN hc (fun c a w => hQ c a v w) (Or.inl ⟨hw, hy⟩) hS ha h
end
/-- a machine's six cells -/
abbrev MC (w : World) (g : Nat) (v0 v1 v2 v3 v4 v5 : Value) : Prop := w.cell? ⟨g, 0, none⟩ = some v0 ∧ w.cell? ⟨g, 1, none⟩ = some v1 ∧ w.cell? ⟨g, 2, none⟩ = some v2 ∧ w.cell? ⟨g, 3, none⟩ = some v3 ∧ w.cell? ⟨g, 4, none⟩ = some v4 ∧ w.cell? ⟨g, 5, none⟩ = some v5
/-! ### shorter still (for shorten3.py) -/
theorem A_ {p : Prop} (h : p) : Aside0 p := ⟨h⟩
theorem dc_ {p : Prop} [Decidable p] (h : decide p = true := by first | (with_reducible assumption) | assumption) : p := of_decide_eq_true h
section
variable {α : Type} {d : Kd α} {e base : Nat} {ok : Nat → Prop} {w W w0 w1 : World} {v : Value} {xs : List α}
theorem SC (h : Below w0.heap.size w0 w) (k : Below w0.heap.size w0 w → Below w0.heap.size w0 W := by intro h_; repeat (first | (with_reducible first | exact h_ | apply below_alloc | apply pw_below_drewN | apply below_drew1 | refine below_set ?_ (Aside0.out (by with_reducible assumption))) | exact h_)) : Below w0.heap.size w0 W := k h
theorem kf_ {g b i : Nat} {t : TypeId} {cs : Array Value} {u : Value} (hp : Aside0 (g ≠ b)) (h : w.heap[g]? = some (.cells cs t (0, 0))) : (w.setCell ⟨b, i, none⟩ u).heap[g]? = some (.cells cs t (0, 0)) := blk_far h hp.out u
theorem KP {g : Nat} {o o' : Obj} (h : w.heap[g]? = some o) (k : w.heap[g]? = some o → W.heap[g]? = some o' := by intro h_; (repeat (first | (with_reducible first | exact h_ | refine blk_drewN ?_ _ | refine blk_drew ?_ | refine blk_alloc ?_ _) | (apply kf_; with_reducible assumption) | apply blk_put | exact h_)); all_goals rfl) : W.heap[g]? = some o' := k h
theorem KQ {g : Nat} {o : Obj} (h : w.heap[g]? = some o) (k : w.heap[g]? = some o → W.heap[g]? = some o := by intro h_; repeat (first | (with_reducible first | exact h_ | refine blk_drewN ?_ _ | refine blk_drew ?_ | refine blk_alloc ?_ _) | refine blk_far ?_ (Aside0.out (by with_reducible assumption)) _ | exact h_)) : W.heap[g]? = some o := k h
theorem RF {g t : Nat} {cells : Array Value} (h : Aside0 (d.R e w base ok v xs)) (hb : Aside0 (w.heap[g]? = some (.cells cells t (0, 0)))) (ht : ∀ q, q ∈ e :: d.E → q ≠ t := by decide)
    (k : d.R e w base (fun k => ok k ∧ k ≠ g) v xs → d.R e W base (fun k => ok k ∧ k ≠ g) v xs := by intro h_; repeat (first | (with_reducible first | exact h_ | apply Kd.R_alloc | apply Kd.R_drewN | apply Kd.R_drew | refine Kd.R_far ?_ (fun _ hk => hk.2) _) | exact h_)) : d.R e W base ok v xs :=
  Kd.R_mono (k (Kd.R_types h.out hb.out ht)) (fun _ h => h.1)
theorem CM {A : Option Addr} {n : Nat} (h : Aside0 (d.C w0 A n xs)) (hb : Aside0 (Below w0.heap.size w0 w)) (k : Below w0.heap.size w0 w → Below w0.heap.size w0 W := by intro h_; repeat (first | (with_reducible first | exact h_ | apply below_alloc | apply pw_below_drewN | apply below_drew1 | refine below_set ?_ (Aside0.out (by with_reducible assumption))) | exact h_)) : d.C W A n xs := Kd.C_below h.out (k hb.out)
theorem GEm {gb : Nat} (hg : gb = W.heap.size) (h : Aside0 (Below w0.heap.size w0 w)) (k : Below w0.heap.size w0 w → Below w0.heap.size w0 W := by intro h_; repeat (first | (with_reducible first | exact h_ | apply below_alloc | apply pw_below_drewN | apply below_drew1 | refine below_set ?_ (Aside0.out (by with_reducible assumption))) | exact h_)) : Aside0 (w0.heap.size ≤ gb) := ⟨by rw [hg]; exact below_size (k h.out)⟩
theorem NBl {g gb : Nat} {o : Obj} (hg : gb = W.heap.size) (h : Aside0 (w.heap[g]? = some o)) (k : w.heap[g]? = some o → W.heap[g]? = some o := by intro h_; repeat (first | (with_reducible first | exact h_ | refine blk_drewN ?_ _ | refine blk_drew ?_ | refine blk_alloc ?_ _) | refine blk_far ?_ (Aside0.out (by with_reducible assumption)) _ | exact h_)) : Aside0 (g ≠ gb) := ⟨by rw [hg]; exact Nat.ne_of_lt (blk_lt (k h.out))⟩
theorem NBr {g gb : Nat} {o : Obj} (hg : gb = W.heap.size) (h : Aside0 (w.heap[g]? = some o)) (k : w.heap[g]? = some o → W.heap[g]? = some o := by intro h_; repeat (first | (with_reducible first | exact h_ | refine blk_drewN ?_ _ | refine blk_drew ?_ | refine blk_alloc ?_ _) | refine blk_far ?_ (Aside0.out (by with_reducible assumption)) _ | exact h_)) : Aside0 (gb ≠ g) := ⟨by rw [hg]; exact Nat.ne_of_gt (blk_lt (k h.out))⟩
theorem aRb (h : Aside0 (d.R e w base ok v xs)) (hb : Below W.heap.size W w1) (k : Below w.heap.size w W := by repeat (first | exact Below.refl _ _ | (with_reducible first | apply below_alloc | apply pw_below_drewN | apply below_drew))) : Aside0 (d.R e w1 base ok v xs) := ⟨Kd.R_below (Kd.R_below h.out k) hb⟩
theorem aNb (h : Aside0 (Kd.N d e w base ok v xs)) (hb : Below W.heap.size W w1) (k : Below w.heap.size w W := by repeat (first | exact Below.refl _ _ | (with_reducible first | apply below_alloc | apply pw_below_drewN | apply below_drew))) : Aside0 (Kd.N d e w1 base ok v xs) := ⟨Kd.N_below (Kd.N_below h.out k) hb⟩
theorem aKb {g : Nat} {o : Obj} (h : Aside0 (w.heap[g]? = some o)) (hb : Below W.heap.size W w1) (k : w.heap[g]? = some o → W.heap[g]? = some o := by intro h_; repeat (first | (with_reducible first | exact h_ | refine blk_drewN ?_ _ | refine blk_drew ?_ | refine blk_alloc ?_ _) | refine blk_far ?_ (Aside0.out (by with_reducible assumption)) _ | exact h_)) : Aside0 (w1.heap[g]? = some o) := ⟨blk_below (k h.out) hb⟩
theorem aBs (h : Aside0 (Below w0.heap.size w0 w)) (hb : Below W.heap.size W w1) (k : Below w0.heap.size w0 w → Below w0.heap.size w0 W := by intro h_; repeat (first | (with_reducible first | exact h_ | apply below_alloc | apply pw_below_drewN | apply below_drew1 | refine below_set ?_ (Aside0.out (by with_reducible assumption))) | exact h_)) : Aside0 (Below w0.heap.size w0 w1) := ⟨below_step (k h.out) hb⟩
theorem aRd (h : Aside0 (d.R e w base ok v xs)) : Aside0 (d.R e w.drew base ok v xs) := ⟨Kd.R_drew h.out⟩
theorem aNd (h : Aside0 (Kd.N d e w base ok v xs)) : Aside0 (Kd.N d e w.drew base ok v xs) := ⟨Kd.N_drew h.out⟩
theorem aKd {g : Nat} {t : TypeId} {cs : Array Value} (h : Aside0 (w.heap[g]? = some (.cells cs t (0, 0)))) : Aside0 (w.drew.heap[g]? = some (.cells cs t (0, 0))) := ⟨blk_drew h.out⟩
theorem aBd (h : Aside0 (Below w0.heap.size w0 w)) : Aside0 (Below w0.heap.size w0 w.drew) := ⟨below_drew1 h.out⟩
end
section
variable {P : Program} {md : Region.Mode} {ops : Array Oper} {Q : Exit → Act → World → Prop} {S : World → Prop} {ds : List Nat} {oi : Oper} {fuel : Nat} {l : Array Bool} {a : Act} {w : World}
theorem pw_ (i N n m : Nat) (hc : anyB md ops l (ob n m) i = true) {v : Value} {a' : Act} (h : wpAnyLast P md ops Q S ds fuel (ob n m) a' w) (hi : ops[i]? = some oi := by rfl) (hN : oi.dst = some N := by rfl) (hQ : ∀ c a v w, Q (.panic c) (a.put oi.dst v) w → Q (.panic c) a w := by exact fun _ _ _ _ h => h) (hw : Region.wanted oi (yielded ops a.tmps) = true := by rfl) (hy : ∀ w, (execOp a.eval oi).run P w = .ok (.value v) w := by intro w'; go_simp; with_reducible rfl) (ha : a.put (some N) v = a' := by simp only [Act.put, List.setIfInBounds_toArray, List.set_cons_zero, List.set_cons_succ, i64_w, i32_w]; rfl) :
    wpAnyLast P md ops Q S ds (fuel + 1) l a w := pure_ (ob n m) hi hN hc (fun c a w => hQ c a v w) (Or.inl ⟨hw, hy⟩) ha h
theorem px_ (i N n m : Nat) (hc : anyB md ops l (ob n m) i = true) {a' : Act} (h : wpAnyLast P md ops Q S ds fuel (ob n m) a' w) (hi : ops[i]? = some oi := by rfl) (hN : oi.dst = some N := by rfl) (hQ : ∀ c a w, Q (.panic c) (a.put oi.dst undef) w → Q (.panic c) a w := by exact fun _ _ _ h => h) (hw : Region.wanted oi (yielded ops a.tmps) = false := by rfl) (ha : a.put (some N) undef = a' := by simp only [Act.put, List.setIfInBounds_toArray, List.set_cons_zero, List.set_cons_succ, i64_w, i32_w]; rfl) :
    wpAnyLast P md ops Q S ds (fuel + 1) l a w := pure_ (ob n m) hi hN hc hQ (Or.inr ⟨hw, rfl⟩) ha h
theorem tw_ (i N n m : Nat) (hc : takeB md ops ds l (ob n m) i = true) (hS : S w) {v : Value} {a' : Act} (h : wpAnyLast P md ops Q S ds fuel (ob n m) a' w) (hi : ops[i]? = some oi := by rfl) (hN : oi.dst = some N := by rfl) (hQ : ∀ c a v w, Q (.panic c) (a.put oi.dst v) w → Q (.panic c) a w := by exact fun _ _ _ _ h => h) (hw : Region.wanted oi (yielded ops a.tmps) = true := by rfl) (hy : ∀ w, S w → (execOp a.eval oi).run P w = .ok (.value v) w := by intro w' s; (try simp only [MC, and_assoc] at s); repeat (rcases s with ⟨_, s⟩); go_simp; with_reducible rfl) (ha : a.put (some N) v = a' := by simp only [Act.put, List.setIfInBounds_toArray, List.set_cons_zero, List.set_cons_succ, i64_w, i32_w]; rfl) :
    wpAnyLast P md ops Q S ds (fuel + 1) l a w := take_ (ob n m) hi hN hc (fun c a w => hQ c a v w) (Or.inl ⟨hw, hy⟩) hS ha h
end
section
variable {P : Program} {ops : Array Oper} {rest : List Oper} {o : Oper} {a : Act} {Q : Exit → Act → World → Prop} {W w : World}
theorem bx_ (N : Tmp) (t : TypeId) (cs : Array Value) (h : ∀ g, g = W.heap.size → ∀ w1, w1.heap[g]? = some (.cells cs t (0, 0)) → Below W.heap.size W w1 → wpList P ops Q rest (a.put o.dst (.pointer (some ⟨g, 0, none⟩))) w1) (hd : o.dst = some N := by with_reducible rfl) (hgd : o.guard = none := by rfl) (hrun : (execOp a.eval o).run P W = .ok (.value (.pointer (some ⟨W.heap.size, 0, none⟩))) (W.alloc (.cells cs t (0, 0))) := by first | (go_simp; done) | (go_simp; rfl)) :
    wpList P ops Q (o :: rest) a W := box_event hgd hd hrun h
theorem ge_ {f : FuncId} {os : Array Operand} {ts : Array TypeId} (N : Option Tmp) {fn : Func} (hf : P.funcs[f]? = some fn) (args : Array Value) (h : Calls P f args w fun e w' => ∃ v, e = .returned v ∧ wpList P ops Q rest (a.put N v) w') (hop : o.op = .call { callee := .value (.func f), args := os, argTypes := ts } := by with_reducible rfl) (hd : o.dst = N := by rfl) (hg : o.guard = none := by rfl) (hname : (fn.name == "runtime.NumGoroutine") = false := by kernel_rfl) (hb : fn.body.isSome = true := by rfl)
    (hargs : os.map a.eval = args := by (try simp only [List.map_toArray, List.map_cons, List.map_nil]); first | done | rfl | (simp only [List.length_drop, List.length_take]; rfl)) : wpList P ops Q (o :: rest) a w := goesL_ N hd hg hf hname hb args hop hargs h
end
theorem mc {w : World} {g : Nat} {t : TypeId} {v0 v1 v2 v3 v4 v5 : Value} (h : w.heap[g]? = some (.cells #[v0, v1, v2, v3, v4, v5] t (0, 0))) : MC w g v0 v1 v2 v3 v4 v5 := ⟨(blk_cell h 0).trans rfl, (blk_cell h 1).trans rfl, (blk_cell h 2).trans rfl, (blk_cell h 3).trans rfl, (blk_cell h 4).trans rfl, (blk_cell h 5).trans rfl⟩
theorem ca {w : World} {p : Addr} {v : Value} {o : Obj} (h : w.cell? p = some v) : (w.alloc o).cell? p = some v := (World.cell?_alloc_lt _ _ _ (World.block_lt_of_cell? _ _ h)).trans h
theorem cb {w W : World} {p : Addr} {v : Value} (hb : Aside0 (Below w.heap.size w W)) (h : w.cell? p = some v) : W.cell? p = some v := (hb.out.cell (World.block_lt_of_cell? w _ h)).trans h
theorem st_ {P : Program} {ops : Array Oper} {rest : List Oper} {o : Oper} {a : Act} {Q : Exit → Act → World → Prop} {W : World} (t : TypeId) (p : Tmp) (w1 : World) {v : Operand} (h : ∀ w', w' = w1 → wpList P ops Q rest a w') (ho : o.op = .store t (.tmp p) v := by with_reducible rfl) (hgd : o.guard = none := by rfl) (hN : o.dst = none := by rfl) (hrun : (execOp a.eval o).run P W = .ok .skip w1 := by first | (go_simp; done) | (go_simp; rfl)) : wpList P ops Q (o :: rest) a W := store_event hgd ho hN hrun h
end Go.Proofs.Ytllgeljacmpdjaa.PTrim
