/- Short words for what the printed walks say again and again. -/
import Derived.Test.YtllgeljacmpdjaaProg
import Derived.Test.YtllgeljacmpdjaaWordsMore
namespace Go.Proofs.Ytllgeljacmpdjaa.PTrim
open Go.RowKit Go.Proofs.YtllgeljacmpdjaaW.PrintWords Go.Proofs.YtllgeljacmpdjaaW.PrintLast Go.Proofs.YtllgeljacmpdjaaW.PrintMore
set_option linter.unusedVariables false

section
variable {α : Type} {d : Kd α} {e base : Nat} {ok : Nat → Prop} {w W : World} {v : Value} {xs : List α}
theorem RM (h : d.R e w base ok v xs) (hb : Below w.heap.size w W := by repeat (first | exact Below.refl _ _ | (with_reducible first | apply below_alloc | apply pw_below_drewN | apply below_drew))) : d.R e W base ok v xs := Kd.R_below h hb
theorem NM (h : Kd.N d e w base ok v xs) (hb : Below w.heap.size w W := by repeat (first | exact Below.refl _ _ | (with_reducible first | apply below_alloc | apply pw_below_drewN | apply below_drew))) : Kd.N d e W base ok v xs := Kd.N_below h hb
theorem KM {g : Nat} {o : Obj} (h : w.heap[g]? = some o) (hb : Below w.heap.size w W := by repeat (first | exact Below.refl _ _ | (with_reducible first | apply below_alloc | apply pw_below_drewN | apply below_drew))) : W.heap[g]? = some o := blk_below h hb
theorem SB {w0 : World} (h : Below w0.heap.size w0 w) (k : Below w0.heap.size w0 w → Below w0.heap.size w0 W := by intro h_; repeat (first | exact h_ | (with_reducible first | apply below_alloc | apply pw_below_drewN | apply below_drew1 | refine below_set ?_ (Aside0.out (by assumption))))) : Below w0.heap.size w0 W := k h
theorem mach_cells {g : Nat} {v0 v1 v2 v3 v4 v5 : Value} (h : w.heap[g]? = some (.cells #[v0, v1, v2, v3, v4, v5] 24 (0, 0))) :
    w.cell? ⟨g, 0, none⟩ = some v0 ∧ w.cell? ⟨g, 1, none⟩ = some v1 ∧ w.cell? ⟨g, 2, none⟩ = some v2 ∧ w.cell? ⟨g, 3, none⟩ = some v3 ∧ w.cell? ⟨g, 4, none⟩ = some v4 ∧ w.cell? ⟨g, 5, none⟩ = some v5 ∧
    w.frozen? ⟨g, 0, none⟩ = false ∧ w.frozen? ⟨g, 1, none⟩ = false ∧ w.frozen? ⟨g, 2, none⟩ = false ∧ w.frozen? ⟨g, 3, none⟩ = false ∧ w.frozen? ⟨g, 4, none⟩ = false ∧ w.frozen? ⟨g, 5, none⟩ = false :=
  ⟨(blk_cell h 0).trans rfl, (blk_cell h 1).trans rfl, (blk_cell h 2).trans rfl, (blk_cell h 3).trans rfl, (blk_cell h 4).trans rfl, (blk_cell h 5).trans rfl, blk_frozen h 0, blk_frozen h 1, blk_frozen h 2, blk_frozen h 3, blk_frozen h 4, blk_frozen h 5⟩
end
/-- what has come up, as a number -/
def ob (n m : Nat) : Array Bool := ((List.range n).map fun i => m.testBit i).toArray
section
variable {P : Program} {md : Region.Mode} {ops : Array Oper} {Q : Exit → Act → World → Prop} {S : World → Prop} {ds : List Nat} {oi : Oper} {fuel : Nat} {l : Array Bool} {a : Act} {w : World}
theorem pu_ (i N n m : Nat) (hc : anyB md ops l (ob n m) i = true) (hi : ops[i]? = some oi) (hN : oi.dst = some N) (hQ : ∀ c a v w, Q (.panic c) (a.put oi.dst v) w → Q (.panic c) a w) (hw : Region.wanted oi (yielded ops a.tmps) = true) (v : Value) (hy : ∀ w, (execOp a.eval oi).run P w = .ok (.value v) w) (a' : Act) (ha : a.put (some N) v = a')
    (h : wpAnyLast P md ops Q S ds fuel (ob n m) a' w) : wpAnyLast P md ops Q S ds (fuel + 1) l a w := pure_ (ob n m) hi hN hc (fun c a w => hQ c a v w) (Or.inl ⟨hw, hy⟩) ha h
theorem pn_ (i N n m : Nat) (hc : anyB md ops l (ob n m) i = true) (hi : ops[i]? = some oi) (hN : oi.dst = some N) (hQ : ∀ c a w, Q (.panic c) (a.put oi.dst undef) w → Q (.panic c) a w) (hw : Region.wanted oi (yielded ops a.tmps) = false) (a' : Act) (ha : a.put (some N) undef = a')
    (h : wpAnyLast P md ops Q S ds fuel (ob n m) a' w) : wpAnyLast P md ops Q S ds (fuel + 1) l a w := pure_ (ob n m) hi hN hc hQ (Or.inr ⟨hw, rfl⟩) ha h
theorem tk_ (i N n m : Nat) (hc : takeB md ops ds l (ob n m) i = true) (hi : ops[i]? = some oi) (hN : oi.dst = some N) (hQ : ∀ c a v w, Q (.panic c) (a.put oi.dst v) w → Q (.panic c) a w) (hS : S w) (hw : Region.wanted oi (yielded ops a.tmps) = true) (v : Value) (hy : ∀ w, S w → (execOp a.eval oi).run P w = .ok (.value v) w) (a' : Act) (ha : a.put (some N) v = a')
    (h : wpAnyLast P md ops Q S ds fuel (ob n m) a' w) : wpAnyLast P md ops Q S ds (fuel + 1) l a w := take_ (ob n m) hi hN hc (fun c a w => hQ c a v w) (Or.inl ⟨hw, hy⟩) hS ha h
end
end Go.Proofs.Ytllgeljacmpdjaa.PTrim
