/-
  A verified abstract interpreter, part U: a function that is handed nothing, or nothing that it looks at, and returns a value without an address.
-/
import Derived.Test.YtacndjnjikdcoaaGreatVaiS
namespace Go.Proofs.YtacndjnjikdcoaaGreat.Vai
open Go Go.RowKit

/-- The run of the abstract interpreter is the walk: whatever its arguments are. -/
theorem calls_true {P : Program} (hm : P.follows .mixedOrders = true) {kp : Nat → List Nat} {L d f : Nat} {args : List AV} {cargs : List Value} (w : World)
    (hr : ∀ ρ, RelL ρ args cargs) {S' : AS} (h : callN (ctxOf P kp) L d f args ⟨.nil, 0, 0⟩ = .one (.bool true, S')) :
    Calls P f cargs.toArray w fun e w' => e = .returned (.bool true) ∧ Below w.heap.size w w' := by
  have h' : callE (fun _ => none) L d (ctxE P kp fun _ => none) f args ⟨.nil, 0, 0⟩ = .one (.bool true, S') := h
  refine (call_sound (w0 := w) (ρ0 := fun _ _ => none) hm GivFro.none d GivOk.none EnvOk.none EnvFro.none f args ⟨.nil, 0, 0⟩ (fun _ _ => none) w cargs (Ext.refl _) (RS.start w) (hr _) (fun p => p = (.bool true, S')) (by rw [h']; rfl)).2.mono ?_
  rintro e w' ⟨p, ρ', he, rfl, _, hS⟩
  rcases he with ⟨v, rfl, hv⟩ | ⟨y, v, hy, _⟩
  · exact ⟨by rw [hv], hS.below⟩
  · cases hy

theorem rel_any1 (ρ : Emb) (a : Value) : RelL ρ [.any] [a] := ⟨a, [], rfl, trivial, rfl⟩
theorem rel_any2 (ρ : Emb) (a b : Value) : RelL ρ [.any, .any] [a, b] := ⟨a, _, rfl, trivial, rel_any1 ρ b⟩
theorem rel_any3 (ρ : Emb) (a b c : Value) : RelL ρ [.any, .any, .any] [a, b, c] := ⟨a, _, rfl, trivial, rel_any2 ρ b c⟩

end Go.Proofs.YtacndjnjikdcoaaGreat.Vai
