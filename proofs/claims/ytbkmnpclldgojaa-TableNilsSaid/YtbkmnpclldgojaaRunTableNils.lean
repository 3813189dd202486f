/-
  The run of 'TableNils': the abstract interpreter comes to 'true'; so the walk does.
-/
import Derived.Test.YtbkmnpclldgojaaVaiU
import Derived.Test.YtbkmnpclldgojaaVaiKp
import Derived.Test.YtbkmnpclldgojaaChecked
import Derived.KernelRfl
namespace Go.Proofs.Ytbkmnpclldgojaa.Vai
open Go

theorem mixedTableNils : Try.prog.follows .mixedOrders = true := by kernel_rfl

set_option maxRecDepth 1000000 in
theorem runTableNils  : callN (ctxOf Try.prog kpN) 100000 40 5 [.any, .any] ⟨.nil, 0, 0⟩ = .one (.bool true, ⟨.nil, 0, 0⟩) := by kernel_rfl

theorem relTableNils (v0 : Value) (v1 : Value) (ρ : Emb) : RelL ρ [.any, .any] [v0, v1] := ⟨_, _, rfl, trivial, ⟨_, _, rfl, trivial, rfl⟩⟩

theorem walkTableNils (v0 : Value) (v1 : Value) (w : World) : Calls Try.prog 5 #[v0, v1] w fun e w' => e = .returned (.bool true) ∧ Go.RowKit.Below w.heap.size w w' :=
  calls_true mixedTableNils w (relTableNils v0 v1) (runTableNils )

end Go.Proofs.Ytbkmnpclldgojaa.Vai
