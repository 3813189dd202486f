/-
  The run of 'RivestNils': the abstract interpreter comes to 'true'; so the walk does.
-/
import Derived.Test.YtbkmnpclldgojaaVaiU
import Derived.Test.YtbkmnpclldgojaaVaiKp
import Derived.Test.YtbkmnpclldgojaaChecked
import Derived.KernelRfl
namespace Go.Proofs.Ytbkmnpclldgojaa.Vai
open Go

theorem mixedRivestNils : Try.prog.follows .mixedOrders = true := by kernel_rfl

set_option maxRecDepth 1000000 in
theorem runRivestNils  : callN (ctxOf Try.prog kpN) 100000 40 4 [.any] ⟨.nil, 0, 0⟩ = .one (.bool true, ⟨.nil, 0, 0⟩) := by kernel_rfl

theorem relRivestNils (v0 : Value) (ρ : Emb) : RelL ρ [.any] [v0] := ⟨_, _, rfl, trivial, rfl⟩

theorem walkRivestNils (v0 : Value) (w : World) : Calls Try.prog 4 #[v0] w fun e w' => e = .returned (.bool true) ∧ Go.RowKit.Below w.heap.size w w' :=
  calls_true mixedRivestNils w (relRivestNils v0) (runRivestNils )

end Go.Proofs.Ytbkmnpclldgojaa.Vai
