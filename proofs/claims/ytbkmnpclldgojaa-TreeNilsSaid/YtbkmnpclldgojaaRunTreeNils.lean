/-
  The run of 'TreeNils': the abstract interpreter comes to 'true'; so the walk does.
-/
import Derived.Test.YtbkmnpclldgojaaVaiU
import Derived.Test.YtbkmnpclldgojaaVaiKp
import Derived.Test.YtbkmnpclldgojaaChecked
import Derived.KernelRfl
namespace Go.Proofs.Ytbkmnpclldgojaa.Vai
open Go

theorem mixedTreeNils : Try.prog.follows .mixedOrders = true := by kernel_rfl

set_option maxRecDepth 1000000 in
theorem runTreeNils (a0 : Option Addr) (l0 c0 : Nat) (n1 : Int) : callN (ctxOf Try.prog kpN) 100000 40 3 [.cst (.slice a0 l0 c0), .cst (.int .i64 n1)] ⟨.nil, 0, 0⟩ = .one (.bool true, ⟨.nil, 0, 0⟩) := by kernel_rfl

theorem relTreeNils (a0 : Option Addr) (l0 c0 : Nat) (n1 : Int) (ρ : Emb) : RelL ρ [.cst (.slice a0 l0 c0), .cst (.int .i64 n1)] [.slice a0 l0 c0, .int .i64 n1] := ⟨_, _, rfl, rfl, ⟨_, _, rfl, rfl, rfl⟩⟩

theorem walkTreeNils (a0 : Option Addr) (l0 c0 : Nat) (n1 : Int) (w : World) : Calls Try.prog 3 #[.slice a0 l0 c0, .int .i64 n1] w fun e w' => e = .returned (.bool true) ∧ Go.RowKit.Below w.heap.size w w' :=
  calls_true mixedTreeNils w (relTreeNils a0 l0 c0 n1) (runTreeNils a0 l0 c0 n1)

end Go.Proofs.Ytbkmnpclldgojaa.Vai
