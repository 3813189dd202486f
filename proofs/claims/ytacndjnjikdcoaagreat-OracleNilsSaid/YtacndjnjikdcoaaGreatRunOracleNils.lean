/-
  The run of 'OracleNils': the abstract interpreter comes to 'true'; so the walk does.
-/
import Derived.Test.YtacndjnjikdcoaaGreatVaiU
import Derived.Test.YtacndjnjikdcoaaGreatVaiKp
import Derived.Test.YtacndjnjikdcoaaGreatChecked
import Derived.KernelRfl
namespace Go.Proofs.YtacndjnjikdcoaaGreat.Vai
open Go

theorem mixedOracleNils : Tryz.prog.follows .mixedOrders = true := by kernel_rfl

set_option maxRecDepth 1000000 in
theorem runOracleNils  : callN (ctxOf Tryz.prog kpN) 100000 40 4 [.any] ⟨.nil, 0, 0⟩ = .one (.bool true, ⟨.nil, 0, 0⟩) := by kernel_rfl

theorem relOracleNils (v0 : Value) (ρ : Emb) : RelL ρ [.any] [v0] := ⟨_, _, rfl, trivial, rfl⟩

theorem walkOracleNils (v0 : Value) (w : World) : Calls Tryz.prog 4 #[v0] w fun e w' => e = .returned (.bool true) ∧ Go.RowKit.Below w.heap.size w w' :=
  calls_true mixedOracleNils w (relOracleNils v0) (runOracleNils )

end Go.Proofs.YtacndjnjikdcoaaGreat.Vai
