/-
  The run of 'KearnsNils': the abstract interpreter comes to 'true'; so the walk does.
-/
import Derived.Test.YtbkmnpclldgojaaGreatVaiU
import Derived.Test.YtbkmnpclldgojaaGreatVaiKp
import Derived.Test.YtbkmnpclldgojaaGreatChecked
import Derived.KernelRfl
namespace Go.Proofs.YtbkmnpclldgojaaGreat.Vai
open Go

theorem mixedKearnsNils : Tryz.prog.follows .mixedOrders = true := by kernel_rfl

set_option maxRecDepth 1000000 in
theorem runKearnsNils (n0 : Int) (a1 : Option Addr) (l1 c1 : Nat) (a2 : Option Addr) (l2 c2 : Nat) : callN (ctxOf Tryz.prog kpN) 100000 40 3 [.agg [.cst (.int .i64 n0), .cst (.slice a1 l1 c1), .cst (.slice a2 l2 c2)]] ⟨.nil, 0, 0⟩ = .one (.bool true, ⟨.nil, 0, 0⟩) := by kernel_rfl

theorem relKearnsNils (n0 : Int) (a1 : Option Addr) (l1 c1 : Nat) (a2 : Option Addr) (l2 c2 : Nat) (ρ : Emb) : RelL ρ [.agg [.cst (.int .i64 n0), .cst (.slice a1 l1 c1), .cst (.slice a2 l2 c2)]] [.agg #[.int .i64 n0, .slice a1 l1 c1, .slice a2 l2 c2]] := ⟨_, _, rfl, ⟨_, ⟨_, _, rfl, rfl, _, _, rfl, rfl, _, _, rfl, rfl, rfl⟩, rfl⟩, rfl⟩

theorem walkKearnsNils (n0 : Int) (a1 : Option Addr) (l1 c1 : Nat) (a2 : Option Addr) (l2 c2 : Nat) (w : World) : Calls Tryz.prog 3 #[.agg #[.int .i64 n0, .slice a1 l1 c1, .slice a2 l2 c2]] w fun e w' => e = .returned (.bool true) ∧ Go.RowKit.Below w.heap.size w w' :=
  calls_true mixedKearnsNils w (relKearnsNils n0 a1 l1 c1 a2 l2 c2) (runKearnsNils n0 a1 l1 c1 a2 l2 c2)

end Go.Proofs.YtbkmnpclldgojaaGreat.Vai
