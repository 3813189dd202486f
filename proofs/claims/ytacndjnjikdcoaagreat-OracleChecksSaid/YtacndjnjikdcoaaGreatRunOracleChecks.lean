/-
  The run of 'OracleChecks': the page's example by the abstract interpreter; the law behind it by its rules.
-/
import Derived.Test.YtacndjnjikdcoaaGreatOrChk
import Derived.Test.YtacndjnjikdcoaaGreatVaiKpL
import Derived.Test.YtacndjnjikdcoaaGreatChecked
import Derived.KernelRfl
import Derived.Lib.SmallJoins
namespace Go.Proofs.YtacndjnjikdcoaaGreat.Vai
open Go

theorem mixedP : Tryz.prog.follows .mixedOrders = true := by kernel_rfl
set_option maxRecDepth 1000000 in
theorem runLive : callN (ctxOf Tryz.prog kpL) 100000 60 8 [] ⟨.nil, 0, 0⟩ = .one (.bool true, ⟨.nil, 0, 0⟩) := by kernel_rfl
theorem walkLive (w : World) : Calls Tryz.prog 8 #[] w fun e w' => e = .returned (.bool true) ∧ Go.RowKit.Below w.heap.size w w' :=
  calls_true (args := []) (cargs := []) mixedP w (fun _ => rfl) runLive
theorem enterLive (w : World) : (callFunc 8 #[]).run Tryz.prog w = .ok (.enter 8 #[]) w := callFunc_enter (f := 8) (fn := Tryz.f8) (c := (Tryz.f8.body).getD .skip) Tryz.func8 (by kernel_rfl) (by kernel_rfl) #[] w

theorem walkOracleChecks (a0 a1 a2 a3 a4 a5 : Int) (w : World) :
    Calls Tryz.prog 3 #[.agg #[.int .i64 a0, .int .i64 a1, .int .u64 a2, .int .i64 a3, .int .i64 a4, .int .i64 a5]] w fun e w' => e = .returned (.bool true) ∧ Go.RowKit.Below w.heap.size w w' :=
  calls_given (args := [.agg [.int .i64 a0, .int .i64 a1, .int .u64 a2, .int .i64 a3, .int .i64 a4, .int .i64 a5]]) (cargs := [.agg #[.int .i64 a0, .int .i64 a1, .int .u64 a2, .int .i64 a3, .int .i64 a4, .int .i64 a5]]) (G := givTrue 8) (L := 0) (d := 9) (kp := kpN)
    mixedP w (givTrue_fro 8) (givTrue_ok enterLive walkLive) (RS.start w) ⟨_, [], rfl, ⟨[.int .i64 a0, .int .i64 a1, .int .u64 a2, .int .i64 a3, .int .i64 a4, .int .i64 a5], ⟨_, _, rfl, rfl, _, _, rfl, rfl, _, _, rfl, rfl, _, _, rfl, rfl, _, _, rfl, rfl, _, _, rfl, rfl, rfl⟩, rfl⟩, rfl⟩
    (law_ok (fun k hk => by unfold givTrue; rw [show Nat.beq k 8 = false from by rw [beq_dec]; exact decide_eq_false hk]; rfl) ⟨_, rfl, fun _ => rfl⟩ 0 a0 a1 a2 a3 a4 a5 _ 9 (by omega))

end Go.Proofs.YtacndjnjikdcoaaGreat.Vai
