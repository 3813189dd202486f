/- The page's example of analyses, by the abstract interpreter. -/
import Derived.Test.YtednmmcdjhfflaaB1
import Derived.Test.YtednmmcdjhfflaaVaiKpL
import Derived.KernelRfl
namespace Go.Proofs.Ytednmmcdjhfflaa.Vai
open Go Go.RowKit
set_option maxRecDepth 1000000 in
theorem runLive : callN (ctxOf Try.prog kpL) 100000 60 44 [] ⟨.nil, 0, 0⟩ = .one (.bool true, ⟨.nil, 0, 0⟩) := by kernel_rfl
theorem walkLive (w : World) : Calls Try.prog 44 #[] w fun e w' => e = .returned (.bool true) ∧ Below w.heap.size w w' :=
  calls_true (args := []) (cargs := []) orders w (fun _ => rfl) runLive
theorem enterLive (w : World) : (callFunc 44 #[]).run Try.prog w = .ok (.enter 44 #[]) w := callFunc_enter (f := 44) (fn := Try.f44) (c := (Try.f44.body).getD .skip) Try.func44 (by kernel_rfl) (by kernel_rfl) #[] w
def liveS : List AV → Option AV := sp0 (some (.bool true))
theorem live_ok : PureS P 44 liveS := PureS.of0 ⟨fun w fz cargs hz hr => by
  obtain rfl : cargs = [] := hr
  refine ⟨fun w' => enterLive w', (walkLive w).mono ?_⟩
  rintro e w' ⟨rfl, hb⟩
  exact ⟨.bool true, fz, rfl, hb, fun _ _ h => h, fun _ _ h => .inl h, fun k z ob h => by rw [hb.block k (Array.getElem?_eq_some_iff.1 (hz k z ob h)).1]; exact hz k z ob h, rfl⟩, rfl⟩
end Go.Proofs.Ytednmmcdjhfflaa.Vai
