/-
  No cell of these rows narrows 'for every input' (looked for: loops, veiled, ifaces, maps, wideKeys, modest, calm, conditions, laid).
  DERIVED. THE GIVEN ROWS OF THIS SEAT. 3 by the template 'for every input the law returns true; each argument reads behind the call as it read before'; 0 by the template 'total and deterministic' (their statements: YtbkmnpclldgojaaTotals.lean).
  GIVEN WITH THE SEED: the statements are not yours to turn. If you find one false, say at which input.
  Laid BY PROGRAM, IN A SANDBOX (cutbox-rows.mjs): the forced cells as the released guide's own fill.sh prints them over the translation c0b28d3eba5e4bdd… (all of the seat's roots in one cut). By AI agents, Wed Nov 11 2026. No macro, syntax, notation, axiom, sorry.
-/
import Derived.Test.YtbkmnpclldgojaaChecked
import GoSem.Claim
import GoSem.ClaimJoined
import GoSem.ClaimMapViews
import Derived.JoinedTies
import Derived.KernelRfl
namespace Go.Proofs.Ytbkmnpclldgojaa
/- THE CELL 'sum', in the pinned program and in every row, IS THE sha256 OF THE DUMP (.gsa) THAT YtbkmnpclldgojaaProg.lean LOADS. Nothing in Lean hashes anything: it is a label: what it is worth is what the hold of that sum in a sandbox is worth. -/
noncomputable def Try.pinned : Pinned := { name := "ytbkmnpclldgojaa", sum := "c0b28d3eba5e4bdd8a146e27e1c0afca846b73da7633e6e0c6593d9dfed5d760", checked := Try.checked }
namespace Rows
def none {H : Type} : Left H := { results := [], args := [] }

/-- 'tutorlaw14.TreeNils': WHATEVER THE INPUT: true; the input reads as it did. -/
def treeNilsSpec : ChangeSpec := { name := "treeNils", fn := fun _ => fun
  | [d1, d2] => { results := [.lit (.bool true)], args := [d1, d2] }
  | _ => none }
def treeNilsRow : OpenClaim := { program := "ytbkmnpclldgojaa", sum := "c0b28d3eba5e4bdd8a146e27e1c0afca846b73da7633e6e0c6593d9dfed5d760", func := "tutor/tutorlaw14.TreeNils", spec := "treeNils", unfollowed := true, recurses := true, apart := false }
def TreeNilsSaid : Prop := treeNilsRow.holds Try.pinned (OpenSpec.ofChange treeNilsSpec)

/-- ITS FALSE NEIGHBOUR: 'it returns false'. Refute it at one input. -/
def treeNilsWrong : ChangeSpec := { name := "treeNils", fn := fun _ => fun
  | [d1, d2] => { results := [.lit (.bool false)], args := [d1, d2] }
  | _ => none }
def TreeNilsWrongFalsely : Prop := treeNilsRow.holds Try.pinned (OpenSpec.ofChange treeNilsWrong)

/-- 'tutorlaw22.RivestNils': WHATEVER THE INPUT: true; the input reads as it did. -/
def rivestNilsSpec : ChangeSpec := { name := "rivestNils", fn := fun _ => fun
  | [d] => { results := [.lit (.bool true)], args := [d] }
  | _ => none }
def rivestNilsRow : OpenClaim := { program := "ytbkmnpclldgojaa", sum := "c0b28d3eba5e4bdd8a146e27e1c0afca846b73da7633e6e0c6593d9dfed5d760", func := "tutor/tutorlaw22.RivestNils", spec := "rivestNils", unfollowed := true, recurses := true, apart := false }
def RivestNilsSaid : Prop := rivestNilsRow.holds Try.pinned (OpenSpec.ofChange rivestNilsSpec)

/-- ITS FALSE NEIGHBOUR: 'it returns false'. Refute it at one input. -/
def rivestNilsWrong : ChangeSpec := { name := "rivestNils", fn := fun _ => fun
  | [d] => { results := [.lit (.bool false)], args := [d] }
  | _ => none }
def RivestNilsWrongFalsely : Prop := rivestNilsRow.holds Try.pinned (OpenSpec.ofChange rivestNilsWrong)

/-- 'tutorlaw13.TableNils': WHATEVER THE INPUT: true; the input reads as it did. -/
def tableNilsSpec : ChangeSpec := { name := "tableNils", fn := fun _ => fun
  | [d1, d2] => { results := [.lit (.bool true)], args := [d1, d2] }
  | _ => none }
def tableNilsRow : OpenClaim := { program := "ytbkmnpclldgojaa", sum := "c0b28d3eba5e4bdd8a146e27e1c0afca846b73da7633e6e0c6593d9dfed5d760", func := "tutor/tutorlaw13.TableNils", spec := "tableNils", unfollowed := true, recurses := true, apart := false }
def TableNilsSaid : Prop := tableNilsRow.holds Try.pinned (OpenSpec.ofChange tableNilsSpec)

/-- ITS FALSE NEIGHBOUR: 'it returns false'. Refute it at one input. -/
def tableNilsWrong : ChangeSpec := { name := "tableNils", fn := fun _ => fun
  | [d1, d2] => { results := [.lit (.bool false)], args := [d1, d2] }
  | _ => none }
def TableNilsWrongFalsely : Prop := tableNilsRow.holds Try.pinned (OpenSpec.ofChange tableNilsWrong)

/- THE SECOND FORM. 'bulk': how many values and letters a reading holds, each counted each time it is reached (what is shared counts as often as it is met; a slice's spare places count too). A statement '..UptoSaid' is the law's where the arguments, and the package variables that the reading takes, are together of bulk at most 1048576: NARROWER than '..Said'. Prove '..Said' where nothing that the law and all that it calls make is longer than what came in: it says more and counts as full. Else prove '..UptoSaid'. A law counts once. -/
mutual
def uptoBulk {H : Type} : DataW H → Nat
  | .lit (.string bytes) => bytes.length + 1
  | .lit _ => 1
  | .nil => 1
  | .ptr d => uptoBulk d + 1
  | .slice elems spare => uptoBulkAll elems + uptoBulkAll spare + 1
  | .agg parts => uptoBulkAll parts + 1
  | .iface _ d => uptoBulk d + 1
  | .map entries => uptoBulkEntries entries + 1
  | .held _ => 1
def uptoBulkAll {H : Type} : List (DataW H) → Nat
  | [] => 0
  | d :: r => uptoBulk d + uptoBulkAll r
def uptoBulkEntries {H : Type} : List (Lit × DataW H) → Nat
  | [] => 0
  | x :: r => uptoBulkEntry x + uptoBulkEntries r
def uptoBulkEntry {H : Type} : Lit × DataW H → Nat
  | (.string bytes, d) => bytes.length + uptoBulk d + 1
  | (_, d) => uptoBulk d + 1
 end
def uptoSmall : (H : Type) → List (DataW H) → Bool := fun _ ds => decide (uptoBulkAll ds ≤ 1048576)
def OpenSpec.upto (s : _root_.Go.ChangeSpec) : _root_.Go.OpenSpec := { _root_.Go.OpenSpec.ofChange s with cond := some uptoSmall }

/-- 'tutorlaw14.TreeNils', WHERE WHAT IT READS IS OF BULK AT MOST 1048576: true; the input reads as it did. -/
def treeNilsUptoRow : OpenClaim := { program := "ytbkmnpclldgojaa", sum := "c0b28d3eba5e4bdd8a146e27e1c0afca846b73da7633e6e0c6593d9dfed5d760", func := "tutor/tutorlaw14.TreeNils", spec := "treeNils", unfollowed := true, recurses := true, apart := false, narrowed := true }
def TreeNilsUptoSaid : Prop := treeNilsUptoRow.holds Try.pinned (OpenSpec.upto treeNilsSpec)

/-- 'tutorlaw22.RivestNils', WHERE WHAT IT READS IS OF BULK AT MOST 1048576: true; the input reads as it did. -/
def rivestNilsUptoRow : OpenClaim := { program := "ytbkmnpclldgojaa", sum := "c0b28d3eba5e4bdd8a146e27e1c0afca846b73da7633e6e0c6593d9dfed5d760", func := "tutor/tutorlaw22.RivestNils", spec := "rivestNils", unfollowed := true, recurses := true, apart := false, narrowed := true }
def RivestNilsUptoSaid : Prop := rivestNilsUptoRow.holds Try.pinned (OpenSpec.upto rivestNilsSpec)

/-- 'tutorlaw13.TableNils', WHERE WHAT IT READS IS OF BULK AT MOST 1048576: true; the input reads as it did. -/
def tableNilsUptoRow : OpenClaim := { program := "ytbkmnpclldgojaa", sum := "c0b28d3eba5e4bdd8a146e27e1c0afca846b73da7633e6e0c6593d9dfed5d760", func := "tutor/tutorlaw13.TableNils", spec := "tableNils", unfollowed := true, recurses := true, apart := false, narrowed := true }
def TableNilsUptoSaid : Prop := tableNilsUptoRow.holds Try.pinned (OpenSpec.upto tableNilsSpec)

end Rows
end Go.Proofs.Ytbkmnpclldgojaa
