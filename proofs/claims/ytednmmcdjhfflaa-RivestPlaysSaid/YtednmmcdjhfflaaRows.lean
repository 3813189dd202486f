/-
  No cell of these rows narrows 'for every input' (looked for: loops, veiled, ifaces, maps, wideKeys, modest, calm, conditions, laid).
  DERIVED. THE GIVEN ROWS OF THIS SEAT. 12 by the template 'for every input the law returns true; each argument reads behind the call as it read before'; 0 by the template 'total and deterministic' (their statements: YtednmmcdjhfflaaTotals.lean).
  GIVEN WITH THE SEED: the statements are not yours to turn. If you find one false, say at which input.
  Laid BY PROGRAM, IN A SANDBOX (cutbox-rows.mjs): the forced cells as the released guide's own fill.sh prints them over the translation 834f8ac6f3426d22… (all of the seat's roots in one cut). By AI agents, Wed Nov 11 2026. No macro, syntax, notation, axiom, sorry.
-/
import Derived.Test.YtednmmcdjhfflaaChecked
import GoSem.Claim
import GoSem.ClaimJoined
import GoSem.ClaimMapViews
import Derived.JoinedTies
import Derived.KernelRfl
namespace Go.Proofs.Ytednmmcdjhfflaa
/- THE CELL 'sum', in the pinned program and in every row, IS THE sha256 OF THE DUMP (.gsa) THAT YtednmmcdjhfflaaProg.lean LOADS. Nothing in Lean hashes anything: it is a label: what it is worth is what the hold of that sum in a sandbox is worth. -/
noncomputable def Try.pinned : Pinned := { name := "ytednmmcdjhfflaa", sum := "834f8ac6f3426d22ec82fdf214778ea172a6139aa0532fc102b71ddb3a7d9436", checked := Try.checked }
namespace Rows
def none {H : Type} : Left H := { results := [], args := [] }

/-- 'tutorlaw14.TreePlays': WHATEVER THE INPUT: true; the input reads as it did. -/
def treePlaysSpec : ChangeSpec := { name := "treePlays", fn := fun _ => fun
  | [d1, d2, d3, d4] => { results := [.lit (.bool true)], args := [d1, d2, d3, d4] }
  | _ => none }
def treePlaysRow : OpenClaim := { program := "ytednmmcdjhfflaa", sum := "834f8ac6f3426d22ec82fdf214778ea172a6139aa0532fc102b71ddb3a7d9436", func := "tutor/tutorlaw14.TreePlays", spec := "treePlays", unfollowed := true, recurses := true, apart := false }
def TreePlaysSaid : Prop := treePlaysRow.holds Try.pinned (OpenSpec.ofChange treePlaysSpec)

/-- ITS FALSE NEIGHBOUR: 'it returns false'. Refute it at one input. -/
def treePlaysWrong : ChangeSpec := { name := "treePlays", fn := fun _ => fun
  | [d1, d2, d3, d4] => { results := [.lit (.bool false)], args := [d1, d2, d3, d4] }
  | _ => none }
def TreePlaysWrongFalsely : Prop := treePlaysRow.holds Try.pinned (OpenSpec.ofChange treePlaysWrong)

/-- 'tutorlaw14.TreeTrue': WHATEVER THE INPUT: true; the input reads as it did. -/
def treeTrueSpec : ChangeSpec := { name := "treeTrue", fn := fun _ => fun
  | [d1, d2, d3, d4] => { results := [.lit (.bool true)], args := [d1, d2, d3, d4] }
  | _ => none }
def treeTrueRow : OpenClaim := { program := "ytednmmcdjhfflaa", sum := "834f8ac6f3426d22ec82fdf214778ea172a6139aa0532fc102b71ddb3a7d9436", func := "tutor/tutorlaw14.TreeTrue", spec := "treeTrue", unfollowed := true, recurses := true, apart := false }
def TreeTrueSaid : Prop := treeTrueRow.holds Try.pinned (OpenSpec.ofChange treeTrueSpec)

/-- ITS FALSE NEIGHBOUR: 'it returns false'. Refute it at one input. -/
def treeTrueWrong : ChangeSpec := { name := "treeTrue", fn := fun _ => fun
  | [d1, d2, d3, d4] => { results := [.lit (.bool false)], args := [d1, d2, d3, d4] }
  | _ => none }
def TreeTrueWrongFalsely : Prop := treeTrueRow.holds Try.pinned (OpenSpec.ofChange treeTrueWrong)

/-- 'tutorlaw14.TreeAlike': WHATEVER THE INPUT: true; the input reads as it did. -/
def treeAlikeSpec : ChangeSpec := { name := "treeAlike", fn := fun _ => fun
  | [d1, d2, d3, d4, d5] => { results := [.lit (.bool true)], args := [d1, d2, d3, d4, d5] }
  | _ => none }
def treeAlikeRow : OpenClaim := { program := "ytednmmcdjhfflaa", sum := "834f8ac6f3426d22ec82fdf214778ea172a6139aa0532fc102b71ddb3a7d9436", func := "tutor/tutorlaw14.TreeAlike", spec := "treeAlike", unfollowed := true, recurses := true, apart := false }
def TreeAlikeSaid : Prop := treeAlikeRow.holds Try.pinned (OpenSpec.ofChange treeAlikeSpec)

/-- ITS FALSE NEIGHBOUR: 'it returns false'. Refute it at one input. -/
def treeAlikeWrong : ChangeSpec := { name := "treeAlike", fn := fun _ => fun
  | [d1, d2, d3, d4, d5] => { results := [.lit (.bool false)], args := [d1, d2, d3, d4, d5] }
  | _ => none }
def TreeAlikeWrongFalsely : Prop := treeAlikeRow.holds Try.pinned (OpenSpec.ofChange treeAlikeWrong)

/-- 'tutorlaw14.TreeOwn': WHATEVER THE INPUT: true; the input reads as it did. -/
def treeOwnSpec : ChangeSpec := { name := "treeOwn", fn := fun _ => fun
  | [d1, d2, d3] => { results := [.lit (.bool true)], args := [d1, d2, d3] }
  | _ => none }
def treeOwnRow : OpenClaim := { program := "ytednmmcdjhfflaa", sum := "834f8ac6f3426d22ec82fdf214778ea172a6139aa0532fc102b71ddb3a7d9436", func := "tutor/tutorlaw14.TreeOwn", spec := "treeOwn", unfollowed := true, recurses := true, apart := false }
def TreeOwnSaid : Prop := treeOwnRow.holds Try.pinned (OpenSpec.ofChange treeOwnSpec)

/-- ITS FALSE NEIGHBOUR: 'it returns false'. Refute it at one input. -/
def treeOwnWrong : ChangeSpec := { name := "treeOwn", fn := fun _ => fun
  | [d1, d2, d3] => { results := [.lit (.bool false)], args := [d1, d2, d3] }
  | _ => none }
def TreeOwnWrongFalsely : Prop := treeOwnRow.holds Try.pinned (OpenSpec.ofChange treeOwnWrong)

/-- 'tutorlaw22.RivestPlays': WHATEVER THE INPUT: true; the input reads as it did. -/
def rivestPlaysSpec : ChangeSpec := { name := "rivestPlays", fn := fun _ => fun
  | [d1, d2, d3, d4, d5, d6] => { results := [.lit (.bool true)], args := [d1, d2, d3, d4, d5, d6] }
  | _ => none }
def rivestPlaysRow : OpenClaim := { program := "ytednmmcdjhfflaa", sum := "834f8ac6f3426d22ec82fdf214778ea172a6139aa0532fc102b71ddb3a7d9436", func := "tutor/tutorlaw22.RivestPlays", spec := "rivestPlays", unfollowed := true, recurses := true, apart := false }
def RivestPlaysSaid : Prop := rivestPlaysRow.holds Try.pinned (OpenSpec.ofChange rivestPlaysSpec)

/-- ITS FALSE NEIGHBOUR: 'it returns false'. Refute it at one input. -/
def rivestPlaysWrong : ChangeSpec := { name := "rivestPlays", fn := fun _ => fun
  | [d1, d2, d3, d4, d5, d6] => { results := [.lit (.bool false)], args := [d1, d2, d3, d4, d5, d6] }
  | _ => none }
def RivestPlaysWrongFalsely : Prop := rivestPlaysRow.holds Try.pinned (OpenSpec.ofChange rivestPlaysWrong)

/-- 'tutorlaw22.RivestFinds': WHATEVER THE INPUT: true; the input reads as it did. -/
def rivestFindsSpec : ChangeSpec := { name := "rivestFinds", fn := fun _ => fun
  | [d1, d2, d3, d4] => { results := [.lit (.bool true)], args := [d1, d2, d3, d4] }
  | _ => none }
def rivestFindsRow : OpenClaim := { program := "ytednmmcdjhfflaa", sum := "834f8ac6f3426d22ec82fdf214778ea172a6139aa0532fc102b71ddb3a7d9436", func := "tutor/tutorlaw22.RivestFinds", spec := "rivestFinds", unfollowed := true, recurses := true, apart := false }
def RivestFindsSaid : Prop := rivestFindsRow.holds Try.pinned (OpenSpec.ofChange rivestFindsSpec)

/-- ITS FALSE NEIGHBOUR: 'it returns false'. Refute it at one input. -/
def rivestFindsWrong : ChangeSpec := { name := "rivestFinds", fn := fun _ => fun
  | [d1, d2, d3, d4] => { results := [.lit (.bool false)], args := [d1, d2, d3, d4] }
  | _ => none }
def RivestFindsWrongFalsely : Prop := rivestFindsRow.holds Try.pinned (OpenSpec.ofChange rivestFindsWrong)

/-- 'tutorlaw22.RivestOwn': WHATEVER THE INPUT: true; the input reads as it did. -/
def rivestOwnSpec : ChangeSpec := { name := "rivestOwn", fn := fun _ => fun
  | [d1, d2, d3, d4] => { results := [.lit (.bool true)], args := [d1, d2, d3, d4] }
  | _ => none }
def rivestOwnRow : OpenClaim := { program := "ytednmmcdjhfflaa", sum := "834f8ac6f3426d22ec82fdf214778ea172a6139aa0532fc102b71ddb3a7d9436", func := "tutor/tutorlaw22.RivestOwn", spec := "rivestOwn", unfollowed := true, recurses := true, apart := false }
def RivestOwnSaid : Prop := rivestOwnRow.holds Try.pinned (OpenSpec.ofChange rivestOwnSpec)

/-- ITS FALSE NEIGHBOUR: 'it returns false'. Refute it at one input. -/
def rivestOwnWrong : ChangeSpec := { name := "rivestOwn", fn := fun _ => fun
  | [d1, d2, d3, d4] => { results := [.lit (.bool false)], args := [d1, d2, d3, d4] }
  | _ => none }
def RivestOwnWrongFalsely : Prop := rivestOwnRow.holds Try.pinned (OpenSpec.ofChange rivestOwnWrong)

/-- 'tutorlaw13.TablePlays': WHATEVER THE INPUT: true; the input reads as it did. -/
def tablePlaysSpec : ChangeSpec := { name := "tablePlays", fn := fun _ => fun
  | [d1, d2, d3, d4] => { results := [.lit (.bool true)], args := [d1, d2, d3, d4] }
  | _ => none }
def tablePlaysRow : OpenClaim := { program := "ytednmmcdjhfflaa", sum := "834f8ac6f3426d22ec82fdf214778ea172a6139aa0532fc102b71ddb3a7d9436", func := "tutor/tutorlaw13.TablePlays", spec := "tablePlays", unfollowed := true, recurses := true, apart := false }
def TablePlaysSaid : Prop := tablePlaysRow.holds Try.pinned (OpenSpec.ofChange tablePlaysSpec)

/-- ITS FALSE NEIGHBOUR: 'it returns false'. Refute it at one input. -/
def tablePlaysWrong : ChangeSpec := { name := "tablePlays", fn := fun _ => fun
  | [d1, d2, d3, d4] => { results := [.lit (.bool false)], args := [d1, d2, d3, d4] }
  | _ => none }
def TablePlaysWrongFalsely : Prop := tablePlaysRow.holds Try.pinned (OpenSpec.ofChange tablePlaysWrong)

/-- 'tutorlaw13.TableFills': WHATEVER THE INPUT: true; the input reads as it did. -/
def tableFillsSpec : ChangeSpec := { name := "tableFills", fn := fun _ => fun
  | [d1, d2, d3] => { results := [.lit (.bool true)], args := [d1, d2, d3] }
  | _ => none }
def tableFillsRow : OpenClaim := { program := "ytednmmcdjhfflaa", sum := "834f8ac6f3426d22ec82fdf214778ea172a6139aa0532fc102b71ddb3a7d9436", func := "tutor/tutorlaw13.TableFills", spec := "tableFills", unfollowed := true, recurses := true, apart := false }
def TableFillsSaid : Prop := tableFillsRow.holds Try.pinned (OpenSpec.ofChange tableFillsSpec)

/-- ITS FALSE NEIGHBOUR: 'it returns false'. Refute it at one input. -/
def tableFillsWrong : ChangeSpec := { name := "tableFills", fn := fun _ => fun
  | [d1, d2, d3] => { results := [.lit (.bool false)], args := [d1, d2, d3] }
  | _ => none }
def TableFillsWrongFalsely : Prop := tableFillsRow.holds Try.pinned (OpenSpec.ofChange tableFillsWrong)

/-- 'tutorlaw13.TableLearns': WHATEVER THE INPUT: true; the input reads as it did. -/
def tableLearnsSpec : ChangeSpec := { name := "tableLearns", fn := fun _ => fun
  | [d] => { results := [.lit (.bool true)], args := [d] }
  | _ => none }
def tableLearnsRow : OpenClaim := { program := "ytednmmcdjhfflaa", sum := "834f8ac6f3426d22ec82fdf214778ea172a6139aa0532fc102b71ddb3a7d9436", func := "tutor/tutorlaw13.TableLearns", spec := "tableLearns", unfollowed := true, recurses := true, apart := false }
def TableLearnsSaid : Prop := tableLearnsRow.holds Try.pinned (OpenSpec.ofChange tableLearnsSpec)

/-- ITS FALSE NEIGHBOUR: 'it returns false'. Refute it at one input. -/
def tableLearnsWrong : ChangeSpec := { name := "tableLearns", fn := fun _ => fun
  | [d] => { results := [.lit (.bool false)], args := [d] }
  | _ => none }
def TableLearnsWrongFalsely : Prop := tableLearnsRow.holds Try.pinned (OpenSpec.ofChange tableLearnsWrong)

/-- 'tutorlaw13.TableSmall': WHATEVER THE INPUT: true; the input reads as it did. -/
def tableSmallSpec : ChangeSpec := { name := "tableSmall", fn := fun _ => fun
  | [d1, d2, d3] => { results := [.lit (.bool true)], args := [d1, d2, d3] }
  | _ => none }
def tableSmallRow : OpenClaim := { program := "ytednmmcdjhfflaa", sum := "834f8ac6f3426d22ec82fdf214778ea172a6139aa0532fc102b71ddb3a7d9436", func := "tutor/tutorlaw13.TableSmall", spec := "tableSmall", unfollowed := true, recurses := true, apart := false }
def TableSmallSaid : Prop := tableSmallRow.holds Try.pinned (OpenSpec.ofChange tableSmallSpec)

/-- ITS FALSE NEIGHBOUR: 'it returns false'. Refute it at one input. -/
def tableSmallWrong : ChangeSpec := { name := "tableSmall", fn := fun _ => fun
  | [d1, d2, d3] => { results := [.lit (.bool false)], args := [d1, d2, d3] }
  | _ => none }
def TableSmallWrongFalsely : Prop := tableSmallRow.holds Try.pinned (OpenSpec.ofChange tableSmallWrong)

/-- 'tutorlaw13.TableOwn': WHATEVER THE INPUT: true; the input reads as it did. -/
def tableOwnSpec : ChangeSpec := { name := "tableOwn", fn := fun _ => fun
  | [d1, d2, d3] => { results := [.lit (.bool true)], args := [d1, d2, d3] }
  | _ => none }
def tableOwnRow : OpenClaim := { program := "ytednmmcdjhfflaa", sum := "834f8ac6f3426d22ec82fdf214778ea172a6139aa0532fc102b71ddb3a7d9436", func := "tutor/tutorlaw13.TableOwn", spec := "tableOwn", unfollowed := true, recurses := true, apart := false }
def TableOwnSaid : Prop := tableOwnRow.holds Try.pinned (OpenSpec.ofChange tableOwnSpec)

/-- ITS FALSE NEIGHBOUR: 'it returns false'. Refute it at one input. -/
def tableOwnWrong : ChangeSpec := { name := "tableOwn", fn := fun _ => fun
  | [d1, d2, d3] => { results := [.lit (.bool false)], args := [d1, d2, d3] }
  | _ => none }
def TableOwnWrongFalsely : Prop := tableOwnRow.holds Try.pinned (OpenSpec.ofChange tableOwnWrong)

/- THE SECOND FORM. 'bulk': how many values and letters a reading holds, each counted each time it is reached (what is shared counts as often as it is met; a slice's spare places count too). A statement '..UptoSaid' is the law's where the arguments, and the package variables that the reading takes, are together of bulk at most 1048576: NARROWER than '..Said'. Prove '..Said' where nothing that the law and all that it calls make is longer than what came in: it says more and counts as full. Else prove '..UptoSaid'. A law counts once. -/
mutual
def uptoBulk {H : Type} : DataW H → Nat
  | .lit (.string bytes) => bytes.length + 1
  | .lit _ => 1
  | .nil => 1
  | .ptr d => uptoBulk d + 1
  | .slice elems spare => uptoBulkAll elems + uptoBulkAll spare + 1
  | .agg parts => uptoBulkAll parts + 1
  | .iface _ d => uptoBulk d + 1
  | .map entries => uptoBulkEntries entries + 1
  | .held _ => 1
def uptoBulkAll {H : Type} : List (DataW H) → Nat
  | [] => 0
  | d :: r => uptoBulk d + uptoBulkAll r
def uptoBulkEntries {H : Type} : List (Lit × DataW H) → Nat
  | [] => 0
  | x :: r => uptoBulkEntry x + uptoBulkEntries r
def uptoBulkEntry {H : Type} : Lit × DataW H → Nat
  | (.string bytes, d) => bytes.length + uptoBulk d + 1
  | (_, d) => uptoBulk d + 1
 end
def uptoSmall : (H : Type) → List (DataW H) → Bool := fun _ ds => decide (uptoBulkAll ds ≤ 1048576)
def OpenSpec.upto (s : _root_.Go.ChangeSpec) : _root_.Go.OpenSpec := { _root_.Go.OpenSpec.ofChange s with cond := some uptoSmall }

/-- 'tutorlaw14.TreePlays', WHERE WHAT IT READS IS OF BULK AT MOST 1048576: true; the input reads as it did. -/
def treePlaysUptoRow : OpenClaim := { program := "ytednmmcdjhfflaa", sum := "834f8ac6f3426d22ec82fdf214778ea172a6139aa0532fc102b71ddb3a7d9436", func := "tutor/tutorlaw14.TreePlays", spec := "treePlays", unfollowed := true, recurses := true, apart := false, narrowed := true }
def TreePlaysUptoSaid : Prop := treePlaysUptoRow.holds Try.pinned (OpenSpec.upto treePlaysSpec)

/-- 'tutorlaw14.TreeTrue', WHERE WHAT IT READS IS OF BULK AT MOST 1048576: true; the input reads as it did. -/
def treeTrueUptoRow : OpenClaim := { program := "ytednmmcdjhfflaa", sum := "834f8ac6f3426d22ec82fdf214778ea172a6139aa0532fc102b71ddb3a7d9436", func := "tutor/tutorlaw14.TreeTrue", spec := "treeTrue", unfollowed := true, recurses := true, apart := false, narrowed := true }
def TreeTrueUptoSaid : Prop := treeTrueUptoRow.holds Try.pinned (OpenSpec.upto treeTrueSpec)

/-- 'tutorlaw14.TreeAlike', WHERE WHAT IT READS IS OF BULK AT MOST 1048576: true; the input reads as it did. -/
def treeAlikeUptoRow : OpenClaim := { program := "ytednmmcdjhfflaa", sum := "834f8ac6f3426d22ec82fdf214778ea172a6139aa0532fc102b71ddb3a7d9436", func := "tutor/tutorlaw14.TreeAlike", spec := "treeAlike", unfollowed := true, recurses := true, apart := false, narrowed := true }
def TreeAlikeUptoSaid : Prop := treeAlikeUptoRow.holds Try.pinned (OpenSpec.upto treeAlikeSpec)

/-- 'tutorlaw14.TreeOwn', WHERE WHAT IT READS IS OF BULK AT MOST 1048576: true; the input reads as it did. -/
def treeOwnUptoRow : OpenClaim := { program := "ytednmmcdjhfflaa", sum := "834f8ac6f3426d22ec82fdf214778ea172a6139aa0532fc102b71ddb3a7d9436", func := "tutor/tutorlaw14.TreeOwn", spec := "treeOwn", unfollowed := true, recurses := true, apart := false, narrowed := true }
def TreeOwnUptoSaid : Prop := treeOwnUptoRow.holds Try.pinned (OpenSpec.upto treeOwnSpec)

/-- 'tutorlaw22.RivestPlays', WHERE WHAT IT READS IS OF BULK AT MOST 1048576: true; the input reads as it did. -/
def rivestPlaysUptoRow : OpenClaim := { program := "ytednmmcdjhfflaa", sum := "834f8ac6f3426d22ec82fdf214778ea172a6139aa0532fc102b71ddb3a7d9436", func := "tutor/tutorlaw22.RivestPlays", spec := "rivestPlays", unfollowed := true, recurses := true, apart := false, narrowed := true }
def RivestPlaysUptoSaid : Prop := rivestPlaysUptoRow.holds Try.pinned (OpenSpec.upto rivestPlaysSpec)

/-- 'tutorlaw22.RivestFinds', WHERE WHAT IT READS IS OF BULK AT MOST 1048576: true; the input reads as it did. -/
def rivestFindsUptoRow : OpenClaim := { program := "ytednmmcdjhfflaa", sum := "834f8ac6f3426d22ec82fdf214778ea172a6139aa0532fc102b71ddb3a7d9436", func := "tutor/tutorlaw22.RivestFinds", spec := "rivestFinds", unfollowed := true, recurses := true, apart := false, narrowed := true }
def RivestFindsUptoSaid : Prop := rivestFindsUptoRow.holds Try.pinned (OpenSpec.upto rivestFindsSpec)

/-- 'tutorlaw22.RivestOwn', WHERE WHAT IT READS IS OF BULK AT MOST 1048576: true; the input reads as it did. -/
def rivestOwnUptoRow : OpenClaim := { program := "ytednmmcdjhfflaa", sum := "834f8ac6f3426d22ec82fdf214778ea172a6139aa0532fc102b71ddb3a7d9436", func := "tutor/tutorlaw22.RivestOwn", spec := "rivestOwn", unfollowed := true, recurses := true, apart := false, narrowed := true }
def RivestOwnUptoSaid : Prop := rivestOwnUptoRow.holds Try.pinned (OpenSpec.upto rivestOwnSpec)

/-- 'tutorlaw13.TablePlays', WHERE WHAT IT READS IS OF BULK AT MOST 1048576: true; the input reads as it did. -/
def tablePlaysUptoRow : OpenClaim := { program := "ytednmmcdjhfflaa", sum := "834f8ac6f3426d22ec82fdf214778ea172a6139aa0532fc102b71ddb3a7d9436", func := "tutor/tutorlaw13.TablePlays", spec := "tablePlays", unfollowed := true, recurses := true, apart := false, narrowed := true }
def TablePlaysUptoSaid : Prop := tablePlaysUptoRow.holds Try.pinned (OpenSpec.upto tablePlaysSpec)

/-- 'tutorlaw13.TableFills', WHERE WHAT IT READS IS OF BULK AT MOST 1048576: true; the input reads as it did. -/
def tableFillsUptoRow : OpenClaim := { program := "ytednmmcdjhfflaa", sum := "834f8ac6f3426d22ec82fdf214778ea172a6139aa0532fc102b71ddb3a7d9436", func := "tutor/tutorlaw13.TableFills", spec := "tableFills", unfollowed := true, recurses := true, apart := false, narrowed := true }
def TableFillsUptoSaid : Prop := tableFillsUptoRow.holds Try.pinned (OpenSpec.upto tableFillsSpec)

/-- 'tutorlaw13.TableLearns', WHERE WHAT IT READS IS OF BULK AT MOST 1048576: true; the input reads as it did. -/
def tableLearnsUptoRow : OpenClaim := { program := "ytednmmcdjhfflaa", sum := "834f8ac6f3426d22ec82fdf214778ea172a6139aa0532fc102b71ddb3a7d9436", func := "tutor/tutorlaw13.TableLearns", spec := "tableLearns", unfollowed := true, recurses := true, apart := false, narrowed := true }
def TableLearnsUptoSaid : Prop := tableLearnsUptoRow.holds Try.pinned (OpenSpec.upto tableLearnsSpec)

/-- 'tutorlaw13.TableSmall', WHERE WHAT IT READS IS OF BULK AT MOST 1048576: true; the input reads as it did. -/
def tableSmallUptoRow : OpenClaim := { program := "ytednmmcdjhfflaa", sum := "834f8ac6f3426d22ec82fdf214778ea172a6139aa0532fc102b71ddb3a7d9436", func := "tutor/tutorlaw13.TableSmall", spec := "tableSmall", unfollowed := true, recurses := true, apart := false, narrowed := true }
def TableSmallUptoSaid : Prop := tableSmallUptoRow.holds Try.pinned (OpenSpec.upto tableSmallSpec)

/-- 'tutorlaw13.TableOwn', WHERE WHAT IT READS IS OF BULK AT MOST 1048576: true; the input reads as it did. -/
def tableOwnUptoRow : OpenClaim := { program := "ytednmmcdjhfflaa", sum := "834f8ac6f3426d22ec82fdf214778ea172a6139aa0532fc102b71ddb3a7d9436", func := "tutor/tutorlaw13.TableOwn", spec := "tableOwn", unfollowed := true, recurses := true, apart := false, narrowed := true }
def TableOwnUptoSaid : Prop := tableOwnUptoRow.holds Try.pinned (OpenSpec.upto tableOwnSpec)

end Rows
end Go.Proofs.Ytednmmcdjhfflaa
