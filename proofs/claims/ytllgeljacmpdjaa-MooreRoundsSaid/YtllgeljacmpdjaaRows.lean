/-
  No cell of these rows narrows 'for every input' (looked for: loops, veiled, ifaces, maps, wideKeys, modest, calm, conditions, laid).
  DERIVED. THE GIVEN ROWS OF THIS SEAT. 12 by the template 'for every input the law returns true; each argument reads behind the call as it read before'; 0 by the template 'total and deterministic' (their statements: YtllgeljacmpdjaaTotals.lean).
  GIVEN WITH THE SEED: the statements are not yours to turn. If you find one false, say at which input.
  Laid BY PROGRAM, IN A SANDBOX (cutbox-rows.mjs): the forced cells as the released guide's own fill.sh prints them over the translation 79aa40958d989499… (all of the seat's roots in one cut). By AI agents, Wed Nov 11 2026. No macro, syntax, notation, axiom, sorry.
-/
import Derived.Test.YtllgeljacmpdjaaChecked
import GoSem.Claim
import GoSem.ClaimJoined
import GoSem.ClaimMapViews
import Derived.JoinedTies
import Derived.KernelRfl
namespace Go.Proofs.Ytllgeljacmpdjaa
/- THE CELL 'sum', in the pinned program and in every row, IS THE sha256 OF THE DUMP (.gsa) THAT YtllgeljacmpdjaaProg.lean LOADS. Nothing in Lean hashes anything: it is a label: what it is worth is what the hold of that sum in a sandbox is worth. -/
noncomputable def Try.pinned : Pinned := { name := "ytllgeljacmpdjaa", sum := "79aa40958d9894998b61fb9075a5120729af697383f15fa32fab23101de88356", checked := Try.checked }
namespace Rows
def none {H : Type} : Left H := { results := [], args := [] }

/-- 'tutorlaw04.TrimReaches': WHATEVER THE INPUT: true; the input reads as it did. -/
def trimReachesSpec : ChangeSpec := { name := "trimReaches", fn := fun _ => fun
  | [d] => { results := [.lit (.bool true)], args := [d] }
  | _ => none }
def trimReachesRow : OpenClaim := { program := "ytllgeljacmpdjaa", sum := "79aa40958d9894998b61fb9075a5120729af697383f15fa32fab23101de88356", func := "tutor/tutorlaw04.TrimReaches", spec := "trimReaches", plainKeys := false, apart := false }
def TrimReachesSaid : Prop := trimReachesRow.holds Try.pinned (OpenSpec.ofChange trimReachesSpec)

/-- ITS FALSE NEIGHBOUR: 'it returns false'. Refute it at one input. -/
def trimReachesWrong : ChangeSpec := { name := "trimReaches", fn := fun _ => fun
  | [d] => { results := [.lit (.bool false)], args := [d] }
  | _ => none }
def TrimReachesWrongFalsely : Prop := trimReachesRow.holds Try.pinned (OpenSpec.ofChange trimReachesWrong)

/-- 'tutorlaw04.TrimCanons': WHATEVER THE INPUT: true; the input reads as it did. -/
def trimCanonsSpec : ChangeSpec := { name := "trimCanons", fn := fun _ => fun
  | [d] => { results := [.lit (.bool true)], args := [d] }
  | _ => none }
def trimCanonsRow : OpenClaim := { program := "ytllgeljacmpdjaa", sum := "79aa40958d9894998b61fb9075a5120729af697383f15fa32fab23101de88356", func := "tutor/tutorlaw04.TrimCanons", spec := "trimCanons", plainKeys := false, apart := false }
def TrimCanonsSaid : Prop := trimCanonsRow.holds Try.pinned (OpenSpec.ofChange trimCanonsSpec)

/-- ITS FALSE NEIGHBOUR: 'it returns false'. Refute it at one input. -/
def trimCanonsWrong : ChangeSpec := { name := "trimCanons", fn := fun _ => fun
  | [d] => { results := [.lit (.bool false)], args := [d] }
  | _ => none }
def TrimCanonsWrongFalsely : Prop := trimCanonsRow.holds Try.pinned (OpenSpec.ofChange trimCanonsWrong)

/-- 'tutorlaw04.TrimSame': WHATEVER THE INPUT: true; the input reads as it did. -/
def trimSameSpec : ChangeSpec := { name := "trimSame", fn := fun _ => fun
  | [d1, d2] => { results := [.lit (.bool true)], args := [d1, d2] }
  | _ => none }
def trimSameRow : OpenClaim := { program := "ytllgeljacmpdjaa", sum := "79aa40958d9894998b61fb9075a5120729af697383f15fa32fab23101de88356", func := "tutor/tutorlaw04.TrimSame", spec := "trimSame", plainKeys := false, apart := false }
def TrimSameSaid : Prop := trimSameRow.holds Try.pinned (OpenSpec.ofChange trimSameSpec)

/-- ITS FALSE NEIGHBOUR: 'it returns false'. Refute it at one input. -/
def trimSameWrong : ChangeSpec := { name := "trimSame", fn := fun _ => fun
  | [d1, d2] => { results := [.lit (.bool false)], args := [d1, d2] }
  | _ => none }
def TrimSameWrongFalsely : Prop := trimSameRow.holds Try.pinned (OpenSpec.ofChange trimSameWrong)

/-- 'tutorlaw04.TrimLeast': WHATEVER THE INPUT: true; the input reads as it did. -/
def trimLeastSpec : ChangeSpec := { name := "trimLeast", fn := fun _ => fun
  | [d1, d2] => { results := [.lit (.bool true)], args := [d1, d2] }
  | _ => none }
def trimLeastRow : OpenClaim := { program := "ytllgeljacmpdjaa", sum := "79aa40958d9894998b61fb9075a5120729af697383f15fa32fab23101de88356", func := "tutor/tutorlaw04.TrimLeast", spec := "trimLeast", plainKeys := false, apart := false }
def TrimLeastSaid : Prop := trimLeastRow.holds Try.pinned (OpenSpec.ofChange trimLeastSpec)

/-- ITS FALSE NEIGHBOUR: 'it returns false'. Refute it at one input. -/
def trimLeastWrong : ChangeSpec := { name := "trimLeast", fn := fun _ => fun
  | [d1, d2] => { results := [.lit (.bool false)], args := [d1, d2] }
  | _ => none }
def TrimLeastWrongFalsely : Prop := trimLeastRow.holds Try.pinned (OpenSpec.ofChange trimLeastWrong)

/-- 'tutorlaw04.TrimTurns': WHATEVER THE INPUT: true; the input reads as it did. -/
def trimTurnsSpec : ChangeSpec := { name := "trimTurns", fn := fun _ => fun
  | [d1, d2] => { results := [.lit (.bool true)], args := [d1, d2] }
  | _ => none }
def trimTurnsRow : OpenClaim := { program := "ytllgeljacmpdjaa", sum := "79aa40958d9894998b61fb9075a5120729af697383f15fa32fab23101de88356", func := "tutor/tutorlaw04.TrimTurns", spec := "trimTurns", plainKeys := false, apart := false }
def TrimTurnsSaid : Prop := trimTurnsRow.holds Try.pinned (OpenSpec.ofChange trimTurnsSpec)

/-- ITS FALSE NEIGHBOUR: 'it returns false'. Refute it at one input. -/
def trimTurnsWrong : ChangeSpec := { name := "trimTurns", fn := fun _ => fun
  | [d1, d2] => { results := [.lit (.bool false)], args := [d1, d2] }
  | _ => none }
def TrimTurnsWrongFalsely : Prop := trimTurnsRow.holds Try.pinned (OpenSpec.ofChange trimTurnsWrong)

/-- 'tutorlaw04.TrimAgain': WHATEVER THE INPUT: true; the input reads as it did. -/
def trimAgainSpec : ChangeSpec := { name := "trimAgain", fn := fun _ => fun
  | [d1, d2] => { results := [.lit (.bool true)], args := [d1, d2] }
  | _ => none }
def trimAgainRow : OpenClaim := { program := "ytllgeljacmpdjaa", sum := "79aa40958d9894998b61fb9075a5120729af697383f15fa32fab23101de88356", func := "tutor/tutorlaw04.TrimAgain", spec := "trimAgain", plainKeys := false, apart := false }
def TrimAgainSaid : Prop := trimAgainRow.holds Try.pinned (OpenSpec.ofChange trimAgainSpec)

/-- ITS FALSE NEIGHBOUR: 'it returns false'. Refute it at one input. -/
def trimAgainWrong : ChangeSpec := { name := "trimAgain", fn := fun _ => fun
  | [d1, d2] => { results := [.lit (.bool false)], args := [d1, d2] }
  | _ => none }
def TrimAgainWrongFalsely : Prop := trimAgainRow.holds Try.pinned (OpenSpec.ofChange trimAgainWrong)

/-- 'tutorlaw05.MooreAfters': WHATEVER THE INPUT: true; the input reads as it did. -/
def mooreAftersSpec : ChangeSpec := { name := "mooreAfters", fn := fun _ => fun
  | [d1, d2] => { results := [.lit (.bool true)], args := [d1, d2] }
  | _ => none }
def mooreAftersRow : OpenClaim := { program := "ytllgeljacmpdjaa", sum := "79aa40958d9894998b61fb9075a5120729af697383f15fa32fab23101de88356", func := "tutor/tutorlaw05.MooreAfters", spec := "mooreAfters", unfollowed := true, recurses := true, plainKeys := false, apart := false }
def MooreAftersSaid : Prop := mooreAftersRow.holds Try.pinned (OpenSpec.ofChange mooreAftersSpec)

/-- ITS FALSE NEIGHBOUR: 'it returns false'. Refute it at one input. -/
def mooreAftersWrong : ChangeSpec := { name := "mooreAfters", fn := fun _ => fun
  | [d1, d2] => { results := [.lit (.bool false)], args := [d1, d2] }
  | _ => none }
def MooreAftersWrongFalsely : Prop := mooreAftersRow.holds Try.pinned (OpenSpec.ofChange mooreAftersWrong)

/-- 'tutorlaw05.MooreClasses': WHATEVER THE INPUT: true; the input reads as it did. -/
def mooreClassesSpec : ChangeSpec := { name := "mooreClasses", fn := fun _ => fun
  | [d] => { results := [.lit (.bool true)], args := [d] }
  | _ => none }
def mooreClassesRow : OpenClaim := { program := "ytllgeljacmpdjaa", sum := "79aa40958d9894998b61fb9075a5120729af697383f15fa32fab23101de88356", func := "tutor/tutorlaw05.MooreClasses", spec := "mooreClasses", unfollowed := true, recurses := true, plainKeys := false, apart := false }
def MooreClassesSaid : Prop := mooreClassesRow.holds Try.pinned (OpenSpec.ofChange mooreClassesSpec)

/-- ITS FALSE NEIGHBOUR: 'it returns false'. Refute it at one input. -/
def mooreClassesWrong : ChangeSpec := { name := "mooreClasses", fn := fun _ => fun
  | [d] => { results := [.lit (.bool false)], args := [d] }
  | _ => none }
def MooreClassesWrongFalsely : Prop := mooreClassesRow.holds Try.pinned (OpenSpec.ofChange mooreClassesWrong)

/-- 'tutorlaw05.MooreMinimises': WHATEVER THE INPUT: true; the input reads as it did. -/
def mooreMinimisesSpec : ChangeSpec := { name := "mooreMinimises", fn := fun _ => fun
  | [d] => { results := [.lit (.bool true)], args := [d] }
  | _ => none }
def mooreMinimisesRow : OpenClaim := { program := "ytllgeljacmpdjaa", sum := "79aa40958d9894998b61fb9075a5120729af697383f15fa32fab23101de88356", func := "tutor/tutorlaw05.MooreMinimises", spec := "mooreMinimises", unfollowed := true, recurses := true, plainKeys := false, apart := false }
def MooreMinimisesSaid : Prop := mooreMinimisesRow.holds Try.pinned (OpenSpec.ofChange mooreMinimisesSpec)

/-- ITS FALSE NEIGHBOUR: 'it returns false'. Refute it at one input. -/
def mooreMinimisesWrong : ChangeSpec := { name := "mooreMinimises", fn := fun _ => fun
  | [d] => { results := [.lit (.bool false)], args := [d] }
  | _ => none }
def MooreMinimisesWrongFalsely : Prop := mooreMinimisesRow.holds Try.pinned (OpenSpec.ofChange mooreMinimisesWrong)

/-- 'tutorlaw05.MooreSame': WHATEVER THE INPUT: true; the input reads as it did. -/
def mooreSameSpec : ChangeSpec := { name := "mooreSame", fn := fun _ => fun
  | [d1, d2] => { results := [.lit (.bool true)], args := [d1, d2] }
  | _ => none }
def mooreSameRow : OpenClaim := { program := "ytllgeljacmpdjaa", sum := "79aa40958d9894998b61fb9075a5120729af697383f15fa32fab23101de88356", func := "tutor/tutorlaw05.MooreSame", spec := "mooreSame", unfollowed := true, recurses := true, plainKeys := false, apart := false }
def MooreSameSaid : Prop := mooreSameRow.holds Try.pinned (OpenSpec.ofChange mooreSameSpec)

/-- ITS FALSE NEIGHBOUR: 'it returns false'. Refute it at one input. -/
def mooreSameWrong : ChangeSpec := { name := "mooreSame", fn := fun _ => fun
  | [d1, d2] => { results := [.lit (.bool false)], args := [d1, d2] }
  | _ => none }
def MooreSameWrongFalsely : Prop := mooreSameRow.holds Try.pinned (OpenSpec.ofChange mooreSameWrong)

/-- 'tutorlaw05.MooreOne': WHATEVER THE INPUT: true; the input reads as it did. -/
def mooreOneSpec : ChangeSpec := { name := "mooreOne", fn := fun _ => fun
  | [d1, d2] => { results := [.lit (.bool true)], args := [d1, d2] }
  | _ => none }
def mooreOneRow : OpenClaim := { program := "ytllgeljacmpdjaa", sum := "79aa40958d9894998b61fb9075a5120729af697383f15fa32fab23101de88356", func := "tutor/tutorlaw05.MooreOne", spec := "mooreOne", unfollowed := true, recurses := true, plainKeys := false, apart := false }
def MooreOneSaid : Prop := mooreOneRow.holds Try.pinned (OpenSpec.ofChange mooreOneSpec)

/-- ITS FALSE NEIGHBOUR: 'it returns false'. Refute it at one input. -/
def mooreOneWrong : ChangeSpec := { name := "mooreOne", fn := fun _ => fun
  | [d1, d2] => { results := [.lit (.bool false)], args := [d1, d2] }
  | _ => none }
def MooreOneWrongFalsely : Prop := mooreOneRow.holds Try.pinned (OpenSpec.ofChange mooreOneWrong)

/-- 'tutorlaw05.MooreRounds': WHATEVER THE INPUT: true; the input reads as it did. -/
def mooreRoundsSpec : ChangeSpec := { name := "mooreRounds", fn := fun _ => fun
  | [d1, d2, d3, d4] => { results := [.lit (.bool true)], args := [d1, d2, d3, d4] }
  | _ => none }
def mooreRoundsRow : OpenClaim := { program := "ytllgeljacmpdjaa", sum := "79aa40958d9894998b61fb9075a5120729af697383f15fa32fab23101de88356", func := "tutor/tutorlaw05.MooreRounds", spec := "mooreRounds", unfollowed := true, recurses := true, plainKeys := false, apart := false }
def MooreRoundsSaid : Prop := mooreRoundsRow.holds Try.pinned (OpenSpec.ofChange mooreRoundsSpec)

/-- ITS FALSE NEIGHBOUR: 'it returns false'. Refute it at one input. -/
def mooreRoundsWrong : ChangeSpec := { name := "mooreRounds", fn := fun _ => fun
  | [d1, d2, d3, d4] => { results := [.lit (.bool false)], args := [d1, d2, d3, d4] }
  | _ => none }
def MooreRoundsWrongFalsely : Prop := mooreRoundsRow.holds Try.pinned (OpenSpec.ofChange mooreRoundsWrong)

/- THE SECOND FORM. 'bulk': how many values and letters a reading holds, each counted each time it is reached (what is shared counts as often as it is met; a slice's spare places count too). A statement '..UptoSaid' is the law's where the arguments, and the package variables that the reading takes, are together of bulk at most 1048576: NARROWER than '..Said'. Prove '..Said' where nothing that the law and all that it calls make is longer than what came in: it says more and counts as full. Else prove '..UptoSaid'. A law counts once. -/
mutual
def uptoBulk {H : Type} : DataW H → Nat
  | .lit (.string bytes) => bytes.length + 1
  | .lit _ => 1
  | .nil => 1
  | .ptr d => uptoBulk d + 1
  | .slice elems spare => uptoBulkAll elems + uptoBulkAll spare + 1
  | .agg parts => uptoBulkAll parts + 1
  | .iface _ d => uptoBulk d + 1
  | .map entries => uptoBulkEntries entries + 1
  | .held _ => 1
def uptoBulkAll {H : Type} : List (DataW H) → Nat
  | [] => 0
  | d :: r => uptoBulk d + uptoBulkAll r
def uptoBulkEntries {H : Type} : List (Lit × DataW H) → Nat
  | [] => 0
  | x :: r => uptoBulkEntry x + uptoBulkEntries r
def uptoBulkEntry {H : Type} : Lit × DataW H → Nat
  | (.string bytes, d) => bytes.length + uptoBulk d + 1
  | (_, d) => uptoBulk d + 1
 end
def uptoSmall : (H : Type) → List (DataW H) → Bool := fun _ ds => decide (uptoBulkAll ds ≤ 1048576)
def OpenSpec.upto (s : _root_.Go.ChangeSpec) : _root_.Go.OpenSpec := { _root_.Go.OpenSpec.ofChange s with cond := some uptoSmall }

/-- 'tutorlaw04.TrimReaches', WHERE WHAT IT READS IS OF BULK AT MOST 1048576: true; the input reads as it did. -/
def trimReachesUptoRow : OpenClaim := { program := "ytllgeljacmpdjaa", sum := "79aa40958d9894998b61fb9075a5120729af697383f15fa32fab23101de88356", func := "tutor/tutorlaw04.TrimReaches", spec := "trimReaches", plainKeys := false, apart := false, narrowed := true }
def TrimReachesUptoSaid : Prop := trimReachesUptoRow.holds Try.pinned (OpenSpec.upto trimReachesSpec)

/-- 'tutorlaw04.TrimCanons', WHERE WHAT IT READS IS OF BULK AT MOST 1048576: true; the input reads as it did. -/
def trimCanonsUptoRow : OpenClaim := { program := "ytllgeljacmpdjaa", sum := "79aa40958d9894998b61fb9075a5120729af697383f15fa32fab23101de88356", func := "tutor/tutorlaw04.TrimCanons", spec := "trimCanons", plainKeys := false, apart := false, narrowed := true }
def TrimCanonsUptoSaid : Prop := trimCanonsUptoRow.holds Try.pinned (OpenSpec.upto trimCanonsSpec)

/-- 'tutorlaw04.TrimSame', WHERE WHAT IT READS IS OF BULK AT MOST 1048576: true; the input reads as it did. -/
def trimSameUptoRow : OpenClaim := { program := "ytllgeljacmpdjaa", sum := "79aa40958d9894998b61fb9075a5120729af697383f15fa32fab23101de88356", func := "tutor/tutorlaw04.TrimSame", spec := "trimSame", plainKeys := false, apart := false, narrowed := true }
def TrimSameUptoSaid : Prop := trimSameUptoRow.holds Try.pinned (OpenSpec.upto trimSameSpec)

/-- 'tutorlaw04.TrimLeast', WHERE WHAT IT READS IS OF BULK AT MOST 1048576: true; the input reads as it did. -/
def trimLeastUptoRow : OpenClaim := { program := "ytllgeljacmpdjaa", sum := "79aa40958d9894998b61fb9075a5120729af697383f15fa32fab23101de88356", func := "tutor/tutorlaw04.TrimLeast", spec := "trimLeast", plainKeys := false, apart := false, narrowed := true }
def TrimLeastUptoSaid : Prop := trimLeastUptoRow.holds Try.pinned (OpenSpec.upto trimLeastSpec)

/-- 'tutorlaw04.TrimTurns', WHERE WHAT IT READS IS OF BULK AT MOST 1048576: true; the input reads as it did. -/
def trimTurnsUptoRow : OpenClaim := { program := "ytllgeljacmpdjaa", sum := "79aa40958d9894998b61fb9075a5120729af697383f15fa32fab23101de88356", func := "tutor/tutorlaw04.TrimTurns", spec := "trimTurns", plainKeys := false, apart := false, narrowed := true }
def TrimTurnsUptoSaid : Prop := trimTurnsUptoRow.holds Try.pinned (OpenSpec.upto trimTurnsSpec)

/-- 'tutorlaw04.TrimAgain', WHERE WHAT IT READS IS OF BULK AT MOST 1048576: true; the input reads as it did. -/
def trimAgainUptoRow : OpenClaim := { program := "ytllgeljacmpdjaa", sum := "79aa40958d9894998b61fb9075a5120729af697383f15fa32fab23101de88356", func := "tutor/tutorlaw04.TrimAgain", spec := "trimAgain", plainKeys := false, apart := false, narrowed := true }
def TrimAgainUptoSaid : Prop := trimAgainUptoRow.holds Try.pinned (OpenSpec.upto trimAgainSpec)

/-- 'tutorlaw05.MooreAfters', WHERE WHAT IT READS IS OF BULK AT MOST 1048576: true; the input reads as it did. -/
def mooreAftersUptoRow : OpenClaim := { program := "ytllgeljacmpdjaa", sum := "79aa40958d9894998b61fb9075a5120729af697383f15fa32fab23101de88356", func := "tutor/tutorlaw05.MooreAfters", spec := "mooreAfters", unfollowed := true, recurses := true, plainKeys := false, apart := false, narrowed := true }
def MooreAftersUptoSaid : Prop := mooreAftersUptoRow.holds Try.pinned (OpenSpec.upto mooreAftersSpec)

/-- 'tutorlaw05.MooreClasses', WHERE WHAT IT READS IS OF BULK AT MOST 1048576: true; the input reads as it did. -/
def mooreClassesUptoRow : OpenClaim := { program := "ytllgeljacmpdjaa", sum := "79aa40958d9894998b61fb9075a5120729af697383f15fa32fab23101de88356", func := "tutor/tutorlaw05.MooreClasses", spec := "mooreClasses", unfollowed := true, recurses := true, plainKeys := false, apart := false, narrowed := true }
def MooreClassesUptoSaid : Prop := mooreClassesUptoRow.holds Try.pinned (OpenSpec.upto mooreClassesSpec)

/-- 'tutorlaw05.MooreMinimises', WHERE WHAT IT READS IS OF BULK AT MOST 1048576: true; the input reads as it did. -/
def mooreMinimisesUptoRow : OpenClaim := { program := "ytllgeljacmpdjaa", sum := "79aa40958d9894998b61fb9075a5120729af697383f15fa32fab23101de88356", func := "tutor/tutorlaw05.MooreMinimises", spec := "mooreMinimises", unfollowed := true, recurses := true, plainKeys := false, apart := false, narrowed := true }
def MooreMinimisesUptoSaid : Prop := mooreMinimisesUptoRow.holds Try.pinned (OpenSpec.upto mooreMinimisesSpec)

/-- 'tutorlaw05.MooreSame', WHERE WHAT IT READS IS OF BULK AT MOST 1048576: true; the input reads as it did. -/
def mooreSameUptoRow : OpenClaim := { program := "ytllgeljacmpdjaa", sum := "79aa40958d9894998b61fb9075a5120729af697383f15fa32fab23101de88356", func := "tutor/tutorlaw05.MooreSame", spec := "mooreSame", unfollowed := true, recurses := true, plainKeys := false, apart := false, narrowed := true }
def MooreSameUptoSaid : Prop := mooreSameUptoRow.holds Try.pinned (OpenSpec.upto mooreSameSpec)

/-- 'tutorlaw05.MooreOne', WHERE WHAT IT READS IS OF BULK AT MOST 1048576: true; the input reads as it did. -/
def mooreOneUptoRow : OpenClaim := { program := "ytllgeljacmpdjaa", sum := "79aa40958d9894998b61fb9075a5120729af697383f15fa32fab23101de88356", func := "tutor/tutorlaw05.MooreOne", spec := "mooreOne", unfollowed := true, recurses := true, plainKeys := false, apart := false, narrowed := true }
def MooreOneUptoSaid : Prop := mooreOneUptoRow.holds Try.pinned (OpenSpec.upto mooreOneSpec)

/-- 'tutorlaw05.MooreRounds', WHERE WHAT IT READS IS OF BULK AT MOST 1048576: true; the input reads as it did. -/
def mooreRoundsUptoRow : OpenClaim := { program := "ytllgeljacmpdjaa", sum := "79aa40958d9894998b61fb9075a5120729af697383f15fa32fab23101de88356", func := "tutor/tutorlaw05.MooreRounds", spec := "mooreRounds", unfollowed := true, recurses := true, plainKeys := false, apart := false, narrowed := true }
def MooreRoundsUptoSaid : Prop := mooreRoundsUptoRow.holds Try.pinned (OpenSpec.upto mooreRoundsSpec)

end Rows
end Go.Proofs.Ytllgeljacmpdjaa
