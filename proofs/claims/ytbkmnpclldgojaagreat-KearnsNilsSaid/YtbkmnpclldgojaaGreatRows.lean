/-
  No cell of these rows narrows 'for every input' (looked for: loops, veiled, ifaces, maps, wideKeys, modest, calm, conditions, laid).
  DERIVED. THE GIVEN ROWS OF THIS SEAT. 4 by the template 'for every input the law returns true; each argument reads behind the call as it read before'; 0 by the template 'total and deterministic' (their statements: YtbkmnpclldgojaaGreatTotals.lean).
  GIVEN WITH THE SEED: the statements are not yours to turn. If you find one false, say at which input.
  Laid BY PROGRAM, IN A SANDBOX (cutbox-rows.mjs): the forced cells as the released guide's own fill.sh prints them over the translation 456c64187d05ecb4… (all of the seat's roots in one cut). By AI agents, Wed Nov 11 2026. No macro, syntax, notation, axiom, sorry.
-/
import Derived.Test.YtbkmnpclldgojaaGreatChecked
import GoSem.Claim
import GoSem.ClaimJoined
import GoSem.ClaimMapViews
import Derived.JoinedTies
import Derived.KernelRfl
namespace Go.Proofs.YtbkmnpclldgojaaGreat
/- THE CELL 'sum', in the pinned program and in every row, IS THE sha256 OF THE DUMP (.gsa) THAT YtbkmnpclldgojaaGreatProg.lean LOADS. Nothing in Lean hashes anything: it is a label: what it is worth is what the hold of that sum in a sandbox is worth. -/
noncomputable def Tryz.pinned : Pinned := { name := "ytbkmnpclldgojaagreat", sum := "456c64187d05ecb4943179ab3c28cf3934933a63fd79dd48c878087176627619", checked := Tryz.checked }
namespace Rows
def none {H : Type} : Left H := { results := [], args := [] }

/-- 'tutorlaw24.KearnsNils': WHATEVER THE INPUT: true; the input reads as it did. -/
def kearnsNilsSpec : ChangeSpec := { name := "kearnsNils", fn := fun _ => fun
  | [d] => { results := [.lit (.bool true)], args := [d] }
  | _ => none }
def kearnsNilsRow : OpenClaim := { program := "ytbkmnpclldgojaagreat", sum := "456c64187d05ecb4943179ab3c28cf3934933a63fd79dd48c878087176627619", func := "tutor/tutorlaw24.KearnsNils", spec := "kearnsNils", unfollowed := true, recurses := true, plainKeys := false, apart := false }
def KearnsNilsSaid : Prop := kearnsNilsRow.holds Tryz.pinned (OpenSpec.ofChange kearnsNilsSpec)

/-- ITS FALSE NEIGHBOUR: 'it returns false'. Refute it at one input. -/
def kearnsNilsWrong : ChangeSpec := { name := "kearnsNils", fn := fun _ => fun
  | [d] => { results := [.lit (.bool false)], args := [d] }
  | _ => none }
def KearnsNilsWrongFalsely : Prop := kearnsNilsRow.holds Tryz.pinned (OpenSpec.ofChange kearnsNilsWrong)

/-- 'tutorlaw23.LstarNils': WHATEVER THE INPUT: true; the input reads as it did. -/
def lstarNilsSpec : ChangeSpec := { name := "lstarNils", fn := fun _ => fun
  | [d] => { results := [.lit (.bool true)], args := [d] }
  | _ => none }
def lstarNilsRow : OpenClaim := { program := "ytbkmnpclldgojaagreat", sum := "456c64187d05ecb4943179ab3c28cf3934933a63fd79dd48c878087176627619", func := "tutor/tutorlaw23.LstarNils", spec := "lstarNils", unfollowed := true, recurses := true, plainKeys := false, apart := false }
def LstarNilsSaid : Prop := lstarNilsRow.holds Tryz.pinned (OpenSpec.ofChange lstarNilsSpec)

/-- ITS FALSE NEIGHBOUR: 'it returns false'. Refute it at one input. -/
def lstarNilsWrong : ChangeSpec := { name := "lstarNils", fn := fun _ => fun
  | [d] => { results := [.lit (.bool false)], args := [d] }
  | _ => none }
def LstarNilsWrongFalsely : Prop := lstarNilsRow.holds Tryz.pinned (OpenSpec.ofChange lstarNilsWrong)

/-- 'tutorlaw26.OracleChecks': WHATEVER THE INPUT: true; the input reads as it did. -/
def oracleChecksSpec : ChangeSpec := { name := "oracleChecks", fn := fun _ => fun
  | [d] => { results := [.lit (.bool true)], args := [d] }
  | _ => none }
def oracleChecksRow : OpenClaim := { program := "ytbkmnpclldgojaagreat", sum := "456c64187d05ecb4943179ab3c28cf3934933a63fd79dd48c878087176627619", func := "tutor/tutorlaw26.OracleChecks", spec := "oracleChecks", unfollowed := true, recurses := true, plainKeys := false, apart := false }
def OracleChecksSaid : Prop := oracleChecksRow.holds Tryz.pinned (OpenSpec.ofChange oracleChecksSpec)

/-- ITS FALSE NEIGHBOUR: 'it returns false'. Refute it at one input. -/
def oracleChecksWrong : ChangeSpec := { name := "oracleChecks", fn := fun _ => fun
  | [d] => { results := [.lit (.bool false)], args := [d] }
  | _ => none }
def OracleChecksWrongFalsely : Prop := oracleChecksRow.holds Tryz.pinned (OpenSpec.ofChange oracleChecksWrong)

/-- 'tutorlaw26.OracleNils': WHATEVER THE INPUT: true; the input reads as it did. -/
def oracleNilsSpec : ChangeSpec := { name := "oracleNils", fn := fun _ => fun
  | [d] => { results := [.lit (.bool true)], args := [d] }
  | _ => none }
def oracleNilsRow : OpenClaim := { program := "ytbkmnpclldgojaagreat", sum := "456c64187d05ecb4943179ab3c28cf3934933a63fd79dd48c878087176627619", func := "tutor/tutorlaw26.OracleNils", spec := "oracleNils", unfollowed := true, recurses := true, plainKeys := false, apart := false }
def OracleNilsSaid : Prop := oracleNilsRow.holds Tryz.pinned (OpenSpec.ofChange oracleNilsSpec)

/-- ITS FALSE NEIGHBOUR: 'it returns false'. Refute it at one input. -/
def oracleNilsWrong : ChangeSpec := { name := "oracleNils", fn := fun _ => fun
  | [d] => { results := [.lit (.bool false)], args := [d] }
  | _ => none }
def OracleNilsWrongFalsely : Prop := oracleNilsRow.holds Tryz.pinned (OpenSpec.ofChange oracleNilsWrong)

/- THE SECOND FORM. 'bulk': how many values and letters a reading holds, each counted each time it is reached (what is shared counts as often as it is met; a slice's spare places count too). A statement '..UptoSaid' is the law's where the arguments, and the package variables that the reading takes, are together of bulk at most 1048576: NARROWER than '..Said'. Prove '..Said' where nothing that the law and all that it calls make is longer than what came in: it says more and counts as full. Else prove '..UptoSaid'. A law counts once. -/
mutual
def uptoBulk {H : Type} : DataW H → Nat
  | .lit (.string bytes) => bytes.length + 1
  | .lit _ => 1
  | .nil => 1
  | .ptr d => uptoBulk d + 1
  | .slice elems spare => uptoBulkAll elems + uptoBulkAll spare + 1
  | .agg parts => uptoBulkAll parts + 1
  | .iface _ d => uptoBulk d + 1
  | .map entries => uptoBulkEntries entries + 1
  | .held _ => 1
def uptoBulkAll {H : Type} : List (DataW H) → Nat
  | [] => 0
  | d :: r => uptoBulk d + uptoBulkAll r
def uptoBulkEntries {H : Type} : List (Lit × DataW H) → Nat
  | [] => 0
  | x :: r => uptoBulkEntry x + uptoBulkEntries r
def uptoBulkEntry {H : Type} : Lit × DataW H → Nat
  | (.string bytes, d) => bytes.length + uptoBulk d + 1
  | (_, d) => uptoBulk d + 1
 end
def uptoSmall : (H : Type) → List (DataW H) → Bool := fun _ ds => decide (uptoBulkAll ds ≤ 1048576)
def OpenSpec.upto (s : _root_.Go.ChangeSpec) : _root_.Go.OpenSpec := { _root_.Go.OpenSpec.ofChange s with cond := some uptoSmall }

/-- 'tutorlaw24.KearnsNils', WHERE WHAT IT READS IS OF BULK AT MOST 1048576: true; the input reads as it did. -/
def kearnsNilsUptoRow : OpenClaim := { program := "ytbkmnpclldgojaagreat", sum := "456c64187d05ecb4943179ab3c28cf3934933a63fd79dd48c878087176627619", func := "tutor/tutorlaw24.KearnsNils", spec := "kearnsNils", unfollowed := true, recurses := true, plainKeys := false, apart := false, narrowed := true }
def KearnsNilsUptoSaid : Prop := kearnsNilsUptoRow.holds Tryz.pinned (OpenSpec.upto kearnsNilsSpec)

/-- 'tutorlaw23.LstarNils', WHERE WHAT IT READS IS OF BULK AT MOST 1048576: true; the input reads as it did. -/
def lstarNilsUptoRow : OpenClaim := { program := "ytbkmnpclldgojaagreat", sum := "456c64187d05ecb4943179ab3c28cf3934933a63fd79dd48c878087176627619", func := "tutor/tutorlaw23.LstarNils", spec := "lstarNils", unfollowed := true, recurses := true, plainKeys := false, apart := false, narrowed := true }
def LstarNilsUptoSaid : Prop := lstarNilsUptoRow.holds Tryz.pinned (OpenSpec.upto lstarNilsSpec)

/-- 'tutorlaw26.OracleChecks', WHERE WHAT IT READS IS OF BULK AT MOST 1048576: true; the input reads as it did. -/
def oracleChecksUptoRow : OpenClaim := { program := "ytbkmnpclldgojaagreat", sum := "456c64187d05ecb4943179ab3c28cf3934933a63fd79dd48c878087176627619", func := "tutor/tutorlaw26.OracleChecks", spec := "oracleChecks", unfollowed := true, recurses := true, plainKeys := false, apart := false, narrowed := true }
def OracleChecksUptoSaid : Prop := oracleChecksUptoRow.holds Tryz.pinned (OpenSpec.upto oracleChecksSpec)

/-- 'tutorlaw26.OracleNils', WHERE WHAT IT READS IS OF BULK AT MOST 1048576: true; the input reads as it did. -/
def oracleNilsUptoRow : OpenClaim := { program := "ytbkmnpclldgojaagreat", sum := "456c64187d05ecb4943179ab3c28cf3934933a63fd79dd48c878087176627619", func := "tutor/tutorlaw26.OracleNils", spec := "oracleNils", unfollowed := true, recurses := true, plainKeys := false, apart := false, narrowed := true }
def OracleNilsUptoSaid : Prop := oracleNilsUptoRow.holds Tryz.pinned (OpenSpec.upto oracleNilsSpec)

end Rows
end Go.Proofs.YtbkmnpclldgojaaGreat
