/-
  The row 'KearnsNils': the law returns true; each argument reads as it did.
-/
import Derived.Test.YtbkmnpclldgojaaGreatRows
import Derived.Test.YtbkmnpclldgojaaGreatRunKearnsNils
import Derived.ProofKit
import Derived.SizedLaws
import Derived.Lib.SmallJoins
namespace Go.Proofs.YtbkmnpclldgojaaGreat
open Go.ChangeShapes Go.WideShapes Go.ChangeAt Go.RowKit

theorem Tryz.ownKearnsNils : ownKnob Tryz.prog.godebug = none := by kernel_rfl
theorem Tryz.laidOut : laidOutB Tryz.prog = true := by kernel_rfl

set_option maxRecDepth 100000 in
theorem kearnsNils_lifted (os : Os) (started : os.Started) (H : Type) (enc : TypeId × Value → H) :
    ReturnsInHanded {} Tryz.checked os 3 .any (Rows.kearnsNilsSpec.pre6 enc Tryz.prog Tryz.f3 Rows.kearnsNilsRow.domain false) (Rows.kearnsNilsSpec.post enc Tryz.prog Tryz.f3 false true false false) := by
  refine returnsInHanded_of_change (C := Tryz.checked) Tryz.ownKearnsNils started (by kernel_rfl) Tryz.func3
    (ChangeSpec.witness6 (enc := enc) (C := Tryz.checked) false ⟨#[], #[.agg #[.int .i64 0, .slice none 0 0, .slice none 0 0]], []⟩ 8 (by kernel_rfl) (by kernel_rfl) (by kernel_rfl) (by kernel_rfl)) ?_
  intro W base args ds gs before hval0 hW _ _
  have hval : ∀ (j : Nat) t v, Tryz.f3.params[j]? = some t → args[j]? = some v → Value.okWide Tryz.prog W .any base t v := hval0
  have hW' := hW
  obtain ⟨p, q, hA0, hV, rfl, _, _⟩ := hW
  have hA : DataW.TrodAll enc Tryz.prog W 0 (fun _ => true) true Tryz.f3.params.toList args.toList ds p := hA0
  rw [Tryz.params3] at hA hval
  obtain ⟨v0, d0, rfl, rfl, h0⟩ := trodAll_one hA
  obtain ⟨rfl, rfl⟩ := trodVars_none hV
  have hs : ∃ n0 a1 l1 c1 a2 l2 c2, v0 = .agg #[.int .i64 n0, .slice a1 l1 c1, .slice a2 l2 c2] := by
    obtain ⟨c0, c1, c2, y0, y1, y2, m, rfl, _, _, g0, g1, g2⟩ := Go.Joins.open_agg3 Tryz.underlying24 (by kernel_rfl) (by kernel_rfl : Tryz.prog.cellsOf 24 = 3) (hval 0 24 v0 rfl rfl) h0
    obtain ⟨n, e0, _, _⟩ := DataW.trod_int Tryz.underlying3 g0
    obtain ⟨_, _, _, e1⟩ := Go.Joins.slice_form Tryz.underlying22 g1
    obtain ⟨_, _, _, e2⟩ := Go.Joins.slice_form Tryz.underlying22 g2
    simp only [List.cons.injEq, and_true] at e0 e1 e2
    subst e0 e1 e2
    exact ⟨_, _, _, _, _, _, _, rfl⟩
  obtain ⟨n0, a1, l1, c1, a2, l2, c2, rfl⟩ := hs
  clear hA0 hval0 hval
  simp only [List.append_nil] at hW'
  refine (Vai.walkKearnsNils n0 a1 l1 c1 a2 l2 c2 W).mono fun e W' ⟨he, hn⟩ => ?_
  subst he
  have hlt : ∀ x ∈ p, x.block < W.heap.size := fun x hx => hW'.lt x (by simpa using hx)
  exact ⟨_, rfl, _, _, _, [], p, [], hW', trodAll_mk1 (shut_bool Tryz.underlying4 true),
    trodAll_mk1 (Below.trod Tryz.laidOut (by kernel_rfl) (of_decide_eq_true (by kernel_rfl)) h0 hn hlt),
    rfl, hn.frame _, fun h => by cases h⟩

theorem kearnsNils_holds : Rows.KearnsNilsSaid :=
  OpenClaim.holds_of_wide 3 Tryz.f3 rfl rfl rfl rfl rfl rfl rfl ⟨rfl, rfl, rfl, rfl, rfl⟩ rfl rfl rfl rfl rfl (by kernel_rfl) Tryz.func3 (by kernel_rfl)
    (of_decide_eq_true (by kernel_rfl)) (by unfold Func.isWrapper; first | (rw [if_pos (by decide +kernel)]; kernel_rfl) | (rw [if_neg (by decide +kernel)]; exact ⟨rfl, rfl⟩))
    (fun os started H enc _ => kearnsNils_lifted os started H enc)

end Go.Proofs.YtbkmnpclldgojaaGreat
