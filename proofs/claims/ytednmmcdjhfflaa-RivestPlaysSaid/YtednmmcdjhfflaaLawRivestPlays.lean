/-
  The row 'RivestPlays': the law returns true; each argument reads as it did.
-/
import Derived.Test.YtednmmcdjhfflaaRows
import Derived.Test.YtednmmcdjhfflaaR19
import Derived.Test.YtednmmcdjhfflaaRG
import Derived.ProofKit
import Derived.OpenShut
import Derived.SizedLaws
import Derived.Below
namespace Go.Proofs.Ytednmmcdjhfflaa.rivestPlays
open Go Go.ChangeShapes Go.WideShapes Go.ChangeAt Go.RowKit Go.Proofs.Ytednmmcdjhfflaa.Vai
set_option linter.unusedVariables false
theorem own : ownKnob Try.prog.godebug = none := by kernel_rfl
theorem laidOut : laidOutB Try.prog = true := by kernel_rfl
set_option maxRecDepth 100000 in
theorem lifted (os : Os) (started : os.Started) (H : Type) (enc : TypeId × Value → H) :
    ReturnsInHanded {} Try.checked os 7 .any (Rows.rivestPlaysSpec.pre6 enc Try.prog Try.f7 Rows.rivestPlaysRow.domain false) (Rows.rivestPlaysSpec.post enc Try.prog Try.f7 false true false false) := by
  refine returnsInHanded_of_change_sized (C := Try.checked) own started (by kernel_rfl) Try.func7
    (ChangeSpec.witness6 (enc := enc) (C := Try.checked) false ⟨#[], #[.int .i64 0, .agg #[.int .i64 0, .int .i64 0, .int .i64 0, .int .i64 0, .slice none 0 0, .slice none 0 0], .slice none 0 0, .slice none 0 0, .slice none 0 0, .agg #[.int .i64 0, .int .i64 0, .int .i64 0, .int .i64 0, .slice none 0 0, .slice none 0 0]], []⟩ 8 (by kernel_rfl) (by kernel_rfl) (by kernel_rfl) (by kernel_rfl)) ?_
  intro W base args ds gs before hval0 hW hcnd hsz0 _
  have hval : ∀ (j : Nat) t v, Try.f7.params[j]? = some t → args[j]? = some v → Value.okWide Try.prog W .any base t v := hval0
  have hW' := hW
  obtain ⟨p, q, hA0, hV, rfl, hfz, hnd⟩ := hW
  have hA : DataW.TrodAll enc Try.prog W 0 (fun _ => true) true Try.f7.params.toList args.toList ds p := hA0
  rw [Try.params7] at hA hval
  obtain ⟨v0, vs0, d0, ds0, p0, q0, hargs, rfl, rfl, h0, r0⟩ := trodAll_cons hA
  obtain ⟨v1, vs1, d1, ds1, p1, q1, rfl, rfl, rfl, h1, r1⟩ := trodAll_cons r0
  obtain ⟨v2, vs2, d2, ds2, p2, q2, rfl, rfl, rfl, h2, r2⟩ := trodAll_cons r1
  obtain ⟨v3, vs3, d3, ds3, p3, q3, rfl, rfl, rfl, h3, r3⟩ := trodAll_cons r2
  obtain ⟨v4, vs4, d4, ds4, p4, q4, rfl, rfl, rfl, h4, r4⟩ := trodAll_cons r3
  obtain ⟨v5, vs5, d5, ds5, p5, q5, rfl, rfl, rfl, h5, r5⟩ := trodAll_cons r4
  obtain ⟨rfl, rfl, rfl⟩ := trodAll_nil r5
  obtain rfl : args = #[v0, v1, v2, v3, v4, v5] := by cases args; simp_all
  obtain ⟨rfl, rfl⟩ := trodVars_none hV
  have k0 := h0
  obtain ⟨a0, rfl, rfl, rfl, w0⟩ := open_int Try.underlying3 (hval 0 3 v0 rfl rfl) h0
  have e0 : Rel (.fr (fzW W) W.heap.size) (.int .i64 a0) (.int .i64 a0) := rfl
  have k1 := h1
  have lt1 : ∀ x ∈ p1, x.block < W.heap.size := by obtain ⟨m, hm⟩ := k1; exact DataW.trod_lt m _ _ _ hm
  obtain ⟨a1, e1, i1, j1⟩ := arg_mach (N := W.heap.size) (hval 1 31 v1 rfl rfl) h1
  have k2 := h2
  have lt2 : ∀ x ∈ p2, x.block < W.heap.size := by obtain ⟨m, hm⟩ := k2; exact DataW.trod_lt m _ _ _ hm
  obtain ⟨a2, e2, i2, j2⟩ : ∃ l : List (List Int), Rel (.fr (fzW W) W.heap.size) (rowW 1 l) v2 ∧ (∀ u ∈ l, InR u ∧ u.length ≤ 9223372036854775807) ∧ l.length ≤ 9223372036854775807 := by obtain ⟨m, hm⟩ := h2; obtain ⟨x, y, z, rfl⟩ := okWide_slice Try.underlying32 (hval 2 32 v2 rfl rfl); exact arg_rows hm
  have k3 := h3
  have lt3 : ∀ x ∈ p3, x.block < W.heap.size := by obtain ⟨m, hm⟩ := k3; exact DataW.trod_lt m _ _ _ hm
  obtain ⟨a3, e3, i3, j3⟩ : ∃ l : List Int, Rel (.fr (fzW W) W.heap.size) (rowI 1 l) v3 ∧ InR l ∧ l.length ≤ 9223372036854775807 := by obtain ⟨m, hm⟩ := h3; obtain ⟨x, y, z, rfl⟩ := okWide_slice Try.underlying29 (hval 3 29 v3 rfl rfl); exact arg_row hm
  have k4 := h4
  have lt4 : ∀ x ∈ p4, x.block < W.heap.size := by obtain ⟨m, hm⟩ := k4; exact DataW.trod_lt m _ _ _ hm
  obtain ⟨a4, e4, i4, j4⟩ : ∃ l : List (List Int), Rel (.fr (fzW W) W.heap.size) (rowW 1 l) v4 ∧ (∀ u ∈ l, InR u ∧ u.length ≤ 9223372036854775807) ∧ l.length ≤ 9223372036854775807 := by obtain ⟨m, hm⟩ := h4; obtain ⟨x, y, z, rfl⟩ := okWide_slice Try.underlying32 (hval 4 32 v4 rfl rfl); exact arg_rows hm
  have k5 := h5
  have lt5 : ∀ x ∈ p5, x.block < W.heap.size := by obtain ⟨m, hm⟩ := k5; exact DataW.trod_lt m _ _ _ hm
  obtain ⟨a5, e5, i5, j5⟩ := arg_mach (N := W.heap.size) (hval 5 31 v5 rfl rfl) h5
  clear hA0 hval0 hsz0
  have hok := (plays_ok (how := a0) (h := a1) (acc := a2) (w := a3) (told := a4) (m := a5) i1 j1 j2 j3 (fun u hu => (i4 u hu).2)) W (fzW W) [(.int .i64 a0), v1, v2, v3, v4, v5] fzW_ok ⟨_, _, rfl, e0, _, _, rfl, e1, _, _, rfl, e2, _, _, rfl, e3, _, _, rfl, e4, _, _, rfl, e5, rfl⟩
  refine hok.2.mono ?_
  rintro e W' ⟨v, fz', rfl, bel, _, _, _, hv⟩
  obtain rfl : v = .bool true := hv
  exact ⟨_, rfl, _, _, _, [], _, [], hW', trodAll_mk1 (shut_bool Try.underlying4 _), (trodAll_cons_mk (shut_int Try.underlying3 w0) (trodAll_cons_mk (Below.trod laidOut (by kernel_rfl) (of_decide_eq_true (by kernel_rfl)) k1 bel lt1) (trodAll_cons_mk (Below.trod laidOut (by kernel_rfl) (of_decide_eq_true (by kernel_rfl)) k2 bel lt2) (trodAll_cons_mk (Below.trod laidOut (by kernel_rfl) (of_decide_eq_true (by kernel_rfl)) k3 bel lt3) (trodAll_cons_mk (Below.trod laidOut (by kernel_rfl) (of_decide_eq_true (by kernel_rfl)) k4 bel lt4) (trodAll_cons_mk (Below.trod laidOut (by kernel_rfl) (of_decide_eq_true (by kernel_rfl)) k5 bel lt5) trodAll_mk0)))))), rfl, bel.frame _, fun h => by cases h⟩
theorem over : Rows.rivestPlaysRow.holds Try.pinned (OpenSpec.ofChange Rows.rivestPlaysSpec) :=
  OpenClaim.holds_of_wide 7 Try.f7 rfl rfl rfl rfl rfl rfl rfl ⟨rfl, rfl, rfl, rfl, rfl⟩ rfl rfl rfl rfl rfl (by kernel_rfl) Try.func7 (by kernel_rfl)
    (of_decide_eq_true (by kernel_rfl)) (by unfold Func.isWrapper; first | (rw [if_pos (by decide +kernel)]; kernel_rfl) | (rw [if_neg (by decide +kernel)]; exact ⟨rfl, rfl⟩))
    (fun os started H enc _ => lifted os started H enc)
end Go.Proofs.Ytednmmcdjhfflaa.rivestPlays
namespace Go.Proofs.Ytednmmcdjhfflaa
theorem rivestPlays_holds : Rows.RivestPlaysSaid := rivestPlays.over
#print axioms rivestPlays_holds
end Go.Proofs.Ytednmmcdjhfflaa
