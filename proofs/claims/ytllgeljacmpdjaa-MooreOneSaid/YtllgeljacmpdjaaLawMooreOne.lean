/- The row of the law MooreOne, out of its pure statement and the walk. -/
import Derived.Test.YtllgeljacmpdjaaRows
import Derived.Test.YtllgeljacmpdjaaPTrimxf13
import Derived.Test.YtllgeljacmpdjaaGMach
import Derived.Test.YtllgeljacmpdjaaPureMooreOne
import Derived.WalkKit
import Derived.ProofKit
import Derived.OpenShut
import Derived.ShutString
import Derived.ChangeOld
import Derived.Below
import Derived.SizedLaws
namespace Go.Proofs.Ytllgeljacmpdjaa.mooreOne
open Go.ChangeShapes Go.WideShapes Go.ChangeAt Go.RowKit Go.Proofs.Ytllgeljacmpdjaa.PTrim Go.Proofs.YtllgeljacmpdjaaW.PrintWords
open Go.ChangeMaps (open_string shut_string)
set_option linter.unusedVariables false
theorem own : ownKnob Try.prog.godebug = none := by kernel_rfl
theorem laidOut : laidOutB Try.prog = true := by kernel_rfl
set_option maxRecDepth 100000 in
theorem lifted (os : Os) (started : os.Started) (H : Type) (enc : TypeId × Value → H) :
    ReturnsInHanded {} Try.checked os 13 .any (Rows.mooreOneSpec.pre6 enc Try.prog Try.f13 Rows.mooreOneRow.domain false) (Rows.mooreOneSpec.post enc Try.prog Try.f13 false true false false) := by
  refine returnsInHanded_of_change_sized (C := Try.checked) own started (by kernel_rfl) Try.func13
    (ChangeSpec.witness6 (enc := enc) (C := Try.checked) false ⟨#[], #[.agg #[.int .i64 0, .int .i64 0, .int .i64 0, .int .i64 0, .slice none 0 0, .slice none 0 0], .agg #[.int .i64 0, .int .i64 0, .int .i64 0, .int .i64 0, .slice none 0 0, .slice none 0 0]], []⟩ 8 (by kernel_rfl) (by kernel_rfl) (by kernel_rfl) (by kernel_rfl)) ?_
  intro W base args ds gs before hval0 hW hcnd hsz0 _
  have hval : ∀ (j : Nat) t v, Try.f13.params[j]? = some t → args[j]? = some v → Value.okWide Try.prog W .any base t v := hval0
  have hW' := hW
  obtain ⟨p, q, hA0, hV, rfl, hfz, hnd⟩ := hW
  have hA : DataW.TrodAll enc Try.prog W 0 (fun _ => true) true Try.f13.params.toList args.toList ds p := hA0
  rw [Try.params13] at hA hval
  obtain ⟨v0, vs0, d0, ds0, p0, q0, hargs, rfl, rfl, h0, r0⟩ := trodAll_cons hA
  obtain ⟨v1, vs1, d1, ds1, p1, q1, rfl, rfl, rfl, h1, r1⟩ := trodAll_cons r0
  obtain ⟨rfl, rfl, rfl⟩ := trodAll_nil r1
  obtain rfl : args = #[v0, v1] := by cases args; simp_all
  obtain ⟨rfl, rfl⟩ := trodVars_none hV
  have k0 := h0
  have lt0 : ∀ x ∈ p0, x.block < W.heap.size := by obtain ⟨m, hm⟩ := k0; exact DataW.trod_lt m _ _ _ hm
  obtain ⟨a0_0, a0_1, a0_2, a0_3, A0_4, n0_4, c0_4, z0_4, A0_5, n0_5, c0_5, z0_5, rfl, w0_0, w0_1, w0_2, w0_3, r0_4, r0_5⟩ := open_machine (hval 0 24 v0 rfl rfl) h0
  obtain ⟨l0_4, rfl, hr0_4, hm0_4, hw0_4, hc0_4⟩ := row_list r0_4
  obtain ⟨l0_5, rfl, hr0_5, hm0_5, hw0_5, hc0_5⟩ := row_list r0_5
  have k1 := h1
  have lt1 : ∀ x ∈ p1, x.block < W.heap.size := by obtain ⟨m, hm⟩ := k1; exact DataW.trod_lt m _ _ _ hm
  obtain ⟨a1_0, a1_1, a1_2, a1_3, A1_4, n1_4, c1_4, z1_4, A1_5, n1_5, c1_5, z1_5, rfl, w1_0, w1_1, w1_2, w1_3, r1_4, r1_5⟩ := open_machine (hval 1 24 v1 rfl rfl) h1
  obtain ⟨l1_4, rfl, hr1_4, hm1_4, hw1_4, hc1_4⟩ := row_list r1_4
  obtain ⟨l1_5, rfl, hr1_5, hm1_5, hw1_5, hc1_5⟩ := row_list r1_5
  clear hA0 hval0 hsz0
  obtain ⟨k, hk⟩ := Pure.MooreOne a0_0 a0_1 a0_2 a0_3 l0_4 l0_5 a1_0 a1_1 a1_2 a1_3 l1_4 l1_5 w0_0 w0_1 w0_2 w0_3 hm0_4 hw0_4 hm0_5 hw0_5 w1_0 w1_1 w1_2 w1_3 hm1_4 hw1_4 hm1_5 hw1_5
  refine (tutorlaw05_MooreOne.calls k a0_0 a0_1 a0_2 a0_3 A0_4 c0_4 l0_4 A0_5 c0_5 l0_5 a1_0 a1_1 a1_2 a1_3 A1_4 c1_4 l1_4 A1_5 c1_5 l1_5 true W hr0_4 hc0_4 hr0_5 hc0_5 hr1_4 hc1_4 hr1_5 hc1_5 hk).mono fun e W' hh => ?_
  obtain ⟨he, bel⟩ := hh
  subst he
  exact ⟨_, rfl, _, _, _, [], _, [], hW', trodAll_mk1 (shut_bool Try.underlying4 _), (trodAll_cons_mk (Below.trod laidOut (by kernel_rfl) (of_decide_eq_true (by kernel_rfl)) k0 bel lt0) (trodAll_cons_mk (Below.trod laidOut (by kernel_rfl) (of_decide_eq_true (by kernel_rfl)) k1 bel lt1) trodAll_mk0)), rfl, bel.frame _, fun h => by cases h⟩
theorem over : Rows.mooreOneRow.holds Try.pinned (OpenSpec.ofChange Rows.mooreOneSpec) :=
  OpenClaim.holds_of_wide 13 Try.f13 rfl rfl rfl rfl rfl rfl rfl ⟨rfl, rfl, rfl, rfl, rfl⟩ rfl rfl rfl rfl rfl (by kernel_rfl) Try.func13 (by kernel_rfl)
    (of_decide_eq_true (by kernel_rfl)) (by unfold Func.isWrapper; first | (rw [if_pos (by decide +kernel)]; kernel_rfl) | (rw [if_neg (by decide +kernel)]; exact ⟨rfl, rfl⟩))
    (fun os started H enc _ => lifted os started H enc)
theorem proved : Rows.MooreOneSaid := over
end Go.Proofs.Ytllgeljacmpdjaa.mooreOne
namespace Go.Proofs.Ytllgeljacmpdjaa
/-- The row, under a short name, for the claim. -/
theorem mooreOne_holds : Rows.MooreOneSaid := mooreOne.proved
#print axioms mooreOne_holds
end Go.Proofs.Ytllgeljacmpdjaa
