/-
  The row 'OracleChecks': the law returns true; each argument reads as it did.
-/
import Derived.Test.YtacndjnjikdcoaaGreatRows
import Derived.Test.YtacndjnjikdcoaaGreatRunOracleChecks
import Derived.ProofKit
import Derived.SizedLaws
import Derived.Lib.SmallJoins
namespace Go.Proofs.YtacndjnjikdcoaaGreat
open Go.ChangeShapes Go.WideShapes Go.ChangeAt Go.RowKit

theorem Tryz.ownOracleChecks : ownKnob Tryz.prog.godebug = none := by kernel_rfl
theorem Tryz.laidOut : laidOutB Tryz.prog = true := by kernel_rfl

theorem num_of {H : Type} {enc : TypeId × Value → H} {W : World} {n : Nat} {v : Value} {y : DataW H × List MemPlace} (hf : DataW.trod enc Tryz.prog W 0 (fun _ => true) true n 3 [v] = some y) : ∃ m, v = .int .i64 m := by
  obtain ⟨m, h, _, hw⟩ := DataW.trod_int Tryz.underlying3 hf
  simp at h
  exact ⟨m, h⟩
theorem unum_of {H : Type} {enc : TypeId × Value → H} {W : World} {n : Nat} {v : Value} {y : DataW H × List MemPlace} (hf : DataW.trod enc Tryz.prog W 0 (fun _ => true) true n 22 [v] = some y) : ∃ m, v = .int .u64 m := by
  obtain ⟨m, h, _, hw⟩ := DataW.trod_int Tryz.underlying22 hf
  simp at h
  exact ⟨m, h⟩
theorem six {cs : Array Value} (h : cs.size = 6) : ∃ c0 c1 c2 c3 c4 c5, cs = #[c0, c1, c2, c3, c4, c5] := by
  obtain ⟨l⟩ := cs
  simp at h
  match l, h with
  | [c0, c1, c2, c3, c4, c5], _ => exact ⟨c0, c1, c2, c3, c4, c5, rfl⟩

set_option maxRecDepth 100000 in
theorem oracleChecks_lifted (os : Os) (started : os.Started) (H : Type) (enc : TypeId × Value → H) :
    ReturnsInHanded {} Tryz.checked os 3 .any (Rows.oracleChecksSpec.pre6 enc Tryz.prog Tryz.f3 Rows.oracleChecksRow.domain false) (Rows.oracleChecksSpec.post enc Tryz.prog Tryz.f3 false true false false) := by
  refine returnsInHanded_of_change (C := Tryz.checked) Tryz.ownOracleChecks started (by kernel_rfl) Tryz.func3
    (ChangeSpec.witness6 (enc := enc) (C := Tryz.checked) false ⟨#[], #[.agg #[.int .i64 0, .int .i64 0, .int .u64 0, .int .i64 0, .int .i64 0, .int .i64 0]], []⟩ 8 (by kernel_rfl) (by kernel_rfl) (by kernel_rfl) (by kernel_rfl)) ?_
  intro W base args ds gs before hval0 hW _ _
  have hval : ∀ (j : Nat) t v, Tryz.f3.params[j]? = some t → args[j]? = some v → Value.okWide Tryz.prog W .any base t v := hval0
  have hW' := hW
  obtain ⟨p, q, hA0, hV, rfl, _, _⟩ := hW
  have hA : DataW.TrodAll enc Tryz.prog W 0 (fun _ => true) true Tryz.f3.params.toList args.toList ds p := hA0
  rw [Tryz.params3] at hA hval
  obtain ⟨v0, d0, rfl, rfl, h0⟩ := trodAll_one hA
  obtain ⟨rfl, rfl⟩ := trodVars_none hV
  have hs : ∃ a0 a1 a2 a3 a4 a5, v0 = .agg #[.int .i64 a0, .int .i64 a1, .int .u64 a2, .int .i64 a3, .int .i64 a4, .int .i64 a5] := by
    obtain ⟨cs, rfl, hsz⟩ := okWide_struct Tryz.underlying24 (hval 0 24 v0 rfl rfl)
    obtain ⟨c0, c1, c2, c3, c4, c5, rfl⟩ := six (hsz.trans (by kernel_rfl))
    obtain ⟨fuel, hf⟩ := h0
    obtain ⟨xs, m, _, _, _, hlen, hg⟩ := DataW.trod_struct Tryz.underlying24 hf
    have hl : xs.length = 6 := hlen
    have g0 := hg 0 _ rfl
    have g1 := hg 1 _ rfl
    have g2 := hg 2 _ rfl
    have g3 := hg 3 _ rfl
    have g4 := hg 4 _ rfl
    have g5 := hg 5 _ rfl
    rw [List.getElem?_eq_getElem (by omega)] at g0 g1 g2 g3 g4 g5
    obtain ⟨n0, rfl⟩ := num_of (v := c0) g0
    obtain ⟨n1, rfl⟩ := num_of (v := c1) g1
    obtain ⟨n2, rfl⟩ := unum_of (v := c2) g2
    obtain ⟨n3, rfl⟩ := num_of (v := c3) g3
    obtain ⟨n4, rfl⟩ := num_of (v := c4) g4
    obtain ⟨n5, rfl⟩ := num_of (v := c5) g5
    exact ⟨_, _, _, _, _, _, rfl⟩
  obtain ⟨a0, a1, a2, a3, a4, a5, rfl⟩ := hs
  clear hA0 hval0 hval
  simp only [List.append_nil] at hW'
  refine (Vai.walkOracleChecks a0 a1 a2 a3 a4 a5 W).mono fun e W' ⟨he, hn⟩ => ?_
  subst he
  have hlt : ∀ x ∈ p, x.block < W.heap.size := fun x hx => hW'.lt x (by simpa using hx)
  exact ⟨_, rfl, _, _, _, [], p, [], hW', trodAll_mk1 (shut_bool Tryz.underlying4 true),
    trodAll_mk1 (Below.trod Tryz.laidOut (by kernel_rfl) (of_decide_eq_true (by kernel_rfl)) h0 hn hlt),
    rfl, hn.frame _, fun h => by cases h⟩

theorem oracleChecks_holds : Rows.OracleChecksSaid :=
  OpenClaim.holds_of_wide 3 Tryz.f3 rfl rfl rfl rfl rfl rfl rfl ⟨rfl, rfl, rfl, rfl, rfl⟩ rfl rfl rfl rfl rfl (by kernel_rfl) Tryz.func3 (by kernel_rfl)
    (of_decide_eq_true (by kernel_rfl)) (by unfold Func.isWrapper; first | (rw [if_pos (by decide +kernel)]; kernel_rfl) | (rw [if_neg (by decide +kernel)]; exact ⟨rfl, rfl⟩))
    (fun os started H enc _ => oracleChecks_lifted os started H enc)

end Go.Proofs.YtacndjnjikdcoaaGreat
