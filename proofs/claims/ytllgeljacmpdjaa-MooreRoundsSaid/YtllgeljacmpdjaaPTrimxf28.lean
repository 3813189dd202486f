-- Written by a program of this session out of the kit's printer (some functions' contracts are given by hand).
import Derived.Test.YtllgeljacmpdjaaPTrimx0
import Derived.Test.YtllgeljacmpdjaaPTrimxf47
namespace Go.Proofs.Ytllgeljacmpdjaa.PTrim
open Go.RowKit Go.Proofs.YtllgeljacmpdjaaW.PrintWords Go.Proofs.YtllgeljacmpdjaaW.PrintLast Go.Proofs.YtllgeljacmpdjaaW.PrintMore
attribute [local go_sem] max2_int min2_int max_two min_two max_three min_three max_four min_four   -- for this text's walks alone
set_option linter.unusedVariables false
set_option linter.unusedSimpArgs false

/-! ### tutorref03_Right: function 28 -/
def tutorref03_Right.f (k : Nat) (a0_0 : Int) (a0_1 : Int) (a0_2 : Int) (a0_3 : Int) (l0_4 : List Int) (l0_5 : List Int) : Option (Bool) := (tutorref03_Check.f k a0_0 a0_1 a0_2 a0_3 l0_4 l0_5).bind fun bt686 => (some (bt686.2 == 0))
theorem tutorref03_Right.mono : ∀ a0 a1 a2 a3 a4 a5 k, LeO (tutorref03_Right.f k a0 a1 a2 a3 a4 a5) (tutorref03_Right.f (k + 1) a0 a1 a2 a3 a4 a5) := by
 intro a0 a1 a2 a3 a4 a5 k; unfold tutorref03_Right.f
 (with_reducible repeat' first | apply tutorref03_Check.mono | exact LeO.refl _ | exact LeO.none _ | apply LeO.ite | refine LeO.bind ?_ fun _ => ?_)
set_option maxHeartbeats 8000000 in
set_option maxRecDepth 100000 in
theorem tutorref03_Right.calls (k : Nat) (a0_0 : Int) (a0_1 : Int) (a0_2 : Int) (a0_3 : Int) (A0_4 : Option Addr) (c0_4 : Nat) (l0_4 : List Int) (A0_5 : Option Addr) (c0_5 : Nat) (l0_5 : List Int) (r : Bool) (w : World) (hr0_4 : Kd.C (Kd.int .i64) w A0_4 l0_4.length l0_4) (hc0_4 : l0_4.length ≤ c0_4) (hr0_5 : Kd.C (Kd.int .i64) w A0_5 l0_5.length l0_5) (hc0_5 : l0_5.length ≤ c0_5) (h : tutorref03_Right.f k a0_0 a0_1 a0_2 a0_3 l0_4 l0_5 = some r) :
  Calls Try.prog 28 #[.agg #[.int .i64 a0_0, .int .i64 a0_1, .int .i64 a0_2, .int .i64 a0_3, .slice A0_4 l0_4.length c0_4, .slice A0_5 l0_5.length c0_5]] w fun e w' => e = .returned (.bool r) ∧ Below w.heap.size w w' := by
 have hu24 := Try.underlying24; have HR0_4 := A_ hr0_4; have HC0_4 := A_ hc0_4; clear hr0_4 hc0_4; have HR0_5 := A_ hr0_5; have HC0_5 := A_ hc0_5; clear hr0_5 hc0_5; have HB := A_ (Below.refl w.heap.size w); have H := h; unfold tutorref03_Right.f at H; clear h; replace H := Option.bind_eq_some_iff.mp H; obtain ⟨⟨t686, t687⟩, A20, H⟩ := H; (try dsimp only at H); have A2 := A_ A20; clear A20; obtain rfl := Option.some.inj H; go_enter Try.func28, Try.ntmps28; (go_wp2_with (first | (refine bx_ 1 24 #[.int .i64 a0_0, .int .i64 a0_1, .int .i64 a0_2, .int .i64 a0_3, .slice A0_4 l0_4.length c0_4, .slice A0_5 l0_5.length c0_5] ?_; intro gb685 hg w3 hbox hb; have BK685 := A_ hbox; have GW685 := GEm hg HB; have GE685 := GEm hg HB; replace HB := aBs HB hb; clear hb hbox hg; obtain ⟨_, _, _, _, _, _, _, _, _, _, _, _⟩ := mach_cells BK685.out) | (refine ge_ (f := 47) (some 7) Try.func47 #[.agg #[.int .i64 a0_0, .int .i64 a0_1, .int .i64 a0_2, .int .i64 a0_3, .slice A0_4 l0_4.length c0_4, .slice A0_5 l0_5.length c0_5]] ?_; (with_reducible refine (tutorref03_Check.calls k a0_0 a0_1 a0_2 a0_3 _ _ l0_4 _ _ l0_5 t686 t687 _ ?_ ?_ ?_ ?_ A2.out).mono ?_); exact CM HR0_4 HB; exact HC0_4.out; exact CM HR0_5 HB; exact HC0_5.out; rintro e w5 ⟨rfl, hb⟩; refine ⟨_, rfl, ?_⟩; replace BK685 := aKb BK685 hb; replace HB := aBs HB hb; (try clear hb); (try clear hb2); (try clear hk); (try clear hi)))); go_ret; (exact ⟨by first | rfl | (simp [errW_none, errW_some] <;> rfl) | (simp [*, errW_none, errW_some] <;> rfl), SC HB.out⟩)

end Go.Proofs.Ytllgeljacmpdjaa.PTrim
