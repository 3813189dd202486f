import Derived.Test.YtllgeljacmpdjaaPTrimx0
-- Written by a program of this session out of the kit's printer (some functions' contracts are given by hand).
namespace Go.Proofs.Ytllgeljacmpdjaa.PTrim
open Go.RowKit Go.Proofs.YtllgeljacmpdjaaW.PrintWords Go.Proofs.YtllgeljacmpdjaaW.PrintLast Go.Proofs.YtllgeljacmpdjaaW.PrintMore
attribute [local go_sem] max2_int min2_int max_two min_two max_three min_three max_four min_four   -- for this text's walks alone
set_option linter.unusedVariables false
set_option linter.unusedSimpArgs false

/-! ### tutorref03_Big: function 15 -/
def tutorref03_Big.f (a0_0 : Int) (a0_1 : Int) (a0_2 : Int) (a0_3 : Int) (l0_4 : List Int) (l0_5 : List Int) (a1 : Int) : Option (Bool) := if a0_3 > a1 then (some true) else (if (l0_4.length : Int) > 70000 then (some true) else (some (decide ((l0_5.length : Int) > 70000))))
set_option maxHeartbeats 8000000 in
set_option maxRecDepth 100000 in
theorem tutorref03_Big.calls (a0_0 : Int) (a0_1 : Int) (a0_2 : Int) (a0_3 : Int) (A0_4 : Option Addr) (c0_4 : Nat) (l0_4 : List Int) (A0_5 : Option Addr) (c0_5 : Nat) (l0_5 : List Int) (a1 : Int) (r : Bool) (w : World) (hr0_4 : Kd.C (Kd.int .i64) w A0_4 l0_4.length l0_4) (hc0_4 : l0_4.length ≤ c0_4) (hr0_5 : Kd.C (Kd.int .i64) w A0_5 l0_5.length l0_5) (hc0_5 : l0_5.length ≤ c0_5) (h : tutorref03_Big.f a0_0 a0_1 a0_2 a0_3 l0_4 l0_5 a1 = some r) :
  Calls Try.prog 15 #[.agg #[.int .i64 a0_0, .int .i64 a0_1, .int .i64 a0_2, .int .i64 a0_3, .slice A0_4 l0_4.length c0_4, .slice A0_5 l0_5.length c0_5], .int .i64 a1] w fun e w' => e = .returned (.bool r) ∧ Below w.heap.size w w' := by
 have hu24 := Try.underlying24; have HR0_4 := A_ hr0_4; have HC0_4 := A_ hc0_4; clear hr0_4 hc0_4; have HR0_5 := A_ hr0_5; have HC0_5 := A_ hc0_5; clear hr0_5 hc0_5; have HB := A_ (Below.refl w.heap.size w); have H : (if a0_3 > a1 then (some true) else (if (l0_4.length : Int) > 70000 then (some true) else (some (decide ((l0_5.length : Int) > 70000))))) = some r := h; clear h
 by_cases c3 : a0_3 > a1
 ·rw [if_pos c3] at H; have c3b0 := decide_eq_true c3; clear c3; obtain rfl := Option.some.inj H; go_enter Try.func15, Try.ntmps15; (go_wp2_with (first | ((with_reducible refine gate_dst (N := 2) rfl ?_); (try (refine gate_guard (by rfl) ?_; dsimp only)); refine box_event ?hg (N := 2) ?hd (cs := #[.int .i64 a0_0, .int .i64 a0_1, .int .i64 a0_2, .int .i64 a0_3, .slice A0_4 l0_4.length c0_4, .slice A0_5 l0_5.length c0_5]) (t := 24) ?hr ?_; (case hd => rfl); (case hg => rfl); (case hr => first | (go_simp; done) | (go_simp; rfl)); intro gb101 hg w4 hbox hb; have BK101 := A_ hbox; have GW101 := GEm hg HB; have GE101 := GEm hg HB; replace HB := aBs HB hb; clear hb hbox hg; obtain ⟨_, _, _, _, _, _, _, _, _, _, _, _⟩ := mach_cells BK101.out))); go_ret; (exact ⟨by first | rfl | (simp [errW_none, errW_some] <;> rfl) | (simp [*, errW_none, errW_some] <;> rfl), SC HB.out⟩)
 ·rw [if_neg c3] at H; have c3b0 := decide_eq_false c3; clear c3
  by_cases c6 : (l0_4.length : Int) > 70000
  ·rw [if_pos c6] at H; have c6b0 : decide (70000 < (l0_4.length : Int)) = true := decide_eq_true c6; (have c6b1 : decide (70000 < l0_4.length) = true := decide_eq_true (by omega)); clear c6; obtain rfl := Option.some.inj H; go_enter Try.func15, Try.ntmps15; (go_wp2_with (first | ((with_reducible refine gate_dst (N := 2) rfl ?_); (try (refine gate_guard (by rfl) ?_; dsimp only)); refine box_event ?hg (N := 2) ?hd (cs := #[.int .i64 a0_0, .int .i64 a0_1, .int .i64 a0_2, .int .i64 a0_3, .slice A0_4 l0_4.length c0_4, .slice A0_5 l0_5.length c0_5]) (t := 24) ?hr ?_; (case hd => rfl); (case hg => rfl); (case hr => first | (go_simp; done) | (go_simp; rfl)); intro gb101 hg w7 hbox hb; have BK101 := A_ hbox; have GW101 := GEm hg HB; have GE101 := GEm hg HB; replace HB := aBs HB hb; clear hb hbox hg; obtain ⟨_, _, _, _, _, _, _, _, _, _, _, _⟩ := mach_cells BK101.out))); go_ret; (exact ⟨by first | rfl | (simp [errW_none, errW_some] <;> rfl) | (simp [*, errW_none, errW_some] <;> rfl), SC HB.out⟩)
  ·rw [if_neg c6] at H; have c6b0 : decide (70000 < (l0_4.length : Int)) = false := decide_eq_false c6; (have c6b1 : decide (70000 < l0_4.length) = false := decide_eq_false (by omega)); clear c6; obtain rfl := Option.some.inj H; go_enter Try.func15, Try.ntmps15; (go_wp2_with (first | ((with_reducible refine gate_dst (N := 2) rfl ?_); (try (refine gate_guard (by rfl) ?_; dsimp only)); refine box_event ?hg (N := 2) ?hd (cs := #[.int .i64 a0_0, .int .i64 a0_1, .int .i64 a0_2, .int .i64 a0_3, .slice A0_4 l0_4.length c0_4, .slice A0_5 l0_5.length c0_5]) (t := 24) ?hr ?_; (case hd => rfl); (case hg => rfl); (case hr => first | (go_simp; done) | (go_simp; rfl)); intro gb101 hg w9 hbox hb; have BK101 := A_ hbox; have GW101 := GEm hg HB; have GE101 := GEm hg HB; replace HB := aBs HB hb; clear hb hbox hg; obtain ⟨_, _, _, _, _, _, _, _, _, _, _, _⟩ := mach_cells BK101.out))); go_ret; (exact ⟨by first | rfl | (simp [errW_none, errW_some] <;> rfl) | (simp [*, errW_none, errW_some] <;> rfl), SC HB.out⟩)

end Go.Proofs.Ytllgeljacmpdjaa.PTrim

-- Written by a program of this session out of the kit's printer (some functions' contracts are given by hand).
namespace Go.Proofs.Ytllgeljacmpdjaa.PTrim
open Go.RowKit Go.Proofs.YtllgeljacmpdjaaW.PrintWords Go.Proofs.YtllgeljacmpdjaaW.PrintLast Go.Proofs.YtllgeljacmpdjaaW.PrintMore
attribute [local go_sem] max2_int min2_int max_two min_two max_three min_three max_four min_four   -- for this text's walks alone
set_option linter.unusedVariables false
set_option linter.unusedSimpArgs false

/-! ### tutorlaw05_num: function 39 -/
def tutorlaw05_num.f (a0 : Int) : Option (Int) := some a0
set_option maxHeartbeats 8000000 in
set_option maxRecDepth 100000 in
theorem tutorlaw05_num.calls (a0 : Int) (r : Int) (w : World) (h : tutorlaw05_num.f a0 = some r) :
  Calls Try.prog 39 #[.int .i64 a0] w fun e w' => e = .returned (.int .i64 r) ∧ Drawn0 w w' := by
 have H : (some a0) = some r := h; clear h; obtain rfl := Option.some.inj H; go_enter Try.func39, Try.ntmps39; go_wp2; go_ret; (exact ⟨by first | rfl | (simp; done) | (simp [*]; done), by repeat (first | exact Drawn0.refl _ | apply Drawn0.step)⟩)

end Go.Proofs.Ytllgeljacmpdjaa.PTrim

-- Written by a program of this session out of the kit's printer (some functions' contracts are given by hand).
namespace Go.Proofs.Ytllgeljacmpdjaa.PTrim
open Go.RowKit Go.Proofs.YtllgeljacmpdjaaW.PrintWords Go.Proofs.YtllgeljacmpdjaaW.PrintLast Go.Proofs.YtllgeljacmpdjaaW.PrintMore
attribute [local go_sem] max2_int min2_int max_two min_two max_three min_three max_four min_four   -- for this text's walks alone
set_option linter.unusedVariables false
set_option linter.unusedSimpArgs false

/-! ### moore_last: function 56 -/
def moore_last.l0 : Nat → Int → List Int → Int → Int → Option (Int)
 | 0, _, _, _, _ => none
 | k + 1, x3, x6, x7, x8 => if x8 < x7 then (if 0 ≤ x8 then (if x8 < (x6.length : Int) then (moore_last.l0 k (mx x3 (rd x6 x8)) x6 x7 (wrap64 (x8 + 1))) else (none)) else (none)) else (some x3)
def moore_last.f (k : Nat) (l0 : List Int) : Option (Int) := moore_last.l0 k 0 l0 (l0.length : Int) 0
theorem moore_last.mono_l : ∀ k, (∀ y0 y1 y2 y3, LeO (moore_last.l0 k y0 y1 y2 y3) (moore_last.l0 (k + 1) y0 y1 y2 y3))
 | 0 => fun _ _ _ _ r h => by simp [moore_last.l0] at h
 | k + 1 => by
  have ih0 := moore_last.mono_l k
  ·intro y0 y1 y2 y3; unfold moore_last.l0
   (with_reducible repeat' first | apply ih0 | exact LeO.refl _ | exact LeO.none _ | apply LeO.ite | refine LeO.bind ?_ fun _ => ?_)
theorem moore_last.mono : ∀ a0 k, LeO (moore_last.f k a0) (moore_last.f (k + 1) a0) := by
 intro a0 k; have ih0 := moore_last.mono_l k; unfold moore_last.f
 (with_reducible repeat' first | apply ih0 | exact LeO.refl _ | exact LeO.none _ | apply LeO.ite | refine LeO.bind ?_ fun _ => ?_)
set_option maxHeartbeats 8000000 in
set_option maxRecDepth 100000 in
theorem moore_last.calls (k : Nat) (A0 : Option Addr) (c0 : Nat) (l0 : List Int) (r : Int) (w : World) (hr0 : Kd.C (Kd.int .i64) w A0 l0.length l0) (hc0 : l0.length ≤ c0) (h : moore_last.f k l0 = some r) :
  Calls Try.prog 56 #[.slice A0 l0.length c0] w fun e w' => e = .returned (.int .i64 r) ∧ Below w.heap.size w w' := by
 have HR0 := A_ hr0; have HC0 := A_ hc0; clear hr0 hc0; have HB := A_ (Below.refl w.heap.size w); have H : (moore_last.l0 k 0 l0 (l0.length : Int) 0) = some r := h; clear h; have H' := A_ H; clear H; go_enter Try.func56, Try.ntmps56; go_wp2; (go_loopg [3, 8] k (fun kq v3 v8 w' => ∃ (x3_1 : Int) (x8_1 : Int), v3 = .int .i64 x3_1 ∧ v8 = .int .i64 x8_1 ∧ Aside0 (moore_last.l0 kq x3_1 l0 (l0.length : Int) x8_1 = some r) ∧ Aside0 (kq ≤ k) ∧ Aside0 (Below w.heap.size w w'))); (case atStart => exact ⟨(0), (0), (by first | rfl | (simp; done) | (simp [*]; done)), (by first | rfl | (simp; done) | (simp [*]; done)), H', ⟨Nat.le_refl _⟩, ⟨SC HB.out⟩⟩)
 case round =>
  clear H'; obtain ⟨x3_1, x8_1, rfl, rfl, HA, HK1, HB⟩ := hrel
  cases gk with
  | zero => exact absurd HA.out (by simp [moore_last.l0])
  | succ k1 =>
   have H := HA.out; clear HA; simp only [moore_last.l0] at H
   by_cases c2 : x8_1 < (l0.length : Int)
   ·rw [if_pos c2] at H; have c2b0 := decide_eq_true c2; clear c2
    by_cases c3 : 0 ≤ x8_1
    ·rw [if_pos c3] at H; have c3b0 := decide_eq_true c3; clear c3
     by_cases c4 : x8_1 < (l0.length : Int)
     ·rw [if_pos c4] at H; have c4b0 := decide_eq_true c4; clear c4; obtain ⟨ji5, hji5⟩ : ∃ j_ : Int, (mx x3_1 (rd l0 x8_1)) = j_ := ⟨_, rfl⟩; rw [hji5] at H; have hji5_ : (if x3_1 < (rd l0 x8_1) then (rd l0 x8_1) else x3_1) = ji5 := hji5; have H' := A_ H; clear H; (have p148 : 0 ≤ (x8_1 : Int) := dc_); (have q148 : x8_1 < (l0.length : Int) := dc_); obtain ⟨ad148, e148, hx148_0⟩ := Kd.at_int HR0.out x8_1 p148 q148; cases e148; replace hx148_0 := cb HB hx148_0; replace p148 := eq_true p148; replace q148 := eq_true q148; go_wp2; go_roundg k1; (case measure => have := HK1.out; omega)
      case rel => exact ⟨(ji5), (wrap64 (x8_1 + 1)), (by first | rfl | (simp; done) | (simp only [← hji5] <;> (first | rfl | simp)) | (simp [*]; done)), (by first | rfl | (simp; done) | (simp [*]; done)), H', ⟨by have := HK1.out; omega⟩, ⟨SC HB.out⟩⟩
     ·rw [if_neg c4] at H; (exact absurd H (by simp))
    ·rw [if_neg c3] at H; (exact absurd H (by simp))
   ·rw [if_neg c2] at H; have c2b0 := decide_eq_false c2; clear c2; obtain rfl := Option.some.inj H; go_wp2; go_ret; (exact ⟨by first | rfl | (simp [errW_none, errW_some] <;> rfl) | (simp [*, errW_none, errW_some] <;> rfl), SC HB.out⟩)

end Go.Proofs.Ytllgeljacmpdjaa.PTrim

-- Written by a program of this session out of the kit's printer (some functions' contracts are given by hand).
namespace Go.Proofs.Ytllgeljacmpdjaa.PTrim
open Go.RowKit Go.Proofs.YtllgeljacmpdjaaW.PrintWords Go.Proofs.YtllgeljacmpdjaaW.PrintLast Go.Proofs.YtllgeljacmpdjaaW.PrintMore
attribute [local go_sem] max2_int min2_int max_two min_two max_three min_three max_four min_four   -- for this text's walks alone
set_option linter.unusedVariables false
set_option linter.unusedSimpArgs false

/-! ### moore_said: function 57 -/
def moore_said.f (a0_0 : Int) (a0_1 : Int) (a0_2 : Int) (a0_3 : Int) (l0_4 : List Int) (l0_5 : List Int) (a1 : Int) (a2 : Int) : Option (Int) := if a0_3 = 0 then (none) else (if 0 ≤ (wrap64 ((wrap64 (a1 * (wrap64 ((l0_5.length : Int) / a0_3)))) + a2)) then (if (wrap64 ((wrap64 (a1 * (wrap64 ((l0_5.length : Int) / a0_3)))) + a2)) < (l0_5.length : Int) then (some (rd l0_5 (wrap64 ((wrap64 (a1 * (wrap64 ((l0_5.length : Int) / a0_3)))) + a2)))) else (none)) else (none))
set_option maxHeartbeats 8000000 in
set_option maxRecDepth 100000 in
theorem moore_said.calls (a0_0 : Int) (a0_1 : Int) (a0_2 : Int) (a0_3 : Int) (A0_4 : Option Addr) (c0_4 : Nat) (l0_4 : List Int) (A0_5 : Option Addr) (c0_5 : Nat) (l0_5 : List Int) (a1 : Int) (a2 : Int) (r : Int) (w : World) (hr0_4 : Kd.C (Kd.int .i64) w A0_4 l0_4.length l0_4) (hc0_4 : l0_4.length ≤ c0_4) (hr0_5 : Kd.C (Kd.int .i64) w A0_5 l0_5.length l0_5) (hc0_5 : l0_5.length ≤ c0_5) (h : moore_said.f a0_0 a0_1 a0_2 a0_3 l0_4 l0_5 a1 a2 = some r) :
  Calls Try.prog 57 #[.agg #[.int .i64 a0_0, .int .i64 a0_1, .int .i64 a0_2, .int .i64 a0_3, .slice A0_4 l0_4.length c0_4, .slice A0_5 l0_5.length c0_5], .int .i64 a1, .int .i64 a2] w fun e w' => e = .returned (.int .i64 r) ∧ Below w.heap.size w w' := by
 have hu24 := Try.underlying24; have HR0_4 := A_ hr0_4; have HC0_4 := A_ hc0_4; clear hr0_4 hc0_4; have HR0_5 := A_ hr0_5; have HC0_5 := A_ hc0_5; clear hr0_5 hc0_5; have HB := A_ (Below.refl w.heap.size w); have H : (if a0_3 = 0 then (none) else (if 0 ≤ (wrap64 ((wrap64 (a1 * (wrap64 ((l0_5.length : Int) / a0_3)))) + a2)) then (if (wrap64 ((wrap64 (a1 * (wrap64 ((l0_5.length : Int) / a0_3)))) + a2)) < (l0_5.length : Int) then (some (rd l0_5 (wrap64 ((wrap64 (a1 * (wrap64 ((l0_5.length : Int) / a0_3)))) + a2)))) else (none)) else (none))) = some r := h; clear h
 by_cases c4 : a0_3 = 0
 ·rw [if_pos c4] at H; (exact absurd H (by simp))
 ·rw [if_neg c4] at H; have c4b0 : (a0_3 == 0) = false := beq_eq_false_iff_ne.mpr c4; have c4b1 : (a0_3 != 0) = true := bne_iff_ne.mpr c4; obtain ⟨ji5, hji5⟩ : ∃ j_ : Int, (wrap64 ((wrap64 (a1 * (wrap64 ((l0_5.length : Int) / a0_3)))) + a2)) = j_ := ⟨_, rfl⟩; rw [hji5] at H; have hji5w : (IntKind.i64.wrap ((wrap64 (a1 * (wrap64 ((l0_5.length : Int) / a0_3)))) + a2)) = ji5 := (i64_w _).trans hji5
  by_cases c6 : 0 ≤ (ji5)
  ·rw [if_pos c6] at H; have c6b0 := decide_eq_true c6; clear c6
   by_cases c7 : (ji5) < (l0_5.length : Int)
   ·rw [if_pos c7] at H; have c7b0 := decide_eq_true c7; clear c7; obtain rfl := Option.some.inj H; go_enter Try.func57, Try.ntmps57; (go_wp2_with (first | (refine bx_ 3 24 #[.int .i64 a0_0, .int .i64 a0_1, .int .i64 a0_2, .int .i64 a0_3, .slice A0_4 l0_4.length c0_4, .slice A0_5 l0_5.length c0_5] ?_; intro gb186 hg w8 hbox hb; have BK186 := A_ hbox; have GW186 := GEm hg HB; have GE186 := GEm hg HB; replace HB := aBs HB hb; clear hb hbox hg; obtain ⟨hcz9_0, hcz9_1, hcz9_2, hcz9_3, hcz9_4, hcz9_5, hfz9_0, hfz9_1, hfz9_2, hfz9_3, hfz9_4, hfz9_5⟩ := mach_cells BK186.out; have p187 : 0 ≤ ((ji5) : Int) := dc_; have q187 : (ji5) < (l0_5.length : Int) := dc_; obtain ⟨ad187, e187, hx187_0⟩ := Kd.at_int HR0_5.out (ji5) p187 q187; cases e187; replace hx187_0 := cb HB hx187_0; replace p187 := eq_true p187; replace q187 := eq_true q187))); (repeat (go_quiet (first | (refine bx_ 3 24 #[.int .i64 a0_0, .int .i64 a0_1, .int .i64 a0_2, .int .i64 a0_3, .slice A0_4 l0_4.length c0_4, .slice A0_5 l0_5.length c0_5] ?_; intro gb186 hg w8 hbox hb; have BK186 := A_ hbox; have GW186 := GEm hg HB; have GE186 := GEm hg HB; replace HB := aBs HB hb; clear hb hbox hg; obtain ⟨hcz9_0, hcz9_1, hcz9_2, hcz9_3, hcz9_4, hcz9_5, hfz9_0, hfz9_1, hfz9_2, hfz9_3, hfz9_4, hfz9_5⟩ := mach_cells BK186.out; have p187 : 0 ≤ ((ji5) : Int) := dc_; have q187 : (ji5) < (l0_5.length : Int) := dc_; obtain ⟨ad187, e187, hx187_0⟩ := Kd.at_int HR0_5.out (ji5) p187 q187; cases e187; replace hx187_0 := cb HB hx187_0; replace p187 := eq_true p187; replace q187 := eq_true q187)); try go_wp2_with (first | (refine bx_ 3 24 #[.int .i64 a0_0, .int .i64 a0_1, .int .i64 a0_2, .int .i64 a0_3, .slice A0_4 l0_4.length c0_4, .slice A0_5 l0_5.length c0_5] ?_; intro gb186 hg w8 hbox hb; have BK186 := A_ hbox; have GW186 := GEm hg HB; have GE186 := GEm hg HB; replace HB := aBs HB hb; clear hb hbox hg; obtain ⟨hcz9_0, hcz9_1, hcz9_2, hcz9_3, hcz9_4, hcz9_5, hfz9_0, hfz9_1, hfz9_2, hfz9_3, hfz9_4, hfz9_5⟩ := mach_cells BK186.out; have p187 : 0 ≤ ((ji5) : Int) := dc_; have q187 : (ji5) < (l0_5.length : Int) := dc_; obtain ⟨ad187, e187, hx187_0⟩ := Kd.at_int HR0_5.out (ji5) p187 q187; cases e187; replace hx187_0 := cb HB hx187_0; replace p187 := eq_true p187; replace q187 := eq_true q187)))); go_ret; (exact ⟨by first | rfl | (simp [errW_none, errW_some] <;> rfl) | (simp only [← hji5]; first | rfl | (simp [errW_none, errW_some] <;> rfl)) | (simp [*, errW_none, errW_some] <;> rfl), SC HB.out⟩)
   ·rw [if_neg c7] at H; (exact absurd H (by simp))
  ·rw [if_neg c6] at H; (exact absurd H (by simp))

end Go.Proofs.Ytllgeljacmpdjaa.PTrim

-- Written by a program of this session out of the kit's printer (some functions' contracts are given by hand).
namespace Go.Proofs.Ytllgeljacmpdjaa.PTrim
open Go.RowKit Go.Proofs.YtllgeljacmpdjaaW.PrintWords Go.Proofs.YtllgeljacmpdjaaW.PrintLast Go.Proofs.YtllgeljacmpdjaaW.PrintMore
attribute [local go_sem] max2_int min2_int max_two min_two max_three min_three max_four min_four   -- for this text's walks alone
set_option linter.unusedVariables false
set_option linter.unusedSimpArgs false

/-! ### machine_beyond: function 59 -/
def machine_beyond.l0 : Nat → List Int → Int → Int → Int → Option (Int)
 | 0, _, _, _, _ => none
 | k + 1, x0, x1, x7, x8 => if x8 < x7 then (if 0 ≤ x8 then (if x8 < (x0.length : Int) then (if (IntKind.u64.wrap (rd x0 x8)) ≥ (IntKind.u64.wrap (x1)) then (some x8) else (machine_beyond.l0 k x0 x1 x7 (wrap64 (x8 + 1)))) else (none)) else (none)) else (some (-1))
def machine_beyond.f (k : Nat) (l0 : List Int) (a1 : Int) : Option (Int) := machine_beyond.l0 k l0 a1 (l0.length : Int) 0
theorem machine_beyond.mono_l : ∀ k, (∀ y0 y1 y2 y3, LeO (machine_beyond.l0 k y0 y1 y2 y3) (machine_beyond.l0 (k + 1) y0 y1 y2 y3))
 | 0 => fun _ _ _ _ r h => by simp [machine_beyond.l0] at h
 | k + 1 => by
  have ih0 := machine_beyond.mono_l k
  ·intro y0 y1 y2 y3; unfold machine_beyond.l0
   (with_reducible repeat' first | apply ih0 | exact LeO.refl _ | exact LeO.none _ | apply LeO.ite | refine LeO.bind ?_ fun _ => ?_)
theorem machine_beyond.mono : ∀ a0 a1 k, LeO (machine_beyond.f k a0 a1) (machine_beyond.f (k + 1) a0 a1) := by
 intro a0 a1 k; have ih0 := machine_beyond.mono_l k; unfold machine_beyond.f
 (with_reducible repeat' first | apply ih0 | exact LeO.refl _ | exact LeO.none _ | apply LeO.ite | refine LeO.bind ?_ fun _ => ?_)
set_option maxHeartbeats 8000000 in
set_option maxRecDepth 100000 in
theorem machine_beyond.calls (k : Nat) (A0 : Option Addr) (c0 : Nat) (l0 : List Int) (a1 : Int) (r : Int) (w : World) (hr0 : Kd.C (Kd.int .i64) w A0 l0.length l0) (hc0 : l0.length ≤ c0) (h : machine_beyond.f k l0 a1 = some r) :
  Calls Try.prog 59 #[.slice A0 l0.length c0, .int .i64 a1] w fun e w' => e = .returned (.int .i64 r) ∧ Drawn0 w w' := by
 have HR0 := A_ hr0; have HC0 := A_ hc0; clear hr0 hc0; have H : (machine_beyond.l0 k l0 a1 (l0.length : Int) 0) = some r := h; clear h; have H' := A_ H; clear H; go_enter Try.func59, Try.ntmps59; go_wp2; (go_loopg [8] k (fun kq v8 w' => ∃ (x8_1 : Int), v8 = .int .i64 x8_1 ∧ Aside0 (machine_beyond.l0 kq l0 a1 (l0.length : Int) x8_1 = some r) ∧ Aside0 (kq ≤ k) ∧ Drawn0 w w')); (case atStart => exact ⟨(0), (by first | rfl | (simp; done) | (simp [*]; done)), H', ⟨Nat.le_refl _⟩, by repeat (first | exact Drawn0.refl _ | apply Drawn0.step)⟩)
 case round =>
  clear H'; (try clear p2); obtain ⟨x8_1, rfl, HA, HK1, ⟨m1, rfl⟩⟩ := hrel
  cases gk with
  | zero => exact absurd HA.out (by simp [machine_beyond.l0])
  | succ k1 =>
   have H := HA.out; clear HA; simp only [machine_beyond.l0] at H
   by_cases c3 : x8_1 < (l0.length : Int)
   ·rw [if_pos c3] at H; have c3b0 := decide_eq_true c3; clear c3
    by_cases c4 : 0 ≤ x8_1
    ·rw [if_pos c4] at H; have c4b0 := decide_eq_true c4; clear c4
     by_cases c5 : x8_1 < (l0.length : Int)
     ·rw [if_pos c5] at H; have c5b0 := decide_eq_true c5; clear c5
      by_cases c6 : (IntKind.u64.wrap (rd l0 x8_1)) ≥ (IntKind.u64.wrap (a1))
      ·rw [if_pos c6] at H; have c6b0 := decide_eq_true c6; clear c6; obtain rfl := Option.some.inj H; (have p125 : 0 ≤ (x8_1 : Int) := dc_); (have q125 : x8_1 < (l0.length : Int) := dc_); obtain ⟨ad125, e125, hx125_0⟩ := Kd.at_int HR0.out x8_1 p125 q125; cases e125; replace p125 := eq_true p125; replace q125 := eq_true q125; go_wp2; go_ret; (exact ⟨by first | rfl | (simp; done) | (simp [*]; done), by repeat (first | exact Drawn0.refl _ | apply Drawn0.step)⟩)
      ·rw [if_neg c6] at H; have c6b0 := decide_eq_false c6; clear c6; have H' := A_ H; clear H; (have p125 : 0 ≤ (x8_1 : Int) := dc_); (have q125 : x8_1 < (l0.length : Int) := dc_); obtain ⟨ad125, e125, hx125_0⟩ := Kd.at_int HR0.out x8_1 p125 q125; cases e125; replace p125 := eq_true p125; replace q125 := eq_true q125; go_wp2; go_roundg k1; (case measure => have := HK1.out; omega)
       case rel => exact ⟨(wrap64 (x8_1 + 1)), (by first | rfl | (simp; done) | (simp [*]; done)), H', ⟨by have := HK1.out; omega⟩, by repeat (first | exact Drawn0.refl _ | apply Drawn0.step)⟩
     ·rw [if_neg c5] at H; (exact absurd H (by simp))
    ·rw [if_neg c4] at H; (exact absurd H (by simp))
   ·rw [if_neg c3] at H; have c3b0 := decide_eq_false c3; clear c3; obtain rfl := Option.some.inj H; go_wp2; go_ret; (exact ⟨by first | rfl | (simp; done) | (simp [*]; done), by repeat (first | exact Drawn0.refl _ | apply Drawn0.step)⟩)

end Go.Proofs.Ytllgeljacmpdjaa.PTrim

-- Written by a program of this session out of the kit's printer (some functions' contracts are given by hand).
namespace Go.Proofs.Ytllgeljacmpdjaa.PTrim
open Go.RowKit Go.Proofs.YtllgeljacmpdjaaW.PrintWords Go.Proofs.YtllgeljacmpdjaaW.PrintLast Go.Proofs.YtllgeljacmpdjaaW.PrintMore
attribute [local go_sem] max2_int min2_int max_two min_two max_three min_three max_four min_four   -- for this text's walks alone
set_option linter.unusedVariables false
set_option linter.unusedSimpArgs false

/-! ### machine_says: function 64 -/
def machine_says.f (a0_0 : Int) (a0_1 : Int) (a0_2 : Int) (a0_3 : Int) (l0_4 : List Int) (l0_5 : List Int) : Option (Int) := if a0_0 = 1 then (some a0_3) else (some (wrap64 (a0_3 * a0_1)))
set_option maxHeartbeats 8000000 in
set_option maxRecDepth 100000 in
theorem machine_says.calls (a0_0 : Int) (a0_1 : Int) (a0_2 : Int) (a0_3 : Int) (A0_4 : Option Addr) (c0_4 : Nat) (l0_4 : List Int) (A0_5 : Option Addr) (c0_5 : Nat) (l0_5 : List Int) (r : Int) (w : World) (hr0_4 : Kd.C (Kd.int .i64) w A0_4 l0_4.length l0_4) (hc0_4 : l0_4.length ≤ c0_4) (hr0_5 : Kd.C (Kd.int .i64) w A0_5 l0_5.length l0_5) (hc0_5 : l0_5.length ≤ c0_5) (h : machine_says.f a0_0 a0_1 a0_2 a0_3 l0_4 l0_5 = some r) :
  Calls Try.prog 64 #[.agg #[.int .i64 a0_0, .int .i64 a0_1, .int .i64 a0_2, .int .i64 a0_3, .slice A0_4 l0_4.length c0_4, .slice A0_5 l0_5.length c0_5]] w fun e w' => e = .returned (.int .i64 r) ∧ Below w.heap.size w w' := by
 have hu24 := Try.underlying24; have HR0_4 := A_ hr0_4; have HC0_4 := A_ hc0_4; clear hr0_4 hc0_4; have HR0_5 := A_ hr0_5; have HC0_5 := A_ hc0_5; clear hr0_5 hc0_5; have HB := A_ (Below.refl w.heap.size w); have H : (if a0_0 = 1 then (some a0_3) else (some (wrap64 (a0_3 * a0_1)))) = some r := h; clear h
 by_cases c2 : a0_0 = 1
 ·rw [if_pos c2] at H; have c2b0 : (a0_0 == 1) = true := beq_iff_eq.mpr c2; have c2b1 : (a0_0 != 1) = false := bne_eq_false_iff_eq.mpr c2; clear c2; obtain rfl := Option.some.inj H; go_enter Try.func64, Try.ntmps64; (go_wp2_with (first | (refine bx_ 1 24 #[.int .i64 a0_0, .int .i64 a0_1, .int .i64 a0_2, .int .i64 a0_3, .slice A0_4 l0_4.length c0_4, .slice A0_5 l0_5.length c0_5] ?_; intro gb122 hg w3 hbox hb; have BK122 := A_ hbox; have GW122 := GEm hg HB; have GE122 := GEm hg HB; replace HB := aBs HB hb; clear hb hbox hg; obtain ⟨_, _, _, _, _, _, _, _, _, _, _, _⟩ := mach_cells BK122.out))); go_ret; (exact ⟨by first | rfl | (simp [errW_none, errW_some] <;> rfl) | (simp [*, errW_none, errW_some] <;> rfl), SC HB.out⟩)
 ·rw [if_neg c2] at H; have c2b0 : (a0_0 == 1) = false := beq_eq_false_iff_ne.mpr c2; have c2b1 : (a0_0 != 1) = true := bne_iff_ne.mpr c2; obtain rfl := Option.some.inj H; go_enter Try.func64, Try.ntmps64; (go_wp2_with (first | (refine bx_ 1 24 #[.int .i64 a0_0, .int .i64 a0_1, .int .i64 a0_2, .int .i64 a0_3, .slice A0_4 l0_4.length c0_4, .slice A0_5 l0_5.length c0_5] ?_; intro gb122 hg w5 hbox hb; have BK122 := A_ hbox; have GW122 := GEm hg HB; have GE122 := GEm hg HB; replace HB := aBs HB hb; clear hb hbox hg; obtain ⟨_, _, _, _, _, _, _, _, _, _, _, _⟩ := mach_cells BK122.out))); go_ret; (exact ⟨by first | rfl | (simp [errW_none, errW_some] <;> rfl) | (simp [*, errW_none, errW_some] <;> rfl), SC HB.out⟩)

end Go.Proofs.Ytllgeljacmpdjaa.PTrim

-- Written by a program of this session out of the kit's printer (some functions' contracts are given by hand).
namespace Go.Proofs.Ytllgeljacmpdjaa.PTrim
open Go.RowKit Go.Proofs.YtllgeljacmpdjaaW.PrintWords Go.Proofs.YtllgeljacmpdjaaW.PrintLast Go.Proofs.YtllgeljacmpdjaaW.PrintMore
attribute [local go_sem] max2_int min2_int max_two min_two max_three min_three max_four min_four   -- for this text's walks alone
set_option linter.unusedVariables false
set_option linter.unusedSimpArgs false

/-! ### tutorref01_Same: function 20 -/
def tutorref01_Same.l0 : Nat → List Int → List Int → Int → Option (Bool)
 | 0, _, _, _ => none
 | k + 1, x0, x1, x5 => if x5 < (x0.length : Int) then (if 0 ≤ x5 then (if x5 < (x1.length : Int) then (if (rd x0 x5) = (rd x1 x5) then (tutorref01_Same.l0 k x0 x1 (wrap64 (x5 + 1))) else (some false)) else (none)) else (none)) else (some true)
def tutorref01_Same.f (k : Nat) (l0 : List Int) (l1 : List Int) : Option (Bool) := if (l0.length : Int) = (l1.length : Int) then (tutorref01_Same.l0 k l0 l1 0) else (some false)
theorem tutorref01_Same.mono_l : ∀ k, (∀ y0 y1 y2, LeO (tutorref01_Same.l0 k y0 y1 y2) (tutorref01_Same.l0 (k + 1) y0 y1 y2))
 | 0 => fun _ _ _ r h => by simp [tutorref01_Same.l0] at h
 | k + 1 => by
  have ih0 := tutorref01_Same.mono_l k
  ·intro y0 y1 y2; unfold tutorref01_Same.l0
   (with_reducible repeat' first | apply ih0 | exact LeO.refl _ | exact LeO.none _ | apply LeO.ite | refine LeO.bind ?_ fun _ => ?_)
theorem tutorref01_Same.mono : ∀ a0 a1 k, LeO (tutorref01_Same.f k a0 a1) (tutorref01_Same.f (k + 1) a0 a1) := by
 intro a0 a1 k; have ih0 := tutorref01_Same.mono_l k; unfold tutorref01_Same.f
 (with_reducible repeat' first | apply ih0 | exact LeO.refl _ | exact LeO.none _ | apply LeO.ite | refine LeO.bind ?_ fun _ => ?_)
set_option maxHeartbeats 8000000 in
set_option maxRecDepth 100000 in
theorem tutorref01_Same.calls (k : Nat) (A0 : Option Addr) (c0 : Nat) (l0 : List Int) (A1 : Option Addr) (c1 : Nat) (l1 : List Int) (r : Bool) (w : World) (hr0 : Kd.C (Kd.int .i64) w A0 l0.length l0) (hc0 : l0.length ≤ c0) (hr1 : Kd.C (Kd.int .i64) w A1 l1.length l1) (hc1 : l1.length ≤ c1) (h : tutorref01_Same.f k l0 l1 = some r) :
  Calls Try.prog 20 #[.slice A0 l0.length c0, .slice A1 l1.length c1] w fun e w' => e = .returned (.bool r) ∧ Drawn0 w w' := by
 have HR0 := A_ hr0; have HC0 := A_ hc0; clear hr0 hc0; have HR1 := A_ hr1; have HC1 := A_ hc1; clear hr1 hc1; have H : (if (l0.length : Int) = (l1.length : Int) then (tutorref01_Same.l0 k l0 l1 0) else (some false)) = some r := h; clear h
 by_cases c3 : (l0.length : Int) = (l1.length : Int)
 ·rw [if_pos c3] at H; have c3b0 : ((l0.length : Int) == (l1.length : Int)) = true := beq_iff_eq.mpr c3; have c3b1 : ((l0.length : Int) != (l1.length : Int)) = false := bne_eq_false_iff_eq.mpr c3; (have c3b2 : (l0.length == l1.length) = true := by first | simpa using c3 | (simp at c3 ⊢; omega)); clear c3; have H' := A_ H; clear H; go_enter Try.func20, Try.ntmps20; go_wp2; (repeat (go_quiet (fail); try go_wp2)); (go_loopg [5] k (fun kq v5 w' => ∃ (x5_1 : Int), v5 = .int .i64 x5_1 ∧ Aside0 (tutorref01_Same.l0 kq l0 l1 x5_1 = some r) ∧ Aside0 (kq ≤ k) ∧ Drawn0 w w')); (case atStart => exact ⟨(0), (by first | rfl | (simp; done) | (simp [*]; done)), H', ⟨Nat.le_refl _⟩, by repeat (first | exact Drawn0.refl _ | apply Drawn0.step)⟩)
  case round =>
   clear H'; obtain ⟨x5_1, rfl, HA, HK1, ⟨m1, rfl⟩⟩ := hrel
   cases gk with
   | zero => exact absurd HA.out (by simp [tutorref01_Same.l0])
   | succ k1 =>
    have H := HA.out; clear HA; simp only [tutorref01_Same.l0] at H
    by_cases c4 : x5_1 < (l0.length : Int)
    ·rw [if_pos c4] at H; have c4b0 := decide_eq_true c4; clear c4
     by_cases c5 : 0 ≤ x5_1
     ·rw [if_pos c5] at H; have c5b0 := decide_eq_true c5; clear c5
      by_cases c6 : x5_1 < (l1.length : Int)
      ·rw [if_pos c6] at H; have c6b0 := decide_eq_true c6; clear c6
       by_cases c7 : (rd l0 x5_1) = (rd l1 x5_1)
       ·rw [if_pos c7] at H; have c7b0 : ((rd l0 x5_1) == (rd l1 x5_1)) = true := beq_iff_eq.mpr c7; have c7b1 : ((rd l0 x5_1) != (rd l1 x5_1)) = false := bne_eq_false_iff_eq.mpr c7; clear c7; have H' := A_ H; clear H; (have p116 : 0 ≤ (x5_1 : Int) := dc_); (have q116 : x5_1 < (l0.length : Int) := dc_); obtain ⟨ad116, e116, hx116_0⟩ := Kd.at_int HR0.out x5_1 p116 q116; cases e116; replace p116 := eq_true p116; replace q116 := eq_true q116; (have p117 : 0 ≤ (x5_1 : Int) := dc_); (have q117 : x5_1 < (l1.length : Int) := dc_); obtain ⟨ad117, e117, hx117_0⟩ := Kd.at_int HR1.out x5_1 p117 q117; cases e117; replace p117 := eq_true p117; replace q117 := eq_true q117; go_wp2; (repeat (go_quiet (fail); try go_wp2)); go_roundg k1; (case measure => have := HK1.out; omega)
        case rel => exact ⟨(wrap64 (x5_1 + 1)), (by first | rfl | (simp; done) | (simp [*]; done)), H', ⟨by have := HK1.out; omega⟩, by repeat (first | exact Drawn0.refl _ | apply Drawn0.step)⟩
       ·rw [if_neg c7] at H; have c7b0 : ((rd l0 x5_1) == (rd l1 x5_1)) = false := beq_eq_false_iff_ne.mpr c7; have c7b1 : ((rd l0 x5_1) != (rd l1 x5_1)) = true := bne_iff_ne.mpr c7; obtain rfl := Option.some.inj H; (have p116 : 0 ≤ (x5_1 : Int) := dc_); (have q116 : x5_1 < (l0.length : Int) := dc_); obtain ⟨ad116, e116, hx116_0⟩ := Kd.at_int HR0.out x5_1 p116 q116; cases e116; replace p116 := eq_true p116; replace q116 := eq_true q116; (have p117 : 0 ≤ (x5_1 : Int) := dc_); (have q117 : x5_1 < (l1.length : Int) := dc_); obtain ⟨ad117, e117, hx117_0⟩ := Kd.at_int HR1.out x5_1 p117 q117; cases e117; replace p117 := eq_true p117; replace q117 := eq_true q117; go_wp2; (repeat (go_quiet (fail); try go_wp2)); go_ret; (exact ⟨by first | rfl | (simp; done) | (simp [*]; done), by repeat (first | exact Drawn0.refl _ | apply Drawn0.step)⟩)
      ·rw [if_neg c6] at H; (exact absurd H (by simp))
     ·rw [if_neg c5] at H; (exact absurd H (by simp))
    ·rw [if_neg c4] at H; have c4b0 := decide_eq_false c4; clear c4; obtain rfl := Option.some.inj H; go_wp2; (repeat (go_quiet (fail); try go_wp2)); go_ret; (exact ⟨by first | rfl | (simp; done) | (simp [*]; done), by repeat (first | exact Drawn0.refl _ | apply Drawn0.step)⟩)
 ·rw [if_neg c3] at H; have c3b0 : ((l0.length : Int) == (l1.length : Int)) = false := beq_eq_false_iff_ne.mpr c3; have c3b1 : ((l0.length : Int) != (l1.length : Int)) = true := bne_iff_ne.mpr c3; (have c3b2 : (l0.length == l1.length) = false := by first | simpa using c3 | (simp at c3 ⊢; omega)); obtain rfl := Option.some.inj H; go_enter Try.func20, Try.ntmps20; go_wp2; (repeat (go_quiet (fail); try go_wp2)); go_ret; (exact ⟨by first | rfl | (simp; done) | (simp [*]; done), by repeat (first | exact Drawn0.refl _ | apply Drawn0.step)⟩)

end Go.Proofs.Ytllgeljacmpdjaa.PTrim

-- Written by a program of this session out of the kit's printer (some functions' contracts are given by hand).
namespace Go.Proofs.Ytllgeljacmpdjaa.PTrim
open Go.RowKit Go.Proofs.YtllgeljacmpdjaaW.PrintWords Go.Proofs.YtllgeljacmpdjaaW.PrintLast Go.Proofs.YtllgeljacmpdjaaW.PrintMore
attribute [local go_sem] max2_int min2_int max_two min_two max_three min_three max_four min_four   -- for this text's walks alone
set_option linter.unusedVariables false
set_option linter.unusedSimpArgs false

/-! ### tutorref01_Join: function 48 -/
def tutorref01_Join.f (l0 : List Int) (l1 : List Int) : Option (List Int) := (some (([] : List Int) : List Int)).bind fun y380 => (if y380.length + l0.length < 17592186044416 then ((some (y380 ++ l0 : List Int)).bind fun y383 => (if y383.length + l1.length < 17592186044416 then (some (y383 ++ l1)) else (none))) else (none))
set_option maxHeartbeats 8000000 in
set_option maxRecDepth 100000 in
theorem tutorref01_Join.calls (A0 : Option Addr) (c0 : Nat) (l0 : List Int) (A1 : Option Addr) (c1 : Nat) (l1 : List Int) (r : List Int) (w : World) (hr0 : Kd.C (Kd.int .i64) w A0 l0.length l0) (hc0 : l0.length ≤ c0) (hr1 : Kd.C (Kd.int .i64) w A1 l1.length l1) (hc1 : l1.length ≤ c1) (h : tutorref01_Join.f l0 l1 = some r) :
  Calls Try.prog 48 #[.slice A0 l0.length c0, .slice A1 l1.length c1] w fun e w' => ∃ v0_ : Value, e = .returned (v0_) ∧ Kd.R (Kd.int .i64) 3 w' w.heap.size (fun _ => True) v0_ r ∧ Below w.heap.size w w' := by
 have HR0 := A_ hr0; have HC0 := A_ hc0; clear hr0 hc0; have HR1 := A_ hr1; have HC1 := A_ hc1; clear hr1 hc1; have HB := A_ (Below.refl w.heap.size w); have H := h; unfold tutorref01_Join.f at H; clear h; obtain ⟨y380, hy380⟩ : ∃ y_ : List Int, y_ = (([] : List Int)) := ⟨_, rfl⟩; (try rw [Option.bind_some] at H); (try rw [← hy380] at H); have Ny380 := A_ hy380; clear hy380
 by_cases c3 : y380.length + l0.length < 17592186044416
 ·rw [if_pos c3] at H; have LMc3 := A_ c3; clear c3; obtain ⟨y383, hy383⟩ : ∃ y_ : List Int, y_ = (y380 ++ l0) := ⟨_, rfl⟩; (try rw [Option.bind_some] at H); (try rw [← hy383] at H); have Ny383 := A_ hy383; clear hy383
  by_cases c4 : y383.length + l1.length < 17592186044416
  ·rw [if_pos c4] at H; have LMc4 := A_ c4; clear c4; obtain ⟨y386, hy386⟩ : ∃ y_ : List Int, y_ = (y383 ++ l1) := ⟨_, rfl⟩; (try rw [Option.bind_some] at H); (try rw [← hy386] at H); have Ny386 := A_ hy386; clear hy386; obtain rfl := Option.some.inj H; go_enter Try.func48, Try.ntmps48; (go_wp2_with (first | ((with_reducible refine gate_dst (N := 5) rfl ?_); refine Kd.R_lit (Kd.int .i64) _ 3 ?hg (N := 5) ?hd (xs := ([] : List Int)) (inner := []) (ok := fun _ => True) (okp := fun _ => True) ?hr ?hp (fun _ hk => hk) trivial (Below.refl _ _) (Nat.le_refl _) (by simp) ?_; (case hd => rfl); (case hg => rfl); (case hr => first | (go_simp; done) | (go_simp; rfl)); (case hp => exact (Reps.none _ _)); intro v381 w5 ho6 hb hg_ hnew_; clear hg_ hnew_; (first | rw [← Ny380.out] at ho6 | (simp only [Int.reduceToNat] at ho6; rw [← Ny380.out] at ho6)); have HO382 := A_ (Kd.R_lower ho6 (below_size (SC HB.out))); replace HB := aBs HB hb; clear hb ho6) | ((with_reducible refine gate_builtin (b := .append) (xs := #[.tmp 5, .tmp 6]) rfl ?_); at_builtin; refine Kd.R_append_rows (Kd.int .i64) (w0 := w) w.heap.size rfl (.tmp 5) (.tmp 6) 22 3 (.int .i64 0) 8 rfl Try.underlying22 info3 rfl (by decide) (by omega) v381 y380 l0 _ _ _ (fun _ => True) (fun _ => False) rfl rfl ?aO ?aR (fun _ _ h => h) (fun _ h => h.elim) ?aF ?aB ?aS ?aL ?_; (case aR => exact CM HR0 HB); (case aB => exact (SC HB.out)); (case aF => exact (fun _ _ => trivial)); (case aO => exact (RM HO382.out)); (case aS => exact (below_size (SC HB.out))); (case aL => have := LMc3.out; omega); intro v384 w7 ho hb hg hat; rw [← Ny383.out] at ho; replace HB := A_ hb; have HO385 := A_ ho; clear HO382; clear ho hb hg hat) | ((with_reducible refine gate_builtin (b := .append) (xs := #[.tmp 7, .tmp 8]) rfl ?_); at_builtin; refine Kd.R_append_rows (Kd.int .i64) (w0 := w) w.heap.size rfl (.tmp 7) (.tmp 8) 22 3 (.int .i64 0) 8 rfl Try.underlying22 info3 rfl (by decide) (by omega) v384 y383 l1 _ _ _ (fun _ => True) (fun _ => False) rfl rfl ?aO ?aR (fun _ _ h => h) (fun _ h => h.elim) ?aF ?aB ?aS ?aL ?_; (case aR => exact CM HR1 HB); (case aB => exact (SC HB.out)); (case aF => exact (fun _ _ => trivial)); (case aO => exact (RM HO385.out)); (case aS => exact (below_size (SC HB.out))); (case aL => have := LMc4.out; omega); intro v387 w8 ho hb hg hat; rw [← Ny386.out] at ho; replace HB := A_ hb; have HO388 := A_ ho; clear HO385; clear ho hb hg hat))); go_ret; (exact ⟨_, by first | rfl | (simp [errW_none, errW_some] <;> rfl) | (simp [*, errW_none, errW_some] <;> rfl), by (with_reducible repeat (first | apply Kd.R_alloc | apply Kd.R_drewN | apply Kd.R_drew)); exact HO388.out, SC HB.out⟩)
  ·rw [if_neg c4] at H; (exact absurd H (by simp))
 ·rw [if_neg c3] at H; (exact absurd H (by simp))

end Go.Proofs.Ytllgeljacmpdjaa.PTrim

-- Written by a program of this session out of the kit's printer (some functions' contracts are given by hand).
namespace Go.Proofs.Ytllgeljacmpdjaa.PTrim
open Go.RowKit Go.Proofs.YtllgeljacmpdjaaW.PrintWords Go.Proofs.YtllgeljacmpdjaaW.PrintLast Go.Proofs.YtllgeljacmpdjaaW.PrintMore
attribute [local go_sem] max2_int min2_int max_two min_two max_three min_three max_four min_four   -- for this text's walks alone
set_option linter.unusedVariables false
set_option linter.unusedSimpArgs false

/-! ### tutorref03_Copy: function 17 -/
def tutorref03_Copy.f (a0_0 : Int) (a0_1 : Int) (a0_2 : Int) (a0_3 : Int) (l0_4 : List Int) (l0_5 : List Int) : Option (Int × Int × Int × Int × List Int × List Int) := (some (([] : List Int) : List Int)).bind fun y104 => (if y104.length + l0_4.length < 17592186044416 then ((some (([] : List Int) : List Int)).bind fun y110 => (if y110.length + l0_5.length < 17592186044416 then (some (a0_0, a0_1, a0_2, a0_3, (y104 ++ l0_4), (y110 ++ l0_5))) else (none))) else (none))
set_option maxHeartbeats 8000000 in
set_option maxRecDepth 100000 in
theorem tutorref03_Copy.calls (a0_0 : Int) (a0_1 : Int) (a0_2 : Int) (a0_3 : Int) (A0_4 : Option Addr) (c0_4 : Nat) (l0_4 : List Int) (A0_5 : Option Addr) (c0_5 : Nat) (l0_5 : List Int) (r1 : Int) (r2 : Int) (r3 : Int) (r4 : Int) (r5 : List Int) (r6 : List Int) (w : World) (hr0_4 : Kd.C (Kd.int .i64) w A0_4 l0_4.length l0_4) (hc0_4 : l0_4.length ≤ c0_4) (hr0_5 : Kd.C (Kd.int .i64) w A0_5 l0_5.length l0_5) (hc0_5 : l0_5.length ≤ c0_5) (h : tutorref03_Copy.f a0_0 a0_1 a0_2 a0_3 l0_4 l0_5 = some (r1, r2, r3, r4, r5, r6)) :
  Calls Try.prog 17 #[.agg #[.int .i64 a0_0, .int .i64 a0_1, .int .i64 a0_2, .int .i64 a0_3, .slice A0_4 l0_4.length c0_4, .slice A0_5 l0_5.length c0_5]] w fun e w' => ∃ v4_ v5_ : Value, e = .returned (.agg #[.int .i64 r1, .int .i64 r2, .int .i64 r3, .int .i64 r4, v4_, v5_]) ∧ Kd.R (Kd.int .i64) 3 w' w.heap.size (fun k_ => some k_ ≠ (v5_ : Value).ownBlock) v4_ r5 ∧ Kd.R (Kd.int .i64) 3 w' w.heap.size (fun k_ => some k_ ≠ (v4_ : Value).ownBlock) v5_ r6 ∧ Below w.heap.size w w' := by
 have hu24 := Try.underlying24; have HR0_4 := A_ hr0_4; have HC0_4 := A_ hc0_4; clear hr0_4 hc0_4; have HR0_5 := A_ hr0_5; have HC0_5 := A_ hc0_5; clear hr0_5 hc0_5; have HB := A_ (Below.refl w.heap.size w); have H := h; unfold tutorref03_Copy.f at H; clear h; obtain ⟨y104, hy104⟩ : ∃ y_ : List Int, y_ = (([] : List Int)) := ⟨_, rfl⟩; (replace H : (if y104.length + l0_4.length < 17592186044416 then ((some (([] : List Int) : List Int)).bind fun y110 => (if y110.length + l0_5.length < 17592186044416 then (some (a0_0, a0_1, a0_2, a0_3, (y104 ++ l0_4), (y110 ++ l0_5))) else (none))) else (none)) = some (r1, r2, r3, r4, r5, r6) := by first | (rw [hy104]; with_reducible exact H) | (have H2_ := (Option.bind_some _ _).symm.trans H; rw [hy104]; with_reducible exact H2_) | (have H2_ := (Option.bind_some _ _).symm.trans H; with_reducible exact H2_) | with_reducible exact H | (rw [hy104]; exact H) | exact H); have Ny104 := A_ hy104; clear hy104
 by_cases c2 : y104.length + l0_4.length < 17592186044416
 ·rw [if_pos c2] at H; have LMc2 := A_ c2; clear c2; obtain ⟨y107, hy107⟩ : ∃ y_ : List Int, y_ = (y104 ++ l0_4) := ⟨_, rfl⟩; (try rw [Option.bind_some] at H); (try rw [← hy107] at H); have Ny107 := A_ hy107; clear hy107; obtain ⟨y110, hy110⟩ : ∃ y_ : List Int, y_ = (([] : List Int)) := ⟨_, rfl⟩; (try rw [Option.bind_some] at H); (try rw [← hy110] at H); have Ny110 := A_ hy110; clear hy110
  by_cases c3 : y110.length + l0_5.length < 17592186044416
  ·rw [if_pos c3] at H; have LMc3 := A_ c3; clear c3; obtain ⟨y113, hy113⟩ : ∃ y_ : List Int, y_ = (y110 ++ l0_5) := ⟨_, rfl⟩; (try rw [Option.bind_some] at H); (try rw [← hy113] at H); have Ny113 := A_ hy113; clear hy113; simp only [Option.some.injEq, Prod.mk.injEq] at H; obtain ⟨rfl, rfl, rfl, rfl, rfl, rfl⟩ := H; go_enter Try.func17, Try.ntmps17; (go_wp2_with (first | (refine bx_ 1 24 #[.int .i64 a0_0, .int .i64 a0_1, .int .i64 a0_2, .int .i64 a0_3, .slice A0_4 l0_4.length c0_4, .slice A0_5 l0_5.length c0_5] ?_; intro gb102 hg w4 hbox hb; have BK102 := A_ hbox; have GW102 := GEm hg HB; have GE102 := GEm hg HB; replace HB := aBs HB hb; clear hb hbox hg) | (refine bx_ 2 24 #[.int .i64 0, .int .i64 0, .int .i64 0, .int .i64 0, .slice none 0 0, .slice none 0 0] ?_; intro gb103 hg w5 hbox hb; have BK103 := A_ hbox; have GW103 := GEm hg HB; have GE103 := GEm hg HB; replace HB := aBs HB hb; have NB102_103 := NBl hg BK102; have NB103_102 := NBr hg BK102; replace BK102 := aKb BK102 hb; clear hb hbox hg) | ((with_reducible refine gate_dst (N := 3) rfl ?_); refine Kd.R_lit (Kd.int .i64) _ 3 ?hg (N := 3) ?hd (xs := ([] : List Int)) (inner := []) (ok := fun _ => True) (okp := fun _ => True) ?hr ?hp (fun _ hk => hk) trivial (Below.refl _ _) (Nat.le_refl _) (by simp) ?_; (case hd => rfl); (case hg => rfl); (case hr => first | (go_simp; done) | (go_simp; rfl)); (case hp => exact (Reps.none _ _)); intro v105 w6 ho7 hb hg_ hnew_; clear hg_ hnew_; (first | rw [← Ny104.out] at ho7 | (simp only [Int.reduceToNat] at ho7; rw [← Ny104.out] at ho7)); have HO106 := A_ (Kd.R_lower ho7 (below_size (SC HB.out))); replace BK102 := aKb BK102 hb; replace BK103 := aKb BK103 hb; replace HB := aBs HB hb; clear hb ho7; have hnb8 := NB102_103.out; have hnc8 := NB103_102.out; obtain ⟨_, _, _, _, _, _, _, _, _, _, _, _⟩ := mach_cells BK102.out) | ((with_reducible refine gate_builtin (b := .append) (xs := #[.tmp 3, .tmp 5]) rfl ?_); at_builtin; refine Kd.R_append_rows (Kd.int .i64) (w0 := w) w.heap.size rfl (.tmp 3) (.tmp 5) 22 3 (.int .i64 0) 8 rfl Try.underlying22 info3 rfl (by decide) (by omega) v105 y104 l0_4 _ _ _ (fun _ => True) (fun _ => False) rfl rfl ?aO ?aR (fun _ _ h => h) (fun _ h => h.elim) ?aF ?aB ?aS ?aL ?_; (case aR => exact CM HR0_4 HB); (case aB => exact (SC HB.out)); (case aF => exact (fun _ _ => trivial)); (case aO => exact (RM HO106.out)); (case aS => exact (below_size (SC HB.out))); (case aL => have := LMc2.out; omega); intro v108 w10 ho hb hg hat; rw [← Ny107.out] at ho; replace BK102 := A_ (blk_grown (KM BK102.out) hg (Kd.R_ne HO106.out BK102.out (by decide))); replace BK103 := A_ (blk_grown (KM BK103.out) hg (Kd.R_ne HO106.out BK103.out (by decide))); replace HB := A_ hb; have HO109 := A_ ho; clear HO106; clear ho hb hg hat; obtain ⟨Ao11, co11, eo11⟩ := Kd.R_slice HO109.out; subst eo11; obtain ⟨_, _, _, _, _, _, _, _, _, _, _, _⟩ := mach_cells BK102.out) | ((with_reducible refine gate_dst (N := 8) rfl ?_); refine Kd.R_lit (Kd.int .i64) _ 3 ?hg (N := 8) ?hd (xs := ([] : List Int)) (inner := []) (ok := fun _ => True) (okp := fun _ => True) ?hr ?hp (fun _ hk => hk) trivial (Below.refl _ _) (Nat.le_refl _) (by simp) ?_; (case hd => rfl); (case hg => rfl); (case hr => first | (go_simp; done) | (go_simp; rfl)); (case hp => exact (Reps.none _ _)); intro v111 w13 ho14 hb hg_ hnew_; clear hg_ hnew_; (first | rw [← Ny110.out] at ho14 | (simp only [Int.reduceToNat] at ho14; rw [← Ny110.out] at ho14)); have HO112 := A_ (Kd.R_lower (Kd.R_new' ho14 (Kd.R_lt (RF HO109 BK102))) (below_size (SC HB.out))); replace HO109 := A_ (Kd.R_elder' (RF HO109 BK102) (Kd.R_base ho14) hb); replace BK102 := A_ (blk_below (g := gb102) (o := .cells #[.int .i64 a0_0, .int .i64 a0_1, .int .i64 a0_2, .int .i64 a0_3, .slice Ao11 y107.length co11, .slice A0_5 l0_5.length c0_5] 24 (0, 0)) (KP BK102.out) hb); replace BK103 := aKb BK103 hb; replace HB := aBs HB hb; clear hb ho14; obtain ⟨_, _, _, _, _, _, _, _, _, _, _, _⟩ := mach_cells BK102.out) | ((with_reducible refine gate_builtin (b := .append) (xs := #[.tmp 8, .tmp 10]) rfl ?_); at_builtin; refine Kd.R_append_rows (Kd.int .i64) (w0 := w) w.heap.size rfl (.tmp 8) (.tmp 10) 22 3 (.int .i64 0) 8 rfl Try.underlying22 info3 rfl (by decide) (by omega) v111 y110 l0_5 _ _ _ (fun k_ => some k_ ≠ (.slice Ao11 y107.length co11 : Value).ownBlock) (fun _ => False) rfl rfl ?aO ?aR (fun _ _ h => h) (fun _ h => h.elim) ?aF ?aB ?aS ?aL ?_; (case aR => exact CM HR0_5 HB); (case aB => exact (SC HB.out)); (case aF => exact (fun k_ hk => Kd.fresh' (Kd.R_lt (RM HO109.out)) k_ hk)); (case aO => exact (by (with_reducible repeat (first | apply Kd.R_alloc | apply Kd.R_drewN | apply Kd.R_drew)); exact Kd.R_mono HO112.out (fun _ hk => hk.2))); (case aS => exact (below_size (SC HB.out))); (case aL => have := LMc3.out; omega); intro v114 w16 ho hb hg hat; rw [← Ny113.out] at ho; replace BK102 := A_ (blk_grown (KM BK102.out) hg (Kd.R_ne HO112.out BK102.out (by decide))); replace BK103 := A_ (blk_grown (KM BK103.out) hg (Kd.R_ne HO112.out BK103.out (by decide))); replace HO109 := A_ (Kd.R_after (ok := (fun _ => True)) (RM HO109.out) hg hat); replace HB := A_ hb; have HO115 := A_ ho; clear HO112; clear ho hb hg hat; obtain ⟨Ao17, co17, eo17⟩ := Kd.R_slice HO115.out; subst eo17; obtain ⟨_, _, _, _, _, _, _, _, _, _, _, _⟩ := mach_cells BK102.out; obtain ⟨_, _, _, _, _, _, _, _, _, _, _, _⟩ := mach_cells BK103.out))); (refine bodyPost_ret (results_cell_row rfl _ _ gb103 24 #[.int .i64 a0_0, .int .i64 a0_1, .int .i64 a0_2, .int .i64 a0_3, .slice Ao11 y107.length co11, .slice Ao17 y113.length co17] (0, 0) _ rfl (KP BK103.out) Try.underlying24 rfl (by kernel_rfl)) rfl ?_); (exact ⟨_, _, by first | rfl | (simp [errW_none, errW_some] <;> rfl) | (simp [*, errW_none, errW_some] <;> rfl), by (with_reducible repeat (first | apply Kd.R_alloc | apply Kd.R_drewN | apply Kd.R_drew)); exact Kd.R_mono (Kd.R_far (p := ⟨gb103, 5, none⟩) (Kd.R_far (p := ⟨gb103, 4, none⟩) (Kd.R_far (p := ⟨gb103, 3, none⟩) (Kd.R_far (p := ⟨gb103, 2, none⟩) (Kd.R_far (p := ⟨gb103, 1, none⟩) (Kd.R_far (p := ⟨gb103, 0, none⟩) (Kd.R_far (p := ⟨gb102, 5, none⟩) (Kd.R_types (Kd.R_types HO109.out BK102.out (by decide)) BK103.out (by decide)) (fun _ hk => hk.1.2) (.slice Ao17 y113.length co17)) (fun _ hk => hk.2) (.int .i64 a0_0)) (fun _ hk => hk.2) (.int .i64 a0_1)) (fun _ hk => hk.2) (.int .i64 a0_2)) (fun _ hk => hk.2) (.int .i64 a0_3)) (fun _ hk => hk.2) (.slice Ao11 y107.length co11)) (fun _ hk => hk.2) (.slice Ao17 y113.length co17)) (fun _ hk => hk.1.1.2), by (with_reducible repeat (first | apply Kd.R_alloc | apply Kd.R_drewN | apply Kd.R_drew)); exact Kd.R_mono (Kd.R_far (p := ⟨gb103, 5, none⟩) (Kd.R_far (p := ⟨gb103, 4, none⟩) (Kd.R_far (p := ⟨gb103, 3, none⟩) (Kd.R_far (p := ⟨gb103, 2, none⟩) (Kd.R_far (p := ⟨gb103, 1, none⟩) (Kd.R_far (p := ⟨gb103, 0, none⟩) (Kd.R_far (p := ⟨gb102, 5, none⟩) (Kd.R_types (Kd.R_types HO115.out BK102.out (by decide)) BK103.out (by decide)) (fun _ hk => hk.1.2) (.slice Ao17 y113.length co17)) (fun _ hk => hk.2) (.int .i64 a0_0)) (fun _ hk => hk.2) (.int .i64 a0_1)) (fun _ hk => hk.2) (.int .i64 a0_2)) (fun _ hk => hk.2) (.int .i64 a0_3)) (fun _ hk => hk.2) (.slice Ao11 y107.length co11)) (fun _ hk => hk.2) (.slice Ao17 y113.length co17)) (fun _ hk => hk.1.1), SC HB.out⟩)
  ·rw [if_neg c3] at H; (exact absurd H (by simp))
 ·rw [if_neg c2] at H; (exact absurd H (by simp))

end Go.Proofs.Ytllgeljacmpdjaa.PTrim

-- Written by a program of this session out of the kit's printer (some functions' contracts are given by hand).
namespace Go.Proofs.Ytllgeljacmpdjaa.PTrim
open Go.RowKit Go.Proofs.YtllgeljacmpdjaaW.PrintWords Go.Proofs.YtllgeljacmpdjaaW.PrintLast Go.Proofs.YtllgeljacmpdjaaW.PrintMore
attribute [local go_sem] max2_int min2_int max_two min_two max_three min_three max_four min_four   -- for this text's walks alone
set_option linter.unusedVariables false
set_option linter.unusedSimpArgs false

/-! ### tutorref01_Check: function 29 -/
mutual
def tutorref01_Check.j0 : Nat → List Int → Int → Bool → Option (Int × Int)
 | 0, _, _, _ => none
 | k + 1, x0, x1, x12 => if x12 = true then (some (0, 1)) else (if (x0.length : Int) > 4096 then (some (0, 2)) else (tutorref01_Check.l0 k x0 x1 0))
def tutorref01_Check.l0 : Nat → List Int → Int → Int → Option (Int × Int)
 | 0, _, _, _ => none
 | k + 1, x0, x1, x6 => if x6 < (x0.length : Int) then (if 0 ≤ x6 then (if (rd x0 x6) < 0 then (some (x6, 10)) else (if (rd x0 x6) ≥ x1 then (some (x6, 10)) else (tutorref01_Check.l0 k x0 x1 (wrap64 (x6 + 1))))) else (none)) else (some (0, 0))
end
def tutorref01_Check.f (k : Nat) (l0 : List Int) (a1 : Int) : Option (Int × Int) := if a1 < 1 then (tutorref01_Check.j0 k l0 a1 true) else (tutorref01_Check.j0 k l0 a1 (decide (a1 > 64)))
theorem tutorref01_Check.mono_l : ∀ k, (∀ y0 y1 y2, LeO (tutorref01_Check.j0 k y0 y1 y2) (tutorref01_Check.j0 (k + 1) y0 y1 y2)) ∧ (∀ y0 y1 y2, LeO (tutorref01_Check.l0 k y0 y1 y2) (tutorref01_Check.l0 (k + 1) y0 y1 y2))
 | 0 => by refine ⟨?_, ?_⟩ <;> (intros; intro r h; simp [tutorref01_Check.j0, tutorref01_Check.l0] at h)
 | k + 1 => by
  obtain ⟨ih0, ih1⟩ := tutorref01_Check.mono_l k; refine ⟨?_, ?_⟩ <;> intros <;> (first | unfold tutorref01_Check.j0 | unfold tutorref01_Check.l0) <;> (with_reducible repeat' first | apply ih0 | apply ih1 | exact LeO.refl _ | exact LeO.none _ | apply LeO.ite | refine LeO.bind ?_ fun _ => ?_)
theorem tutorref01_Check.mono : ∀ a0 a1 k, LeO (tutorref01_Check.f k a0 a1) (tutorref01_Check.f (k + 1) a0 a1) := by
 intro a0 a1 k; obtain ⟨ih0, ih1⟩ := tutorref01_Check.mono_l k; unfold tutorref01_Check.f
 (with_reducible repeat' first | apply ih0 | apply ih1 | exact LeO.refl _ | exact LeO.none _ | apply LeO.ite | refine LeO.bind ?_ fun _ => ?_)
set_option maxHeartbeats 8000000 in
set_option maxRecDepth 100000 in
theorem tutorref01_Check.calls (k : Nat) (A0 : Option Addr) (c0 : Nat) (l0 : List Int) (a1 : Int) (r1 : Int) (r2 : Int) (w : World) (hr0 : Kd.C (Kd.int .i64) w A0 l0.length l0) (hc0 : l0.length ≤ c0) (h : tutorref01_Check.f k l0 a1 = some (r1, r2)) :
  Calls Try.prog 29 #[.slice A0 l0.length c0, .int .i64 a1] w fun e w' => e = .returned (.tuple #[.int .i64 r1, .int .i64 r2]) ∧ Drawn0 w w' := by
 have HR0 := A_ hr0; have HC0 := A_ hc0; clear hr0 hc0; have H : (if a1 < 1 then (tutorref01_Check.j0 k l0 a1 true) else (tutorref01_Check.j0 k l0 a1 (decide (a1 > 64)))) = some (r1, r2) := h; clear h; have HC3 := A_ H; clear H; go_enter Try.func29, Try.ntmps29; go_upto_region 1 with (fail); (go_cut [12] (fun v12 wc => ∃ (kq : Nat) (x12_2 : Bool), v12 = .bool x12_2 ∧ Aside0 (tutorref01_Check.j0 kq l0 a1 x12_2 = some (r1, r2)) ∧ Aside0 (kq ≤ k) ∧ Drawn0 w wc))
 case first =>
  have H := HC3.out; clear HC3
  by_cases c4 : a1 < 1
  ·rw [if_pos c4] at H; have c4b0 := decide_eq_true c4; clear c4; (first | rw [c4b0] | (simp only [i64_w, i32_w]; rw [c4b0]) | skip); have H' := A_ H; clear H; go_wp2; go_meet; (case rel => exact ⟨_, (true), (by first | rfl | (simp; done) | (simp [*]; done)), H', ⟨by first | omega | exact Nat.le_refl _⟩, by repeat (first | exact Drawn0.refl _ | apply Drawn0.step)⟩)
  ·rw [if_neg c4] at H; have c4b0 := decide_eq_false c4; clear c4; (first | rw [c4b0] | (simp only [i64_w, i32_w]; rw [c4b0]) | skip); have H' := A_ H; clear H; go_wp2; go_meet; (case rel => exact ⟨_, (decide (a1 > 64)), (by first | rfl | (simp; done) | (simp [*]; done)), H', ⟨by first | omega | exact Nat.le_refl _⟩, by repeat (first | exact Drawn0.refl _ | apply Drawn0.step)⟩)
 case rest =>
  clear HC3; obtain ⟨kq, x12_2, rfl, HA, HJ2, ⟨mc2, rfl⟩⟩ := hcut
  cases kq with
  | zero => exact absurd HA.out (by simp [tutorref01_Check.j0])
  | succ kj2 =>
   have H := HA.out; clear HA; simp only [tutorref01_Check.j0] at H
   by_cases c5 : x12_2 = true
   ·subst c5; rw [if_pos rfl] at H; simp only [Option.some.injEq, Prod.mk.injEq] at H; obtain ⟨rfl, rfl⟩ := H; go_wp2; go_ret2; (exact ⟨by first | rfl | (simp; done) | (simp [*]; done), by repeat (first | exact Drawn0.refl _ | apply Drawn0.step)⟩)
   ·replace c5 := Bool.eq_false_iff.mpr c5; subst c5; rw [if_neg (show ¬ (false = true) by decide)] at H
    by_cases c6 : (l0.length : Int) > 4096
    ·rw [if_pos c6] at H; have c6b0 : decide (4096 < (l0.length : Int)) = true := decide_eq_true c6; (have c6b1 : decide (4096 < l0.length) = true := decide_eq_true (by omega)); clear c6; simp only [Option.some.injEq, Prod.mk.injEq] at H; obtain ⟨rfl, rfl⟩ := H; go_wp2; go_ret2; (exact ⟨by first | rfl | (simp; done) | (simp [*]; done), by repeat (first | exact Drawn0.refl _ | apply Drawn0.step)⟩)
    ·rw [if_neg c6] at H; have c6b0 : decide (4096 < (l0.length : Int)) = false := decide_eq_false c6; (have c6b1 : decide (4096 < l0.length) = false := decide_eq_false (by omega)); clear c6; have H' := A_ H; clear H; go_wp2; (go_loopg [6] kj2 (fun kq v6 w' => ∃ (x6_2 : Int), v6 = .int .i64 x6_2 ∧ Aside0 (tutorref01_Check.l0 kq l0 a1 x6_2 = some (r1, r2)) ∧ Aside0 (kq ≤ kj2) ∧ Drawn0 w w')); (case atStart => exact ⟨(0), (by first | rfl | (simp; done) | (simp [*]; done)), H', ⟨Nat.le_refl _⟩, by repeat (first | exact Drawn0.refl _ | apply Drawn0.step)⟩)
     case round =>
      clear H'; obtain ⟨x6_2, rfl, HA, HK2, ⟨m2, rfl⟩⟩ := hrel
      cases gk with
      | zero => exact absurd HA.out (by simp [tutorref01_Check.l0])
      | succ k2 =>
       have H := HA.out; clear HA; simp only [tutorref01_Check.l0] at H
       by_cases c7 : x6_2 < (l0.length : Int)
       ·rw [if_pos c7] at H; have c7b0 := decide_eq_true c7; clear c7
        by_cases c8 : 0 ≤ x6_2
        ·rw [if_pos c8] at H; have c8b0 := decide_eq_true c8; clear c8
         by_cases c9 : (rd l0 x6_2) < 0
         ·rw [if_pos c9] at H; have c9b0 := decide_eq_true c9; clear c9; simp only [Option.some.injEq, Prod.mk.injEq] at H; obtain ⟨rfl, rfl⟩ := H; (have p542 : 0 ≤ (x6_2 : Int) := dc_); (have q542 : x6_2 < (l0.length : Int) := dc_); obtain ⟨ad542, e542, hx542_0⟩ := Kd.at_int HR0.out x6_2 p542 q542; cases e542; replace p542 := eq_true p542; replace q542 := eq_true q542; go_wp2; go_ret2; (exact ⟨by first | rfl | (simp; done) | (simp [*]; done), by repeat (first | exact Drawn0.refl _ | apply Drawn0.step)⟩)
         ·rw [if_neg c9] at H; have c9b0 := decide_eq_false c9; clear c9
          by_cases c10 : (rd l0 x6_2) ≥ a1
          ·rw [if_pos c10] at H; have c10b0 := decide_eq_true c10; clear c10; simp only [Option.some.injEq, Prod.mk.injEq] at H; obtain ⟨rfl, rfl⟩ := H; (have p542 : 0 ≤ (x6_2 : Int) := dc_); (have q542 : x6_2 < (l0.length : Int) := dc_); obtain ⟨ad542, e542, hx542_0⟩ := Kd.at_int HR0.out x6_2 p542 q542; cases e542; replace p542 := eq_true p542; replace q542 := eq_true q542; (have p543 : 0 ≤ (x6_2 : Int) := dc_); (have q543 : x6_2 < (l0.length : Int) := dc_); obtain ⟨ad543, e543, hx543_0⟩ := Kd.at_int HR0.out x6_2 p543 q543; (obtain rfl : ad542 = ad543 := (by injection e543)); replace p543 := eq_true p543; replace q543 := eq_true q543; go_wp2; go_ret2; (exact ⟨by first | rfl | (simp; done) | (simp [*]; done), by repeat (first | exact Drawn0.refl _ | apply Drawn0.step)⟩)
          ·rw [if_neg c10] at H; have c10b0 := decide_eq_false c10; clear c10; have H' := A_ H; clear H; (have p542 : 0 ≤ (x6_2 : Int) := dc_); (have q542 : x6_2 < (l0.length : Int) := dc_); obtain ⟨ad542, e542, hx542_0⟩ := Kd.at_int HR0.out x6_2 p542 q542; cases e542; replace p542 := eq_true p542; replace q542 := eq_true q542; (have p543 : 0 ≤ (x6_2 : Int) := dc_); (have q543 : x6_2 < (l0.length : Int) := dc_); obtain ⟨ad543, e543, hx543_0⟩ := Kd.at_int HR0.out x6_2 p543 q543; (obtain rfl : ad542 = ad543 := (by injection e543)); replace p543 := eq_true p543; replace q543 := eq_true q543; go_wp2; go_roundg k2; (case measure => have := HJ2.out; have := HK2.out; omega)
           case rel => exact ⟨(wrap64 (x6_2 + 1)), (by first | rfl | (simp; done) | (simp [*]; done)), H', ⟨by have := HJ2.out; have := HK2.out; omega⟩, by repeat (first | exact Drawn0.refl _ | apply Drawn0.step)⟩
        ·rw [if_neg c8] at H; (exact absurd H (by simp))
       ·rw [if_neg c7] at H; have c7b0 := decide_eq_false c7; clear c7; simp only [Option.some.injEq, Prod.mk.injEq] at H; obtain ⟨rfl, rfl⟩ := H; go_wp2; go_ret2; (exact ⟨by first | rfl | (simp; done) | (simp [*]; done), by repeat (first | exact Drawn0.refl _ | apply Drawn0.step)⟩)

end Go.Proofs.Ytllgeljacmpdjaa.PTrim
