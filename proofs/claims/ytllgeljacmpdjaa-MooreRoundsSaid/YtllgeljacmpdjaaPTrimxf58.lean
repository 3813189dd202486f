-- Written by a program of this session out of the kit's printer (some functions' contracts are given by hand).
import Derived.Test.YtllgeljacmpdjaaPTrimx0
import Derived.Test.YtllgeljacmpdjaaPTrimxs
namespace Go.Proofs.Ytllgeljacmpdjaa.PTrim
open Go.RowKit Go.Proofs.YtllgeljacmpdjaaW.PrintWords Go.Proofs.YtllgeljacmpdjaaW.PrintLast Go.Proofs.YtllgeljacmpdjaaW.PrintMore
attribute [local go_sem] max2_int min2_int max_two min_two max_three min_three max_four min_four   -- for this text's walks alone
set_option linter.unusedVariables false
set_option linter.unusedSimpArgs false

/-! ### machine_head: function 58 -/
mutual
def machine_head.j0 : Nat → Bool → Int → Int → Int → Int → List Int → List Int → Option (Int)
 | 0, _, _, _, _, _, _, _ => none
 | k + 1, x3, x124000, x124001, x124002, x124003, x124004, x124005 => if x3 = true then (some 30) else (if x124001 < 1 then (machine_head.j1 k (decide (x124001 < 1)) x124000 x124001 x124002 x124003 x124004 x124005) else (machine_head.j1 k (decide (x124001 > 64)) x124000 x124001 x124002 x124003 x124004 x124005))
def machine_head.j1 : Nat → Bool → Int → Int → Int → Int → List Int → List Int → Option (Int)
 | 0, _, _, _, _, _, _, _ => none
 | k + 1, x12, x124000, x124001, x124002, x124003, x124004, x124005 => if x12 = true then (some 1) else (if x124000 = 1 then (machine_head.j2 k (x124002 != 2) x124000 x124001 x124002 x124003 x124004 x124005) else (machine_head.j2 k false x124000 x124001 x124002 x124003 x124004 x124005))
def machine_head.j2 : Nat → Bool → Int → Int → Int → Int → List Int → List Int → Option (Int)
 | 0, _, _, _, _, _, _, _ => none
 | k + 1, x19, x124000, x124001, x124002, x124003, x124004, x124005 => if x19 = true then (some 33) else (if x124002 < 1 then (machine_head.j3 k (decide (x124002 < 1)) x124000 x124001 x124002 x124003 x124004 x124005) else (machine_head.j3 k (decide (x124002 > 64)) x124000 x124001 x124002 x124003 x124004 x124005))
def machine_head.j3 : Nat → Bool → Int → Int → Int → Int → List Int → List Int → Option (Int)
 | 0, _, _, _, _, _, _, _ => none
 | k + 1, x28, x124000, x124001, x124002, x124003, x124004, x124005 => if x28 = true then (some 33) else (if x124003 < 1 then (machine_head.j4 k (decide (x124003 < 1)) x124000 x124001 x124002 x124003 x124004 x124005) else (machine_head.j4 k (decide (x124003 > 1024)) x124000 x124001 x124002 x124003 x124004 x124005))
def machine_head.j4 : Nat → Bool → Int → Int → Int → Int → List Int → List Int → Option (Int)
 | 0, _, _, _, _, _, _, _ => none
 | k + 1, x35, x124000, x124001, x124002, x124003, x124004, x124005 => if x35 = true then (some 3) else (if (x124004.length : Int) = (wrap64 (x124003 * x124001)) then ((machine_says.f x124000 x124001 x124002 x124003 x124004 x124005).bind fun t124 => (if (x124005.length : Int) = t124 then (some 0) else (some 31))) else (some 31))
end
def machine_head.f (k : Nat) (a0_0 : Int) (a0_1 : Int) (a0_2 : Int) (a0_3 : Int) (l0_4 : List Int) (l0_5 : List Int) : Option (Int) := if a0_0 = 1 then (machine_head.j0 k false a0_0 a0_1 a0_2 a0_3 l0_4 l0_5) else (machine_head.j0 k (a0_0 != 2) a0_0 a0_1 a0_2 a0_3 l0_4 l0_5)
theorem machine_head.mono_l : ∀ k, (∀ y0 y1 y2 y3 y4 y5 y6, LeO (machine_head.j0 k y0 y1 y2 y3 y4 y5 y6) (machine_head.j0 (k + 1) y0 y1 y2 y3 y4 y5 y6)) ∧ (∀ y0 y1 y2 y3 y4 y5 y6, LeO (machine_head.j1 k y0 y1 y2 y3 y4 y5 y6) (machine_head.j1 (k + 1) y0 y1 y2 y3 y4 y5 y6)) ∧ (∀ y0 y1 y2 y3 y4 y5 y6, LeO (machine_head.j2 k y0 y1 y2 y3 y4 y5 y6) (machine_head.j2 (k + 1) y0 y1 y2 y3 y4 y5 y6)) ∧ (∀ y0 y1 y2 y3 y4 y5 y6, LeO (machine_head.j3 k y0 y1 y2 y3 y4 y5 y6) (machine_head.j3 (k + 1) y0 y1 y2 y3 y4 y5 y6)) ∧ (∀ y0 y1 y2 y3 y4 y5 y6, LeO (machine_head.j4 k y0 y1 y2 y3 y4 y5 y6) (machine_head.j4 (k + 1) y0 y1 y2 y3 y4 y5 y6))
 | 0 => by refine ⟨?_, ?_, ?_, ?_, ?_⟩ <;> (intros; intro r h; simp [machine_head.j0, machine_head.j1, machine_head.j2, machine_head.j3, machine_head.j4] at h)
 | k + 1 => by
  obtain ⟨ih0, ih1, ih2, ih3, ih4⟩ := machine_head.mono_l k; refine ⟨?_, ?_, ?_, ?_, ?_⟩ <;> intros <;> (first | unfold machine_head.j0 | unfold machine_head.j1 | unfold machine_head.j2 | unfold machine_head.j3 | unfold machine_head.j4) <;> (with_reducible repeat' first | apply ih0 | apply ih1 | apply ih2 | apply ih3 | apply ih4 | exact LeO.refl _ | exact LeO.none _ | apply LeO.ite | refine LeO.bind ?_ fun _ => ?_)
theorem machine_head.mono : ∀ a0 a1 a2 a3 a4 a5 k, LeO (machine_head.f k a0 a1 a2 a3 a4 a5) (machine_head.f (k + 1) a0 a1 a2 a3 a4 a5) := by
 intro a0 a1 a2 a3 a4 a5 k; obtain ⟨ih0, ih1, ih2, ih3, ih4⟩ := machine_head.mono_l k; unfold machine_head.f
 (with_reducible repeat' first | apply ih0 | apply ih1 | apply ih2 | apply ih3 | apply ih4 | exact LeO.refl _ | exact LeO.none _ | apply LeO.ite | refine LeO.bind ?_ fun _ => ?_)
set_option maxHeartbeats 8000000 in
set_option maxRecDepth 100000 in
theorem machine_head.calls (k : Nat) (a0_0 : Int) (a0_1 : Int) (a0_2 : Int) (a0_3 : Int) (A0_4 : Option Addr) (c0_4 : Nat) (l0_4 : List Int) (A0_5 : Option Addr) (c0_5 : Nat) (l0_5 : List Int) (r : Int) (w : World) (hr0_4 : Kd.C (Kd.int .i64) w A0_4 l0_4.length l0_4) (hc0_4 : l0_4.length ≤ c0_4) (hr0_5 : Kd.C (Kd.int .i64) w A0_5 l0_5.length l0_5) (hc0_5 : l0_5.length ≤ c0_5) (h : machine_head.f k a0_0 a0_1 a0_2 a0_3 l0_4 l0_5 = some r) :
  Calls Try.prog 58 #[.agg #[.int .i64 a0_0, .int .i64 a0_1, .int .i64 a0_2, .int .i64 a0_3, .slice A0_4 l0_4.length c0_4, .slice A0_5 l0_5.length c0_5]] w fun e w' => e = .returned (.int .i64 r) ∧ Below w.heap.size w w' := by
 have hu24 := Try.underlying24; have HR0_4 := A_ hr0_4; have HC0_4 := A_ hc0_4; clear hr0_4 hc0_4; have HR0_5 := A_ hr0_5; have HC0_5 := A_ hc0_5; clear hr0_5 hc0_5; have HB := A_ (Below.refl w.heap.size w); have H : (if a0_0 = 1 then (machine_head.j0 k false a0_0 a0_1 a0_2 a0_3 l0_4 l0_5) else (machine_head.j0 k (a0_0 != 2) a0_0 a0_1 a0_2 a0_3 l0_4 l0_5)) = some r := h; clear h; have HC2 := A_ H; clear H; go_enter Try.func58, Try.ntmps58; (go_upto_region 1 with (first | (refine bx_ 1 24 #[.int .i64 a0_0, .int .i64 a0_1, .int .i64 a0_2, .int .i64 a0_3, .slice A0_4 l0_4.length c0_4, .slice A0_5 l0_5.length c0_5] ?_; intro gb123 hg w3 hbox hb; have BK123 := A_ hbox; have GW123 := GEm hg HB; have GE123 := GEm hg HB; replace HB := aBs HB hb; clear hb hbox hg))); (try simp only [Act.put, List.setIfInBounds_toArray, List.set_cons_zero, List.set_cons_succ]); (go_cut [3] (fun v3 wc => ∃ (kq : Nat) (x3_1 : Bool), v3 = .bool x3_1 ∧ Aside0 (machine_head.j0 kq x3_1 a0_0 a0_1 a0_2 a0_3 l0_4 l0_5 = some r) ∧ Aside0 (kq ≤ k) ∧ Aside0 (wc.heap[gb123]? = some (.cells #[.int .i64 a0_0, .int .i64 a0_1, .int .i64 a0_2, .int .i64 a0_3, (.slice A0_4 l0_4.length c0_4), (.slice A0_5 l0_5.length c0_5)] 24 (0, 0))) ∧ Aside0 (Below w.heap.size w wc)))
 case first =>
  have H := HC2.out; clear HC2
  by_cases c4 : a0_0 = 1
  ·rw [if_pos c4] at H; have c4b0 : (a0_0 == 1) = true := beq_iff_eq.mpr c4; have c4b1 : (a0_0 != 1) = false := bne_eq_false_iff_eq.mpr c4; clear c4; (first | rw [c4b0] | (simp only [i64_w, i32_w]; rw [c4b0]) | skip); have H' := A_ H; clear H; obtain ⟨_, _, _, _, _, _, _, _, _, _, _, _⟩ := mach_cells BK123.out; go_wp2; go_meet; (case rel => exact ⟨_, (false), (by first | rfl | (simp; done) | (simp [*]; done)), H', ⟨by first | omega | exact Nat.le_refl _⟩, ⟨KM BK123.out⟩, ⟨SC HB.out⟩⟩)
  ·rw [if_neg c4] at H; have c4b0 : (a0_0 == 1) = false := beq_eq_false_iff_ne.mpr c4; have c4b1 : (a0_0 != 1) = true := bne_iff_ne.mpr c4; (first | rw [c4b0] | (simp only [i64_w, i32_w]; rw [c4b0]) | skip); have H' := A_ H; clear H; obtain ⟨_, _, _, _, _, _, _, _, _, _, _, _⟩ := mach_cells BK123.out; go_wp2; go_meet; (case rel => exact ⟨_, ((a0_0 != 2)), (by first | rfl | (simp; done) | (simp [*]; done)), H', ⟨by first | omega | exact Nat.le_refl _⟩, ⟨KM BK123.out⟩, ⟨SC HB.out⟩⟩)
 case rest =>
  clear HC2; obtain ⟨kq, x3_1, rfl, HA, HJ1, BK123, HB⟩ := hcut
  cases kq with
  | zero => exact absurd HA.out (by simp [machine_head.j0])
  | succ kj1 =>
   have H := HA.out; clear HA; simp only [machine_head.j0] at H
   by_cases c7 : x3_1 = true
   ·subst c7; rw [if_pos rfl] at H; obtain rfl := Option.some.inj H; go_wp2; go_ret; (exact ⟨by first | rfl | (simp [errW_none, errW_some] <;> rfl) | (simp [*, errW_none, errW_some] <;> rfl), SC HB.out⟩)
   ·replace c7 := Bool.eq_false_iff.mpr c7; subst c7; rw [if_neg (show ¬ (false = true) by decide)] at H; have HC8 := A_ H; clear H; obtain ⟨_, _, _, _, _, _, _, _, _, _, _, _⟩ := mach_cells BK123.out; go_upto_if 12 with (fail); (go_cut [12] (fun v12 wc => ∃ (kq : Nat) (x12_7 : Bool), v12 = .bool x12_7 ∧ Aside0 (machine_head.j1 kq x12_7 a0_0 a0_1 a0_2 a0_3 l0_4 l0_5 = some r) ∧ Aside0 (kq ≤ kj1) ∧ Aside0 (wc.heap[gb123]? = some (.cells #[.int .i64 a0_0, .int .i64 a0_1, .int .i64 a0_2, .int .i64 a0_3, (.slice A0_4 l0_4.length c0_4), (.slice A0_5 l0_5.length c0_5)] 24 (0, 0))) ∧ Aside0 (Below w.heap.size w wc)))
    case first =>
     have H := HC8.out; clear HC8
     by_cases c10 : a0_1 < 1
     ·rw [if_pos c10] at H; have c10b0 := decide_eq_true c10; clear c10; (first | rw [c10b0] | (simp only [i64_w, i32_w]; rw [c10b0]) | skip); have H' := A_ H; clear H; go_wp2; go_meet; (case rel => exact ⟨_, (decide (a0_1 < 1)), (by first | rfl | (simp; done) | (simp [*]; done)), H', ⟨by have := HJ1.out; first | omega | exact Nat.le_refl _⟩, ⟨KM BK123.out⟩, ⟨SC HB.out⟩⟩)
     ·rw [if_neg c10] at H; have c10b0 := decide_eq_false c10; clear c10; (first | rw [c10b0] | (simp only [i64_w, i32_w]; rw [c10b0]) | skip); have H' := A_ H; clear H; obtain ⟨_, _, _, _, _, _, _, _, _, _, _, _⟩ := mach_cells BK123.out; go_wp2; go_meet; (case rel => exact ⟨_, (decide (a0_1 > 64)), (by first | rfl | (simp; done) | (simp [*]; done)), H', ⟨by have := HJ1.out; first | omega | exact Nat.le_refl _⟩, ⟨KM BK123.out⟩, ⟨SC HB.out⟩⟩)
    case rest =>
     clear HC8; obtain ⟨kq, x12_7, rfl, HA, HJ7, BK123, HB⟩ := hcut
     cases kq with
     | zero => exact absurd HA.out (by simp [machine_head.j1])
     | succ kj7 =>
      have H := HA.out; clear HA; simp only [machine_head.j1] at H
      by_cases c12 : x12_7 = true
      ·subst c12; rw [if_pos rfl] at H; obtain rfl := Option.some.inj H; go_wp2; go_ret; (exact ⟨by first | rfl | (simp [errW_none, errW_some] <;> rfl) | (simp [*, errW_none, errW_some] <;> rfl), SC HB.out⟩)
      ·replace c12 := Bool.eq_false_iff.mpr c12; subst c12; rw [if_neg (show ¬ (false = true) by decide)] at H; have HC13 := A_ H; clear H; go_upto_region 4 with (fail); (go_cut [19] (fun v19 wc => ∃ (kq : Nat) (x19_12 : Bool), v19 = .bool x19_12 ∧ Aside0 (machine_head.j2 kq x19_12 a0_0 a0_1 a0_2 a0_3 l0_4 l0_5 = some r) ∧ Aside0 (kq ≤ kj7) ∧ Aside0 (wc.heap[gb123]? = some (.cells #[.int .i64 a0_0, .int .i64 a0_1, .int .i64 a0_2, .int .i64 a0_3, (.slice A0_4 l0_4.length c0_4), (.slice A0_5 l0_5.length c0_5)] 24 (0, 0))) ∧ Aside0 (Below w.heap.size w wc)))
       case first =>
        have H := HC13.out; clear HC13
        by_cases c14 : a0_0 = 1
        ·rw [if_pos c14] at H; have c14b0 : (a0_0 == 1) = true := beq_iff_eq.mpr c14; have c14b1 : (a0_0 != 1) = false := bne_eq_false_iff_eq.mpr c14; clear c14; (first | rw [c14b0] | (simp only [i64_w, i32_w]; rw [c14b0]) | skip); have H' := A_ H; clear H; obtain ⟨_, _, _, _, _, _, _, _, _, _, _, _⟩ := mach_cells BK123.out; go_wp2; go_meet; (case rel => exact ⟨_, ((a0_2 != 2)), (by first | rfl | (simp; done) | (simp [*]; done)), H', ⟨by have := HJ1.out; have := HJ7.out; first | omega | exact Nat.le_refl _⟩, ⟨KM BK123.out⟩, ⟨SC HB.out⟩⟩)
        ·rw [if_neg c14] at H; have c14b0 : (a0_0 == 1) = false := beq_eq_false_iff_ne.mpr c14; have c14b1 : (a0_0 != 1) = true := bne_iff_ne.mpr c14; (first | rw [c14b0] | (simp only [i64_w, i32_w]; rw [c14b0]) | skip); have H' := A_ H; clear H; obtain ⟨_, _, _, _, _, _, _, _, _, _, _, _⟩ := mach_cells BK123.out; go_wp2; go_meet; (case rel => exact ⟨_, (false), (by first | rfl | (simp; done) | (simp [*]; done)), H', ⟨by have := HJ1.out; have := HJ7.out; first | omega | exact Nat.le_refl _⟩, ⟨KM BK123.out⟩, ⟨SC HB.out⟩⟩)
       case rest =>
        clear HC13; obtain ⟨kq, x19_12, rfl, HA, HJ12, BK123, HB⟩ := hcut
        cases kq with
        | zero => exact absurd HA.out (by simp [machine_head.j2])
        | succ kj12 =>
         have H := HA.out; clear HA; simp only [machine_head.j2] at H
         by_cases c17 : x19_12 = true
         ·subst c17; rw [if_pos rfl] at H; obtain rfl := Option.some.inj H; go_wp2; go_ret; (exact ⟨by first | rfl | (simp [errW_none, errW_some] <;> rfl) | (simp [*, errW_none, errW_some] <;> rfl), SC HB.out⟩)
         ·replace c17 := Bool.eq_false_iff.mpr c17; subst c17; rw [if_neg (show ¬ (false = true) by decide)] at H; have HC18 := A_ H; clear H; obtain ⟨_, _, _, _, _, _, _, _, _, _, _, _⟩ := mach_cells BK123.out; go_upto_if 28 with (fail); (go_cut [28] (fun v28 wc => ∃ (kq : Nat) (x28_17 : Bool), v28 = .bool x28_17 ∧ Aside0 (machine_head.j3 kq x28_17 a0_0 a0_1 a0_2 a0_3 l0_4 l0_5 = some r) ∧ Aside0 (kq ≤ kj12) ∧ Aside0 (wc.heap[gb123]? = some (.cells #[.int .i64 a0_0, .int .i64 a0_1, .int .i64 a0_2, .int .i64 a0_3, (.slice A0_4 l0_4.length c0_4), (.slice A0_5 l0_5.length c0_5)] 24 (0, 0))) ∧ Aside0 (Below w.heap.size w wc)))
          case first =>
           have H := HC18.out; clear HC18
           by_cases c20 : a0_2 < 1
           ·rw [if_pos c20] at H; have c20b0 := decide_eq_true c20; clear c20; (first | rw [c20b0] | (simp only [i64_w, i32_w]; rw [c20b0]) | skip); have H' := A_ H; clear H; go_wp2; go_meet; (case rel => exact ⟨_, (decide (a0_2 < 1)), (by first | rfl | (simp; done) | (simp [*]; done)), H', ⟨by have := HJ1.out; have := HJ7.out; have := HJ12.out; first | omega | exact Nat.le_refl _⟩, ⟨KM BK123.out⟩, ⟨SC HB.out⟩⟩)
           ·rw [if_neg c20] at H; have c20b0 := decide_eq_false c20; clear c20; (first | rw [c20b0] | (simp only [i64_w, i32_w]; rw [c20b0]) | skip); have H' := A_ H; clear H; obtain ⟨_, _, _, _, _, _, _, _, _, _, _, _⟩ := mach_cells BK123.out; go_wp2; go_meet; (case rel => exact ⟨_, (decide (a0_2 > 64)), (by first | rfl | (simp; done) | (simp [*]; done)), H', ⟨by have := HJ1.out; have := HJ7.out; have := HJ12.out; first | omega | exact Nat.le_refl _⟩, ⟨KM BK123.out⟩, ⟨SC HB.out⟩⟩)
          case rest =>
           clear HC18; obtain ⟨kq, x28_17, rfl, HA, HJ17, BK123, HB⟩ := hcut
           cases kq with
           | zero => exact absurd HA.out (by simp [machine_head.j3])
           | succ kj17 =>
            have H := HA.out; clear HA; simp only [machine_head.j3] at H
            by_cases c22 : x28_17 = true
            ·subst c22; rw [if_pos rfl] at H; obtain rfl := Option.some.inj H; go_wp2; go_ret; (exact ⟨by first | rfl | (simp [errW_none, errW_some] <;> rfl) | (simp [*, errW_none, errW_some] <;> rfl), SC HB.out⟩)
            ·replace c22 := Bool.eq_false_iff.mpr c22; subst c22; rw [if_neg (show ¬ (false = true) by decide)] at H; have HC23 := A_ H; clear H; obtain ⟨_, _, _, _, _, _, _, _, _, _, _, _⟩ := mach_cells BK123.out; go_upto_if 35 with (fail); (go_cut [35] (fun v35 wc => ∃ (kq : Nat) (x35_22 : Bool), v35 = .bool x35_22 ∧ Aside0 (machine_head.j4 kq x35_22 a0_0 a0_1 a0_2 a0_3 l0_4 l0_5 = some r) ∧ Aside0 (kq ≤ kj17) ∧ Aside0 (wc.heap[gb123]? = some (.cells #[.int .i64 a0_0, .int .i64 a0_1, .int .i64 a0_2, .int .i64 a0_3, (.slice A0_4 l0_4.length c0_4), (.slice A0_5 l0_5.length c0_5)] 24 (0, 0))) ∧ Aside0 (Below w.heap.size w wc)))
             case first =>
              have H := HC23.out; clear HC23
              by_cases c25 : a0_3 < 1
              ·rw [if_pos c25] at H; have c25b0 := decide_eq_true c25; clear c25; (first | rw [c25b0] | (simp only [i64_w, i32_w]; rw [c25b0]) | skip); have H' := A_ H; clear H; go_wp2; go_meet; (case rel => exact ⟨_, (decide (a0_3 < 1)), (by first | rfl | (simp; done) | (simp [*]; done)), H', ⟨by have := HJ1.out; have := HJ7.out; have := HJ12.out; have := HJ17.out; first | omega | exact Nat.le_refl _⟩, ⟨KM BK123.out⟩, ⟨SC HB.out⟩⟩)
              ·rw [if_neg c25] at H; have c25b0 := decide_eq_false c25; clear c25; (first | rw [c25b0] | (simp only [i64_w, i32_w]; rw [c25b0]) | skip); have H' := A_ H; clear H; obtain ⟨_, _, _, _, _, _, _, _, _, _, _, _⟩ := mach_cells BK123.out; go_wp2; go_meet; (case rel => exact ⟨_, (decide (a0_3 > 1024)), (by first | rfl | (simp; done) | (simp [*]; done)), H', ⟨by have := HJ1.out; have := HJ7.out; have := HJ12.out; have := HJ17.out; first | omega | exact Nat.le_refl _⟩, ⟨KM BK123.out⟩, ⟨SC HB.out⟩⟩)
             case rest =>
              clear HC23; obtain ⟨kq, x35_22, rfl, HA, HJ22, BK123, HB⟩ := hcut
              cases kq with
              | zero => exact absurd HA.out (by simp [machine_head.j4])
              | succ kj22 =>
               have H := HA.out; clear HA; simp only [machine_head.j4] at H
               by_cases c27 : x35_22 = true
               ·subst c27; rw [if_pos rfl] at H; obtain rfl := Option.some.inj H; go_wp2; go_ret; (exact ⟨by first | rfl | (simp [errW_none, errW_some] <;> rfl) | (simp [*, errW_none, errW_some] <;> rfl), SC HB.out⟩)
               ·replace c27 := Bool.eq_false_iff.mpr c27; subst c27; rw [if_neg (show ¬ (false = true) by decide)] at H
                by_cases c28 : (l0_4.length : Int) = (wrap64 (a0_3 * a0_1))
                ·rw [if_pos c28] at H; have c28b0 : ((l0_4.length : Int) == (wrap64 (a0_3 * a0_1))) = true := beq_iff_eq.mpr c28; have c28b1 : ((l0_4.length : Int) != (wrap64 (a0_3 * a0_1))) = false := bne_eq_false_iff_eq.mpr c28; clear c28; replace H := Option.bind_eq_some_iff.mp H; obtain ⟨t124, A290, H⟩ := H; (try dsimp only at H); have A29 := A_ A290; clear A290
                 by_cases c30 : (l0_5.length : Int) = t124
                 ·rw [if_pos c30] at H; have c30b0 : ((l0_5.length : Int) == t124) = true := beq_iff_eq.mpr c30; have c30b1 : ((l0_5.length : Int) != t124) = false := bne_eq_false_iff_eq.mpr c30; clear c30; obtain rfl := Option.some.inj H; obtain ⟨_, _, _, _, _, _, _, _, _, _, _, _⟩ := mach_cells BK123.out; (try go_wp2); replace BK123 := aKd BK123; replace HB := aBd HB; (refine start_ (n := 7) (S := fun w' => MC w' gb123 (.int .i64 a0_0) (.int .i64 a0_1) (.int .i64 a0_2) (.int .i64 a0_3) (.slice A0_4 l0_4.length c0_4) (.slice A0_5 l0_5.length c0_5)) (ds := []) #[false, false, false, false, false, false, false] (by kernel_rfl) rfl rfl (mc BK123.out) (fun hHeld => ?_)); generalize wc.drew = w32 at BK123 HB hHeld ⊢; refine pw_ 0 52 7 1 (by kernel_rfl) ?_
                  refine tw_ 1 53 7 3 (by kernel_rfl) hHeld ?_
                  refine pw_ 2 54 7 7 (by kernel_rfl) ?_
                  refine tw_ 3 55 7 15 (by kernel_rfl) hHeld ?_
                  (refine one_ (i := 4) (N := some 56) (ob 7 31) rfl rfl (by kernel_rfl) (by decide) (fun K hK => ?_)); (refine goes_ Try.func64 (by kernel_rfl) rfl #[.agg #[.int .i64 a0_0, .int .i64 a0_1, .int .i64 a0_2, .int .i64 a0_3, .slice A0_4 l0_4.length c0_4, .slice A0_5 l0_5.length c0_5]] (by rfl) rfl rfl (by (try simp only [List.map_toArray, List.map_cons, List.map_nil]); first | done | rfl | (simp only [List.length_drop, List.length_take]; rfl)) ?_); (with_reducible refine (machine_says.calls a0_0 a0_1 a0_2 a0_3 _ _ l0_4 _ _ l0_5 t124 _ ?_ ?_ ?_ ?_ A29.out).mono ?_); exact CM HR0_4 HB; exact HC0_4.out; exact CM HR0_5 HB; exact HC0_5.out; rintro e w33 ⟨rfl, hb⟩; refine ⟨_, rfl, ?_⟩; replace BK123 := aKb BK123 hb; replace HB := aBs HB hb; (try clear hb); (try clear hb2); (try clear hk); (try clear hi); (refine hK.out _ _ (mc BK123.out) (fun hHeld => ?_)); clear hK K; refine norm_ (a' := ?_) ?_ ?_; rotate_left
                  ·(show Act.put _ (some 56) _ = _); simp only [Act.put, List.setIfInBounds_toArray, List.set_cons_zero, List.set_cons_succ, i64_w, i32_w]; rfl
                  refine pw_ 5 57 7 63 (by kernel_rfl) ?_
                  refine pw_ 6 42 7 127 (by kernel_rfl) ?_
                  (refine done_ (by kernel_rfl) ?_); (try go_wp2); go_ret; (exact ⟨by first | rfl | (simp [errW_none, errW_some] <;> rfl) | (simp [*, errW_none, errW_some] <;> rfl), SC HB.out⟩)
                 ·rw [if_neg c30] at H; have c30b0 : ((l0_5.length : Int) == t124) = false := beq_eq_false_iff_ne.mpr c30; have c30b1 : ((l0_5.length : Int) != t124) = true := bne_iff_ne.mpr c30; obtain rfl := Option.some.inj H; obtain ⟨_, _, _, _, _, _, _, _, _, _, _, _⟩ := mach_cells BK123.out; (try go_wp2); replace BK123 := aKd BK123; replace HB := aBd HB; (refine start_ (n := 7) (S := fun w' => MC w' gb123 (.int .i64 a0_0) (.int .i64 a0_1) (.int .i64 a0_2) (.int .i64 a0_3) (.slice A0_4 l0_4.length c0_4) (.slice A0_5 l0_5.length c0_5)) (ds := []) #[false, false, false, false, false, false, false] (by kernel_rfl) rfl rfl (mc BK123.out) (fun hHeld => ?_)); generalize wc.drew = w35 at BK123 HB hHeld ⊢; refine pw_ 0 52 7 1 (by kernel_rfl) ?_
                  refine tw_ 1 53 7 3 (by kernel_rfl) hHeld ?_
                  refine pw_ 2 54 7 7 (by kernel_rfl) ?_
                  refine tw_ 3 55 7 15 (by kernel_rfl) hHeld ?_
                  (refine one_ (i := 4) (N := some 56) (ob 7 31) rfl rfl (by kernel_rfl) (by decide) (fun K hK => ?_)); (refine goes_ Try.func64 (by kernel_rfl) rfl #[.agg #[.int .i64 a0_0, .int .i64 a0_1, .int .i64 a0_2, .int .i64 a0_3, .slice A0_4 l0_4.length c0_4, .slice A0_5 l0_5.length c0_5]] (by rfl) rfl rfl (by (try simp only [List.map_toArray, List.map_cons, List.map_nil]); first | done | rfl | (simp only [List.length_drop, List.length_take]; rfl)) ?_); (with_reducible refine (machine_says.calls a0_0 a0_1 a0_2 a0_3 _ _ l0_4 _ _ l0_5 t124 _ ?_ ?_ ?_ ?_ A29.out).mono ?_); exact CM HR0_4 HB; exact HC0_4.out; exact CM HR0_5 HB; exact HC0_5.out; rintro e w36 ⟨rfl, hb⟩; refine ⟨_, rfl, ?_⟩; replace BK123 := aKb BK123 hb; replace HB := aBs HB hb; (try clear hb); (try clear hb2); (try clear hk); (try clear hi); (refine hK.out _ _ (mc BK123.out) (fun hHeld => ?_)); clear hK K; refine norm_ (a' := ?_) ?_ ?_; rotate_left
                  ·(show Act.put _ (some 56) _ = _); simp only [Act.put, List.setIfInBounds_toArray, List.set_cons_zero, List.set_cons_succ, i64_w, i32_w]; rfl
                  refine pw_ 5 57 7 63 (by kernel_rfl) ?_
                  refine pw_ 6 42 7 127 (by kernel_rfl) ?_
                  (refine done_ (by kernel_rfl) ?_); (try go_wp2); go_ret; (exact ⟨by first | rfl | (simp [errW_none, errW_some] <;> rfl) | (simp [*, errW_none, errW_some] <;> rfl), SC HB.out⟩)
                ·rw [if_neg c28] at H; have c28b0 : ((l0_4.length : Int) == (wrap64 (a0_3 * a0_1))) = false := beq_eq_false_iff_ne.mpr c28; have c28b1 : ((l0_4.length : Int) != (wrap64 (a0_3 * a0_1))) = true := bne_iff_ne.mpr c28; obtain rfl := Option.some.inj H; obtain ⟨_, _, _, _, _, _, _, _, _, _, _, _⟩ := mach_cells BK123.out; go_wp2; go_ret; (exact ⟨by first | rfl | (simp [errW_none, errW_some] <;> rfl) | (simp [*, errW_none, errW_some] <;> rfl), SC HB.out⟩)

end Go.Proofs.Ytllgeljacmpdjaa.PTrim
