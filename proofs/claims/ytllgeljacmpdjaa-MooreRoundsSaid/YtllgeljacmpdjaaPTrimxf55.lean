-- Written by a program of this session out of the kit's printer (some functions' contracts are given by hand).
import Derived.Test.YtllgeljacmpdjaaPTrimx0
namespace Go.Proofs.Ytllgeljacmpdjaa.PTrim
open Go.RowKit Go.Proofs.YtllgeljacmpdjaaW.PrintWords Go.Proofs.YtllgeljacmpdjaaW.PrintLast Go.Proofs.YtllgeljacmpdjaaW.PrintMore
attribute [local go_sem] max2_int min2_int max_two min_two max_three min_three max_four min_four   -- for this text's walks alone
set_option linter.unusedVariables false
set_option linter.unusedSimpArgs false

/-! ### tutorref05_classes: function 55 -/
mutual
def tutorref05_classes.l0 : Nat → List (List Bool) → List Int → Int → Int → Option (List Int)
 | 0, _, _, _, _ => none
 | k + 1, x0, x3, x4, x5 => if x5 < (x0.length : Int) then (tutorref05_classes.l1 k x0 x3 x4 x5 (-1) 0) else (some x3)
def tutorref05_classes.l1 : Nat → List (List Bool) → List Int → Int → Int → Int → Int → Option (List Int)
 | 0, _, _, _, _, _, _ => none
 | k + 1, x0, x3, x4, x5, x6, x7 => if x7 < x5 then (tutorref05_classes.j2 k x0 x3 x4 x5 x6 x7 (decide (x6 < 0))) else (tutorref05_classes.j2 k x0 x3 x4 x5 x6 x7 false)
def tutorref05_classes.j2 : Nat → List (List Bool) → List Int → Int → Int → Int → Int → Bool → Option (List Int)
 | 0, _, _, _, _, _, _, _ => none
 | k + 1, x0, x3, x4, x5, x6, x7, x20 => if x20 = true then (if 0 ≤ x5 then (if x5 < (x0.length : Int) then (if 0 ≤ x7 then (if x7 < ((rd_L2 x0 x5).length : Int) then (if (rdOf false (rd_L2 x0 x5) x7 = true) then (tutorref05_classes.l1 k x0 x3 x4 x5 x6 (wrap64 (x7 + 1))) else (if x7 < (x3.length : Int) then (tutorref05_classes.l1 k x0 x3 x4 x5 (rd x3 x7) (wrap64 (x7 + 1))) else (none))) else (none)) else (none)) else (none)) else (none)) else (if x6 < 0 then (if x3.length < 17592186044416 then (tutorref05_classes.l0 k x0 (x3 ++ [x4]) (wrap64 (x4 + 1)) (wrap64 (x5 + 1))) else (none)) else (if x3.length < 17592186044416 then (tutorref05_classes.l0 k x0 (x3 ++ [x6]) x4 (wrap64 (x5 + 1))) else (none)))
end
def tutorref05_classes.f (k : Nat) (l0 : List (List Bool)) : Option (List Int) := tutorref05_classes.l0 k l0 ([] : List Int) 0 0
theorem tutorref05_classes.mono_l : ∀ k, (∀ y0 y1 y2 y3, LeO (tutorref05_classes.l0 k y0 y1 y2 y3) (tutorref05_classes.l0 (k + 1) y0 y1 y2 y3)) ∧ (∀ y0 y1 y2 y3 y4 y5, LeO (tutorref05_classes.l1 k y0 y1 y2 y3 y4 y5) (tutorref05_classes.l1 (k + 1) y0 y1 y2 y3 y4 y5)) ∧ (∀ y0 y1 y2 y3 y4 y5 y6, LeO (tutorref05_classes.j2 k y0 y1 y2 y3 y4 y5 y6) (tutorref05_classes.j2 (k + 1) y0 y1 y2 y3 y4 y5 y6))
 | 0 => by refine ⟨?_, ?_, ?_⟩ <;> (intros; intro r h; simp [tutorref05_classes.l0, tutorref05_classes.l1, tutorref05_classes.j2] at h)
 | k + 1 => by
  obtain ⟨ih0, ih1, ih2⟩ := tutorref05_classes.mono_l k; refine ⟨?_, ?_, ?_⟩ <;> intros <;> (first | unfold tutorref05_classes.l0 | unfold tutorref05_classes.l1 | unfold tutorref05_classes.j2) <;> (with_reducible repeat' first | apply ih0 | apply ih1 | apply ih2 | exact LeO.refl _ | exact LeO.none _ | apply LeO.ite | refine LeO.bind ?_ fun _ => ?_)
theorem tutorref05_classes.mono : ∀ a0 k, LeO (tutorref05_classes.f k a0) (tutorref05_classes.f (k + 1) a0) := by
 intro a0 k; obtain ⟨ih0, ih1, ih2⟩ := tutorref05_classes.mono_l k; unfold tutorref05_classes.f
 (with_reducible repeat' first | apply ih0 | apply ih1 | apply ih2 | exact LeO.refl _ | exact LeO.none _ | apply LeO.ite | refine LeO.bind ?_ fun _ => ?_)
set_option maxHeartbeats 8000000 in
set_option maxRecDepth 100000 in
theorem tutorref05_classes.calls (k : Nat) (A0 : Option Addr) (c0 : Nat) (l0 : List (List Bool)) (r : List Int) (w : World) (hr0 : Kd.C (Kd.slice 4 Kd.bool) w A0 l0.length l0) (hc0 : l0.length ≤ c0) (h : tutorref05_classes.f k l0 = some r) :
  Calls Try.prog 55 #[.slice A0 l0.length c0] w fun e w' => ∃ v0_ : Value, e = .returned (v0_) ∧ Kd.R (Kd.int .i64) 3 w' w.heap.size (fun _ => True) v0_ r ∧ Below w.heap.size w w' := by
 have HR0 := A_ hr0; have HC0 := A_ hc0; clear hr0 hc0; have HB := A_ (Below.refl w.heap.size w); have H : (tutorref05_classes.l0 k l0 ([] : List Int) 0 0) = some r := h; clear h; have H' := A_ H; clear H; go_enter Try.func55, Try.ntmps55; go_wp2; (go_loopg [3, 4, 5] k (fun kq v3 v4 v5 w' => ∃ (x3_1 : List Int) (x4_1 : Int) (x5_1 : Int), v4 = .int .i64 x4_1 ∧ v5 = .int .i64 x5_1 ∧ Aside0 (tutorref05_classes.l0 kq l0 x3_1 x4_1 x5_1 = some r) ∧ Aside0 (kq ≤ k) ∧ Aside0 (Kd.R (Kd.int .i64) 3 w' w.heap.size (fun _ => True) v3 x3_1) ∧ Aside0 (Below w.heap.size w w'))); (case atStart => exact ⟨(([] : List Int)), (0), (0), (by first | rfl | (simp; done) | (simp [*]; done)), (by first | rfl | (simp; done) | (simp [*]; done)), H', ⟨Nat.le_refl _⟩, ⟨by first | exact Kd.R_nil _ _ _ _ _ | exact Kd.N_nil _ _ _ _ _ | exact Kd.V_nil _ _ _ _ _ | exact Kd.Q_nil _ _ _ _ _ | exact Kd.S_nil _ _ _ _ _⟩, ⟨SC HB.out⟩⟩)
 case round =>
  clear H'; obtain ⟨x3_1, x4_1, x5_1, rfl, rfl, HA, HK1, HO_3, HB⟩ := hrel
  cases gk with
  | zero => exact absurd HA.out (by simp [tutorref05_classes.l0])
  | succ k1 =>
   have H := HA.out; clear HA; simp only [tutorref05_classes.l0] at H
   by_cases c2 : x5_1 < (l0.length : Int)
   ·rw [if_pos c2] at H; have c2b0 := decide_eq_true c2; clear c2; have H' := A_ H; clear H; go_wp2; (go_loopg [6, 7] k1 (fun kq v6 v7 w' => ∃ (x6_2 : Int) (x7_2 : Int), v6 = .int .i64 x6_2 ∧ v7 = .int .i64 x7_2 ∧ Aside0 (tutorref05_classes.l1 kq l0 x3_1 x4_1 x5_1 x6_2 x7_2 = some r) ∧ Aside0 (kq ≤ k1) ∧ Aside0 (Kd.R (Kd.int .i64) 3 w' w.heap.size (fun _ => True) u3 x3_1) ∧ Aside0 (Below w.heap.size w w'))); (case atStart => exact ⟨((-1)), (0), (by first | rfl | (simp; done) | (simp [*]; done)), (by first | rfl | (simp; done) | (simp [*]; done)), H', ⟨Nat.le_refl _⟩, ⟨RM HO_3.out⟩, ⟨SC HB.out⟩⟩)
    case round =>
     clear H'; obtain ⟨x6_2, x7_2, rfl, rfl, HA, HK2, HO_3, HB⟩ := hrel
     cases gk with
     | zero => exact absurd HA.out (by simp [tutorref05_classes.l1])
     | succ k2 =>
      have H := HA.out; clear HA; simp only [tutorref05_classes.l1] at H; have HC3 := A_ H; clear H; go_upto_region 8 with (fail); (go_cut [20] (fun v20 wc => ∃ (kq : Nat) (x20_2 : Bool), v20 = .bool x20_2 ∧ Aside0 (tutorref05_classes.j2 kq l0 x3_1 x4_1 x5_1 x6_2 x7_2 x20_2 = some r) ∧ Aside0 (kq ≤ k2) ∧ Aside0 (Kd.R (Kd.int .i64) 3 wc w.heap.size (fun _ => True) u3 x3_1) ∧ Aside0 (Below w.heap.size w wc)))
      case first =>
       have H := HC3.out; clear HC3
       by_cases c4 : x7_2 < x5_1
       ·rw [if_pos c4] at H; have c4b0 := decide_eq_true c4; clear c4; (first | rw [c4b0] | (simp only [i64_w, i32_w]; rw [c4b0]) | skip); have H' := A_ H; clear H; go_wp2; go_meet; (case rel => exact ⟨_, (decide (x6_2 < 0)), (by first | rfl | (simp; done) | (simp [*]; done)), H', ⟨by have := HK1.out; have := HK2.out; first | omega | exact Nat.le_refl _⟩, ⟨RM HO_3.out⟩, ⟨SC HB.out⟩⟩)
       ·rw [if_neg c4] at H; have c4b0 := decide_eq_false c4; clear c4; (first | rw [c4b0] | (simp only [i64_w, i32_w]; rw [c4b0]) | skip); have H' := A_ H; clear H; go_wp2; go_meet; (case rel => exact ⟨_, (false), (by first | rfl | (simp; done) | (simp [*]; done)), H', ⟨by have := HK1.out; have := HK2.out; first | omega | exact Nat.le_refl _⟩, ⟨RM HO_3.out⟩, ⟨SC HB.out⟩⟩)
      case rest =>
       clear HC3; obtain ⟨kq, x20_2, rfl, HA, HJ2, HO_3, HB⟩ := hcut
       cases kq with
       | zero => exact absurd HA.out (by simp [tutorref05_classes.j2])
       | succ kj2 =>
        have H := HA.out; clear HA; simp only [tutorref05_classes.j2] at H
        by_cases c5 : x20_2 = true
        ·subst c5; rw [if_pos rfl] at H
         by_cases c6 : 0 ≤ x5_1
         ·rw [if_pos c6] at H; have c6b0 := decide_eq_true c6; clear c6
          by_cases c7 : x5_1 < (l0.length : Int)
          ·rw [if_pos c7] at H; have c7b0 := decide_eq_true c7; clear c7
           by_cases c8 : 0 ≤ x7_2
           ·rw [if_pos c8] at H; have c8b0 := decide_eq_true c8; clear c8
            by_cases c9 : x7_2 < ((rd_L2 l0 x5_1).length : Int)
            ·rw [if_pos c9] at H; have c9b0 := decide_eq_true c9; clear c9; obtain ⟨bq10, hbq10⟩ : ∃ b_ : Bool, b_ = (rdOf false (rd_L2 l0 x5_1) x7_2) := ⟨_, rfl⟩; rw [← hbq10] at H; have Nbq10 := A_ hbq10; clear hbq10
             by_cases c11 : (bq10 = true)
             ·subst c11; rw [if_pos rfl] at H; have H' := A_ H; clear H; (have p300 : 0 ≤ (x5_1 : Int) := dc_); (have q300 : x5_1 < (l0.length : Int) := dc_); obtain ⟨ad300, A300_0, c300_0, e300, hx300_0, hl300_0, hi300_0⟩ := at_L2 HR0.out x5_1 p300 q300; cases e300; replace hx300_0 := cb HB hx300_0; have HR300_0 := A_ hi300_0; have HC300_0 := A_ hl300_0; clear hi300_0 hl300_0; replace p300 := eq_true p300; replace q300 := eq_true q300; (have p301 : 0 ≤ (x7_2 : Int) := dc_); (have q301 : x7_2 < ((rd_L2 l0 x5_1).length : Int) := dc_); obtain ⟨ad301, e301, hx301_0⟩ := Kd.at_bool HR300_0.out x7_2 p301 q301; (try rw [← Nbq10.out] at hx301_0); cases e301; replace hx301_0 := cb HB hx301_0; replace p301 := eq_true p301; replace q301 := eq_true q301; go_wp2; go_roundg kj2; (case measure => have := HK1.out; have := HK2.out; have := HJ2.out; omega)
              case rel => exact ⟨(x6_2), (wrap64 (x7_2 + 1)), (by first | rfl | (simp; done) | (simp [*]; done)), (by first | rfl | (simp; done) | (simp [*]; done)), H', ⟨by have := HK1.out; have := HK2.out; have := HJ2.out; omega⟩, ⟨RM HO_3.out⟩, ⟨SC HB.out⟩⟩
             ·replace c11 := Bool.eq_false_iff.mpr c11; subst c11; rw [if_neg (show ¬ (false = true) by decide)] at H
              by_cases c12 : x7_2 < (x3_1.length : Int)
              ·rw [if_pos c12] at H; have c12b0 := decide_eq_true c12; clear c12; have H' := A_ H; clear H; (have p300 : 0 ≤ (x5_1 : Int) := dc_); (have q300 : x5_1 < (l0.length : Int) := dc_); obtain ⟨ad300, A300_0, c300_0, e300, hx300_0, hl300_0, hi300_0⟩ := at_L2 HR0.out x5_1 p300 q300; cases e300; replace hx300_0 := cb HB hx300_0; have HR300_0 := A_ hi300_0; have HC300_0 := A_ hl300_0; clear hi300_0 hl300_0; replace p300 := eq_true p300; replace q300 := eq_true q300; (have p301 : 0 ≤ (x7_2 : Int) := dc_); (have q301 : x7_2 < ((rd_L2 l0 x5_1).length : Int) := dc_); obtain ⟨ad301, e301, hx301_0⟩ := Kd.at_bool HR300_0.out x7_2 p301 q301; (try rw [← Nbq10.out] at hx301_0); cases e301; replace hx301_0 := cb HB hx301_0; replace p301 := eq_true p301; replace q301 := eq_true q301; obtain ⟨Ao13, co13, eo13⟩ := Kd.R_slice HO_3.out; subst eo13; (have p302 : 0 ≤ (x7_2 : Int) := dc_); (have q302 : x7_2 < (x3_1.length : Int) := dc_); obtain ⟨ad302, e302, hx302_0⟩ := Kd.at_int (Kd.R_reads' HO_3.out).2.2 x7_2 p302 q302; cases e302; replace p302 := eq_true p302; replace q302 := eq_true q302; go_wp2; go_roundg kj2; (case measure => have := HK1.out; have := HK2.out; have := HJ2.out; omega)
               case rel => exact ⟨(rd x3_1 x7_2), (wrap64 (x7_2 + 1)), (by first | rfl | (simp; done) | (simp [*]; done)), (by first | rfl | (simp; done) | (simp [*]; done)), H', ⟨by have := HK1.out; have := HK2.out; have := HJ2.out; omega⟩, ⟨RM HO_3.out⟩, ⟨SC HB.out⟩⟩
              ·rw [if_neg c12] at H; (exact absurd H (by simp))
            ·rw [if_neg c9] at H; (exact absurd H (by simp))
           ·rw [if_neg c8] at H; (exact absurd H (by simp))
          ·rw [if_neg c7] at H; (exact absurd H (by simp))
         ·rw [if_neg c6] at H; (exact absurd H (by simp))
        ·replace c5 := Bool.eq_false_iff.mpr c5; subst c5; rw [if_neg (show ¬ (false = true) by decide)] at H
         by_cases c14 : x6_2 < 0
         ·rw [if_pos c14] at H; have c14b0 := decide_eq_true c14; clear c14
          by_cases c15 : x3_1.length < 17592186044416
          ·rw [if_pos c15] at H; have LMc15 := A_ c15; clear c15; obtain ⟨y303, hy303⟩ : ∃ y_ : List Int, y_ = (x3_1 ++ [x4_1]) := ⟨_, rfl⟩; (try rw [Option.bind_some] at H); (try rw [← hy303] at H); have Ny303 := A_ hy303; clear hy303; have H' := A_ H; clear H; (go_wp2_with (first | ((with_reducible refine gate_builtin (b := .append) (xs := #[.tmp 40, .tmp 42]) rfl ?_); at_builtin; refine Kd.R_append (Kd.int .i64) (w0 := w) w.heap.size rfl (.tmp 40) (.tmp 42) 22 3 (.int .i64 0) 8 rfl Try.underlying22 info3 rfl (by decide) (by omega) u3 x3_1 x4_1 [.int .i64 x4_1] (fun _ => True) (fun _ => False) rfl rfl ?aP (fun _ hk => hk.elim) ?aF ?aO ?aB ?aS ?aL ?_; (case aP => exact rfl); (case aB => exact (SC HB.out)); (case aF => exact (fun _ _ => trivial)); (case aO => exact (RM HO_3.out)); (case aS => exact (below_size (SC HB.out))); (case aL => have := LMc15.out; omega); intro v304 w16 ho hb hg hat; rw [← Ny303.out] at ho; replace HB := A_ hb; have HO305 := A_ ho; clear HO_3; clear ho hb hg hat))); go_roundg kj2; (case measure => have := HK1.out; have := HK2.out; have := HJ2.out; omega)
           case rel => exact ⟨(y303), (wrap64 (x4_1 + 1)), (wrap64 (x5_1 + 1)), (by first | rfl | (simp; done) | (simp [*]; done)), (by first | rfl | (simp; done) | (simp [*]; done)), H', ⟨by have := HK1.out; have := HK2.out; have := HJ2.out; omega⟩, ⟨RM HO305.out⟩, ⟨SC HB.out⟩⟩
          ·rw [if_neg c15] at H; (exact absurd H (by simp))
         ·rw [if_neg c14] at H; have c14b0 := decide_eq_false c14; clear c14
          by_cases c17 : x3_1.length < 17592186044416
          ·rw [if_pos c17] at H; have LMc17 := A_ c17; clear c17; obtain ⟨y306, hy306⟩ : ∃ y_ : List Int, y_ = (x3_1 ++ [x6_2]) := ⟨_, rfl⟩; (try rw [Option.bind_some] at H); (try rw [← hy306] at H); have Ny306 := A_ hy306; clear hy306; have H' := A_ H; clear H; (go_wp2_with (first | ((with_reducible refine gate_builtin (b := .append) (xs := #[.tmp 40, .tmp 42]) rfl ?_); at_builtin; refine Kd.R_append (Kd.int .i64) (w0 := w) w.heap.size rfl (.tmp 40) (.tmp 42) 22 3 (.int .i64 0) 8 rfl Try.underlying22 info3 rfl (by decide) (by omega) u3 x3_1 x6_2 [.int .i64 x6_2] (fun _ => True) (fun _ => False) rfl rfl ?aP (fun _ hk => hk.elim) ?aF ?aO ?aB ?aS ?aL ?_; (case aP => exact rfl); (case aB => exact (SC HB.out)); (case aF => exact (fun _ _ => trivial)); (case aO => exact (RM HO_3.out)); (case aS => exact (below_size (SC HB.out))); (case aL => have := LMc17.out; omega); intro v307 w18 ho hb hg hat; rw [← Ny306.out] at ho; replace HB := A_ hb; have HO308 := A_ ho; clear HO_3; clear ho hb hg hat))); go_roundg kj2; (case measure => have := HK1.out; have := HK2.out; have := HJ2.out; omega)
           case rel => exact ⟨(y306), (x4_1), (wrap64 (x5_1 + 1)), (by first | rfl | (simp; done) | (simp [*]; done)), (by first | rfl | (simp; done) | (simp [*]; done)), H', ⟨by have := HK1.out; have := HK2.out; have := HJ2.out; omega⟩, ⟨RM HO308.out⟩, ⟨SC HB.out⟩⟩
          ·rw [if_neg c17] at H; (exact absurd H (by simp))
   ·rw [if_neg c2] at H; have c2b0 := decide_eq_false c2; clear c2; obtain rfl := Option.some.inj H; go_wp2; go_ret; (exact ⟨_, by first | rfl | (simp [errW_none, errW_some] <;> rfl) | (simp [*, errW_none, errW_some] <;> rfl), by (with_reducible repeat (first | apply Kd.R_alloc | apply Kd.R_drewN | apply Kd.R_drew)); exact HO_3.out, SC HB.out⟩)

end Go.Proofs.Ytllgeljacmpdjaa.PTrim
