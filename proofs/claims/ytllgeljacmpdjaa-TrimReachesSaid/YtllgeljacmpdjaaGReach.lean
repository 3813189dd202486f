-- Written by a program of this session out of the kit's printer (some functions' contracts are given by hand).
import Derived.Test.YtllgeljacmpdjaaPTrimx0
import Derived.Test.YtllgeljacmpdjaaPTrimxf45
import Derived.Test.YtllgeljacmpdjaaGClone
import Derived.Test.YtllgeljacmpdjaaGSeen
import Derived.Test.YtllgeljacmpdjaaGShort
import Derived.Test.YtllgeljacmpdjaaGDs
import Derived.WalkMore
namespace Go.Proofs.Ytllgeljacmpdjaa.PTrim
open Go.RowKit Go.Proofs.YtllgeljacmpdjaaW.PrintWords Go.Proofs.YtllgeljacmpdjaaW.PrintLast Go.Proofs.YtllgeljacmpdjaaW.PrintMore
attribute [local go_sem] max2_int min2_int max_two min_two max_three min_three max_four min_four   -- for this text's walks alone
set_option linter.unusedVariables false
set_option linter.unusedSimpArgs false

/-! ### trim_Reach: function 18 -/
mutual
def trim_Reach.l0 : Nat → List Int → List (List Int) → List Bool → Int → Int → Int → Int → Int → List Int → List Int → Option (List Int × (List (List Int)) × Int)
 | 0, _, _, _, _, _, _, _, _, _, _ => none
 | k + 1, x2, x3, x7, x8, x110000, x110001, x110002, x110003, x110004, x110005 => if x8 < (x2.length : Int) then (trim_Reach.l1 k x2 x3 x7 x8 x110001 0 x110000 x110001 x110002 x110003 x110004 x110005) else (some (x2, x3, 0))
def trim_Reach.l1 : Nat → List Int → List (List Int) → List Bool → Int → Int → Int → Int → Int → Int → Int → List Int → List Int → Option (List Int × (List (List Int)) × Int)
 | 0, _, _, _, _, _, _, _, _, _, _, _, _ => none
 | k + 1, x2, x3, x7, x8, x33, x34, x110000, x110001, x110002, x110003, x110004, x110005 => if x34 < x33 then (if 0 ≤ x8 then (if x8 < (x2.length : Int) then (if 0 ≤ (wrap64 ((wrap64 ((rd x2 x8) * x110001)) + x34)) then (if (wrap64 ((wrap64 ((rd x2 x8) * x110001)) + x34)) < (x110004.length : Int) then (if 0 ≤ (rd x110004 (wrap64 ((wrap64 ((rd x2 x8) * x110001)) + x34))) then (if (rd x110004 (wrap64 ((wrap64 ((rd x2 x8) * x110001)) + x34))) < (x7.length : Int) then (if rdOf false x7 (rd x110004 (wrap64 ((wrap64 ((rd x2 x8) * x110001)) + x34))) = true then (trim_Reach.l1 k x2 x3 x7 x8 x33 (wrap64 (x34 + 1)) x110000 x110001 x110002 x110003 x110004 x110005) else (if x2.length < 17592186044416 then ((some (x2 ++ [rd x110004 (wrap64 ((wrap64 ((rd x2 x8) * x110001)) + x34))] : List Int)).bind fun y129 => (if x8 < (x3.length : Int) then ((slices_Clone_int_int.f (rd_L1 x3 x8)).bind fun t133 => (if t133.length < 17592186044416 then (if x3.length < 5864062014805 then ((some (x3 ++ [(t133 ++ [x34])] : List (List Int))).bind fun y139 => (if (y129.length : Int) = x110003 then (some (y129, y139, 0)) else (trim_Reach.l1 k y129 y139 (x7.set ((rd x110004 (wrap64 ((wrap64 ((rd x2 x8) * x110001)) + x34))) : Int).toNat true) x8 x33 (wrap64 (x34 + 1)) x110000 x110001 x110002 x110003 x110004 x110005))) else (none)) else (none))) else (none))) else (none))) else (none)) else (none)) else (none)) else (none)) else (none)) else (none)) else (trim_Reach.l0 k x2 x3 x7 (wrap64 (x8 + 1)) x110000 x110001 x110002 x110003 x110004 x110005)
end
def trim_Reach.f (k : Nat) (a0_0 : Int) (a0_1 : Int) (a0_2 : Int) (a0_3 : Int) (l0_4 : List Int) (l0_5 : List Int) : Option (List Int × (List (List Int)) × Int) := (machine_Check.f k a0_0 a0_1 a0_2 a0_3 l0_4 l0_5).bind fun bt110 => (if bt110.2 = 0 then (if 1024 ≤ 281474976710656 then ((some (List.replicate 1024 false : List Bool)).bind fun y112 => (if 0 < (y112.length : Int) then (trim_Reach.l0 k (([0] : List Int)) (([(([] : List Int))] : List (List Int))) (y112.set (0 : Int).toNat true) 0 a0_0 a0_1 a0_2 a0_3 l0_4 l0_5) else (none))) else (none)) else (some (([] : List Int), ([] : List (List Int)), bt110.2)))
theorem trim_Reach.mono_l : ∀ k, (∀ y0 y1 y2 y3 y4 y5 y6 y7 y8 y9, LeO (trim_Reach.l0 k y0 y1 y2 y3 y4 y5 y6 y7 y8 y9) (trim_Reach.l0 (k + 1) y0 y1 y2 y3 y4 y5 y6 y7 y8 y9)) ∧ (∀ y0 y1 y2 y3 y4 y5 y6 y7 y8 y9 y10 y11, LeO (trim_Reach.l1 k y0 y1 y2 y3 y4 y5 y6 y7 y8 y9 y10 y11) (trim_Reach.l1 (k + 1) y0 y1 y2 y3 y4 y5 y6 y7 y8 y9 y10 y11))
 | 0 => ⟨fun _ _ _ _ _ _ _ _ _ _ r h => by simp [trim_Reach.l0] at h, fun _ _ _ _ _ _ _ _ _ _ _ _ r h => by simp [trim_Reach.l1] at h⟩
 | k + 1 => by
  obtain ⟨ih0, ih1⟩ := trim_Reach.mono_l k
  refine ⟨?_, ?_⟩
  ·intro y0 y1 y2 y3 y4 y5 y6 y7 y8 y9
   unfold trim_Reach.l0
   repeat' first
   | (with_reducible exact ih0 _ _ _ _ _ _ _ _ _ _)
   | (with_reducible exact ih1 _ _ _ _ _ _ _ _ _ _ _ _)
   | (with_reducible exact machine_Check.mono _ _ _ _ _ _ _)
   | (with_reducible exact LeO.refl _)
   | (with_reducible exact LeO.none _)
   | (with_reducible refine LeO.ite ?_ ?_)
   | (with_reducible refine LeO.bind ?_ (fun _ => ?_))
   | exact ih0 _ _ _ _ _ _ _ _ _ _
   | exact ih1 _ _ _ _ _ _ _ _ _ _ _ _
   | exact machine_Check.mono _ _ _ _ _ _ _
   | exact LeO.none _
   | refine LeO.ite ?_ ?_
   | refine LeO.bind ?_ (fun _ => ?_)
  ·intro y0 y1 y2 y3 y4 y5 y6 y7 y8 y9 y10 y11
   unfold trim_Reach.l1
   repeat' first
   | (with_reducible exact ih0 _ _ _ _ _ _ _ _ _ _)
   | (with_reducible exact ih1 _ _ _ _ _ _ _ _ _ _ _ _)
   | (with_reducible exact machine_Check.mono _ _ _ _ _ _ _)
   | (with_reducible exact LeO.refl _)
   | (with_reducible exact LeO.none _)
   | (with_reducible refine LeO.ite ?_ ?_)
   | (with_reducible refine LeO.bind ?_ (fun _ => ?_))
   | exact ih0 _ _ _ _ _ _ _ _ _ _
   | exact ih1 _ _ _ _ _ _ _ _ _ _ _ _
   | exact machine_Check.mono _ _ _ _ _ _ _
   | exact LeO.none _
   | refine LeO.ite ?_ ?_
   | refine LeO.bind ?_ (fun _ => ?_)
theorem trim_Reach.mono : ∀ a0 a1 a2 a3 a4 a5 k, LeO (trim_Reach.f k a0 a1 a2 a3 a4 a5) (trim_Reach.f (k + 1) a0 a1 a2 a3 a4 a5) := by
 intro a0 a1 a2 a3 a4 a5 k
 obtain ⟨ih0, ih1⟩ := trim_Reach.mono_l k
 unfold trim_Reach.f
 repeat' first
   | (with_reducible exact ih0 _ _ _ _ _ _ _ _ _ _)
   | (with_reducible exact ih1 _ _ _ _ _ _ _ _ _ _ _ _)
   | (with_reducible exact machine_Check.mono _ _ _ _ _ _ _)
   | (with_reducible exact LeO.refl _)
   | (with_reducible exact LeO.none _)
   | (with_reducible refine LeO.ite ?_ ?_)
   | (with_reducible refine LeO.bind ?_ (fun _ => ?_))
   | exact ih0 _ _ _ _ _ _ _ _ _ _
   | exact ih1 _ _ _ _ _ _ _ _ _ _ _ _
   | exact machine_Check.mono _ _ _ _ _ _ _
   | exact LeO.none _
   | refine LeO.ite ?_ ?_
   | refine LeO.bind ?_ (fun _ => ?_)
set_option maxHeartbeats 8000000 in
set_option maxRecDepth 100000 in
theorem trim_Reach.calls2 (k : Nat) (a0_0 : Int) (a0_1 : Int) (a0_2 : Int) (a0_3 : Int) (A0_4 : Option Addr) (c0_4 : Nat) (l0_4 : List Int) (A0_5 : Option Addr) (c0_5 : Nat) (l0_5 : List Int) (r1 : List Int) (r2 : List (List Int)) (r3 : Int) (w : World) (hr0_4 : Kd.C (Kd.int .i64) w A0_4 l0_4.length l0_4) (hc0_4 : l0_4.length ≤ c0_4) (hr0_5 : Kd.C (Kd.int .i64) w A0_5 l0_5.length l0_5) (hc0_5 : l0_5.length ≤ c0_5) (h : trim_Reach.f k a0_0 a0_1 a0_2 a0_3 l0_4 l0_5 = some (r1, r2, r3)) :
  Calls Try.prog 18 #[.agg #[.int .i64 a0_0, .int .i64 a0_1, .int .i64 a0_2, .int .i64 a0_3, .slice A0_4 l0_4.length c0_4, .slice A0_5 l0_5.length c0_5]] w fun e w' => ∃ v0_ v1_ : Value, e = .returned (.tuple #[v0_, v1_, .int .i64 r3]) ∧ Kd.R (Kd.int .i64) 3 w' w.heap.size (fun k_ => (w.heap.size ≤ k_)) v0_ r1 ∧ Kd.N (Kd.slice 3 (Kd.int .i64)) 22 w' w.heap.size (fun k_ => (w.heap.size ≤ k_) ∧ some k_ ≠ (v0_ : Value).ownBlock) v1_ r2 ∧ Below w.heap.size w w' ∧ Ds w' w.heap.size (fun k_ => some k_ = (v0_ : Value).ownBlock) v1_ r2 := by
 have hu24 := Try.underlying24
 have HR0_4 := Aside0.mk hr0_4
 have HC0_4 := Aside0.mk hc0_4
 clear hr0_4 hc0_4
 have HR0_5 := Aside0.mk hr0_5
 have HC0_5 := Aside0.mk hc0_5
 clear hr0_5 hc0_5
 have HB := Aside0.mk (Below.refl w.heap.size w)
 have H : ((machine_Check.f k a0_0 a0_1 a0_2 a0_3 l0_4 l0_5).bind fun bt110 => (if bt110.2 = 0 then (if 1024 ≤ 281474976710656 then ((some (List.replicate 1024 false : List Bool)).bind fun y112 => (if 0 < (y112.length : Int) then (trim_Reach.l0 k (([0] : List Int)) (([(([] : List Int))] : List (List Int))) (y112.set (0 : Int).toNat true) 0 a0_0 a0_1 a0_2 a0_3 l0_4 l0_5) else (none))) else (none)) else (some (([] : List Int), ([] : List (List Int)), bt110.2)))) = some (r1, r2, r3) := h
 clear h
 replace H := Option.bind_eq_some_iff.mp H
 obtain ⟨⟨t110, t111⟩, A20, H⟩ := H
 replace H : (if t111 = 0 then (if 1024 ≤ 281474976710656 then ((some (List.replicate 1024 false : List Bool)).bind fun y112 => (if 0 < (y112.length : Int) then (trim_Reach.l0 k (([0] : List Int)) (([(([] : List Int))] : List (List Int))) (y112.set (0 : Int).toNat true) 0 a0_0 a0_1 a0_2 a0_3 l0_4 l0_5) else (none))) else (none)) else (some (([] : List Int), ([] : List (List Int)), t111))) = some (r1, r2, r3) := H
 have A2 := Aside0.mk A20
 clear A20
 by_cases c3 : t111 = 0
 ·rw [if_pos c3] at H
  have c3b0 : (t111 == 0) = true := beq_iff_eq.mpr c3
  have c3b1 : (t111 != 0) = false := bne_eq_false_iff_eq.mpr c3
  clear c3
  by_cases c4 : 1024 ≤ 281474976710656
  ·rw [if_pos c4] at H
   have c4b0 := eq_true c4
   have c4b1 : decide (1024 ≤ 281474976710656) = true := decide_eq_true c4
   clear c4
   obtain ⟨y112, hy112⟩ : ∃ y_ : List Bool, y_ = (List.replicate 1024 false) := ⟨_, rfl⟩
   replace H : (if 0 < (y112.length : Int) then (trim_Reach.l0 k (([0] : List Int)) (([(([] : List Int))] : List (List Int))) (y112.set (0 : Int).toNat true) 0 a0_0 a0_1 a0_2 a0_3 l0_4 l0_5) else (none)) = some (r1, r2, r3) := by first | (rw [hy112]; with_reducible exact H) | (have H2_ := (Option.bind_some _ _).symm.trans H; rw [hy112]; with_reducible exact H2_) | (have H2_ := (Option.bind_some _ _).symm.trans H; with_reducible exact H2_) | with_reducible exact H | (rw [hy112]; exact H) | exact H
   have Ny112 := Aside0.mk hy112
   clear hy112
   by_cases c5 : 0 < (y112.length : Int)
   ·rw [if_pos c5] at H
    have c5b0 : decide (0 < (y112.length : Int)) = true := decide_eq_true c5
    have c5b1 : decide (0 < y112.length) = true := decide_eq_true (by omega)
    clear c5
    obtain ⟨y115, hy115⟩ : ∃ y_ : List Bool, y_ = (y112.set (0 : Int).toNat true) := ⟨_, rfl⟩
    replace H : (trim_Reach.l0 k (([0] : List Int)) (([(([] : List Int))] : List (List Int))) y115 0 a0_0 a0_1 a0_2 a0_3 l0_4 l0_5) = some (r1, r2, r3) := by first | (rw [hy115]; with_reducible exact H) | (have H2_ := (Option.bind_some _ _).symm.trans H; rw [hy115]; with_reducible exact H2_) | (have H2_ := (Option.bind_some _ _).symm.trans H; with_reducible exact H2_) | with_reducible exact H | (rw [hy115]; exact H) | exact H
    have Ny115 := Aside0.mk hy115
    clear hy115
    obtain ⟨y116, hy116⟩ : ∃ y_ : List Int, y_ = (([0] : List Int)) := ⟨_, rfl⟩
    replace H : (trim_Reach.l0 k y116 (([(([] : List Int))] : List (List Int))) y115 0 a0_0 a0_1 a0_2 a0_3 l0_4 l0_5) = some (r1, r2, r3) := by first | (rw [hy116]; with_reducible exact H) | (have H2_ := (Option.bind_some _ _).symm.trans H; rw [hy116]; with_reducible exact H2_) | (have H2_ := (Option.bind_some _ _).symm.trans H; with_reducible exact H2_) | with_reducible exact H | (rw [hy116]; exact H) | exact H
    have Ny116 := Aside0.mk hy116
    clear hy116
    obtain ⟨y119, hy119⟩ : ∃ y_ : List Int, y_ = (([] : List Int)) := ⟨_, rfl⟩
    replace H : (trim_Reach.l0 k y116 (([y119] : List (List Int))) y115 0 a0_0 a0_1 a0_2 a0_3 l0_4 l0_5) = some (r1, r2, r3) := by first | (rw [hy119]; with_reducible exact H) | (have H2_ := (Option.bind_some _ _).symm.trans H; rw [hy119]; with_reducible exact H2_) | (have H2_ := (Option.bind_some _ _).symm.trans H; with_reducible exact H2_) | with_reducible exact H | (rw [hy119]; exact H) | exact H
    have Ny119 := Aside0.mk hy119
    clear hy119
    obtain ⟨y122, hy122⟩ : ∃ y_ : List (List Int), y_ = (([y119] : List (List Int))) := ⟨_, rfl⟩
    replace H : (trim_Reach.l0 k y116 y122 y115 0 a0_0 a0_1 a0_2 a0_3 l0_4 l0_5) = some (r1, r2, r3) := by first | (rw [hy122]; with_reducible exact H) | (have H2_ := (Option.bind_some _ _).symm.trans H; rw [hy122]; with_reducible exact H2_) | (have H2_ := (Option.bind_some _ _).symm.trans H; with_reducible exact H2_) | with_reducible exact H | (rw [hy122]; exact H) | exact H
    have Ny122 := Aside0.mk hy122
    clear hy122
    have H' := Aside0.mk H
    clear H
    go_enter Try.func18, Try.ntmps18
    go_wp2_with (first | ((with_reducible refine gate_dst (N := 1) rfl ?_); refine box_event ?hg (N := 1) ?hd (cs := #[.int .i64 a0_0, .int .i64 a0_1, .int .i64 a0_2, .int .i64 a0_3, .slice A0_4 l0_4.length c0_4, .slice A0_5 l0_5.length c0_5]) (t := 24) ?hr ?_; (case hd => rfl); (case hg => rfl); (case hr => first | (go_simp; done) | (go_simp; rfl)); intro gb109 hg w7 hbox hb; have n0_ := Aside0.mk (below_step (by repeat (first | (with_reducible first | exact HB.out | apply below_alloc | apply pw_below_drewN | apply below_drew1) | exact HB.out)) hb); have n1_ := Aside0.mk (hbox); have n2_ := Aside0.mk ((by rw [hg]; exact (below_size (by repeat (first | (with_reducible first | exact HB.out | apply below_alloc | apply pw_below_drewN | apply below_drew1) | exact HB.out))) : w.heap.size ≤ gb109)); have n3_ := Aside0.mk ((by rw [hg]; exact (below_size (by repeat (first | (with_reducible first | exact HB.out | apply below_alloc | apply pw_below_drewN | apply below_drew1) | exact HB.out))) : w.heap.size ≤ gb109)); clear HB; have HB := n0_; have BK109 := n1_; have GW109 := n2_; have GE109 := n3_; clear n0_ n1_ n2_ n3_; clear hb hbox hg; have hcz8_0 : w7.cell? ⟨gb109, 0, none⟩ = some (.int .i64 a0_0) := (blk_cell BK109.out 0).trans rfl; have hcz8_1 : w7.cell? ⟨gb109, 1, none⟩ = some (.int .i64 a0_1) := (blk_cell BK109.out 1).trans rfl; have hcz8_2 : w7.cell? ⟨gb109, 2, none⟩ = some (.int .i64 a0_2) := (blk_cell BK109.out 2).trans rfl; have hcz8_3 : w7.cell? ⟨gb109, 3, none⟩ = some (.int .i64 a0_3) := (blk_cell BK109.out 3).trans rfl; have hcz8_4 : w7.cell? ⟨gb109, 4, none⟩ = some (.slice A0_4 l0_4.length c0_4) := (blk_cell BK109.out 4).trans rfl; have hcz8_5 : w7.cell? ⟨gb109, 5, none⟩ = some (.slice A0_5 l0_5.length c0_5) := (blk_cell BK109.out 5).trans rfl; have hfz8_0 := blk_frozen BK109.out 0; have hfz8_1 := blk_frozen BK109.out 1; have hfz8_2 := blk_frozen BK109.out 2; have hfz8_3 := blk_frozen BK109.out 3; have hfz8_4 := blk_frozen BK109.out 4; have hfz8_5 := blk_frozen BK109.out 5))
    go_step3
    go_wp2_with (first | (go_at_call 45; (with_reducible refine (machine_Check.calls k a0_0 a0_1 a0_2 a0_3 _ _ l0_4 _ _ l0_5 t110 t111 _ ?side1 ?side2 ?side3 ?side4 A2.out).mono ?_); (case side1 => repeat (first | exact (Kd.C_below HR0_4.out HB.out) | (with_reducible refine Kd.C_alloc ?_ _) | (with_reducible refine Kd.C_drewN ?_ _) | (with_reducible refine Kd.C_drew ?_))); (case side2 => exact HC0_4.out); (case side3 => repeat (first | exact (Kd.C_below HR0_5.out HB.out) | (with_reducible refine Kd.C_alloc ?_ _) | (with_reducible refine Kd.C_drewN ?_ _) | (with_reducible refine Kd.C_drew ?_))); (case side4 => exact HC0_5.out); rintro e w9 ⟨rfl, hb⟩; have n0_ := Aside0.mk (blk_below (g := gb109) (o := .cells #[.int .i64 a0_0, .int .i64 a0_1, .int .i64 a0_2, .int .i64 a0_3, .slice A0_4 l0_4.length c0_4, .slice A0_5 l0_5.length c0_5] 24 (0, 0)) (by (with_reducible repeat (first | refine blk_drewN ?_ _ | refine blk_drew ?_ | refine blk_alloc ?_ _)); exact BK109.out) hb); have n1_ := Aside0.mk (below_step (by repeat (first | (with_reducible first | exact HB.out | apply below_alloc | apply pw_below_drewN | apply below_drew1 | refine below_set ?_ GE109.out) | exact HB.out)) hb); clear BK109; clear HB; have BK109 := n0_; have HB := n1_; clear n0_ n1_; (try clear hb); (try clear hb2); (try clear hk); (try clear hi)) | ((with_reducible refine gate_make rfl ?_); refine seen_make rfl rfl y112 ?c1 ?c2 ?_; (case c1 => rw [Ny112.out]; simp); (case c2 => intro t_ h0_ h1_; rw [Ny112.out]; exact rdOf_replicate _ _); intro go6 w10 hsn hb; have n1_ := Aside0.mk (blk_below (g := gb109) (o := .cells #[.int .i64 a0_0, .int .i64 a0_1, .int .i64 a0_2, .int .i64 a0_3, .slice A0_4 l0_4.length c0_4, .slice A0_5 l0_5.length c0_5] 24 (0, 0)) (by (with_reducible repeat (first | refine blk_drewN ?_ _ | refine blk_drew ?_ | refine blk_alloc ?_ _)); exact BK109.out) hb); have n2_ := Aside0.mk (below_step (by repeat (first | (with_reducible first | exact HB.out | apply below_alloc | apply pw_below_drewN | apply below_drew1 | refine below_set ?_ GE109.out) | exact HB.out)) hb); have n3_ := Aside0.mk (Nat.le_trans (below_size (by repeat (first | (with_reducible first | exact HB.out | apply below_alloc | apply pw_below_drewN | apply below_drew1 | refine below_set ?_ GE109.out) | exact HB.out))) (Seen_base hsn) : w.heap.size ≤ go6); have n0_ := Aside0.mk (Seen_lower (below_size (by repeat (first | (with_reducible first | exact HB.out | apply below_alloc | apply pw_below_drewN | apply below_drew1 | refine below_set ?_ GE109.out) | exact HB.out))) hsn); clear BK109; clear HB; have HO114 := n0_; have BK109 := n1_; have HB := n2_; have GB6 := n3_; clear n0_ n1_ n2_ n3_; clear hb hsn; obtain ⟨co6, hco6⟩ : ∃ c_ : Nat, c_ = 0 := ⟨0, rfl⟩; clear hco6) | ((with_reducible refine gate_insert rfl ?_); refine seen_insert rfl _ _ _ rfl 0 0 (by (with_reducible repeat (first | apply Seen_alloc | apply Seen_drewN | apply Seen_drew)); exact HO114.out) rfl rfl rfl ?c1 ?c2 ?c3 ?c4 ?_; (case c1 => unfold maxLen; omega); (case c2 => omega); (case c3 => rw [Ny112.out]; simp); (case c4 => decide); intro w13 hsn hg; have n0_ := Aside0.mk (blk_grown (g := gb109) (o := .cells #[.int .i64 a0_0, .int .i64 a0_1, .int .i64 a0_2, .int .i64 a0_3, .slice A0_4 l0_4.length c0_4, .slice A0_5 l0_5.length c0_5] 24 (0, 0)) (by (with_reducible repeat (first | refine blk_drewN ?_ _ | refine blk_drew ?_ | refine blk_alloc ?_ _)); exact BK109.out) hg (Seen_ne HO114.out BK109.out)); have n1_ := Aside0.mk (show Seen w13 w.heap.size go6 1 y115 from (by rw [Ny115.out]; exact hsn)); have n2_ := Aside0.mk (below_put (by repeat (first | (with_reducible first | exact HB.out | apply below_alloc | apply pw_below_drewN | apply below_drew1 | refine below_set ?_ GE109.out) | exact HB.out)) hg GB6.out); clear BK109; clear HO114; clear HB; have BK109 := n0_; have HO114 := n1_; have HB := n2_; clear n0_ n1_ n2_; clear hg hsn) | ((with_reducible refine gate_dst (N := 23) rfl ?_); refine Kd.R_lit (Kd.int .i64) _ 3 ?hg (N := 23) ?hd (xs := ([0] : List Int)) (inner := [.int .i64 0]) (ok := fun _ => True) (okp := fun _ => True) ?hr ?hp (fun _ hk => hk) trivial (Below.refl _ _) (Nat.le_refl _) (by simp) ?_; (case hd => rfl); (case hg => rfl); (case hr => first | (go_simp; done) | (go_simp; rfl)); (case hp => exact (Reps.one (show Kd.M (Kd.int .i64) _ _ _ 0 [.int .i64 0] from rfl) (Reps.none _ _))); intro v117 w14 ho15 hb hg_ hnew_; clear hg_ hnew_; (first | rw [← Ny116.out] at ho15 | (simp only [Int.reduceToNat] at ho15; rw [← Ny116.out] at ho15)); have n0_ := Aside0.mk (Seen_below (by (with_reducible repeat (first | apply Seen_alloc | apply Seen_drewN | apply Seen_drew)); exact HO114.out) hb); have n1_ := Aside0.mk (Kd.R_lower (Kd.R_newM (M := fun k_ => (w.heap.size ≤ k_)) ho15 (below_size (by repeat (first | (with_reducible first | exact HB.out | apply below_alloc | apply pw_below_drewN | apply below_drew1 | refine below_set ?_ GE109.out) | exact HB.out))) (fun k_ h_ => h_)) (below_size (by repeat (first | (with_reducible first | exact HB.out | apply below_alloc | apply pw_below_drewN | apply below_drew1 | refine below_set ?_ GE109.out) | exact HB.out)))); have n2_ := Aside0.mk (blk_below (g := gb109) (o := .cells #[.int .i64 a0_0, .int .i64 a0_1, .int .i64 a0_2, .int .i64 a0_3, .slice A0_4 l0_4.length c0_4, .slice A0_5 l0_5.length c0_5] 24 (0, 0)) (by (with_reducible repeat (first | refine blk_drewN ?_ _ | refine blk_drew ?_ | refine blk_alloc ?_ _)); exact BK109.out) hb); have n3_ := Aside0.mk (below_step (by repeat (first | (with_reducible first | exact HB.out | apply below_alloc | apply pw_below_drewN | apply below_drew1 | refine below_set ?_ GE109.out) | exact HB.out)) hb); clear HO114; clear BK109; clear HB; have HO114 := n0_; have HO118 := n1_; have BK109 := n2_; have HB := n3_; clear n0_ n1_ n2_ n3_; clear hb ho15) | ((with_reducible refine gate_dst (N := 24) rfl ?_); refine Kd.R_lit (Kd.int .i64) _ 3 ?hg (N := 24) ?hd (xs := ([] : List Int)) (inner := []) (ok := fun _ => True) (okp := fun _ => True) ?hr ?hp (fun _ hk => hk) trivial (Below.refl _ _) (Nat.le_refl _) (by simp) ?_; (case hd => rfl); (case hg => rfl); (case hr => first | (go_simp; done) | (go_simp; rfl)); (case hp => exact (Reps.none _ _)); intro v120 w16 ho17 hb hg_ hnew_; clear hg_ hnew_; (first | rw [← Ny119.out] at ho17 | (simp only [Int.reduceToNat] at ho17; rw [← Ny119.out] at ho17)); have n0_ := Aside0.mk (Seen_below (by (with_reducible repeat (first | apply Seen_alloc | apply Seen_drewN | apply Seen_drew)); exact HO114.out) hb); have n1_ := Aside0.mk (Kd.R_elder' (by (with_reducible repeat (first | apply Kd.R_alloc | apply Kd.R_drewN | apply Kd.R_drew)); exact HO118.out) (Kd.R_base ho17) hb); have n2_ := Aside0.mk (Kd.R_lower (Kd.R_new' (Kd.R_newM (M := fun k_ => (w.heap.size ≤ k_)) ho17 (below_size (by repeat (first | (with_reducible first | exact HB.out | apply below_alloc | apply pw_below_drewN | apply below_drew1 | refine below_set ?_ GE109.out) | exact HB.out))) (fun k_ h_ => h_)) (Kd.R_lt (by (with_reducible repeat (first | apply Kd.R_alloc | apply Kd.R_drewN | apply Kd.R_drew)); exact HO118.out))) (below_size (by repeat (first | (with_reducible first | exact HB.out | apply below_alloc | apply pw_below_drewN | apply below_drew1 | refine below_set ?_ GE109.out) | exact HB.out)))); have n3_ := Aside0.mk (blk_below (g := gb109) (o := .cells #[.int .i64 a0_0, .int .i64 a0_1, .int .i64 a0_2, .int .i64 a0_3, .slice A0_4 l0_4.length c0_4, .slice A0_5 l0_5.length c0_5] 24 (0, 0)) (by (with_reducible repeat (first | refine blk_drewN ?_ _ | refine blk_drew ?_ | refine blk_alloc ?_ _)); exact BK109.out) hb); have n4_ := Aside0.mk (below_step (by repeat (first | (with_reducible first | exact HB.out | apply below_alloc | apply pw_below_drewN | apply below_drew1 | refine below_set ?_ GE109.out) | exact HB.out)) hb); clear HO114; clear HO118; clear BK109; clear HB; have HO114 := n0_; have HO118 := n1_; have HO121 := n2_; have BK109 := n3_; have HB := n4_; clear n0_ n1_ n2_ n3_ n4_; clear hb ho17; obtain ⟨Ao18, co18, eo18⟩ := Kd.R_slice HO121.out; subst eo18) | ((with_reducible refine gate_dst (N := 25) rfl ?_); refine N_lit_ds _ ?hg (N' := 25) ?hd (p := y119) (c := .slice Ao18 y119.length co18) (ok := (fun k_ => (w.heap.size ≤ k_) ∧ some k_ ≠ (.slice (some ⟨go6, 0, none⟩) y112.length co6 : Value).ownBlock ∧ some k_ ≠ (v117 : Value).ownBlock ∧ k_ ≠ gb109)) (okp := (fun k_ => (w.heap.size ≤ k_) ∧ some k_ ≠ (.slice (some ⟨go6, 0, none⟩) y112.length co6 : Value).ownBlock ∧ some k_ ≠ (v117 : Value).ownBlock ∧ k_ ≠ gb109)) ?hr ?hp (fun _ hk => hk) ((show ∀ k_, w16.heap.size ≤ k_ → (fun k_ => (w.heap.size ≤ k_) ∧ some k_ ≠ (.slice (some ⟨go6, 0, none⟩) y112.length co6 : Value).ownBlock ∧ some k_ ≠ (v117 : Value).ownBlock ∧ k_ ≠ gb109) k_ from fun k_ hk => ⟨(Nat.le_trans (below_size (by repeat (first | (with_reducible first | exact HB.out | apply below_alloc | apply pw_below_drewN | apply below_drew1 | refine below_set ?_ GE109.out) | exact HB.out))) hk), Kd.fresh' (Seen_lt 0 0 (by (with_reducible repeat (first | apply Seen_alloc | apply Seen_drewN | apply Seen_drew)); exact HO114.out)) k_ hk, Kd.fresh' (Kd.R_lt (by (with_reducible repeat (first | apply Kd.R_alloc | apply Kd.R_drewN | apply Kd.R_drew)); exact HO118.out)) k_ hk, Kd.freshB (g := gb109) (o := .cells #[.int .i64 a0_0, .int .i64 a0_1, .int .i64 a0_2, .int .i64 a0_3, .slice A0_4 l0_4.length c0_4, .slice A0_5 l0_5.length c0_5] 24 (0, 0)) (by (with_reducible repeat (first | refine blk_drewN ?_ _ | refine blk_drew ?_ | refine blk_alloc ?_ _)); exact BK109.out) k_ hk⟩) _ (Nat.le_refl _)) (Below.refl _ _) (Nat.le_refl _) ?_; (case hd => rfl); (case hg => rfl); (case hr => first | (go_simp; done) | (go_simp; rfl)); (case hp => exact (Reps.one (show Kd.FK (Kd.slice 3 (Kd.int .i64)) _ _ y119 [.slice Ao18 y119.length co18] from (Kd.FK_slice_mk (Kd.R_reads' (Kd.R_mono (ok' := (fun k_ => (w.heap.size ≤ k_) ∧ some k_ ≠ (.slice (some ⟨go6, 0, none⟩) y112.length co6 : Value).ownBlock ∧ some k_ ≠ (v117 : Value).ownBlock ∧ k_ ≠ gb109)) (Kd.R_types (R_apart_seen 0 0 (HO121.out) HO114.out) BK109.out (by decide)) (fun k_ hk => ⟨hk.1.1.1.1, ⟨hk.1.2, ⟨hk.1.1.2, hk.2⟩⟩⟩))).2.1 (Kd.R_F (Kd.R_mono (ok' := (fun k_ => (w.heap.size ≤ k_) ∧ some k_ ≠ (.slice (some ⟨go6, 0, none⟩) y112.length co6 : Value).ownBlock ∧ some k_ ≠ (v117 : Value).ownBlock ∧ k_ ≠ gb109)) (Kd.R_types (R_apart_seen 0 0 (HO121.out) HO114.out) BK109.out (by decide)) (fun k_ hk => ⟨hk.1.1.1.1, ⟨hk.1.2, ⟨hk.1.1.2, hk.2⟩⟩⟩))))) (Reps.none _ _))); intro v123 w19 ho20 hdr hb hg_ hnew_; clear hg_ hnew_; (first | rw [← Ny122.out] at ho20 | (simp only [Int.reduceToNat] at ho20; rw [← Ny122.out] at ho20)); have n0_ := Aside0.mk (Seen_below (by (with_reducible repeat (first | apply Seen_alloc | apply Seen_drewN | apply Seen_drew)); exact HO114.out) hb); have n1_ := Aside0.mk (Kd.R_below (by (with_reducible repeat (first | apply Kd.R_alloc | apply Kd.R_drewN | apply Kd.R_drew)); exact HO118.out) hb); have n2_ := Aside0.mk (Kd.N_lower ho20 (below_size (by repeat (first | (with_reducible first | exact HB.out | apply below_alloc | apply pw_below_drewN | apply below_drew1 | refine below_set ?_ GE109.out) | exact HB.out)))); have n3_ := Aside0.mk (blk_below (g := gb109) (o := .cells #[.int .i64 a0_0, .int .i64 a0_1, .int .i64 a0_2, .int .i64 a0_3, .slice A0_4 l0_4.length c0_4, .slice A0_5 l0_5.length c0_5] 24 (0, 0)) (by (with_reducible repeat (first | refine blk_drewN ?_ _ | refine blk_drew ?_ | refine blk_alloc ?_ _)); exact BK109.out) hb); have n4_ := Aside0.mk (below_step (by repeat (first | (with_reducible first | exact HB.out | apply below_alloc | apply pw_below_drewN | apply below_drew1 | refine below_set ?_ GE109.out) | exact HB.out)) hb); have nD_ := Aside0.mk (show Ds w19 w.heap.size (fun k_ => some k_ = (v117 : Value).ownBlock) v123 y122 from (by rw [Ny122.out]; exact Ds.one (hdr _ (below_size (by repeat (first | (with_reducible first | exact HB.out | apply below_alloc | apply pw_below_drewN | apply below_drew1 | refine below_set ?_ GE109.out) | exact HB.out)))) (Kd.R_mono (Kd.R_below (RM HO121.out) hb) (fun _ _ => trivial)) (fun k_ hk he => (HO121.out.1 k_ hk).2 he))); clear hdr; clear HO114; clear HO118; clear BK109; clear HB; clear HO121; have HO114 := n0_; have HO118 := n1_; have HO124 := n2_; have BK109 := n3_; have HB := n4_; clear n0_ n1_ n2_ n3_ n4_; have HD := nD_; clear nD_; clear hb ho20))
    go_step3
    go_wp2
    go_loopg [2, 3, 8] k (fun kq v2 v3 v8 w' => ∃ (x2_1 : List Int) (x3_1 : List (List Int)) (x7_1 : List Bool) (x8_1 : Int), v8 = .int .i64 x8_1 ∧ Aside0 (trim_Reach.l0 kq x2_1 x3_1 x7_1 x8_1 a0_0 a0_1 a0_2 a0_3 l0_4 l0_5 = some (r1, r2, r3)) ∧ Aside0 (kq ≤ k) ∧ Aside0 (Kd.R (Kd.int .i64) 3 w' w.heap.size (fun k_ => (w.heap.size ≤ k_)) v2 x2_1) ∧ Aside0 (Kd.N (Kd.slice 3 (Kd.int .i64)) 22 w' w.heap.size (fun k_ => (w.heap.size ≤ k_) ∧ some k_ ≠ (v2 : Value).ownBlock ∧ some k_ ≠ ((.slice (some ⟨go6, 0, none⟩) y112.length co6) : Value).ownBlock ∧ k_ ≠ gb109) v3 x3_1) ∧ Aside0 (Seen w' w.heap.size go6 x2_1.length x7_1) ∧ Aside0 (w'.heap[gb109]? = some (.cells #[.int .i64 a0_0, .int .i64 a0_1, .int .i64 a0_2, .int .i64 a0_3, (.slice A0_4 l0_4.length c0_4), (.slice A0_5 l0_5.length c0_5)] 24 (0, 0))) ∧ Aside0 (Below w.heap.size w w') ∧ Aside0 (Ds w' w.heap.size (fun k_ => some k_ = (v2 : Value).ownBlock) v3 x3_1))
    case atStart => exact ⟨(y116), (y122), (y115), (0), (by first | rfl | (simp; done) | (simp [*]; done)), H', ⟨Nat.le_refl _⟩, ⟨by (with_reducible repeat (first | apply Kd.R_alloc | apply Kd.R_drewN | apply Kd.R_drew)); exact Kd.R_mono HO118.out (fun _ hk => hk.1.1)⟩, ⟨by (with_reducible repeat (first | apply Kd.N_alloc | apply Kd.N_drewN | apply Kd.N_drew)); exact Kd.N_mono HO124.out (fun _ hk => ⟨hk.1, ⟨hk.2.2.1, ⟨hk.2.1, hk.2.2.2⟩⟩⟩)⟩, ⟨by (with_reducible repeat (first | apply Seen_alloc | apply Seen_drewN | apply Seen_drew)); exact Seen_more HO114.out (by rw [Ny116.out]; simp)⟩, ⟨by (with_reducible repeat (first | refine blk_drewN ?_ _ | refine blk_drew ?_ | refine blk_alloc ?_ _)); exact BK109.out⟩, ⟨by repeat (first | (with_reducible first | exact HB.out | apply below_alloc | apply pw_below_drewN | apply below_drew1 | refine below_set ?_ GE109.out) | exact HB.out)⟩, ⟨DM HD.out⟩⟩
    case round =>
     clear H'
     try clear c1
     try clear p2
     try clear c3
     try clear c3b0
     try clear c3b1
     try clear c4
     try clear c4b0
     try clear c4b1
     try clear c5
     try clear c5b0
     try clear c5b1
     try clear p6
     try clear q6
     try clear hx6
     try clear qi6
     try clear hf6
     try clear c18
     try clear hcz8_0
     try clear hcz8_1
     try clear hcz8_2
     try clear hcz8_3
     try clear hcz8_4
     try clear hcz8_5
     try clear hfz8_0
     try clear hfz8_1
     try clear hfz8_2
     try clear hfz8_3
     try clear hfz8_4
     try clear hfz8_5
     try clear hx6_0
     try clear p6
     try clear q6
     obtain ⟨x2_1, x3_1, x7_1, x8_1, rfl, HA, HK1, HO_2, HO_3, HO_7, BK109, HB, HD⟩ := hrel
     have hl7_1 : True := trivial
     (try simp only [hl7_1])
     (try simp only [hl7_1] at BK109)
     (try simp only [hl7_1] at HO_2)
     (try simp only [hl7_1] at HO_3)
     cases gk with
     | zero => exact absurd HA.out (by simp [trim_Reach.l0])
     | succ k1 =>
      have H := HA.out
      clear HA
      simp only [trim_Reach.l0] at H
      by_cases c21 : x8_1 < (x2_1.length : Int)
      ·rw [if_pos c21] at H
       have c21b0 : decide (x8_1 < (x2_1.length : Int)) = true := decide_eq_true c21
       clear c21
       have H' := Aside0.mk H
       clear H
       obtain ⟨Ao22, co22, eo22⟩ := Kd.R_slice HO_2.out
       subst eo22
       have hcz23_0 : wr.cell? ⟨gb109, 0, none⟩ = some (.int .i64 a0_0) := (blk_cell BK109.out 0).trans rfl
       have hcz23_1 : wr.cell? ⟨gb109, 1, none⟩ = some (.int .i64 a0_1) := (blk_cell BK109.out 1).trans rfl
       have hcz23_2 : wr.cell? ⟨gb109, 2, none⟩ = some (.int .i64 a0_2) := (blk_cell BK109.out 2).trans rfl
       have hcz23_3 : wr.cell? ⟨gb109, 3, none⟩ = some (.int .i64 a0_3) := (blk_cell BK109.out 3).trans rfl
       have hcz23_4 : wr.cell? ⟨gb109, 4, none⟩ = some (.slice A0_4 l0_4.length c0_4) := (blk_cell BK109.out 4).trans rfl
       have hcz23_5 : wr.cell? ⟨gb109, 5, none⟩ = some (.slice A0_5 l0_5.length c0_5) := (blk_cell BK109.out 5).trans rfl
       have hfz23_0 := blk_frozen BK109.out 0
       have hfz23_1 := blk_frozen BK109.out 1
       have hfz23_2 := blk_frozen BK109.out 2
       have hfz23_3 := blk_frozen BK109.out 3
       have hfz23_4 := blk_frozen BK109.out 4
       have hfz23_5 := blk_frozen BK109.out 5
       go_wp2
       repeat (go_quiet (fail); try go_wp2)
       go_loopg [2, 3, 34] k1 (fun kq v2 v3 v34 w' => ∃ (x2_2 : List Int) (x3_2 : List (List Int)) (x7_2 : List Bool) (x34_2 : Int), v34 = .int .i64 x34_2 ∧ Aside0 (trim_Reach.l1 kq x2_2 x3_2 x7_2 x8_1 a0_1 x34_2 a0_0 a0_1 a0_2 a0_3 l0_4 l0_5 = some (r1, r2, r3)) ∧ Aside0 (kq ≤ k1) ∧ Aside0 (Kd.R (Kd.int .i64) 3 w' w.heap.size (fun k_ => (w.heap.size ≤ k_)) v2 x2_2) ∧ Aside0 (Kd.N (Kd.slice 3 (Kd.int .i64)) 22 w' w.heap.size (fun k_ => (w.heap.size ≤ k_) ∧ some k_ ≠ (v2 : Value).ownBlock ∧ some k_ ≠ ((.slice (some ⟨go6, 0, none⟩) x7_1.length co6) : Value).ownBlock ∧ k_ ≠ gb109) v3 x3_2) ∧ Aside0 (Seen w' w.heap.size go6 x2_2.length x7_2) ∧ Aside0 (w'.heap[gb109]? = some (.cells #[.int .i64 a0_0, .int .i64 a0_1, .int .i64 a0_2, .int .i64 a0_3, (.slice A0_4 l0_4.length c0_4), (.slice A0_5 l0_5.length c0_5)] 24 (0, 0))) ∧ Aside0 (Below w.heap.size w w') ∧ Aside0 (Ds w' w.heap.size (fun k_ => some k_ = (v2 : Value).ownBlock) v3 x3_2))
       case atStart => exact ⟨(x2_1), (x3_1), (x7_1), (0), (by first | rfl | (simp; done) | (simp [*]; done)), H', ⟨Nat.le_refl _⟩, ⟨by (try simp only [hl7_1]); (with_reducible repeat (first | apply Kd.R_alloc | apply Kd.R_drewN | apply Kd.R_drew)); exact HO_2.out⟩, ⟨by (try simp only [hl7_1]); (with_reducible repeat (first | apply Kd.N_alloc | apply Kd.N_drewN | apply Kd.N_drew)); exact HO_3.out⟩, ⟨by (with_reducible repeat (first | apply Seen_alloc | apply Seen_drewN | apply Seen_drew)); (first | exact HO_7.out | exact Seen_more HO_7.out (by rw [Ny129.out]; simp))⟩, ⟨by (try simp only [hl7_1]); (with_reducible repeat (first | refine blk_drewN ?_ _ | refine blk_drew ?_ | refine blk_alloc ?_ _)); exact BK109.out⟩, ⟨by repeat (first | (with_reducible first | exact HB.out | apply below_alloc | apply pw_below_drewN | apply below_drew1 | refine below_set ?_ GE109.out) | exact HB.out)⟩, ⟨DM HD.out⟩⟩
       case round =>
        clear H'
        try clear c1
        try clear c2
        try clear p2
        try clear c3
        try clear c3b0
        try clear c3b1
        try clear c4
        try clear c4b0
        try clear c4b1
        try clear c5
        try clear c5b0
        try clear c5b1
        try clear p6
        try clear q6
        try clear hx6
        try clear qi6
        try clear hf6
        try clear c18
        try clear c21
        try clear c21b0
        try clear hcz23_0
        try clear hcz23_1
        try clear hcz23_2
        try clear hcz23_3
        try clear hcz23_4
        try clear hcz23_5
        try clear hcz8_0
        try clear hcz8_1
        try clear hcz8_2
        try clear hcz8_3
        try clear hcz8_4
        try clear hcz8_5
        try clear hfz23_0
        try clear hfz23_1
        try clear hfz23_2
        try clear hfz23_3
        try clear hfz23_4
        try clear hfz23_5
        try clear hfz8_0
        try clear hfz8_1
        try clear hfz8_2
        try clear hfz8_3
        try clear hfz8_4
        try clear hfz8_5
        try clear hx6_0
        try clear p2
        try clear p6
        try clear q6
        obtain ⟨x2_2, x3_2, x7_2, x34_2, rfl, HA, HK2, HO_2, HO_3, HO_7, BK109, HB, HD⟩ := hrel
        have hl7_2 : True := trivial
        (try simp only [hl7_2])
        (try simp only [hl7_2] at BK109)
        (try simp only [hl7_2] at HO_2)
        (try simp only [hl7_2] at HO_3)
        cases gk with
        | zero => exact absurd HA.out (by simp [trim_Reach.l1])
        | succ k2 =>
         have H := HA.out
         clear HA
         simp only [trim_Reach.l1] at H
         by_cases c24 : x34_2 < a0_1
         ·rw [if_pos c24] at H
          have c24b0 : decide (x34_2 < a0_1) = true := decide_eq_true c24
          clear c24
          by_cases c25 : 0 ≤ x8_1
          ·rw [if_pos c25] at H
           have c25b0 : decide (0 ≤ x8_1) = true := decide_eq_true c25
           clear c25
           by_cases c26 : x8_1 < (x2_2.length : Int)
           ·rw [if_pos c26] at H
            have c26b0 : decide (x8_1 < (x2_2.length : Int)) = true := decide_eq_true c26
            clear c26
            obtain ⟨ji27, hji27⟩ : ∃ j_ : Int, (wrap64 ((wrap64 ((rd x2_2 x8_1) * a0_1)) + x34_2)) = j_ := ⟨_, rfl⟩
            replace H : (if 0 ≤ (ji27) then (if (ji27) < (l0_4.length : Int) then (if 0 ≤ (rd l0_4 (ji27)) then (if (rd l0_4 (ji27)) < (x7_2.length : Int) then (if rdOf false x7_2 (rd l0_4 (ji27)) = true then (trim_Reach.l1 k2 x2_2 x3_2 x7_2 x8_1 a0_1 (wrap64 (x34_2 + 1)) a0_0 a0_1 a0_2 a0_3 l0_4 l0_5) else (if x2_2.length < 17592186044416 then ((some (x2_2 ++ [rd l0_4 (ji27)] : List Int)).bind fun y129 => (if x8_1 < (x3_2.length : Int) then ((slices_Clone_int_int.f (rd_L1 x3_2 x8_1)).bind fun t133 => (if t133.length < 17592186044416 then (if x3_2.length < 5864062014805 then ((some (x3_2 ++ [(t133 ++ [x34_2])] : List (List Int))).bind fun y139 => (if (y129.length : Int) = a0_3 then (some (y129, y139, 0)) else (trim_Reach.l1 k2 y129 y139 (x7_2.set ((rd l0_4 (ji27)) : Int).toNat true) x8_1 a0_1 (wrap64 (x34_2 + 1)) a0_0 a0_1 a0_2 a0_3 l0_4 l0_5))) else (none)) else (none))) else (none))) else (none))) else (none)) else (none)) else (none)) else (none)) = some (r1, r2, r3) := by first | (rw [hji27] at H; exact H) | (simp only [hji27] at H ⊢; exact H)
            have hji27w : (IntKind.i64.wrap ((wrap64 ((rd x2_2 x8_1) * a0_1)) + x34_2)) = ji27 := (i64_w _).trans hji27
            by_cases c28 : 0 ≤ (ji27)
            ·rw [if_pos c28] at H
             have c28b0 : decide (0 ≤ (ji27)) = true := decide_eq_true c28
             clear c28
             by_cases c29 : (ji27) < (l0_4.length : Int)
             ·rw [if_pos c29] at H
              have c29b0 : decide ((ji27) < (l0_4.length : Int)) = true := decide_eq_true c29
              clear c29
              by_cases c30 : 0 ≤ (rd l0_4 (ji27))
              ·rw [if_pos c30] at H
               have c30b0 : decide (0 ≤ (rd l0_4 (ji27))) = true := decide_eq_true c30
               clear c30
               by_cases c31 : (rd l0_4 (ji27)) < (x7_2.length : Int)
               ·rw [if_pos c31] at H
                have c31b0 : decide ((rd l0_4 (ji27)) < (x7_2.length : Int)) = true := decide_eq_true c31
                clear c31
                obtain ⟨bq32, hbq32⟩ : ∃ b_ : Bool, b_ = (rdOf false x7_2 (rd l0_4 (ji27))) := ⟨_, rfl⟩
                replace H : (if bq32 = true then (trim_Reach.l1 k2 x2_2 x3_2 x7_2 x8_1 a0_1 (wrap64 (x34_2 + 1)) a0_0 a0_1 a0_2 a0_3 l0_4 l0_5) else (if x2_2.length < 17592186044416 then ((some (x2_2 ++ [rd l0_4 (ji27)] : List Int)).bind fun y129 => (if x8_1 < (x3_2.length : Int) then ((slices_Clone_int_int.f (rd_L1 x3_2 x8_1)).bind fun t133 => (if t133.length < 17592186044416 then (if x3_2.length < 5864062014805 then ((some (x3_2 ++ [(t133 ++ [x34_2])] : List (List Int))).bind fun y139 => (if (y129.length : Int) = a0_3 then (some (y129, y139, 0)) else (trim_Reach.l1 k2 y129 y139 (x7_2.set ((rd l0_4 (ji27)) : Int).toNat true) x8_1 a0_1 (wrap64 (x34_2 + 1)) a0_0 a0_1 a0_2 a0_3 l0_4 l0_5))) else (none)) else (none))) else (none))) else (none))) = some (r1, r2, r3) := by rw [← hbq32] at H; exact H
                have Nbq32 := Aside0.mk hbq32
                clear hbq32
                by_cases c33 : bq32 = true
                ·subst c33
                 have H1 : (trim_Reach.l1 k2 x2_2 x3_2 x7_2 x8_1 a0_1 (wrap64 (x34_2 + 1)) a0_0 a0_1 a0_2 a0_3 l0_4 l0_5) = some (r1, r2, r3) := by rw [if_pos rfl] at H; exact H
                 clear H
                 have H := H1
                 clear H1
                 have H' := Aside0.mk H
                 clear H
                 have hcz34_0 : wr.cell? ⟨gb109, 0, none⟩ = some (.int .i64 a0_0) := (blk_cell BK109.out 0).trans rfl
                 have hcz34_1 : wr.cell? ⟨gb109, 1, none⟩ = some (.int .i64 a0_1) := (blk_cell BK109.out 1).trans rfl
                 have hcz34_2 : wr.cell? ⟨gb109, 2, none⟩ = some (.int .i64 a0_2) := (blk_cell BK109.out 2).trans rfl
                 have hcz34_3 : wr.cell? ⟨gb109, 3, none⟩ = some (.int .i64 a0_3) := (blk_cell BK109.out 3).trans rfl
                 have hcz34_4 : wr.cell? ⟨gb109, 4, none⟩ = some (.slice A0_4 l0_4.length c0_4) := (blk_cell BK109.out 4).trans rfl
                 have hcz34_5 : wr.cell? ⟨gb109, 5, none⟩ = some (.slice A0_5 l0_5.length c0_5) := (blk_cell BK109.out 5).trans rfl
                 have hfz34_0 := blk_frozen BK109.out 0
                 have hfz34_1 := blk_frozen BK109.out 1
                 have hfz34_2 := blk_frozen BK109.out 2
                 have hfz34_3 := blk_frozen BK109.out 3
                 have hfz34_4 := blk_frozen BK109.out 4
                 have hfz34_5 := blk_frozen BK109.out 5
                 obtain ⟨Ao35, co35, eo35⟩ := Kd.R_slice HO_2.out
                 subst eo35
                 have p125 : 0 ≤ (x8_1 : Int) := of_decide_eq_true (by first | (with_reducible assumption) | assumption)
                 have q125 : x8_1 < (x2_2.length : Int) := of_decide_eq_true (by first | (with_reducible assumption) | assumption)
                 obtain ⟨ad125, e125, hx125_0⟩ := Kd.at_int (Kd.R_reads' HO_2.out).2.2 x8_1 p125 q125
                 cases e125
                 replace p125 := eq_true p125
                 replace q125 := eq_true q125
                 have p126 : 0 ≤ ((ji27) : Int) := of_decide_eq_true (by first | (with_reducible assumption) | assumption)
                 have q126 : (ji27) < (l0_4.length : Int) := of_decide_eq_true (by first | (with_reducible assumption) | assumption)
                 obtain ⟨ad126, e126, hx126_0⟩ := Kd.at_int HR0_4.out (ji27) p126 q126
                 cases e126
                 replace hx126_0 := (HB.out.cell (World.block_lt_of_cell? w _ hx126_0)).trans hx126_0
                 replace p126 := eq_true p126
                 replace q126 := eq_true q126
                 go_wp2_with (((with_reducible refine gate_look rfl ?_); refine seen_lookup rfl _ _ rfl (rd l0_4 (ji27)) true (by (with_reducible repeat (first | apply Seen_alloc | apply Seen_drewN | apply Seen_drew)); exact HO_7.out) ?c1 ?c2 ?c3 ?c4 ?c5 ?_; (case c1 => rfl); (case c2 => rfl); (case c3 => exact of_decide_eq_true (by first | (with_reducible assumption) | assumption)); (case c4 => exact of_decide_eq_true (by first | (with_reducible assumption) | assumption)); (case c5 => exact Nbq32.out); intro cv_))
                 repeat (go_quiet (((with_reducible refine gate_look rfl ?_); refine seen_lookup rfl _ _ rfl (rd l0_4 (ji27)) true (by (with_reducible repeat (first | apply Seen_alloc | apply Seen_drewN | apply Seen_drew)); exact HO_7.out) ?c1 ?c2 ?c3 ?c4 ?c5 ?_; (case c1 => rfl); (case c2 => rfl); (case c3 => exact of_decide_eq_true (by first | (with_reducible assumption) | assumption)); (case c4 => exact of_decide_eq_true (by first | (with_reducible assumption) | assumption)); (case c5 => exact Nbq32.out); intro cv_)); try go_wp2_with (((with_reducible refine gate_look rfl ?_); refine seen_lookup rfl _ _ rfl (rd l0_4 (ji27)) true (by (with_reducible repeat (first | apply Seen_alloc | apply Seen_drewN | apply Seen_drew)); exact HO_7.out) ?c1 ?c2 ?c3 ?c4 ?c5 ?_; (case c1 => rfl); (case c2 => rfl); (case c3 => exact of_decide_eq_true (by first | (with_reducible assumption) | assumption)); (case c4 => exact of_decide_eq_true (by first | (with_reducible assumption) | assumption)); (case c5 => exact Nbq32.out); intro cv_)))
                 (try simp only [← hl7_2])
                 go_roundg k2
                 case measure => have := HK1.out; have := HK2.out; omega
                 case rel => exact ⟨(x2_2), (x3_2), (x7_2), (wrap64 (x34_2 + 1)), (by first | rfl | (simp; done) | (simp [*]; done)), H', ⟨by have := HK1.out; have := HK2.out; omega⟩, ⟨by (try simp only [hl7_1]); (try simp only [hl7_2]); (with_reducible repeat (first | apply Kd.R_alloc | apply Kd.R_drewN | apply Kd.R_drew)); exact HO_2.out⟩, ⟨by (try simp only [hl7_1]); (try simp only [hl7_2]); (with_reducible repeat (first | apply Kd.N_alloc | apply Kd.N_drewN | apply Kd.N_drew)); exact HO_3.out⟩, ⟨by (with_reducible repeat (first | apply Seen_alloc | apply Seen_drewN | apply Seen_drew)); (first | exact HO_7.out | exact Seen_more HO_7.out (by rw [Ny129.out]; simp))⟩, ⟨by (try simp only [hl7_1]); (try simp only [hl7_2]); (with_reducible repeat (first | refine blk_drewN ?_ _ | refine blk_drew ?_ | refine blk_alloc ?_ _)); exact BK109.out⟩, ⟨by repeat (first | (with_reducible first | exact HB.out | apply below_alloc | apply pw_below_drewN | apply below_drew1 | refine below_set ?_ GE109.out) | exact HB.out)⟩, ⟨DM HD.out⟩⟩
                ·replace c33 := Bool.eq_false_iff.mpr c33
                 subst c33
                 have H1 : (if x2_2.length < 17592186044416 then ((some (x2_2 ++ [rd l0_4 (ji27)] : List Int)).bind fun y129 => (if x8_1 < (x3_2.length : Int) then ((slices_Clone_int_int.f (rd_L1 x3_2 x8_1)).bind fun t133 => (if t133.length < 17592186044416 then (if x3_2.length < 5864062014805 then ((some (x3_2 ++ [(t133 ++ [x34_2])] : List (List Int))).bind fun y139 => (if (y129.length : Int) = a0_3 then (some (y129, y139, 0)) else (trim_Reach.l1 k2 y129 y139 (x7_2.set ((rd l0_4 (ji27)) : Int).toNat true) x8_1 a0_1 (wrap64 (x34_2 + 1)) a0_0 a0_1 a0_2 a0_3 l0_4 l0_5))) else (none)) else (none))) else (none))) else (none)) = some (r1, r2, r3) := by rw [if_neg (show ¬ (false = true) by decide)] at H; exact H
                 clear H
                 have H := H1
                 clear H1
                 obtain ⟨y128, hy128⟩ : ∃ y_ : List Bool, y_ = (x7_2.set ((rd l0_4 (ji27)) : Int).toNat true) := ⟨_, rfl⟩
                 replace H : (if x2_2.length < 17592186044416 then ((some (x2_2 ++ [rd l0_4 (ji27)] : List Int)).bind fun y129 => (if x8_1 < (x3_2.length : Int) then ((slices_Clone_int_int.f (rd_L1 x3_2 x8_1)).bind fun t133 => (if t133.length < 17592186044416 then (if x3_2.length < 5864062014805 then ((some (x3_2 ++ [(t133 ++ [x34_2])] : List (List Int))).bind fun y139 => (if (y129.length : Int) = a0_3 then (some (y129, y139, 0)) else (trim_Reach.l1 k2 y129 y139 y128 x8_1 a0_1 (wrap64 (x34_2 + 1)) a0_0 a0_1 a0_2 a0_3 l0_4 l0_5))) else (none)) else (none))) else (none))) else (none)) = some (r1, r2, r3) := by first | (rw [hy128]; with_reducible exact H) | (have H2_ := (Option.bind_some _ _).symm.trans H; rw [hy128]; with_reducible exact H2_) | (have H2_ := (Option.bind_some _ _).symm.trans H; with_reducible exact H2_) | with_reducible exact H | (rw [hy128]; exact H) | exact H
                 have Ny128 := Aside0.mk hy128
                 clear hy128
                 by_cases c37 : x2_2.length < 17592186044416
                 ·rw [if_pos c37] at H
                  have LMc37 := Aside0.mk c37
                  clear c37
                  obtain ⟨y129, hy129⟩ : ∃ y_ : List Int, y_ = (x2_2 ++ [rd l0_4 (ji27)]) := ⟨_, rfl⟩
                  replace H : (if x8_1 < (x3_2.length : Int) then ((slices_Clone_int_int.f (rd_L1 x3_2 x8_1)).bind fun t133 => (if t133.length < 17592186044416 then (if x3_2.length < 5864062014805 then ((some (x3_2 ++ [(t133 ++ [x34_2])] : List (List Int))).bind fun y139 => (if (y129.length : Int) = a0_3 then (some (y129, y139, 0)) else (trim_Reach.l1 k2 y129 y139 y128 x8_1 a0_1 (wrap64 (x34_2 + 1)) a0_0 a0_1 a0_2 a0_3 l0_4 l0_5))) else (none)) else (none))) else (none)) = some (r1, r2, r3) := by first | (rw [hy129]; with_reducible exact H) | (have H2_ := (Option.bind_some _ _).symm.trans H; rw [hy129]; with_reducible exact H2_) | (have H2_ := (Option.bind_some _ _).symm.trans H; with_reducible exact H2_) | with_reducible exact H | (rw [hy129]; exact H) | exact H
                  have Ny129 := Aside0.mk hy129
                  clear hy129
                  by_cases c38 : x8_1 < (x3_2.length : Int)
                  ·rw [if_pos c38] at H
                   have c38b0 : decide (x8_1 < (x3_2.length : Int)) = true := decide_eq_true c38
                   clear c38
                   replace H := Option.bind_eq_some_iff.mp H
                   obtain ⟨t133, A390, H⟩ := H
                   replace H : (if t133.length < 17592186044416 then (if x3_2.length < 5864062014805 then ((some (x3_2 ++ [(t133 ++ [x34_2])] : List (List Int))).bind fun y139 => (if (y129.length : Int) = a0_3 then (some (y129, y139, 0)) else (trim_Reach.l1 k2 y129 y139 y128 x8_1 a0_1 (wrap64 (x34_2 + 1)) a0_0 a0_1 a0_2 a0_3 l0_4 l0_5))) else (none)) else (none)) = some (r1, r2, r3) := H
                   have A39 := Aside0.mk A390
                   clear A390
                   by_cases c40 : t133.length < 17592186044416
                   ·rw [if_pos c40] at H
                    have LMc40 := Aside0.mk c40
                    clear c40
                    obtain ⟨y136, hy136⟩ : ∃ y_ : List Int, y_ = (t133 ++ [x34_2]) := ⟨_, rfl⟩
                    replace H : (if x3_2.length < 5864062014805 then ((some (x3_2 ++ [y136] : List (List Int))).bind fun y139 => (if (y129.length : Int) = a0_3 then (some (y129, y139, 0)) else (trim_Reach.l1 k2 y129 y139 y128 x8_1 a0_1 (wrap64 (x34_2 + 1)) a0_0 a0_1 a0_2 a0_3 l0_4 l0_5))) else (none)) = some (r1, r2, r3) := by first | (rw [hy136]; with_reducible exact H) | (have H2_ := (Option.bind_some _ _).symm.trans H; rw [hy136]; with_reducible exact H2_) | (have H2_ := (Option.bind_some _ _).symm.trans H; with_reducible exact H2_) | with_reducible exact H | (rw [hy136]; exact H) | exact H
                    have Ny136 := Aside0.mk hy136
                    clear hy136
                    by_cases c41 : x3_2.length < 5864062014805
                    ·rw [if_pos c41] at H
                     have LMc41 := Aside0.mk c41
                     clear c41
                     obtain ⟨y139, hy139⟩ : ∃ y_ : List (List Int), y_ = (x3_2 ++ [y136]) := ⟨_, rfl⟩
                     replace H : (if (y129.length : Int) = a0_3 then (some (y129, y139, 0)) else (trim_Reach.l1 k2 y129 y139 y128 x8_1 a0_1 (wrap64 (x34_2 + 1)) a0_0 a0_1 a0_2 a0_3 l0_4 l0_5)) = some (r1, r2, r3) := by first | (rw [hy139]; with_reducible exact H) | (have H2_ := (Option.bind_some _ _).symm.trans H; rw [hy139]; with_reducible exact H2_) | (have H2_ := (Option.bind_some _ _).symm.trans H; with_reducible exact H2_) | with_reducible exact H | (rw [hy139]; exact H) | exact H
                     have Ny139 := Aside0.mk hy139
                     clear hy139
                     by_cases c42 : (y129.length : Int) = a0_3
                     ·rw [if_pos c42] at H
                      have c42b0 : ((y129.length : Int) == a0_3) = true := beq_iff_eq.mpr c42
                      have c42b1 : ((y129.length : Int) != a0_3) = false := bne_eq_false_iff_eq.mpr c42
                      clear c42
                      simp only [Option.some.injEq, Prod.mk.injEq] at H
                      obtain ⟨rfl, rfl, rfl⟩ := H
                      have hcz43_0 : wr.cell? ⟨gb109, 0, none⟩ = some (.int .i64 a0_0) := (blk_cell BK109.out 0).trans rfl
                      have hcz43_1 : wr.cell? ⟨gb109, 1, none⟩ = some (.int .i64 a0_1) := (blk_cell BK109.out 1).trans rfl
                      have hcz43_2 : wr.cell? ⟨gb109, 2, none⟩ = some (.int .i64 a0_2) := (blk_cell BK109.out 2).trans rfl
                      have hcz43_3 : wr.cell? ⟨gb109, 3, none⟩ = some (.int .i64 a0_3) := (blk_cell BK109.out 3).trans rfl
                      have hcz43_4 : wr.cell? ⟨gb109, 4, none⟩ = some (.slice A0_4 l0_4.length c0_4) := (blk_cell BK109.out 4).trans rfl
                      have hcz43_5 : wr.cell? ⟨gb109, 5, none⟩ = some (.slice A0_5 l0_5.length c0_5) := (blk_cell BK109.out 5).trans rfl
                      have hfz43_0 := blk_frozen BK109.out 0
                      have hfz43_1 := blk_frozen BK109.out 1
                      have hfz43_2 := blk_frozen BK109.out 2
                      have hfz43_3 := blk_frozen BK109.out 3
                      have hfz43_4 := blk_frozen BK109.out 4
                      have hfz43_5 := blk_frozen BK109.out 5
                      obtain ⟨Ao44, co44, eo44⟩ := Kd.R_slice HO_2.out
                      subst eo44
                      have p125 : 0 ≤ (x8_1 : Int) := of_decide_eq_true (by first | (with_reducible assumption) | assumption)
                      have q125 : x8_1 < (x2_2.length : Int) := of_decide_eq_true (by first | (with_reducible assumption) | assumption)
                      obtain ⟨ad125, e125, hx125_0⟩ := Kd.at_int (Kd.R_reads' HO_2.out).2.2 x8_1 p125 q125
                      cases e125
                      replace p125 := eq_true p125
                      replace q125 := eq_true q125
                      have p126 : 0 ≤ ((ji27) : Int) := of_decide_eq_true (by first | (with_reducible assumption) | assumption)
                      have q126 : (ji27) < (l0_4.length : Int) := of_decide_eq_true (by first | (with_reducible assumption) | assumption)
                      obtain ⟨ad126, e126, hx126_0⟩ := Kd.at_int HR0_4.out (ji27) p126 q126
                      cases e126
                      replace hx126_0 := (HB.out.cell (World.block_lt_of_cell? w _ hx126_0)).trans hx126_0
                      replace p126 := eq_true p126
                      replace q126 := eq_true q126
                      go_wp2
                      go_quiet (fail)
                      go_wp2_with (first | ((with_reducible refine gate_map rfl ?_); (try (rw [drewN_self wr]; generalize hq_ : World.drewN wr _ = wr; have n0_ := Aside0.mk (Kd.R_at hq_ HO_2.out); have n1_ := Aside0.mk (Kd.N_at hq_ HO_3.out); have n2_ := Aside0.mk (Seen_at hq_ HO_7.out); have n3_ := Aside0.mk (blk_at hq_ BK109.out); have n4_ := Aside0.mk (below_at hq_ HB.out); have nD_ := Aside0.mk (Ds_at hq_ HD.out); clear hq_ HO_2 HO_3 HO_7 BK109 HB HD; have HD := nD_; clear nD_; have HO_2 := n0_; have HO_3 := n1_; have HO_7 := n2_; have BK109 := n3_; have HB := n4_; clear n0_ n1_ n2_ n3_ n4_)); refine seen_update rfl _ _ _ rfl (rd l0_4 (ji27)) (x2_2.length : Int) (by (with_reducible repeat (first | apply Seen_alloc | apply Seen_drewN | apply Seen_drew)); exact HO_7.out) ?c1 ?c2 ?c3 ?c4 ?c5 ?c6 ?c7 ?_; (case c1 => rfl); (case c2 => rfl); (case c3 => rfl); (case c4 => have := LMc37.out; unfold maxLen; omega); (case c5 => exact of_decide_eq_true (by first | (with_reducible assumption) | assumption)); (case c6 => exact of_decide_eq_true (by first | (with_reducible assumption) | assumption)); (case c7 => exact wf_len LMc37.out); intro w46 hsn hg; have n0_ := Aside0.mk (R_over_seen (by (with_reducible repeat (first | apply Kd.R_alloc | apply Kd.R_drewN | apply Kd.R_drew)); exact HO_2.out) HO_7.out hg); have n1_ := Aside0.mk (Kd.N_afterv (v := (.slice (some ⟨go6, 0, none⟩) x7_2.length co6)) (v1 := (.slice (some ⟨go6, 0, none⟩) x7_2.length co6)) (ok := (fun k_ => (w.heap.size ≤ k_) ∧ some k_ ≠ (.slice (some ad125) x2_2.length co44 : Value).ownBlock ∧ k_ ≠ gb109)) (by (with_reducible repeat (first | apply Kd.N_alloc | apply Kd.N_drewN | apply Kd.N_drew)); exact Kd.N_mono HO_3.out (fun _ hk => ⟨⟨hk.1, ⟨hk.2.1, hk.2.2.2⟩⟩, hk.2.2.1⟩)) hg (.inl rfl)); have n2_ := Aside0.mk (show Seen w46 w.heap.size go6 (x2_2.length + 1) y128 from (by rw [Ny128.out]; exact hsn)); have n3_ := Aside0.mk (blk_grown (g := gb109) (o := .cells #[.int .i64 a0_0, .int .i64 a0_1, .int .i64 a0_2, .int .i64 a0_3, .slice (some ad126) l0_4.length c0_4, .slice A0_5 l0_5.length c0_5] 24 (0, 0)) (by (with_reducible repeat (first | refine blk_drewN ?_ _ | refine blk_drew ?_ | refine blk_alloc ?_ _)); exact BK109.out) hg (Seen_ne HO_7.out BK109.out)); have n4_ := Aside0.mk (below_put HB.out hg GB6.out); have nD_ := Aside0.mk (Ds.seen HD.out HO_7.out hg); clear HD; have HD := nD_; clear nD_; clear HO_2; clear HO_3; clear HO_7; clear BK109; clear HB; have HO_2 := n0_; have HO_3 := n1_; have HO_7 := n2_; have BK109 := n3_; have HB := n4_; clear n0_ n1_ n2_ n3_ n4_; clear hg hsn) | ((with_reducible refine gate_look rfl ?_); refine seen_lookup rfl _ _ rfl (rd l0_4 (ji27)) false (by (with_reducible repeat (first | apply Seen_alloc | apply Seen_drewN | apply Seen_drew)); exact HO_7.out) ?c1 ?c2 ?c3 ?c4 ?c5 ?_; (case c1 => rfl); (case c2 => rfl); (case c3 => exact of_decide_eq_true (by first | (with_reducible assumption) | assumption)); (case c4 => exact of_decide_eq_true (by first | (with_reducible assumption) | assumption)); (case c5 => exact Nbq32.out); intro cv_) | ((with_reducible refine gate_builtin (b := .append) (xs := #[.tmp 61, .tmp 63]) rfl ?_); at_builtin; refine Kd.R_append (Kd.int .i64) (w0 := w) w.heap.size rfl (.tmp 61) (.tmp 63) 22 3 (.int .i64 0) 8 rfl Try.underlying22 info3 rfl (by decide) (by omega) (.slice (some ad125) x2_2.length co44) x2_2 (rd l0_4 (ji27)) [.int .i64 (rd l0_4 (ji27))] (fun k_ => (w.heap.size ≤ k_)) (fun _ => False) rfl rfl ?aP (fun _ hk => hk.elim) ?aF ?aO ?aB ?aS ?aL ?_; (case aP => exact rfl); (case aB => exact (by repeat (first | (with_reducible first | exact HB.out | apply below_alloc | apply pw_below_drewN | apply below_drew1 | refine below_set ?_ GE109.out) | exact HB.out))); (case aF => exact (fun k_ hk => (Nat.le_trans (below_size (by repeat (first | (with_reducible first | exact HB.out | apply below_alloc | apply pw_below_drewN | apply below_drew1 | refine below_set ?_ GE109.out) | exact HB.out))) hk))); (case aO => exact (by (with_reducible repeat (first | apply Kd.R_alloc | apply Kd.R_drewN | apply Kd.R_drew)); exact HO_2.out)); (case aS => exact (below_size (by repeat (first | (with_reducible first | exact HB.out | apply below_alloc | apply pw_below_drewN | apply below_drew1 | refine below_set ?_ GE109.out) | exact HB.out)))); (case aL => have := LMc37.out; omega); intro v130 w47 ho hb hg hat; rw [← Ny129.out] at ho; have n0_ := Aside0.mk (Kd.N_afterv (ok := (fun k_ => (w.heap.size ≤ k_) ∧ some k_ ≠ (.slice (some ⟨go6, 0, none⟩) x7_2.length co6 : Value).ownBlock ∧ k_ ≠ gb109)) (by (with_reducible repeat (first | apply Kd.N_alloc | apply Kd.N_drewN | apply Kd.N_drew)); exact Kd.N_mono HO_3.out (fun _ hk => ⟨⟨hk.1.1, ⟨hk.2, hk.1.2.2⟩⟩, hk.1.2.1⟩)) hg hat); have n1_ := Aside0.mk (Seen_over (by (with_reducible repeat (first | apply Seen_alloc | apply Seen_drewN | apply Seen_drew)); exact HO_7.out) (Kd.R_typed (by (with_reducible repeat (first | apply Kd.R_alloc | apply Kd.R_drewN | apply Kd.R_drew)); exact HO_2.out)) hg); have n2_ := Aside0.mk (blk_grown (g := gb109) (o := .cells #[.int .i64 a0_0, .int .i64 a0_1, .int .i64 a0_2, .int .i64 a0_3, .slice (some ad126) l0_4.length c0_4, .slice A0_5 l0_5.length c0_5] 24 (0, 0)) (by (with_reducible repeat (first | refine blk_drewN ?_ _ | refine blk_drew ?_ | refine blk_alloc ?_ _)); exact BK109.out) hg (Kd.R_ne HO_2.out BK109.out (by decide))); have n3_ := Aside0.mk (hb); have n4_ := Aside0.mk (ho); have nD_ := Aside0.mk ((Ds.went (DM HD.out) (RM HO_2.out) (fun k_ hk => hk.symm) hg hat).mono (B' := fun k_ => some k_ = (v130 : Value).ownBlock) (fun k_ hk => .inr hk)); clear HD; have HD := nD_; clear nD_; clear HO_3; clear HO_7; clear BK109; clear HB; clear HO_2; have HO_3 := n0_; have HO_7 := n1_; have BK109 := n2_; have HB := n3_; have HO131 := n4_; clear n0_ n1_ n2_ n3_ n4_; clear ho hb hg hat; obtain ⟨Ao48, co48, eo48⟩ := Kd.N_slice HO_3.out; subst eo48; have p132 : 0 ≤ (x8_1 : Int) := of_decide_eq_true (by first | (with_reducible assumption) | assumption); have q132 : x8_1 < (x3_2.length : Int) := of_decide_eq_true (by first | (with_reducible assumption) | assumption); obtain ⟨ad132, A132_0, c132_0, e132, hx132_0, hl132_0, hi132_0⟩ := at_L1 (Kd.N_reads' HO_3.out).2.2 x8_1 p132 q132; cases e132; obtain ⟨ce132, hce132, hMe132, hcc132⟩ := Kd.N_get HO_3.out [] x8_1 p132 (by first | exact q132 | exact of_decide_eq_true (by first | (with_reducible assumption) | assumption) | (have e_ := (Kd.N_reads' HO_3.out).1; omega)); obtain ⟨ua132_0, uc132_0, rfl, ul132_0, ge132_0⟩ := Kd.FK_slice_open hMe132; have hv132_0 := hcc132 0 _ rfl; rw [Nat.add_zero, show ((Kd.slice 3 (Kd.int .i64))).sz = 1 from rfl, Nat.mul_one] at hv132_0; replace hv132_0 := Option.some.inj (hv132_0.symm.trans hx132_0); injection hv132_0 with hva_ hvn_ hvc_; rw [hva_] at ge132_0; rw [hvc_] at ul132_0; have HL132_0 := Aside0.mk (show Kd.V (Kd.int .i64) 3 _ w.heap.size _ _ (rd_L1 x3_2 x8_1) from Kd.V_mk ul132_0 ge132_0); clear hva_ hvn_ hvc_ ge132_0 ul132_0; clear hcc132 hce132; have HR132_0 := Aside0.mk hi132_0; have HC132_0 := Aside0.mk hl132_0; clear hi132_0 hl132_0; replace p132 := eq_true p132; replace q132 := eq_true q132) | (go_at_call 46; (with_reducible refine (slices_Clone_int_int.calls _ _ (rd_L1 x3_2 x8_1) t133 _ ?side1 ?side2 A39.out).mono ?_); (case side1 => repeat (first | exact (by repeat (first | (with_reducible exact HR132_0.out) | (with_reducible refine Kd.C_alloc ?_ _) | (with_reducible refine Kd.C_drewN ?_ _) | (with_reducible refine Kd.C_drew ?_) | exact HR132_0.out)) | (with_reducible refine Kd.C_alloc ?_ _) | (with_reducible refine Kd.C_drewN ?_ _) | (with_reducible refine Kd.C_drew ?_))); (case side2 => exact HC132_0.out); rintro e w49 ⟨v134, rfl, ho0, hb⟩; have n0_ := Aside0.mk (Kd.N_elder' (by (with_reducible repeat (first | apply Kd.N_alloc | apply Kd.N_drewN | apply Kd.N_drew)); exact HO_3.out) (Kd.R_base ho0) hb); have n1_ := Aside0.mk (Seen_below (by (with_reducible repeat (first | apply Seen_alloc | apply Seen_drewN | apply Seen_drew)); exact HO_7.out) hb); have n2_ := Aside0.mk (Kd.R_elder' (by (with_reducible repeat (first | apply Kd.R_alloc | apply Kd.R_drewN | apply Kd.R_drew)); exact HO131.out) (Kd.R_base ho0) hb); have n3_ := Aside0.mk (Kd.V_elder' (by (with_reducible repeat (first | apply Kd.V_alloc | apply Kd.V_drewN | apply Kd.V_drew)); exact HL132_0.out) (Kd.R_base ho0) hb); have n4_ := Aside0.mk (Kd.R_lower (Kd.R_new' (Kd.R_newM (M := fun k_ => (w.heap.size ≤ k_)) ho0 (below_size (by repeat (first | (with_reducible first | exact HB.out | apply below_alloc | apply pw_below_drewN | apply below_drew1 | refine below_set ?_ GE109.out) | exact HB.out))) (fun k_ h_ => h_)) (Kd.R_lt (by (with_reducible repeat (first | apply Kd.R_alloc | apply Kd.R_drewN | apply Kd.R_drew)); exact HO131.out))) (below_size (by repeat (first | (with_reducible first | exact HB.out | apply below_alloc | apply pw_below_drewN | apply below_drew1 | refine below_set ?_ GE109.out) | exact HB.out)))); have n5_ := Aside0.mk (blk_below (g := gb109) (o := .cells #[.int .i64 a0_0, .int .i64 a0_1, .int .i64 a0_2, .int .i64 a0_3, .slice (some ad126) l0_4.length c0_4, .slice A0_5 l0_5.length c0_5] 24 (0, 0)) (by (with_reducible repeat (first | refine blk_drewN ?_ _ | refine blk_drew ?_ | refine blk_alloc ?_ _)); exact BK109.out) hb); have n6_ := Aside0.mk (Kd.C_below (by repeat (first | (with_reducible exact HR132_0.out) | (with_reducible refine Kd.C_alloc ?_ _) | (with_reducible refine Kd.C_drewN ?_ _) | (with_reducible refine Kd.C_drew ?_) | exact HR132_0.out)) hb); have n7_ := Aside0.mk (below_step (by repeat (first | (with_reducible first | exact HB.out | apply below_alloc | apply pw_below_drewN | apply below_drew1 | refine below_set ?_ GE109.out) | exact HB.out)) hb); have nD_ := Aside0.mk (((DM HD.out).freshen (B' := fun k_ => some k_ = (v130 : Value).ownBlock ∨ some k_ = (v134 : Value).ownBlock) (fun k_ hk => hk.elim .inl (fun h_ => .inr (Kd.R_base ho0 k_ h_.symm)))).below hb); clear HD; have HD := nD_; clear nD_; clear HO_3; clear HO_7; clear HO131; clear HL132_0; clear BK109; clear HR132_0; clear HB; have HO_3 := n0_; have HO_7 := n1_; have HO131 := n2_; have HL132_0 := n3_; have HO135 := n4_; have BK109 := n5_; have HR132_0 := n6_; have HB := n7_; clear n0_ n1_ n2_ n3_ n4_ n5_ n6_ n7_; (try clear hb); (try clear hb2); (try clear hk); (try clear hi); (try clear ho0)) | ((with_reducible refine gate_builtin (b := .append) (xs := #[.tmp 70, .tmp 72]) rfl ?_); at_builtin; refine Kd.R_append (Kd.int .i64) (w0 := w) w.heap.size rfl (.tmp 70) (.tmp 72) 22 3 (.int .i64 0) 8 rfl Try.underlying22 info3 rfl (by decide) (by omega) v134 t133 x34_2 [.int .i64 x34_2] (fun k_ => (w.heap.size ≤ k_) ∧ some k_ ≠ (v130 : Value).ownBlock) (fun _ => False) rfl rfl ?aP (fun _ hk => hk.elim) ?aF ?aO ?aB ?aS ?aL ?_; (case aP => exact rfl); (case aB => exact (by repeat (first | (with_reducible first | exact HB.out | apply below_alloc | apply pw_below_drewN | apply below_drew1 | refine below_set ?_ GE109.out) | exact HB.out))); (case aF => exact (fun k_ hk => ⟨(Nat.le_trans (below_size (by repeat (first | (with_reducible first | exact HB.out | apply below_alloc | apply pw_below_drewN | apply below_drew1 | refine below_set ?_ GE109.out) | exact HB.out))) hk), Kd.fresh' (Kd.R_lt (by (with_reducible repeat (first | apply Kd.R_alloc | apply Kd.R_drewN | apply Kd.R_drew)); exact HO131.out)) k_ hk⟩)); (case aO => exact (by (with_reducible repeat (first | apply Kd.R_alloc | apply Kd.R_drewN | apply Kd.R_drew)); exact Kd.R_mono HO135.out (fun _ hk => ⟨hk.1.1, hk.2⟩))); (case aS => exact (below_size (by repeat (first | (with_reducible first | exact HB.out | apply below_alloc | apply pw_below_drewN | apply below_drew1 | refine below_set ?_ GE109.out) | exact HB.out)))); (case aL => have := LMc40.out; omega); intro v137 w50 ho hb hg hat; rw [← Ny136.out] at ho; have n0_ := Aside0.mk (Kd.N_afterv (ok := (fun k_ => (w.heap.size ≤ k_) ∧ some k_ ≠ (.slice (some ⟨go6, 0, none⟩) x7_2.length co6 : Value).ownBlock ∧ some k_ ≠ (v130 : Value).ownBlock ∧ k_ ≠ gb109)) (by (with_reducible repeat (first | apply Kd.N_alloc | apply Kd.N_drewN | apply Kd.N_drew)); exact Kd.N_mono HO_3.out (fun _ hk => ⟨⟨hk.1.1.1, ⟨hk.1.1.2.1, ⟨hk.1.2, hk.1.1.2.2⟩⟩⟩, hk.2⟩)) hg hat); have n1_ := Aside0.mk (Seen_over (by (with_reducible repeat (first | apply Seen_alloc | apply Seen_drewN | apply Seen_drew)); exact HO_7.out) (Kd.R_typed (by (with_reducible repeat (first | apply Kd.R_alloc | apply Kd.R_drewN | apply Kd.R_drew)); exact HO135.out)) hg); have n2_ := Aside0.mk (blk_grown (g := gb109) (o := .cells #[.int .i64 a0_0, .int .i64 a0_1, .int .i64 a0_2, .int .i64 a0_3, .slice (some ad126) l0_4.length c0_4, .slice A0_5 l0_5.length c0_5] 24 (0, 0)) (by (with_reducible repeat (first | refine blk_drewN ?_ _ | refine blk_drew ?_ | refine blk_alloc ?_ _)); exact BK109.out) hg (Kd.R_ne HO135.out BK109.out (by decide))); have n3_ := Aside0.mk (Kd.R_after (ok := (fun k_ => (w.heap.size ≤ k_))) (by (with_reducible repeat (first | apply Kd.R_alloc | apply Kd.R_drewN | apply Kd.R_drew)); exact HO131.out) hg hat); have n4_ := Aside0.mk (Kd.V_afterv (ok := (fun k_ => (w.heap.size ≤ k_) ∧ some k_ ≠ (.slice (some ad132) x3_2.length co48 : Value).ownBlock ∧ some k_ ≠ (.slice (some ⟨go6, 0, none⟩) x7_2.length co6 : Value).ownBlock ∧ some k_ ≠ (v130 : Value).ownBlock ∧ k_ ≠ gb109)) (by (with_reducible repeat (first | apply Kd.V_alloc | apply Kd.V_drewN | apply Kd.V_drew)); exact Kd.V_mono HL132_0.out (fun _ hk => ⟨⟨hk.1.1.1.1, ⟨hk.1.2, ⟨hk.1.1.1.2.1, ⟨hk.1.1.2, hk.1.1.1.2.2⟩⟩⟩⟩, hk.2⟩)) hg hat); have n5_ := Aside0.mk (hb); have n6_ := Aside0.mk (ho); have nD_ := Aside0.mk ((Ds.went (DM HD.out) (RM HO135.out) (fun k_ hk => .inr hk.symm) hg hat).mono (B' := fun k_ => some k_ = (v130 : Value).ownBlock ∨ some k_ = (v137 : Value).ownBlock) (fun k_ hk => hk.elim (fun h_ => .inl (.inl h_)) .inr)); clear HD; have HD := nD_; clear nD_; clear HO_3; clear HO_7; clear BK109; clear HO131; clear HL132_0; clear HB; clear HO135; have HO_3 := n0_; have HO_7 := n1_; have BK109 := n2_; have HO131 := n3_; have HL132_0 := n4_; have HB := n5_; have HO138 := n6_; clear n0_ n1_ n2_ n3_ n4_ n5_ n6_; clear ho hb hg hat; obtain ⟨Ao52, co52, eo52⟩ := Kd.R_slice HO138.out; subst eo52) | ((with_reducible refine gate_builtin (b := .append) (xs := #[.tmp 65, .tmp 74]) rfl ?_); at_builtin; refine N_append_ds (w0 := w) w.heap.size rfl (.tmp 65) (.tmp 74) 28 (.slice none 0 0) 24 rfl Try.underlying28 info22 rfl (by omega) (.slice (some ad132) x3_2.length co48) x3_2 y136 (.slice Ao52 y136.length co52) (fun k_ => (w.heap.size ≤ k_) ∧ some k_ ≠ (.slice (some ⟨go6, 0, none⟩) x7_2.length co6 : Value).ownBlock ∧ some k_ ≠ (v130 : Value).ownBlock ∧ k_ ≠ gb109) (fun k_ => ((fun k_ => (w.heap.size ≤ k_) ∧ some k_ ≠ (.slice (some ⟨go6, 0, none⟩) x7_2.length co6 : Value).ownBlock ∧ some k_ ≠ (v130 : Value).ownBlock ∧ k_ ≠ gb109)) k_ ∧ some k_ ≠ (.slice (some ad132) x3_2.length co48 : Value).ownBlock) rfl rfl ?aP (fun _ hk => hk) ?aF ?aO (DM HD.out) (Kd.R_mono (RM HO138.out) (fun _ _ => trivial)) (fun k_ hk => .inr hk.symm) ?aB ?aS ?aL ?_; (case aP => exact (Kd.FK_slice_mk (Kd.R_reads' (Kd.R_mono (ok' := (fun k_ => ((fun k_ => (w.heap.size ≤ k_) ∧ some k_ ≠ (.slice (some ⟨go6, 0, none⟩) x7_2.length co6 : Value).ownBlock ∧ some k_ ≠ (v130 : Value).ownBlock ∧ k_ ≠ gb109)) k_ ∧ some k_ ≠ (.slice (some ad132) x3_2.length co48 : Value).ownBlock)) (Kd.R_types (Kd.R_apart' (R_apart_seen 0 0 (HO138.out) HO_7.out) (Kd.N_typed HO_3.out) (by decide)) BK109.out (by decide)) (fun k_ hk => ⟨⟨hk.1.1.1.1, ⟨hk.1.1.2, ⟨hk.1.1.1.2, hk.2⟩⟩⟩, hk.1.2⟩))).2.1 (Kd.R_F (Kd.R_mono (ok' := (fun k_ => ((fun k_ => (w.heap.size ≤ k_) ∧ some k_ ≠ (.slice (some ⟨go6, 0, none⟩) x7_2.length co6 : Value).ownBlock ∧ some k_ ≠ (v130 : Value).ownBlock ∧ k_ ≠ gb109)) k_ ∧ some k_ ≠ (.slice (some ad132) x3_2.length co48 : Value).ownBlock)) (Kd.R_types (Kd.R_apart' (R_apart_seen 0 0 (HO138.out) HO_7.out) (Kd.N_typed HO_3.out) (by decide)) BK109.out (by decide)) (fun k_ hk => ⟨⟨hk.1.1.1.1, ⟨hk.1.1.2, ⟨hk.1.1.1.2, hk.2⟩⟩⟩, hk.1.2⟩))))); (case aB => exact (by repeat (first | (with_reducible first | exact HB.out | apply below_alloc | apply pw_below_drewN | apply below_drew1 | refine below_set ?_ GE109.out) | exact HB.out))); (case aF => exact (fun k_ hk => ⟨(Nat.le_trans (below_size (by repeat (first | (with_reducible first | exact HB.out | apply below_alloc | apply pw_below_drewN | apply below_drew1 | refine below_set ?_ GE109.out) | exact HB.out))) hk), Kd.fresh' (Seen_lt 0 0 (by (with_reducible repeat (first | apply Seen_alloc | apply Seen_drewN | apply Seen_drew)); exact HO_7.out)) k_ hk, Kd.fresh' (Kd.R_lt (by (with_reducible repeat (first | apply Kd.R_alloc | apply Kd.R_drewN | apply Kd.R_drew)); exact HO131.out)) k_ hk, Kd.freshB (g := gb109) (o := .cells #[.int .i64 a0_0, .int .i64 a0_1, .int .i64 a0_2, .int .i64 a0_3, .slice (some ad126) l0_4.length c0_4, .slice A0_5 l0_5.length c0_5] 24 (0, 0)) (by (with_reducible repeat (first | refine blk_drewN ?_ _ | refine blk_drew ?_ | refine blk_alloc ?_ _)); exact BK109.out) k_ hk⟩)); (case aO => exact (by (with_reducible repeat (first | apply Kd.N_alloc | apply Kd.N_drewN | apply Kd.N_drew)); exact Kd.N_mono HO_3.out (fun _ hk => ⟨hk.1.1, ⟨hk.1.2.1, ⟨hk.1.2.2.1, hk.1.2.2.2⟩⟩⟩))); (case aS => exact (below_size (by repeat (first | (with_reducible first | exact HB.out | apply below_alloc | apply pw_below_drewN | apply below_drew1 | refine below_set ?_ GE109.out) | exact HB.out)))); (case aL => have := LMc41.out; omega); intro v140 w51 ho hds hb hg hat; rw [← Ny139.out] at ho; have n0_ := Aside0.mk (Seen_over (by (with_reducible repeat (first | apply Seen_alloc | apply Seen_drewN | apply Seen_drew)); exact HO_7.out) (Kd.N_typed (by (with_reducible repeat (first | apply Kd.N_alloc | apply Kd.N_drewN | apply Kd.N_drew)); exact HO_3.out)) hg); have n1_ := Aside0.mk (blk_grown (g := gb109) (o := .cells #[.int .i64 a0_0, .int .i64 a0_1, .int .i64 a0_2, .int .i64 a0_3, .slice (some ad126) l0_4.length c0_4, .slice A0_5 l0_5.length c0_5] 24 (0, 0)) (by (with_reducible repeat (first | refine blk_drewN ?_ _ | refine blk_drew ?_ | refine blk_alloc ?_ _)); exact BK109.out) hg (Kd.N_ne HO_3.out BK109.out (by decide))); have n2_ := Aside0.mk (Kd.R_over' (by (with_reducible repeat (first | apply Kd.R_alloc | apply Kd.R_drewN | apply Kd.R_drew)); exact HO131.out) (Kd.N_typed (by (with_reducible repeat (first | apply Kd.N_alloc | apply Kd.N_drewN | apply Kd.N_drew)); exact HO_3.out)) (by decide) hg); have n3_ := Aside0.mk (Kd.V_afterv (ok := (fun k_ => (w.heap.size ≤ k_) ∧ some k_ ≠ (.slice (some ⟨go6, 0, none⟩) x7_2.length co6 : Value).ownBlock ∧ some k_ ≠ (v130 : Value).ownBlock ∧ some k_ ≠ (.slice Ao52 y136.length co52 : Value).ownBlock ∧ k_ ≠ gb109)) (by (with_reducible repeat (first | apply Kd.V_alloc | apply Kd.V_drewN | apply Kd.V_drew)); exact Kd.V_mono HL132_0.out (fun _ hk => ⟨⟨hk.1.1, ⟨hk.1.2.2.1, ⟨hk.1.2.2.2.1, ⟨hk.2, hk.1.2.2.2.2⟩⟩⟩⟩, hk.1.2.1⟩)) hg hat); have n4_ := Aside0.mk (hb); have n5_ := Aside0.mk (ho); have nD_ := Aside0.mk (show Ds w51 w.heap.size (fun k_ => some k_ = (v130 : Value).ownBlock) v140 y139 from (by rw [Ny139.out]; exact hds _ (fun k_ hk => ⟨.inl hk, fun he => (HO138.out.1 k_ he.symm).2 hk⟩))); clear HD hds; have HD := nD_; clear nD_; clear HO_7; clear BK109; clear HO131; clear HL132_0; clear HB; clear HO_3; clear HO138; have HO_7 := n0_; have BK109 := n1_; have HO131 := n2_; have HL132_0 := n3_; have HB := n4_; have HO141 := n5_; clear n0_ n1_ n2_ n3_ n4_ n5_; clear ho hb hg hat; obtain ⟨Ao53, co53, eo53⟩ := Kd.R_slice HO131.out; subst eo53; have hcz54_0 : w51.cell? ⟨gb109, 0, none⟩ = some (.int .i64 a0_0) := (blk_cell BK109.out 0).trans rfl; have hcz54_1 : w51.cell? ⟨gb109, 1, none⟩ = some (.int .i64 a0_1) := (blk_cell BK109.out 1).trans rfl; have hcz54_2 : w51.cell? ⟨gb109, 2, none⟩ = some (.int .i64 a0_2) := (blk_cell BK109.out 2).trans rfl; have hcz54_3 : w51.cell? ⟨gb109, 3, none⟩ = some (.int .i64 a0_3) := (blk_cell BK109.out 3).trans rfl; have hcz54_4 : w51.cell? ⟨gb109, 4, none⟩ = some (.slice (some ad126) l0_4.length c0_4) := (blk_cell BK109.out 4).trans rfl; have hcz54_5 : w51.cell? ⟨gb109, 5, none⟩ = some (.slice A0_5 l0_5.length c0_5) := (blk_cell BK109.out 5).trans rfl; have hfz54_0 := blk_frozen BK109.out 0; have hfz54_1 := blk_frozen BK109.out 1; have hfz54_2 := blk_frozen BK109.out 2; have hfz54_3 := blk_frozen BK109.out 3; have hfz54_4 := blk_frozen BK109.out 4; have hfz54_5 := blk_frozen BK109.out 5))
                      (try simp only [Exit.noGoto_ret])
                      go_ret3
                      exact ⟨_, _, by first | rfl | (simp [errW_none, errW_some] <;> rfl) | (simp only [← hji27]; first | rfl | (simp [errW_none, errW_some] <;> rfl)) | (simp [*, errW_none, errW_some] <;> rfl), by (with_reducible repeat (first | apply Kd.R_alloc | apply Kd.R_drewN | apply Kd.R_drew)); exact Kd.R_mono HO131.out (fun _ hk => hk.1), by (with_reducible repeat (first | apply Kd.N_alloc | apply Kd.N_drewN | apply Kd.N_drew)); exact Kd.N_mono HO141.out (fun _ hk => ⟨hk.1, hk.2.2.1⟩), by repeat (first | (with_reducible first | exact HB.out | apply below_alloc | apply pw_below_drewN | apply below_drew1 | refine below_set ?_ GE109.out) | exact HB.out), DM HD.out⟩
                     ·rw [if_neg c42] at H
                      have c42b0 : ((y129.length : Int) == a0_3) = false := beq_eq_false_iff_ne.mpr c42
                      have c42b1 : ((y129.length : Int) != a0_3) = true := bne_iff_ne.mpr c42
                      have H' := Aside0.mk H
                      clear H
                      have hcz55_0 : wr.cell? ⟨gb109, 0, none⟩ = some (.int .i64 a0_0) := (blk_cell BK109.out 0).trans rfl
                      have hcz55_1 : wr.cell? ⟨gb109, 1, none⟩ = some (.int .i64 a0_1) := (blk_cell BK109.out 1).trans rfl
                      have hcz55_2 : wr.cell? ⟨gb109, 2, none⟩ = some (.int .i64 a0_2) := (blk_cell BK109.out 2).trans rfl
                      have hcz55_3 : wr.cell? ⟨gb109, 3, none⟩ = some (.int .i64 a0_3) := (blk_cell BK109.out 3).trans rfl
                      have hcz55_4 : wr.cell? ⟨gb109, 4, none⟩ = some (.slice A0_4 l0_4.length c0_4) := (blk_cell BK109.out 4).trans rfl
                      have hcz55_5 : wr.cell? ⟨gb109, 5, none⟩ = some (.slice A0_5 l0_5.length c0_5) := (blk_cell BK109.out 5).trans rfl
                      have hfz55_0 := blk_frozen BK109.out 0
                      have hfz55_1 := blk_frozen BK109.out 1
                      have hfz55_2 := blk_frozen BK109.out 2
                      have hfz55_3 := blk_frozen BK109.out 3
                      have hfz55_4 := blk_frozen BK109.out 4
                      have hfz55_5 := blk_frozen BK109.out 5
                      obtain ⟨Ao56, co56, eo56⟩ := Kd.R_slice HO_2.out
                      subst eo56
                      have p125 : 0 ≤ (x8_1 : Int) := of_decide_eq_true (by first | (with_reducible assumption) | assumption)
                      have q125 : x8_1 < (x2_2.length : Int) := of_decide_eq_true (by first | (with_reducible assumption) | assumption)
                      obtain ⟨ad125, e125, hx125_0⟩ := Kd.at_int (Kd.R_reads' HO_2.out).2.2 x8_1 p125 q125
                      cases e125
                      replace p125 := eq_true p125
                      replace q125 := eq_true q125
                      have p126 : 0 ≤ ((ji27) : Int) := of_decide_eq_true (by first | (with_reducible assumption) | assumption)
                      have q126 : (ji27) < (l0_4.length : Int) := of_decide_eq_true (by first | (with_reducible assumption) | assumption)
                      obtain ⟨ad126, e126, hx126_0⟩ := Kd.at_int HR0_4.out (ji27) p126 q126
                      cases e126
                      replace hx126_0 := (HB.out.cell (World.block_lt_of_cell? w _ hx126_0)).trans hx126_0
                      replace p126 := eq_true p126
                      replace q126 := eq_true q126
                      go_wp2
                      go_quiet (fail)
                      go_wp2_with (first | ((with_reducible refine gate_map rfl ?_); (try (rw [drewN_self wr]; generalize hq_ : World.drewN wr _ = wr; have n0_ := Aside0.mk (Kd.R_at hq_ HO_2.out); have n1_ := Aside0.mk (Kd.N_at hq_ HO_3.out); have n2_ := Aside0.mk (Seen_at hq_ HO_7.out); have n3_ := Aside0.mk (blk_at hq_ BK109.out); have n4_ := Aside0.mk (below_at hq_ HB.out); have nD_ := Aside0.mk (Ds_at hq_ HD.out); clear hq_ HO_2 HO_3 HO_7 BK109 HB HD; have HD := nD_; clear nD_; have HO_2 := n0_; have HO_3 := n1_; have HO_7 := n2_; have BK109 := n3_; have HB := n4_; clear n0_ n1_ n2_ n3_ n4_)); refine seen_update rfl _ _ _ rfl (rd l0_4 (ji27)) (x2_2.length : Int) (by (with_reducible repeat (first | apply Seen_alloc | apply Seen_drewN | apply Seen_drew)); exact HO_7.out) ?c1 ?c2 ?c3 ?c4 ?c5 ?c6 ?c7 ?_; (case c1 => rfl); (case c2 => rfl); (case c3 => rfl); (case c4 => have := LMc37.out; unfold maxLen; omega); (case c5 => exact of_decide_eq_true (by first | (with_reducible assumption) | assumption)); (case c6 => exact of_decide_eq_true (by first | (with_reducible assumption) | assumption)); (case c7 => exact wf_len LMc37.out); intro w58 hsn hg; have n0_ := Aside0.mk (R_over_seen (by (with_reducible repeat (first | apply Kd.R_alloc | apply Kd.R_drewN | apply Kd.R_drew)); exact HO_2.out) HO_7.out hg); have n1_ := Aside0.mk (Kd.N_afterv (v := (.slice (some ⟨go6, 0, none⟩) x7_2.length co6)) (v1 := (.slice (some ⟨go6, 0, none⟩) x7_2.length co6)) (ok := (fun k_ => (w.heap.size ≤ k_) ∧ some k_ ≠ (.slice (some ad125) x2_2.length co56 : Value).ownBlock ∧ k_ ≠ gb109)) (by (with_reducible repeat (first | apply Kd.N_alloc | apply Kd.N_drewN | apply Kd.N_drew)); exact Kd.N_mono HO_3.out (fun _ hk => ⟨⟨hk.1, ⟨hk.2.1, hk.2.2.2⟩⟩, hk.2.2.1⟩)) hg (.inl rfl)); have n2_ := Aside0.mk (show Seen w58 w.heap.size go6 (x2_2.length + 1) y128 from (by rw [Ny128.out]; exact hsn)); have n3_ := Aside0.mk (blk_grown (g := gb109) (o := .cells #[.int .i64 a0_0, .int .i64 a0_1, .int .i64 a0_2, .int .i64 a0_3, .slice (some ad126) l0_4.length c0_4, .slice A0_5 l0_5.length c0_5] 24 (0, 0)) (by (with_reducible repeat (first | refine blk_drewN ?_ _ | refine blk_drew ?_ | refine blk_alloc ?_ _)); exact BK109.out) hg (Seen_ne HO_7.out BK109.out)); have n4_ := Aside0.mk (below_put HB.out hg GB6.out); have nD_ := Aside0.mk (Ds.seen HD.out HO_7.out hg); clear HD; have HD := nD_; clear nD_; clear HO_2; clear HO_3; clear HO_7; clear BK109; clear HB; have HO_2 := n0_; have HO_3 := n1_; have HO_7 := n2_; have BK109 := n3_; have HB := n4_; clear n0_ n1_ n2_ n3_ n4_; clear hg hsn) | ((with_reducible refine gate_look rfl ?_); refine seen_lookup rfl _ _ rfl (rd l0_4 (ji27)) false (by (with_reducible repeat (first | apply Seen_alloc | apply Seen_drewN | apply Seen_drew)); exact HO_7.out) ?c1 ?c2 ?c3 ?c4 ?c5 ?_; (case c1 => rfl); (case c2 => rfl); (case c3 => exact of_decide_eq_true (by first | (with_reducible assumption) | assumption)); (case c4 => exact of_decide_eq_true (by first | (with_reducible assumption) | assumption)); (case c5 => exact Nbq32.out); intro cv_) | ((with_reducible refine gate_builtin (b := .append) (xs := #[.tmp 61, .tmp 63]) rfl ?_); at_builtin; refine Kd.R_append (Kd.int .i64) (w0 := w) w.heap.size rfl (.tmp 61) (.tmp 63) 22 3 (.int .i64 0) 8 rfl Try.underlying22 info3 rfl (by decide) (by omega) (.slice (some ad125) x2_2.length co56) x2_2 (rd l0_4 (ji27)) [.int .i64 (rd l0_4 (ji27))] (fun k_ => (w.heap.size ≤ k_)) (fun _ => False) rfl rfl ?aP (fun _ hk => hk.elim) ?aF ?aO ?aB ?aS ?aL ?_; (case aP => exact rfl); (case aB => exact (by repeat (first | (with_reducible first | exact HB.out | apply below_alloc | apply pw_below_drewN | apply below_drew1 | refine below_set ?_ GE109.out) | exact HB.out))); (case aF => exact (fun k_ hk => (Nat.le_trans (below_size (by repeat (first | (with_reducible first | exact HB.out | apply below_alloc | apply pw_below_drewN | apply below_drew1 | refine below_set ?_ GE109.out) | exact HB.out))) hk))); (case aO => exact (by (with_reducible repeat (first | apply Kd.R_alloc | apply Kd.R_drewN | apply Kd.R_drew)); exact HO_2.out)); (case aS => exact (below_size (by repeat (first | (with_reducible first | exact HB.out | apply below_alloc | apply pw_below_drewN | apply below_drew1 | refine below_set ?_ GE109.out) | exact HB.out)))); (case aL => have := LMc37.out; omega); intro v130 w59 ho hb hg hat; rw [← Ny129.out] at ho; have n0_ := Aside0.mk (Kd.N_afterv (ok := (fun k_ => (w.heap.size ≤ k_) ∧ some k_ ≠ (.slice (some ⟨go6, 0, none⟩) x7_2.length co6 : Value).ownBlock ∧ k_ ≠ gb109)) (by (with_reducible repeat (first | apply Kd.N_alloc | apply Kd.N_drewN | apply Kd.N_drew)); exact Kd.N_mono HO_3.out (fun _ hk => ⟨⟨hk.1.1, ⟨hk.2, hk.1.2.2⟩⟩, hk.1.2.1⟩)) hg hat); have n1_ := Aside0.mk (Seen_over (by (with_reducible repeat (first | apply Seen_alloc | apply Seen_drewN | apply Seen_drew)); exact HO_7.out) (Kd.R_typed (by (with_reducible repeat (first | apply Kd.R_alloc | apply Kd.R_drewN | apply Kd.R_drew)); exact HO_2.out)) hg); have n2_ := Aside0.mk (blk_grown (g := gb109) (o := .cells #[.int .i64 a0_0, .int .i64 a0_1, .int .i64 a0_2, .int .i64 a0_3, .slice (some ad126) l0_4.length c0_4, .slice A0_5 l0_5.length c0_5] 24 (0, 0)) (by (with_reducible repeat (first | refine blk_drewN ?_ _ | refine blk_drew ?_ | refine blk_alloc ?_ _)); exact BK109.out) hg (Kd.R_ne HO_2.out BK109.out (by decide))); have n3_ := Aside0.mk (hb); have n4_ := Aside0.mk (ho); have nD_ := Aside0.mk ((Ds.went (DM HD.out) (RM HO_2.out) (fun k_ hk => hk.symm) hg hat).mono (B' := fun k_ => some k_ = (v130 : Value).ownBlock) (fun k_ hk => .inr hk)); clear HD; have HD := nD_; clear nD_; clear HO_3; clear HO_7; clear BK109; clear HB; clear HO_2; have HO_3 := n0_; have HO_7 := n1_; have BK109 := n2_; have HB := n3_; have HO131 := n4_; clear n0_ n1_ n2_ n3_ n4_; clear ho hb hg hat; obtain ⟨Ao60, co60, eo60⟩ := Kd.N_slice HO_3.out; subst eo60; have p132 : 0 ≤ (x8_1 : Int) := of_decide_eq_true (by first | (with_reducible assumption) | assumption); have q132 : x8_1 < (x3_2.length : Int) := of_decide_eq_true (by first | (with_reducible assumption) | assumption); obtain ⟨ad132, A132_0, c132_0, e132, hx132_0, hl132_0, hi132_0⟩ := at_L1 (Kd.N_reads' HO_3.out).2.2 x8_1 p132 q132; cases e132; obtain ⟨ce132, hce132, hMe132, hcc132⟩ := Kd.N_get HO_3.out [] x8_1 p132 (by first | exact q132 | exact of_decide_eq_true (by first | (with_reducible assumption) | assumption) | (have e_ := (Kd.N_reads' HO_3.out).1; omega)); obtain ⟨ua132_0, uc132_0, rfl, ul132_0, ge132_0⟩ := Kd.FK_slice_open hMe132; have hv132_0 := hcc132 0 _ rfl; rw [Nat.add_zero, show ((Kd.slice 3 (Kd.int .i64))).sz = 1 from rfl, Nat.mul_one] at hv132_0; replace hv132_0 := Option.some.inj (hv132_0.symm.trans hx132_0); injection hv132_0 with hva_ hvn_ hvc_; rw [hva_] at ge132_0; rw [hvc_] at ul132_0; have HL132_0 := Aside0.mk (show Kd.V (Kd.int .i64) 3 _ w.heap.size _ _ (rd_L1 x3_2 x8_1) from Kd.V_mk ul132_0 ge132_0); clear hva_ hvn_ hvc_ ge132_0 ul132_0; clear hcc132 hce132; have HR132_0 := Aside0.mk hi132_0; have HC132_0 := Aside0.mk hl132_0; clear hi132_0 hl132_0; replace p132 := eq_true p132; replace q132 := eq_true q132) | (go_at_call 46; (with_reducible refine (slices_Clone_int_int.calls _ _ (rd_L1 x3_2 x8_1) t133 _ ?side1 ?side2 A39.out).mono ?_); (case side1 => repeat (first | exact (by repeat (first | (with_reducible exact HR132_0.out) | (with_reducible refine Kd.C_alloc ?_ _) | (with_reducible refine Kd.C_drewN ?_ _) | (with_reducible refine Kd.C_drew ?_) | exact HR132_0.out)) | (with_reducible refine Kd.C_alloc ?_ _) | (with_reducible refine Kd.C_drewN ?_ _) | (with_reducible refine Kd.C_drew ?_))); (case side2 => exact HC132_0.out); rintro e w61 ⟨v134, rfl, ho0, hb⟩; have n0_ := Aside0.mk (Kd.N_elder' (by (with_reducible repeat (first | apply Kd.N_alloc | apply Kd.N_drewN | apply Kd.N_drew)); exact HO_3.out) (Kd.R_base ho0) hb); have n1_ := Aside0.mk (Seen_below (by (with_reducible repeat (first | apply Seen_alloc | apply Seen_drewN | apply Seen_drew)); exact HO_7.out) hb); have n2_ := Aside0.mk (Kd.R_elder' (by (with_reducible repeat (first | apply Kd.R_alloc | apply Kd.R_drewN | apply Kd.R_drew)); exact HO131.out) (Kd.R_base ho0) hb); have n3_ := Aside0.mk (Kd.V_elder' (by (with_reducible repeat (first | apply Kd.V_alloc | apply Kd.V_drewN | apply Kd.V_drew)); exact HL132_0.out) (Kd.R_base ho0) hb); have n4_ := Aside0.mk (Kd.R_lower (Kd.R_new' (Kd.R_newM (M := fun k_ => (w.heap.size ≤ k_)) ho0 (below_size (by repeat (first | (with_reducible first | exact HB.out | apply below_alloc | apply pw_below_drewN | apply below_drew1 | refine below_set ?_ GE109.out) | exact HB.out))) (fun k_ h_ => h_)) (Kd.R_lt (by (with_reducible repeat (first | apply Kd.R_alloc | apply Kd.R_drewN | apply Kd.R_drew)); exact HO131.out))) (below_size (by repeat (first | (with_reducible first | exact HB.out | apply below_alloc | apply pw_below_drewN | apply below_drew1 | refine below_set ?_ GE109.out) | exact HB.out)))); have n5_ := Aside0.mk (blk_below (g := gb109) (o := .cells #[.int .i64 a0_0, .int .i64 a0_1, .int .i64 a0_2, .int .i64 a0_3, .slice (some ad126) l0_4.length c0_4, .slice A0_5 l0_5.length c0_5] 24 (0, 0)) (by (with_reducible repeat (first | refine blk_drewN ?_ _ | refine blk_drew ?_ | refine blk_alloc ?_ _)); exact BK109.out) hb); have n6_ := Aside0.mk (Kd.C_below (by repeat (first | (with_reducible exact HR132_0.out) | (with_reducible refine Kd.C_alloc ?_ _) | (with_reducible refine Kd.C_drewN ?_ _) | (with_reducible refine Kd.C_drew ?_) | exact HR132_0.out)) hb); have n7_ := Aside0.mk (below_step (by repeat (first | (with_reducible first | exact HB.out | apply below_alloc | apply pw_below_drewN | apply below_drew1 | refine below_set ?_ GE109.out) | exact HB.out)) hb); have nD_ := Aside0.mk (((DM HD.out).freshen (B' := fun k_ => some k_ = (v130 : Value).ownBlock ∨ some k_ = (v134 : Value).ownBlock) (fun k_ hk => hk.elim .inl (fun h_ => .inr (Kd.R_base ho0 k_ h_.symm)))).below hb); clear HD; have HD := nD_; clear nD_; clear HO_3; clear HO_7; clear HO131; clear HL132_0; clear BK109; clear HR132_0; clear HB; have HO_3 := n0_; have HO_7 := n1_; have HO131 := n2_; have HL132_0 := n3_; have HO135 := n4_; have BK109 := n5_; have HR132_0 := n6_; have HB := n7_; clear n0_ n1_ n2_ n3_ n4_ n5_ n6_ n7_; (try clear hb); (try clear hb2); (try clear hk); (try clear hi); (try clear ho0)) | ((with_reducible refine gate_builtin (b := .append) (xs := #[.tmp 70, .tmp 72]) rfl ?_); at_builtin; refine Kd.R_append (Kd.int .i64) (w0 := w) w.heap.size rfl (.tmp 70) (.tmp 72) 22 3 (.int .i64 0) 8 rfl Try.underlying22 info3 rfl (by decide) (by omega) v134 t133 x34_2 [.int .i64 x34_2] (fun k_ => (w.heap.size ≤ k_) ∧ some k_ ≠ (v130 : Value).ownBlock) (fun _ => False) rfl rfl ?aP (fun _ hk => hk.elim) ?aF ?aO ?aB ?aS ?aL ?_; (case aP => exact rfl); (case aB => exact (by repeat (first | (with_reducible first | exact HB.out | apply below_alloc | apply pw_below_drewN | apply below_drew1 | refine below_set ?_ GE109.out) | exact HB.out))); (case aF => exact (fun k_ hk => ⟨(Nat.le_trans (below_size (by repeat (first | (with_reducible first | exact HB.out | apply below_alloc | apply pw_below_drewN | apply below_drew1 | refine below_set ?_ GE109.out) | exact HB.out))) hk), Kd.fresh' (Kd.R_lt (by (with_reducible repeat (first | apply Kd.R_alloc | apply Kd.R_drewN | apply Kd.R_drew)); exact HO131.out)) k_ hk⟩)); (case aO => exact (by (with_reducible repeat (first | apply Kd.R_alloc | apply Kd.R_drewN | apply Kd.R_drew)); exact Kd.R_mono HO135.out (fun _ hk => ⟨hk.1.1, hk.2⟩))); (case aS => exact (below_size (by repeat (first | (with_reducible first | exact HB.out | apply below_alloc | apply pw_below_drewN | apply below_drew1 | refine below_set ?_ GE109.out) | exact HB.out)))); (case aL => have := LMc40.out; omega); intro v137 w62 ho hb hg hat; rw [← Ny136.out] at ho; have n0_ := Aside0.mk (Kd.N_afterv (ok := (fun k_ => (w.heap.size ≤ k_) ∧ some k_ ≠ (.slice (some ⟨go6, 0, none⟩) x7_2.length co6 : Value).ownBlock ∧ some k_ ≠ (v130 : Value).ownBlock ∧ k_ ≠ gb109)) (by (with_reducible repeat (first | apply Kd.N_alloc | apply Kd.N_drewN | apply Kd.N_drew)); exact Kd.N_mono HO_3.out (fun _ hk => ⟨⟨hk.1.1.1, ⟨hk.1.1.2.1, ⟨hk.1.2, hk.1.1.2.2⟩⟩⟩, hk.2⟩)) hg hat); have n1_ := Aside0.mk (Seen_over (by (with_reducible repeat (first | apply Seen_alloc | apply Seen_drewN | apply Seen_drew)); exact HO_7.out) (Kd.R_typed (by (with_reducible repeat (first | apply Kd.R_alloc | apply Kd.R_drewN | apply Kd.R_drew)); exact HO135.out)) hg); have n2_ := Aside0.mk (blk_grown (g := gb109) (o := .cells #[.int .i64 a0_0, .int .i64 a0_1, .int .i64 a0_2, .int .i64 a0_3, .slice (some ad126) l0_4.length c0_4, .slice A0_5 l0_5.length c0_5] 24 (0, 0)) (by (with_reducible repeat (first | refine blk_drewN ?_ _ | refine blk_drew ?_ | refine blk_alloc ?_ _)); exact BK109.out) hg (Kd.R_ne HO135.out BK109.out (by decide))); have n3_ := Aside0.mk (Kd.R_after (ok := (fun k_ => (w.heap.size ≤ k_))) (by (with_reducible repeat (first | apply Kd.R_alloc | apply Kd.R_drewN | apply Kd.R_drew)); exact HO131.out) hg hat); have n4_ := Aside0.mk (Kd.V_afterv (ok := (fun k_ => (w.heap.size ≤ k_) ∧ some k_ ≠ (.slice (some ad132) x3_2.length co60 : Value).ownBlock ∧ some k_ ≠ (.slice (some ⟨go6, 0, none⟩) x7_2.length co6 : Value).ownBlock ∧ some k_ ≠ (v130 : Value).ownBlock ∧ k_ ≠ gb109)) (by (with_reducible repeat (first | apply Kd.V_alloc | apply Kd.V_drewN | apply Kd.V_drew)); exact Kd.V_mono HL132_0.out (fun _ hk => ⟨⟨hk.1.1.1.1, ⟨hk.1.2, ⟨hk.1.1.1.2.1, ⟨hk.1.1.2, hk.1.1.1.2.2⟩⟩⟩⟩, hk.2⟩)) hg hat); have n5_ := Aside0.mk (hb); have n6_ := Aside0.mk (ho); have nD_ := Aside0.mk ((Ds.went (DM HD.out) (RM HO135.out) (fun k_ hk => .inr hk.symm) hg hat).mono (B' := fun k_ => some k_ = (v130 : Value).ownBlock ∨ some k_ = (v137 : Value).ownBlock) (fun k_ hk => hk.elim (fun h_ => .inl (.inl h_)) .inr)); clear HD; have HD := nD_; clear nD_; clear HO_3; clear HO_7; clear BK109; clear HO131; clear HL132_0; clear HB; clear HO135; have HO_3 := n0_; have HO_7 := n1_; have BK109 := n2_; have HO131 := n3_; have HL132_0 := n4_; have HB := n5_; have HO138 := n6_; clear n0_ n1_ n2_ n3_ n4_ n5_ n6_; clear ho hb hg hat; obtain ⟨Ao64, co64, eo64⟩ := Kd.R_slice HO138.out; subst eo64) | ((with_reducible refine gate_builtin (b := .append) (xs := #[.tmp 65, .tmp 74]) rfl ?_); at_builtin; refine N_append_ds (w0 := w) w.heap.size rfl (.tmp 65) (.tmp 74) 28 (.slice none 0 0) 24 rfl Try.underlying28 info22 rfl (by omega) (.slice (some ad132) x3_2.length co60) x3_2 y136 (.slice Ao64 y136.length co64) (fun k_ => (w.heap.size ≤ k_) ∧ some k_ ≠ (.slice (some ⟨go6, 0, none⟩) x7_2.length co6 : Value).ownBlock ∧ some k_ ≠ (v130 : Value).ownBlock ∧ k_ ≠ gb109) (fun k_ => ((fun k_ => (w.heap.size ≤ k_) ∧ some k_ ≠ (.slice (some ⟨go6, 0, none⟩) x7_2.length co6 : Value).ownBlock ∧ some k_ ≠ (v130 : Value).ownBlock ∧ k_ ≠ gb109)) k_ ∧ some k_ ≠ (.slice (some ad132) x3_2.length co60 : Value).ownBlock) rfl rfl ?aP (fun _ hk => hk) ?aF ?aO (DM HD.out) (Kd.R_mono (RM HO138.out) (fun _ _ => trivial)) (fun k_ hk => .inr hk.symm) ?aB ?aS ?aL ?_; (case aP => exact (Kd.FK_slice_mk (Kd.R_reads' (Kd.R_mono (ok' := (fun k_ => ((fun k_ => (w.heap.size ≤ k_) ∧ some k_ ≠ (.slice (some ⟨go6, 0, none⟩) x7_2.length co6 : Value).ownBlock ∧ some k_ ≠ (v130 : Value).ownBlock ∧ k_ ≠ gb109)) k_ ∧ some k_ ≠ (.slice (some ad132) x3_2.length co60 : Value).ownBlock)) (Kd.R_types (Kd.R_apart' (R_apart_seen 0 0 (HO138.out) HO_7.out) (Kd.N_typed HO_3.out) (by decide)) BK109.out (by decide)) (fun k_ hk => ⟨⟨hk.1.1.1.1, ⟨hk.1.1.2, ⟨hk.1.1.1.2, hk.2⟩⟩⟩, hk.1.2⟩))).2.1 (Kd.R_F (Kd.R_mono (ok' := (fun k_ => ((fun k_ => (w.heap.size ≤ k_) ∧ some k_ ≠ (.slice (some ⟨go6, 0, none⟩) x7_2.length co6 : Value).ownBlock ∧ some k_ ≠ (v130 : Value).ownBlock ∧ k_ ≠ gb109)) k_ ∧ some k_ ≠ (.slice (some ad132) x3_2.length co60 : Value).ownBlock)) (Kd.R_types (Kd.R_apart' (R_apart_seen 0 0 (HO138.out) HO_7.out) (Kd.N_typed HO_3.out) (by decide)) BK109.out (by decide)) (fun k_ hk => ⟨⟨hk.1.1.1.1, ⟨hk.1.1.2, ⟨hk.1.1.1.2, hk.2⟩⟩⟩, hk.1.2⟩))))); (case aB => exact (by repeat (first | (with_reducible first | exact HB.out | apply below_alloc | apply pw_below_drewN | apply below_drew1 | refine below_set ?_ GE109.out) | exact HB.out))); (case aF => exact (fun k_ hk => ⟨(Nat.le_trans (below_size (by repeat (first | (with_reducible first | exact HB.out | apply below_alloc | apply pw_below_drewN | apply below_drew1 | refine below_set ?_ GE109.out) | exact HB.out))) hk), Kd.fresh' (Seen_lt 0 0 (by (with_reducible repeat (first | apply Seen_alloc | apply Seen_drewN | apply Seen_drew)); exact HO_7.out)) k_ hk, Kd.fresh' (Kd.R_lt (by (with_reducible repeat (first | apply Kd.R_alloc | apply Kd.R_drewN | apply Kd.R_drew)); exact HO131.out)) k_ hk, Kd.freshB (g := gb109) (o := .cells #[.int .i64 a0_0, .int .i64 a0_1, .int .i64 a0_2, .int .i64 a0_3, .slice (some ad126) l0_4.length c0_4, .slice A0_5 l0_5.length c0_5] 24 (0, 0)) (by (with_reducible repeat (first | refine blk_drewN ?_ _ | refine blk_drew ?_ | refine blk_alloc ?_ _)); exact BK109.out) k_ hk⟩)); (case aO => exact (by (with_reducible repeat (first | apply Kd.N_alloc | apply Kd.N_drewN | apply Kd.N_drew)); exact Kd.N_mono HO_3.out (fun _ hk => ⟨hk.1.1, ⟨hk.1.2.1, ⟨hk.1.2.2.1, hk.1.2.2.2⟩⟩⟩))); (case aS => exact (below_size (by repeat (first | (with_reducible first | exact HB.out | apply below_alloc | apply pw_below_drewN | apply below_drew1 | refine below_set ?_ GE109.out) | exact HB.out)))); (case aL => have := LMc41.out; omega); intro v140 w63 ho hds hb hg hat; rw [← Ny139.out] at ho; have n0_ := Aside0.mk (Seen_over (by (with_reducible repeat (first | apply Seen_alloc | apply Seen_drewN | apply Seen_drew)); exact HO_7.out) (Kd.N_typed (by (with_reducible repeat (first | apply Kd.N_alloc | apply Kd.N_drewN | apply Kd.N_drew)); exact HO_3.out)) hg); have n1_ := Aside0.mk (blk_grown (g := gb109) (o := .cells #[.int .i64 a0_0, .int .i64 a0_1, .int .i64 a0_2, .int .i64 a0_3, .slice (some ad126) l0_4.length c0_4, .slice A0_5 l0_5.length c0_5] 24 (0, 0)) (by (with_reducible repeat (first | refine blk_drewN ?_ _ | refine blk_drew ?_ | refine blk_alloc ?_ _)); exact BK109.out) hg (Kd.N_ne HO_3.out BK109.out (by decide))); have n2_ := Aside0.mk (Kd.R_over' (by (with_reducible repeat (first | apply Kd.R_alloc | apply Kd.R_drewN | apply Kd.R_drew)); exact HO131.out) (Kd.N_typed (by (with_reducible repeat (first | apply Kd.N_alloc | apply Kd.N_drewN | apply Kd.N_drew)); exact HO_3.out)) (by decide) hg); have n3_ := Aside0.mk (Kd.V_afterv (ok := (fun k_ => (w.heap.size ≤ k_) ∧ some k_ ≠ (.slice (some ⟨go6, 0, none⟩) x7_2.length co6 : Value).ownBlock ∧ some k_ ≠ (v130 : Value).ownBlock ∧ some k_ ≠ (.slice Ao64 y136.length co64 : Value).ownBlock ∧ k_ ≠ gb109)) (by (with_reducible repeat (first | apply Kd.V_alloc | apply Kd.V_drewN | apply Kd.V_drew)); exact Kd.V_mono HL132_0.out (fun _ hk => ⟨⟨hk.1.1, ⟨hk.1.2.2.1, ⟨hk.1.2.2.2.1, ⟨hk.2, hk.1.2.2.2.2⟩⟩⟩⟩, hk.1.2.1⟩)) hg hat); have n4_ := Aside0.mk (hb); have n5_ := Aside0.mk (ho); have nD_ := Aside0.mk (show Ds w63 w.heap.size (fun k_ => some k_ = (v130 : Value).ownBlock) v140 y139 from (by rw [Ny139.out]; exact hds _ (fun k_ hk => ⟨.inl hk, fun he => (HO138.out.1 k_ he.symm).2 hk⟩))); clear HD hds; have HD := nD_; clear nD_; clear HO_7; clear BK109; clear HO131; clear HL132_0; clear HB; clear HO_3; clear HO138; have HO_7 := n0_; have BK109 := n1_; have HO131 := n2_; have HL132_0 := n3_; have HB := n4_; have HO141 := n5_; clear n0_ n1_ n2_ n3_ n4_ n5_; clear ho hb hg hat; obtain ⟨Ao65, co65, eo65⟩ := Kd.R_slice HO131.out; subst eo65; have hcz66_0 : w63.cell? ⟨gb109, 0, none⟩ = some (.int .i64 a0_0) := (blk_cell BK109.out 0).trans rfl; have hcz66_1 : w63.cell? ⟨gb109, 1, none⟩ = some (.int .i64 a0_1) := (blk_cell BK109.out 1).trans rfl; have hcz66_2 : w63.cell? ⟨gb109, 2, none⟩ = some (.int .i64 a0_2) := (blk_cell BK109.out 2).trans rfl; have hcz66_3 : w63.cell? ⟨gb109, 3, none⟩ = some (.int .i64 a0_3) := (blk_cell BK109.out 3).trans rfl; have hcz66_4 : w63.cell? ⟨gb109, 4, none⟩ = some (.slice (some ad126) l0_4.length c0_4) := (blk_cell BK109.out 4).trans rfl; have hcz66_5 : w63.cell? ⟨gb109, 5, none⟩ = some (.slice A0_5 l0_5.length c0_5) := (blk_cell BK109.out 5).trans rfl; have hfz66_0 := blk_frozen BK109.out 0; have hfz66_1 := blk_frozen BK109.out 1; have hfz66_2 := blk_frozen BK109.out 2; have hfz66_3 := blk_frozen BK109.out 3; have hfz66_4 := blk_frozen BK109.out 4; have hfz66_5 := blk_frozen BK109.out 5))
                      (try simp only [← hl7_2])
                      go_roundg k2
                      case measure => have := HK1.out; have := HK2.out; omega
                      case rel => exact ⟨(y129), (y139), (y128), (wrap64 (x34_2 + 1)), (by first | rfl | (simp; done) | (simp [*]; done)), H', ⟨by have := HK1.out; have := HK2.out; omega⟩, ⟨by (try simp only [hl7_1]); (try simp only [hl7_2]); (with_reducible repeat (first | apply Kd.R_alloc | apply Kd.R_drewN | apply Kd.R_drew)); exact Kd.R_mono HO131.out (fun _ hk => hk.1)⟩, ⟨by (try simp only [hl7_1]); (try simp only [hl7_2]); (with_reducible repeat (first | apply Kd.N_alloc | apply Kd.N_drewN | apply Kd.N_drew)); exact Kd.N_mono HO141.out (fun _ hk => ⟨hk.1, ⟨hk.2.2.1, ⟨hk.2.1, hk.2.2.2⟩⟩⟩)⟩, ⟨by (with_reducible repeat (first | apply Seen_alloc | apply Seen_drewN | apply Seen_drew)); (first | exact HO_7.out | exact Seen_more HO_7.out (by rw [Ny129.out]; simp))⟩, ⟨by (try simp only [hl7_1]); (try simp only [hl7_2]); (with_reducible repeat (first | refine blk_drewN ?_ _ | refine blk_drew ?_ | refine blk_alloc ?_ _)); exact BK109.out⟩, ⟨by repeat (first | (with_reducible first | exact HB.out | apply below_alloc | apply pw_below_drewN | apply below_drew1 | refine below_set ?_ GE109.out) | exact HB.out)⟩, ⟨DM HD.out⟩⟩
                    ·rw [if_neg c41] at H
                     exact absurd H (by simp)
                   ·rw [if_neg c40] at H
                    exact absurd H (by simp)
                  ·rw [if_neg c38] at H
                   exact absurd H (by simp)
                 ·rw [if_neg c37] at H
                  exact absurd H (by simp)
               ·rw [if_neg c31] at H
                exact absurd H (by simp)
              ·rw [if_neg c30] at H
               exact absurd H (by simp)
             ·rw [if_neg c29] at H
              exact absurd H (by simp)
            ·rw [if_neg c28] at H
             exact absurd H (by simp)
           ·rw [if_neg c26] at H
            exact absurd H (by simp)
          ·rw [if_neg c25] at H
           exact absurd H (by simp)
         ·rw [if_neg c24] at H
          have c24b0 : decide (x34_2 < a0_1) = false := decide_eq_false c24
          clear c24
          have H' := Aside0.mk H
          clear H
          go_wp2
          repeat (go_quiet (fail); try go_wp2)
          (try simp only [← hl7_1, ← hl7_2])
          go_roundg k2
          case measure => have := HK1.out; have := HK2.out; omega
          case rel => exact ⟨(x2_2), (x3_2), (x7_2), (wrap64 (x8_1 + 1)), (by first | rfl | (simp; done) | (simp [*]; done)), H', ⟨by have := HK1.out; have := HK2.out; omega⟩, ⟨by (try simp only [hl7_1]); (try simp only [hl7_2]); (with_reducible repeat (first | apply Kd.R_alloc | apply Kd.R_drewN | apply Kd.R_drew)); exact HO_2.out⟩, ⟨by (try simp only [hl7_1]); (try simp only [hl7_2]); (with_reducible repeat (first | apply Kd.N_alloc | apply Kd.N_drewN | apply Kd.N_drew)); exact HO_3.out⟩, ⟨by (with_reducible repeat (first | apply Seen_alloc | apply Seen_drewN | apply Seen_drew)); (first | exact HO_7.out | exact Seen_more HO_7.out (by rw [Ny129.out]; simp))⟩, ⟨by (try simp only [hl7_1]); (try simp only [hl7_2]); (with_reducible repeat (first | refine blk_drewN ?_ _ | refine blk_drew ?_ | refine blk_alloc ?_ _)); exact BK109.out⟩, ⟨by repeat (first | (with_reducible first | exact HB.out | apply below_alloc | apply pw_below_drewN | apply below_drew1 | refine below_set ?_ GE109.out) | exact HB.out)⟩, ⟨DM HD.out⟩⟩
      ·rw [if_neg c21] at H
       have c21b0 : decide (x8_1 < (x2_1.length : Int)) = false := decide_eq_false c21
       clear c21
       simp only [Option.some.injEq, Prod.mk.injEq] at H
       obtain ⟨rfl, rfl, rfl⟩ := H
       obtain ⟨Ao67, co67, eo67⟩ := Kd.R_slice HO_2.out
       subst eo67
       go_wp2
       repeat (go_quiet (fail); try go_wp2)
       (try simp only [Exit.noGoto_ret])
       go_ret3
       exact ⟨_, _, by first | rfl | (simp [errW_none, errW_some] <;> rfl) | (simp [*, errW_none, errW_some] <;> rfl), by (with_reducible repeat (first | apply Kd.R_alloc | apply Kd.R_drewN | apply Kd.R_drew)); exact HO_2.out, by (with_reducible repeat (first | apply Kd.N_alloc | apply Kd.N_drewN | apply Kd.N_drew)); exact Kd.N_mono HO_3.out (fun _ hk => ⟨hk.1, hk.2.1⟩), by repeat (first | (with_reducible first | exact HB.out | apply below_alloc | apply pw_below_drewN | apply below_drew1 | refine below_set ?_ GE109.out) | exact HB.out), DM HD.out⟩
   ·rw [if_neg c5] at H
    exact absurd H (by simp)
  ·rw [if_neg c4] at H
   exact absurd H (by simp)
 ·rw [if_neg c3] at H
  have c3b0 : (t111 == 0) = false := beq_eq_false_iff_ne.mpr c3
  have c3b1 : (t111 != 0) = true := bne_iff_ne.mpr c3
  simp only [Option.some.injEq, Prod.mk.injEq] at H
  obtain ⟨rfl, rfl, rfl⟩ := H
  go_enter Try.func18, Try.ntmps18
  go_wp2_with (first | ((with_reducible refine gate_dst (N := 1) rfl ?_); refine box_event ?hg (N := 1) ?hd (cs := #[.int .i64 a0_0, .int .i64 a0_1, .int .i64 a0_2, .int .i64 a0_3, .slice A0_4 l0_4.length c0_4, .slice A0_5 l0_5.length c0_5]) (t := 24) ?hr ?_; (case hd => rfl); (case hg => rfl); (case hr => first | (go_simp; done) | (go_simp; rfl)); intro gb109 hg w68 hbox hb; have n0_ := Aside0.mk (below_step (by repeat (first | (with_reducible first | exact HB.out | apply below_alloc | apply pw_below_drewN | apply below_drew1) | exact HB.out)) hb); have n1_ := Aside0.mk (hbox); have n2_ := Aside0.mk ((by rw [hg]; exact (below_size (by repeat (first | (with_reducible first | exact HB.out | apply below_alloc | apply pw_below_drewN | apply below_drew1) | exact HB.out))) : w.heap.size ≤ gb109)); have n3_ := Aside0.mk ((by rw [hg]; exact (below_size (by repeat (first | (with_reducible first | exact HB.out | apply below_alloc | apply pw_below_drewN | apply below_drew1) | exact HB.out))) : w.heap.size ≤ gb109)); clear HB; have HB := n0_; have BK109 := n1_; have GW109 := n2_; have GE109 := n3_; clear n0_ n1_ n2_ n3_; clear hb hbox hg; have hcz69_0 : w68.cell? ⟨gb109, 0, none⟩ = some (.int .i64 a0_0) := (blk_cell BK109.out 0).trans rfl; have hcz69_1 : w68.cell? ⟨gb109, 1, none⟩ = some (.int .i64 a0_1) := (blk_cell BK109.out 1).trans rfl; have hcz69_2 : w68.cell? ⟨gb109, 2, none⟩ = some (.int .i64 a0_2) := (blk_cell BK109.out 2).trans rfl; have hcz69_3 : w68.cell? ⟨gb109, 3, none⟩ = some (.int .i64 a0_3) := (blk_cell BK109.out 3).trans rfl; have hcz69_4 : w68.cell? ⟨gb109, 4, none⟩ = some (.slice A0_4 l0_4.length c0_4) := (blk_cell BK109.out 4).trans rfl; have hcz69_5 : w68.cell? ⟨gb109, 5, none⟩ = some (.slice A0_5 l0_5.length c0_5) := (blk_cell BK109.out 5).trans rfl; have hfz69_0 := blk_frozen BK109.out 0; have hfz69_1 := blk_frozen BK109.out 1; have hfz69_2 := blk_frozen BK109.out 2; have hfz69_3 := blk_frozen BK109.out 3; have hfz69_4 := blk_frozen BK109.out 4; have hfz69_5 := blk_frozen BK109.out 5))
  go_step3
  go_wp2_with (first | (go_at_call 45; (with_reducible refine (machine_Check.calls k a0_0 a0_1 a0_2 a0_3 _ _ l0_4 _ _ l0_5 t110 t111 _ ?side1 ?side2 ?side3 ?side4 A2.out).mono ?_); (case side1 => repeat (first | exact (Kd.C_below HR0_4.out HB.out) | (with_reducible refine Kd.C_alloc ?_ _) | (with_reducible refine Kd.C_drewN ?_ _) | (with_reducible refine Kd.C_drew ?_))); (case side2 => exact HC0_4.out); (case side3 => repeat (first | exact (Kd.C_below HR0_5.out HB.out) | (with_reducible refine Kd.C_alloc ?_ _) | (with_reducible refine Kd.C_drewN ?_ _) | (with_reducible refine Kd.C_drew ?_))); (case side4 => exact HC0_5.out); rintro e w70 ⟨rfl, hb⟩; have n0_ := Aside0.mk (blk_below (g := gb109) (o := .cells #[.int .i64 a0_0, .int .i64 a0_1, .int .i64 a0_2, .int .i64 a0_3, .slice A0_4 l0_4.length c0_4, .slice A0_5 l0_5.length c0_5] 24 (0, 0)) (by (with_reducible repeat (first | refine blk_drewN ?_ _ | refine blk_drew ?_ | refine blk_alloc ?_ _)); exact BK109.out) hb); have n1_ := Aside0.mk (below_step (by repeat (first | (with_reducible first | exact HB.out | apply below_alloc | apply pw_below_drewN | apply below_drew1 | refine below_set ?_ GE109.out) | exact HB.out)) hb); clear BK109; clear HB; have BK109 := n0_; have HB := n1_; clear n0_ n1_; (try clear hb); (try clear hb2); (try clear hk); (try clear hi)))
  (try simp only [Exit.noGoto_ret])
  go_ret3
  exact ⟨_, _, by first | rfl | (simp [errW_none, errW_some] <;> rfl) | (simp [*, errW_none, errW_some] <;> rfl), by first | exact Kd.R_nil _ _ _ _ _ | exact Kd.N_nil _ _ _ _ _ | exact Kd.V_nil _ _ _ _ _ | exact Kd.Q_nil _ _ _ _ _ | exact Kd.S_nil _ _ _ _ _, by first | exact Kd.S_nil _ _ _ _ _ | exact Kd.N_nil _ _ _ _ _ | exact Kd.V_nil _ _ _ _ _ | exact Kd.Q_nil _ _ _ _ _ | exact Kd.R_nil _ _ _ _ _, by repeat (first | (with_reducible first | exact HB.out | apply below_alloc | apply pw_below_drewN | apply below_drew1 | refine below_set ?_ GE109.out) | exact HB.out), Ds.nil _ _ _⟩

theorem trim_Reach.calls (k : Nat) (a0_0 : Int) (a0_1 : Int) (a0_2 : Int) (a0_3 : Int) (A0_4 : Option Addr) (c0_4 : Nat) (l0_4 : List Int) (A0_5 : Option Addr) (c0_5 : Nat) (l0_5 : List Int) (r1 : List Int) (r2 : List (List Int)) (r3 : Int) (w : World) (hr0_4 : Kd.C (Kd.int .i64) w A0_4 l0_4.length l0_4) (hc0_4 : l0_4.length ≤ c0_4) (hr0_5 : Kd.C (Kd.int .i64) w A0_5 l0_5.length l0_5) (hc0_5 : l0_5.length ≤ c0_5) (h : trim_Reach.f k a0_0 a0_1 a0_2 a0_3 l0_4 l0_5 = some (r1, r2, r3)) :
  Calls Try.prog 18 #[.agg #[.int .i64 a0_0, .int .i64 a0_1, .int .i64 a0_2, .int .i64 a0_3, .slice A0_4 l0_4.length c0_4, .slice A0_5 l0_5.length c0_5]] w fun e w' => ∃ v0_ v1_ : Value, e = .returned (.tuple #[v0_, v1_, .int .i64 r3]) ∧ Kd.R (Kd.int .i64) 3 w' w.heap.size (fun k_ => (w.heap.size ≤ k_)) v0_ r1 ∧ Kd.N (Kd.slice 3 (Kd.int .i64)) 22 w' w.heap.size (fun k_ => (w.heap.size ≤ k_) ∧ some k_ ≠ (v0_ : Value).ownBlock) v1_ r2 ∧ Below w.heap.size w w' := by
  refine (trim_Reach.calls2 _ _ _ _ _ _ _ _ _ _ _ _ _ _ _ hr0_4 hc0_4 hr0_5 hc0_5 h).mono ?_
  rintro e w' ⟨v0_, v1_, h1, h2, h3, h4, _⟩
  exact ⟨v0_, v1_, h1, h2, h3, h4⟩

end Go.Proofs.Ytllgeljacmpdjaa.PTrim
