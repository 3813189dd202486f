-- Written by a program of this session out of the kit's printer (some functions' contracts are given by hand).
import Derived.Test.YtllgeljacmpdjaaPTrimx0
import Derived.Test.YtllgeljacmpdjaaPTrimxf15
import Derived.Test.YtllgeljacmpdjaaPTrimxf16
import Derived.Test.YtllgeljacmpdjaaPTrimxf29
import Derived.Test.YtllgeljacmpdjaaPTrimxf30
import Derived.Test.YtllgeljacmpdjaaPTrimxf31
import Derived.Test.YtllgeljacmpdjaaPTrimxf20
import Derived.Test.YtllgeljacmpdjaaPTrimxf22
import Derived.Test.YtllgeljacmpdjaaGReach
namespace Go.Proofs.Ytllgeljacmpdjaa.PTrim
open Go.RowKit Go.Proofs.YtllgeljacmpdjaaW.PrintWords Go.Proofs.YtllgeljacmpdjaaW.PrintLast Go.Proofs.YtllgeljacmpdjaaW.PrintMore
attribute [local go_sem] max2_int min2_int max_two min_two max_three min_three max_four min_four   -- for this text's walks alone
set_option linter.unusedVariables false
set_option linter.unusedSimpArgs false

/-! ### tutorlaw04_TrimLeast: function 6 -/
mutual
def tutorlaw04_TrimLeast.j0 : Nat → List Int → Bool → Int → Int → Int → Int → List Int → List Int → Option (Bool)
 | 0, _, _, _, _, _, _, _, _ => none
 | k + 1, x1, x23, x444000, x444001, x444002, x444003, x444004, x444005 => if x23 = true then ((tutorlaw04_live.f k).bind fun t445 => (some t445)) else ((trim_Reach.f k x444000 x444001 x444002 x444003 x444004 x444005).bind fun bt446 => ((tutorlaw04_num.f bt446.2.2).bind fun t453 => (if t453 = 0 then (if (bt446.1.length : Int) = (bt446.2.1.length : Int) then (if (bt446.1.length : Int) = 0 then (tutorlaw04_TrimLeast.j1 k x1 bt446.1 bt446.2.1 true x444000 x444001 x444002 x444003 x444004 x444005) else (if 0 < (bt446.2.1.length : Int) then (tutorlaw04_TrimLeast.j1 k x1 bt446.1 bt446.2.1 (((rd_L1 bt446.2.1 0).length : Int) != 0) x444000 x444001 x444002 x444003 x444004 x444005) else (none))) else (tutorlaw04_TrimLeast.j1 k x1 bt446.1 bt446.2.1 true x444000 x444001 x444002 x444003 x444004 x444005)) else (if (wrap64 ((bt446.1.length : Int) + (bt446.2.1.length : Int))) = 0 then ((tutorlaw04_live.f k).bind fun t454 => (some t454)) else (none)))))
def tutorlaw04_TrimLeast.j1 : Nat → List Int → List Int → List (List Int) → Bool → Int → Int → Int → Int → List Int → List Int → Option (Bool)
 | 0, _, _, _, _, _, _, _, _, _, _ => none
 | k + 1, x1, x5, x6, x59, x444000, x444001, x444002, x444003, x444004, x444005 => if x59 = true then (none) else ((tutorref01_Check.f k x1 x444001).bind fun bt456 => (if bt456.2 = 0 then ((tutorref03_Go.f k x444000 x444001 x444002 x444003 x444004 x444005 0 x1).bind fun bt458 => (tutorlaw04_TrimLeast.j2 k x1 x5 x6 bt456.2 bt458.1 x444000 x444001 x444002 x444003 x444004 x444005)) else (tutorlaw04_TrimLeast.j2 k x1 x5 x6 bt456.2 (-1) x444000 x444001 x444002 x444003 x444004 x444005)))
def tutorlaw04_TrimLeast.j2 : Nat → List Int → List Int → List (List Int) → Int → Int → Int → Int → Int → Int → List Int → List Int → Option (Bool)
 | 0, _, _, _, _, _, _, _, _, _, _, _ => none
 | k + 1, x1, x5, x6, x9, x10, x444000, x444001, x444002, x444003, x444004, x444005 => tutorlaw04_TrimLeast.l0 k x1 x5 x6 x10 (x9 != 0) 0 x444000 x444001 x444002 x444003 x444004 x444005
def tutorlaw04_TrimLeast.l0 : Nat → List Int → List Int → List (List Int) → Int → Bool → Int → Int → Int → Int → Int → List Int → List Int → Option (Bool)
 | 0, _, _, _, _, _, _, _, _, _, _, _, _ => none
 | k + 1, x1, x5, x6, x10, x11, x12, x444000, x444001, x444002, x444003, x444004, x444005 => if x12 < (x5.length : Int) then (if 0 ≤ x12 then (if x12 < (x6.length : Int) then ((tutorref03_Go.f k x444000 x444001 x444002 x444003 x444004 x444005 0 (rd_L1 x6 x12)).bind fun bt464 => (if bt464.1 = (rd x5 x12) then (if x12 > 0 then (if 0 ≤ (wrap64 (x12 - 1)) then (if (wrap64 (x12 - 1)) < (x6.length : Int) then ((tutorref01_Ahead.f k (rd_L1 x6 (wrap64 (x12 - 1))) (rd_L1 x6 x12)).bind fun t471 => (tutorlaw04_TrimLeast.j4 k x1 x5 x6 x10 x11 x12 bt464.1 (!t471) x444000 x444001 x444002 x444003 x444004 x444005)) else (none)) else (none)) else (tutorlaw04_TrimLeast.j4 k x1 x5 x6 x10 x11 x12 bt464.1 false x444000 x444001 x444002 x444003 x444004 x444005)) else (tutorlaw04_TrimLeast.j4 k x1 x5 x6 x10 x11 x12 bt464.1 true x444000 x444001 x444002 x444003 x444004 x444005))) else (none)) else (none)) else (if x11 = true then ((tutorlaw04_live.f k).bind fun t462 => (some t462)) else (none))
def tutorlaw04_TrimLeast.j4 : Nat → List Int → List Int → List (List Int) → Int → Bool → Int → Int → Bool → Int → Int → Int → Int → List Int → List Int → Option (Bool)
 | 0, _, _, _, _, _, _, _, _, _, _, _, _, _, _ => none
 | k + 1, x1, x5, x6, x10, x11, x12, x13, x114, x444000, x444001, x444002, x444003, x444004, x444005 => if x114 = true then (none) else (if x13 = x10 then (if 0 ≤ x12 then (if x12 < (x6.length : Int) then ((tutorref01_Ahead.f k x1 (rd_L1 x6 x12)).bind fun t473 => (if t473 = true then (none) else (tutorlaw04_TrimLeast.j5 k x1 x5 x6 x10 true x12 x444000 x444001 x444002 x444003 x444004 x444005))) else (none)) else (none)) else (tutorlaw04_TrimLeast.j5 k x1 x5 x6 x10 x11 x12 x444000 x444001 x444002 x444003 x444004 x444005))
def tutorlaw04_TrimLeast.j5 : Nat → List Int → List Int → List (List Int) → Int → Bool → Int → Int → Int → Int → Int → List Int → List Int → Option (Bool)
 | 0, _, _, _, _, _, _, _, _, _, _, _, _ => none
 | k + 1, x1, x5, x6, x10, x11, x12, x444000, x444001, x444002, x444003, x444004, x444005 => if 0 ≤ x12 then (if x12 < (x6.length : Int) then (if ((rd_L1 x6 x12).length : Int) > 0 then (tutorlaw04_TrimLeast.l1 k x1 x5 x6 x10 x11 x12 false 0 x444000 x444001 x444002 x444003 x444004 x444005) else (tutorlaw04_TrimLeast.l0 k x1 x5 x6 x10 x11 (wrap64 (x12 + 1)) x444000 x444001 x444002 x444003 x444004 x444005)) else (none)) else (none)
def tutorlaw04_TrimLeast.l1 : Nat → List Int → List Int → List (List Int) → Int → Bool → Int → Bool → Int → Int → Int → Int → Int → List Int → List Int → Option (Bool)
 | 0, _, _, _, _, _, _, _, _, _, _, _, _, _, _ => none
 | k + 1, x1, x5, x6, x10, x11, x12, x15, x16, x444000, x444001, x444002, x444003, x444004, x444005 => if x16 < x12 then (if x15 = true then (tutorlaw04_TrimLeast.l1 k x1 x5 x6 x10 x11 x12 true (wrap64 (x16 + 1)) x444000 x444001 x444002 x444003 x444004 x444005) else (if 0 ≤ x16 then (if x16 < (x6.length : Int) then (if 0 ≤ x12 then (if x12 < (x6.length : Int) then (if 0 ≤ (wrap64 (((rd_L1 x6 x12).length : Int) - 1)) then (if (wrap64 (((rd_L1 x6 x12).length : Int) - 1)) ≤ ((rd_L1 x6 x12).length : Int) then ((tutorref01_Same.f k (rd_L1 x6 x16) ((rd_L1 x6 x12).take ((wrap64 (((rd_L1 x6 x12).length : Int) - 1)) : Int).toNat)).bind fun t483 => (tutorlaw04_TrimLeast.l1 k x1 x5 x6 x10 x11 x12 t483 (wrap64 (x16 + 1)) x444000 x444001 x444002 x444003 x444004 x444005)) else (none)) else (none)) else (none)) else (none)) else (none)) else (none))) else (if x15 = true then (tutorlaw04_TrimLeast.l0 k x1 x5 x6 x10 x11 (wrap64 (x12 + 1)) x444000 x444001 x444002 x444003 x444004 x444005) else (none))
end
def tutorlaw04_TrimLeast.f (k : Nat) (a0_0 : Int) (a0_1 : Int) (a0_2 : Int) (a0_3 : Int) (l0_4 : List Int) (l0_5 : List Int) (l1 : List Int) : Option (Bool) := (tutorref03_Big.f a0_0 a0_1 a0_2 a0_3 l0_4 l0_5 300).bind fun t444 => (if t444 = true then (tutorlaw04_TrimLeast.j0 k l1 true a0_0 a0_1 a0_2 a0_3 l0_4 l0_5) else (tutorlaw04_TrimLeast.j0 k l1 (decide ((l1.length : Int) > 2000)) a0_0 a0_1 a0_2 a0_3 l0_4 l0_5))
theorem tutorlaw04_TrimLeast.mono_l : ∀ k, (∀ y0 y1 y2 y3 y4 y5 y6 y7, LeO (tutorlaw04_TrimLeast.j0 k y0 y1 y2 y3 y4 y5 y6 y7) (tutorlaw04_TrimLeast.j0 (k + 1) y0 y1 y2 y3 y4 y5 y6 y7)) ∧ (∀ y0 y1 y2 y3 y4 y5 y6 y7 y8 y9, LeO (tutorlaw04_TrimLeast.j1 k y0 y1 y2 y3 y4 y5 y6 y7 y8 y9) (tutorlaw04_TrimLeast.j1 (k + 1) y0 y1 y2 y3 y4 y5 y6 y7 y8 y9)) ∧ (∀ y0 y1 y2 y3 y4 y5 y6 y7 y8 y9 y10, LeO (tutorlaw04_TrimLeast.j2 k y0 y1 y2 y3 y4 y5 y6 y7 y8 y9 y10) (tutorlaw04_TrimLeast.j2 (k + 1) y0 y1 y2 y3 y4 y5 y6 y7 y8 y9 y10)) ∧ (∀ y0 y1 y2 y3 y4 y5 y6 y7 y8 y9 y10 y11, LeO (tutorlaw04_TrimLeast.l0 k y0 y1 y2 y3 y4 y5 y6 y7 y8 y9 y10 y11) (tutorlaw04_TrimLeast.l0 (k + 1) y0 y1 y2 y3 y4 y5 y6 y7 y8 y9 y10 y11)) ∧ (∀ y0 y1 y2 y3 y4 y5 y6 y7 y8 y9 y10 y11 y12 y13, LeO (tutorlaw04_TrimLeast.j4 k y0 y1 y2 y3 y4 y5 y6 y7 y8 y9 y10 y11 y12 y13) (tutorlaw04_TrimLeast.j4 (k + 1) y0 y1 y2 y3 y4 y5 y6 y7 y8 y9 y10 y11 y12 y13)) ∧ (∀ y0 y1 y2 y3 y4 y5 y6 y7 y8 y9 y10 y11, LeO (tutorlaw04_TrimLeast.j5 k y0 y1 y2 y3 y4 y5 y6 y7 y8 y9 y10 y11) (tutorlaw04_TrimLeast.j5 (k + 1) y0 y1 y2 y3 y4 y5 y6 y7 y8 y9 y10 y11)) ∧ (∀ y0 y1 y2 y3 y4 y5 y6 y7 y8 y9 y10 y11 y12 y13, LeO (tutorlaw04_TrimLeast.l1 k y0 y1 y2 y3 y4 y5 y6 y7 y8 y9 y10 y11 y12 y13) (tutorlaw04_TrimLeast.l1 (k + 1) y0 y1 y2 y3 y4 y5 y6 y7 y8 y9 y10 y11 y12 y13))
 | 0 => ⟨fun _ _ _ _ _ _ _ _ r h => by simp [tutorlaw04_TrimLeast.j0] at h, fun _ _ _ _ _ _ _ _ _ _ r h => by simp [tutorlaw04_TrimLeast.j1] at h, fun _ _ _ _ _ _ _ _ _ _ _ r h => by simp [tutorlaw04_TrimLeast.j2] at h, fun _ _ _ _ _ _ _ _ _ _ _ _ r h => by simp [tutorlaw04_TrimLeast.l0] at h, fun _ _ _ _ _ _ _ _ _ _ _ _ _ _ r h => by simp [tutorlaw04_TrimLeast.j4] at h, fun _ _ _ _ _ _ _ _ _ _ _ _ r h => by simp [tutorlaw04_TrimLeast.j5] at h, fun _ _ _ _ _ _ _ _ _ _ _ _ _ _ r h => by simp [tutorlaw04_TrimLeast.l1] at h⟩
 | k + 1 => by
  obtain ⟨ih0, ih1, ih2, ih3, ih4, ih5, ih6⟩ := tutorlaw04_TrimLeast.mono_l k
  refine ⟨?_, ?_, ?_, ?_, ?_, ?_, ?_⟩
  ·intro y0 y1 y2 y3 y4 y5 y6 y7
   unfold tutorlaw04_TrimLeast.j0
   repeat' first
   | (with_reducible exact ih0 _ _ _ _ _ _ _ _)
   | (with_reducible exact ih1 _ _ _ _ _ _ _ _ _ _)
   | (with_reducible exact ih2 _ _ _ _ _ _ _ _ _ _ _)
   | (with_reducible exact ih3 _ _ _ _ _ _ _ _ _ _ _ _)
   | (with_reducible exact ih4 _ _ _ _ _ _ _ _ _ _ _ _ _ _)
   | (with_reducible exact ih5 _ _ _ _ _ _ _ _ _ _ _ _)
   | (with_reducible exact ih6 _ _ _ _ _ _ _ _ _ _ _ _ _ _)
   | (with_reducible exact trim_Reach.mono _ _ _ _ _ _ _)
   | (with_reducible exact tutorlaw04_live.mono _)
   | (with_reducible exact tutorref01_Ahead.mono _ _ _)
   | (with_reducible exact tutorref01_Check.mono _ _ _)
   | (with_reducible exact tutorref01_Same.mono _ _ _)
   | (with_reducible exact tutorref03_Go.mono _ _ _ _ _ _ _ _ _)
   | (with_reducible exact LeO.refl _)
   | (with_reducible exact LeO.none _)
   | (with_reducible refine LeO.ite ?_ ?_)
   | (with_reducible refine LeO.bind ?_ (fun _ => ?_))
   | exact ih0 _ _ _ _ _ _ _ _
   | exact ih1 _ _ _ _ _ _ _ _ _ _
   | exact ih2 _ _ _ _ _ _ _ _ _ _ _
   | exact ih3 _ _ _ _ _ _ _ _ _ _ _ _
   | exact ih4 _ _ _ _ _ _ _ _ _ _ _ _ _ _
   | exact ih5 _ _ _ _ _ _ _ _ _ _ _ _
   | exact ih6 _ _ _ _ _ _ _ _ _ _ _ _ _ _
   | exact trim_Reach.mono _ _ _ _ _ _ _
   | exact tutorlaw04_live.mono _
   | exact tutorref01_Ahead.mono _ _ _
   | exact tutorref01_Check.mono _ _ _
   | exact tutorref01_Same.mono _ _ _
   | exact tutorref03_Go.mono _ _ _ _ _ _ _ _ _
   | exact LeO.none _
   | refine LeO.ite ?_ ?_
   | refine LeO.bind ?_ (fun _ => ?_)
  ·intro y0 y1 y2 y3 y4 y5 y6 y7 y8 y9
   unfold tutorlaw04_TrimLeast.j1
   repeat' first
   | (with_reducible exact ih0 _ _ _ _ _ _ _ _)
   | (with_reducible exact ih1 _ _ _ _ _ _ _ _ _ _)
   | (with_reducible exact ih2 _ _ _ _ _ _ _ _ _ _ _)
   | (with_reducible exact ih3 _ _ _ _ _ _ _ _ _ _ _ _)
   | (with_reducible exact ih4 _ _ _ _ _ _ _ _ _ _ _ _ _ _)
   | (with_reducible exact ih5 _ _ _ _ _ _ _ _ _ _ _ _)
   | (with_reducible exact ih6 _ _ _ _ _ _ _ _ _ _ _ _ _ _)
   | (with_reducible exact trim_Reach.mono _ _ _ _ _ _ _)
   | (with_reducible exact tutorlaw04_live.mono _)
   | (with_reducible exact tutorref01_Ahead.mono _ _ _)
   | (with_reducible exact tutorref01_Check.mono _ _ _)
   | (with_reducible exact tutorref01_Same.mono _ _ _)
   | (with_reducible exact tutorref03_Go.mono _ _ _ _ _ _ _ _ _)
   | (with_reducible exact LeO.refl _)
   | (with_reducible exact LeO.none _)
   | (with_reducible refine LeO.ite ?_ ?_)
   | (with_reducible refine LeO.bind ?_ (fun _ => ?_))
   | exact ih0 _ _ _ _ _ _ _ _
   | exact ih1 _ _ _ _ _ _ _ _ _ _
   | exact ih2 _ _ _ _ _ _ _ _ _ _ _
   | exact ih3 _ _ _ _ _ _ _ _ _ _ _ _
   | exact ih4 _ _ _ _ _ _ _ _ _ _ _ _ _ _
   | exact ih5 _ _ _ _ _ _ _ _ _ _ _ _
   | exact ih6 _ _ _ _ _ _ _ _ _ _ _ _ _ _
   | exact trim_Reach.mono _ _ _ _ _ _ _
   | exact tutorlaw04_live.mono _
   | exact tutorref01_Ahead.mono _ _ _
   | exact tutorref01_Check.mono _ _ _
   | exact tutorref01_Same.mono _ _ _
   | exact tutorref03_Go.mono _ _ _ _ _ _ _ _ _
   | exact LeO.none _
   | refine LeO.ite ?_ ?_
   | refine LeO.bind ?_ (fun _ => ?_)
  ·intro y0 y1 y2 y3 y4 y5 y6 y7 y8 y9 y10
   unfold tutorlaw04_TrimLeast.j2
   repeat' first
   | (with_reducible exact ih0 _ _ _ _ _ _ _ _)
   | (with_reducible exact ih1 _ _ _ _ _ _ _ _ _ _)
   | (with_reducible exact ih2 _ _ _ _ _ _ _ _ _ _ _)
   | (with_reducible exact ih3 _ _ _ _ _ _ _ _ _ _ _ _)
   | (with_reducible exact ih4 _ _ _ _ _ _ _ _ _ _ _ _ _ _)
   | (with_reducible exact ih5 _ _ _ _ _ _ _ _ _ _ _ _)
   | (with_reducible exact ih6 _ _ _ _ _ _ _ _ _ _ _ _ _ _)
   | (with_reducible exact trim_Reach.mono _ _ _ _ _ _ _)
   | (with_reducible exact tutorlaw04_live.mono _)
   | (with_reducible exact tutorref01_Ahead.mono _ _ _)
   | (with_reducible exact tutorref01_Check.mono _ _ _)
   | (with_reducible exact tutorref01_Same.mono _ _ _)
   | (with_reducible exact tutorref03_Go.mono _ _ _ _ _ _ _ _ _)
   | (with_reducible exact LeO.refl _)
   | (with_reducible exact LeO.none _)
   | (with_reducible refine LeO.ite ?_ ?_)
   | (with_reducible refine LeO.bind ?_ (fun _ => ?_))
   | exact ih0 _ _ _ _ _ _ _ _
   | exact ih1 _ _ _ _ _ _ _ _ _ _
   | exact ih2 _ _ _ _ _ _ _ _ _ _ _
   | exact ih3 _ _ _ _ _ _ _ _ _ _ _ _
   | exact ih4 _ _ _ _ _ _ _ _ _ _ _ _ _ _
   | exact ih5 _ _ _ _ _ _ _ _ _ _ _ _
   | exact ih6 _ _ _ _ _ _ _ _ _ _ _ _ _ _
   | exact trim_Reach.mono _ _ _ _ _ _ _
   | exact tutorlaw04_live.mono _
   | exact tutorref01_Ahead.mono _ _ _
   | exact tutorref01_Check.mono _ _ _
   | exact tutorref01_Same.mono _ _ _
   | exact tutorref03_Go.mono _ _ _ _ _ _ _ _ _
   | exact LeO.none _
   | refine LeO.ite ?_ ?_
   | refine LeO.bind ?_ (fun _ => ?_)
  ·intro y0 y1 y2 y3 y4 y5 y6 y7 y8 y9 y10 y11
   unfold tutorlaw04_TrimLeast.l0
   repeat' first
   | (with_reducible exact ih0 _ _ _ _ _ _ _ _)
   | (with_reducible exact ih1 _ _ _ _ _ _ _ _ _ _)
   | (with_reducible exact ih2 _ _ _ _ _ _ _ _ _ _ _)
   | (with_reducible exact ih3 _ _ _ _ _ _ _ _ _ _ _ _)
   | (with_reducible exact ih4 _ _ _ _ _ _ _ _ _ _ _ _ _ _)
   | (with_reducible exact ih5 _ _ _ _ _ _ _ _ _ _ _ _)
   | (with_reducible exact ih6 _ _ _ _ _ _ _ _ _ _ _ _ _ _)
   | (with_reducible exact trim_Reach.mono _ _ _ _ _ _ _)
   | (with_reducible exact tutorlaw04_live.mono _)
   | (with_reducible exact tutorref01_Ahead.mono _ _ _)
   | (with_reducible exact tutorref01_Check.mono _ _ _)
   | (with_reducible exact tutorref01_Same.mono _ _ _)
   | (with_reducible exact tutorref03_Go.mono _ _ _ _ _ _ _ _ _)
   | (with_reducible exact LeO.refl _)
   | (with_reducible exact LeO.none _)
   | (with_reducible refine LeO.ite ?_ ?_)
   | (with_reducible refine LeO.bind ?_ (fun _ => ?_))
   | exact ih0 _ _ _ _ _ _ _ _
   | exact ih1 _ _ _ _ _ _ _ _ _ _
   | exact ih2 _ _ _ _ _ _ _ _ _ _ _
   | exact ih3 _ _ _ _ _ _ _ _ _ _ _ _
   | exact ih4 _ _ _ _ _ _ _ _ _ _ _ _ _ _
   | exact ih5 _ _ _ _ _ _ _ _ _ _ _ _
   | exact ih6 _ _ _ _ _ _ _ _ _ _ _ _ _ _
   | exact trim_Reach.mono _ _ _ _ _ _ _
   | exact tutorlaw04_live.mono _
   | exact tutorref01_Ahead.mono _ _ _
   | exact tutorref01_Check.mono _ _ _
   | exact tutorref01_Same.mono _ _ _
   | exact tutorref03_Go.mono _ _ _ _ _ _ _ _ _
   | exact LeO.none _
   | refine LeO.ite ?_ ?_
   | refine LeO.bind ?_ (fun _ => ?_)
  ·intro y0 y1 y2 y3 y4 y5 y6 y7 y8 y9 y10 y11 y12 y13
   unfold tutorlaw04_TrimLeast.j4
   repeat' first
   | (with_reducible exact ih0 _ _ _ _ _ _ _ _)
   | (with_reducible exact ih1 _ _ _ _ _ _ _ _ _ _)
   | (with_reducible exact ih2 _ _ _ _ _ _ _ _ _ _ _)
   | (with_reducible exact ih3 _ _ _ _ _ _ _ _ _ _ _ _)
   | (with_reducible exact ih4 _ _ _ _ _ _ _ _ _ _ _ _ _ _)
   | (with_reducible exact ih5 _ _ _ _ _ _ _ _ _ _ _ _)
   | (with_reducible exact ih6 _ _ _ _ _ _ _ _ _ _ _ _ _ _)
   | (with_reducible exact trim_Reach.mono _ _ _ _ _ _ _)
   | (with_reducible exact tutorlaw04_live.mono _)
   | (with_reducible exact tutorref01_Ahead.mono _ _ _)
   | (with_reducible exact tutorref01_Check.mono _ _ _)
   | (with_reducible exact tutorref01_Same.mono _ _ _)
   | (with_reducible exact tutorref03_Go.mono _ _ _ _ _ _ _ _ _)
   | (with_reducible exact LeO.refl _)
   | (with_reducible exact LeO.none _)
   | (with_reducible refine LeO.ite ?_ ?_)
   | (with_reducible refine LeO.bind ?_ (fun _ => ?_))
   | exact ih0 _ _ _ _ _ _ _ _
   | exact ih1 _ _ _ _ _ _ _ _ _ _
   | exact ih2 _ _ _ _ _ _ _ _ _ _ _
   | exact ih3 _ _ _ _ _ _ _ _ _ _ _ _
   | exact ih4 _ _ _ _ _ _ _ _ _ _ _ _ _ _
   | exact ih5 _ _ _ _ _ _ _ _ _ _ _ _
   | exact ih6 _ _ _ _ _ _ _ _ _ _ _ _ _ _
   | exact trim_Reach.mono _ _ _ _ _ _ _
   | exact tutorlaw04_live.mono _
   | exact tutorref01_Ahead.mono _ _ _
   | exact tutorref01_Check.mono _ _ _
   | exact tutorref01_Same.mono _ _ _
   | exact tutorref03_Go.mono _ _ _ _ _ _ _ _ _
   | exact LeO.none _
   | refine LeO.ite ?_ ?_
   | refine LeO.bind ?_ (fun _ => ?_)
  ·intro y0 y1 y2 y3 y4 y5 y6 y7 y8 y9 y10 y11
   unfold tutorlaw04_TrimLeast.j5
   repeat' first
   | (with_reducible exact ih0 _ _ _ _ _ _ _ _)
   | (with_reducible exact ih1 _ _ _ _ _ _ _ _ _ _)
   | (with_reducible exact ih2 _ _ _ _ _ _ _ _ _ _ _)
   | (with_reducible exact ih3 _ _ _ _ _ _ _ _ _ _ _ _)
   | (with_reducible exact ih4 _ _ _ _ _ _ _ _ _ _ _ _ _ _)
   | (with_reducible exact ih5 _ _ _ _ _ _ _ _ _ _ _ _)
   | (with_reducible exact ih6 _ _ _ _ _ _ _ _ _ _ _ _ _ _)
   | (with_reducible exact trim_Reach.mono _ _ _ _ _ _ _)
   | (with_reducible exact tutorlaw04_live.mono _)
   | (with_reducible exact tutorref01_Ahead.mono _ _ _)
   | (with_reducible exact tutorref01_Check.mono _ _ _)
   | (with_reducible exact tutorref01_Same.mono _ _ _)
   | (with_reducible exact tutorref03_Go.mono _ _ _ _ _ _ _ _ _)
   | (with_reducible exact LeO.refl _)
   | (with_reducible exact LeO.none _)
   | (with_reducible refine LeO.ite ?_ ?_)
   | (with_reducible refine LeO.bind ?_ (fun _ => ?_))
   | exact ih0 _ _ _ _ _ _ _ _
   | exact ih1 _ _ _ _ _ _ _ _ _ _
   | exact ih2 _ _ _ _ _ _ _ _ _ _ _
   | exact ih3 _ _ _ _ _ _ _ _ _ _ _ _
   | exact ih4 _ _ _ _ _ _ _ _ _ _ _ _ _ _
   | exact ih5 _ _ _ _ _ _ _ _ _ _ _ _
   | exact ih6 _ _ _ _ _ _ _ _ _ _ _ _ _ _
   | exact trim_Reach.mono _ _ _ _ _ _ _
   | exact tutorlaw04_live.mono _
   | exact tutorref01_Ahead.mono _ _ _
   | exact tutorref01_Check.mono _ _ _
   | exact tutorref01_Same.mono _ _ _
   | exact tutorref03_Go.mono _ _ _ _ _ _ _ _ _
   | exact LeO.none _
   | refine LeO.ite ?_ ?_
   | refine LeO.bind ?_ (fun _ => ?_)
  ·intro y0 y1 y2 y3 y4 y5 y6 y7 y8 y9 y10 y11 y12 y13
   unfold tutorlaw04_TrimLeast.l1
   repeat' first
   | (with_reducible exact ih0 _ _ _ _ _ _ _ _)
   | (with_reducible exact ih1 _ _ _ _ _ _ _ _ _ _)
   | (with_reducible exact ih2 _ _ _ _ _ _ _ _ _ _ _)
   | (with_reducible exact ih3 _ _ _ _ _ _ _ _ _ _ _ _)
   | (with_reducible exact ih4 _ _ _ _ _ _ _ _ _ _ _ _ _ _)
   | (with_reducible exact ih5 _ _ _ _ _ _ _ _ _ _ _ _)
   | (with_reducible exact ih6 _ _ _ _ _ _ _ _ _ _ _ _ _ _)
   | (with_reducible exact trim_Reach.mono _ _ _ _ _ _ _)
   | (with_reducible exact tutorlaw04_live.mono _)
   | (with_reducible exact tutorref01_Ahead.mono _ _ _)
   | (with_reducible exact tutorref01_Check.mono _ _ _)
   | (with_reducible exact tutorref01_Same.mono _ _ _)
   | (with_reducible exact tutorref03_Go.mono _ _ _ _ _ _ _ _ _)
   | (with_reducible exact LeO.refl _)
   | (with_reducible exact LeO.none _)
   | (with_reducible refine LeO.ite ?_ ?_)
   | (with_reducible refine LeO.bind ?_ (fun _ => ?_))
   | exact ih0 _ _ _ _ _ _ _ _
   | exact ih1 _ _ _ _ _ _ _ _ _ _
   | exact ih2 _ _ _ _ _ _ _ _ _ _ _
   | exact ih3 _ _ _ _ _ _ _ _ _ _ _ _
   | exact ih4 _ _ _ _ _ _ _ _ _ _ _ _ _ _
   | exact ih5 _ _ _ _ _ _ _ _ _ _ _ _
   | exact ih6 _ _ _ _ _ _ _ _ _ _ _ _ _ _
   | exact trim_Reach.mono _ _ _ _ _ _ _
   | exact tutorlaw04_live.mono _
   | exact tutorref01_Ahead.mono _ _ _
   | exact tutorref01_Check.mono _ _ _
   | exact tutorref01_Same.mono _ _ _
   | exact tutorref03_Go.mono _ _ _ _ _ _ _ _ _
   | exact LeO.none _
   | refine LeO.ite ?_ ?_
   | refine LeO.bind ?_ (fun _ => ?_)
theorem tutorlaw04_TrimLeast.mono : ∀ a0 a1 a2 a3 a4 a5 a6 k, LeO (tutorlaw04_TrimLeast.f k a0 a1 a2 a3 a4 a5 a6) (tutorlaw04_TrimLeast.f (k + 1) a0 a1 a2 a3 a4 a5 a6) := by
 intro a0 a1 a2 a3 a4 a5 a6 k
 obtain ⟨ih0, ih1, ih2, ih3, ih4, ih5, ih6⟩ := tutorlaw04_TrimLeast.mono_l k
 unfold tutorlaw04_TrimLeast.f
 repeat' first
   | (with_reducible exact ih0 _ _ _ _ _ _ _ _)
   | (with_reducible exact ih1 _ _ _ _ _ _ _ _ _ _)
   | (with_reducible exact ih2 _ _ _ _ _ _ _ _ _ _ _)
   | (with_reducible exact ih3 _ _ _ _ _ _ _ _ _ _ _ _)
   | (with_reducible exact ih4 _ _ _ _ _ _ _ _ _ _ _ _ _ _)
   | (with_reducible exact ih5 _ _ _ _ _ _ _ _ _ _ _ _)
   | (with_reducible exact ih6 _ _ _ _ _ _ _ _ _ _ _ _ _ _)
   | (with_reducible exact trim_Reach.mono _ _ _ _ _ _ _)
   | (with_reducible exact tutorlaw04_live.mono _)
   | (with_reducible exact tutorref01_Ahead.mono _ _ _)
   | (with_reducible exact tutorref01_Check.mono _ _ _)
   | (with_reducible exact tutorref01_Same.mono _ _ _)
   | (with_reducible exact tutorref03_Go.mono _ _ _ _ _ _ _ _ _)
   | (with_reducible exact LeO.refl _)
   | (with_reducible exact LeO.none _)
   | (with_reducible refine LeO.ite ?_ ?_)
   | (with_reducible refine LeO.bind ?_ (fun _ => ?_))
   | exact ih0 _ _ _ _ _ _ _ _
   | exact ih1 _ _ _ _ _ _ _ _ _ _
   | exact ih2 _ _ _ _ _ _ _ _ _ _ _
   | exact ih3 _ _ _ _ _ _ _ _ _ _ _ _
   | exact ih4 _ _ _ _ _ _ _ _ _ _ _ _ _ _
   | exact ih5 _ _ _ _ _ _ _ _ _ _ _ _
   | exact ih6 _ _ _ _ _ _ _ _ _ _ _ _ _ _
   | exact trim_Reach.mono _ _ _ _ _ _ _
   | exact tutorlaw04_live.mono _
   | exact tutorref01_Ahead.mono _ _ _
   | exact tutorref01_Check.mono _ _ _
   | exact tutorref01_Same.mono _ _ _
   | exact tutorref03_Go.mono _ _ _ _ _ _ _ _ _
   | exact LeO.none _
   | refine LeO.ite ?_ ?_
   | refine LeO.bind ?_ (fun _ => ?_)
def tutorlaw04_TrimLeast.T16 : Bool × List (List Nat × List Nat) := (true, [([], []), ([], []), ([], []), ([1, 2], [1, 2]), ([3], [3]), ([0, 4], [0, 4]), ([5], [5]), ([6], [6]), ([6], [6]), ([7, 5, 0, 1, 2, 3, 4, 5, 6, 7], [7]), ([8, 9, 0, 1, 2, 3, 4, 5, 6, 7, 8, 9], [8])])
def tutorlaw04_TrimLeast.B16 : List Nat := [0, 0, 0, 6, 14, 31, 63, 127, 127, 255, 1023]
theorem tutorlaw04_TrimLeast.tab16 : rtab .any (opsOf Try.f6 16) = tutorlaw04_TrimLeast.T16 := by kernel_rfl
theorem tutorlaw04_TrimLeast.bits16 : waitsOk tutorlaw04_TrimLeast.T16.2 tutorlaw04_TrimLeast.B16 = true := by kernel_rfl
def tutorlaw04_TrimLeast.T17 : Bool × List (List Nat × List Nat) := (true, [([], []), ([], []), ([], []), ([1, 2], [1, 2]), ([3], [3]), ([0, 4], [0, 4]), ([5], [5]), ([6], [6]), ([7, 6], [6, 7]), ([8, 6, 6], [6, 8]), ([9], [9]), ([9], [9]), ([11, 9], [9, 11]), ([10, 12, 9], [9, 10, 12]), ([13, 9], [9, 13]), ([9], [9]), ([9], [9]), ([15, 16, 9], [9, 15, 16]), ([17, 9], [9, 17]), ([14, 18, 9, 9], [9, 14, 18]), ([19, 9], [9, 19]), ([9, 20, 6], [6, 9, 20]), ([6, 21], [6, 21])])
def tutorlaw04_TrimLeast.B17 : List Nat := [0, 0, 0, 6, 14, 31, 63, 127, 255, 511, 1023, 1023, 3071, 8191, 16383, 1023, 1023, 99327, 230399, 524287, 1048575, 2097151, 4194303]
theorem tutorlaw04_TrimLeast.tab17 : rtab .any (opsOf Try.f6 17) = tutorlaw04_TrimLeast.T17 := by kernel_rfl
theorem tutorlaw04_TrimLeast.bits17 : waitsOk tutorlaw04_TrimLeast.T17.2 tutorlaw04_TrimLeast.B17 = true := by kernel_rfl
def tutorlaw04_TrimLeast.T28 : Bool × List (List Nat × List Nat) := (true, [([], []), ([0], [0]), ([1], [1]), ([1], [1]), ([2, 3, 1], [1, 2, 3]), ([4, 1], [1, 4]), ([1], [1]), ([1], [1]), ([6, 7, 1], [1, 6, 7]), ([8, 1], [1, 8]), ([1], [1]), ([1], [1]), ([10, 11, 1], [1, 10, 11]), ([12, 1], [1, 12]), ([13, 1], [1, 13]), ([14, 1], [1, 14]), ([9, 15, 1], [1, 9, 15]), ([5, 16, 1, 1], [1, 5, 16]), ([1, 17], [1, 17]), ([18, 17, 0, 1, 2, 3, 4, 5, 6, 7, 8, 9, 10, 11, 12, 13, 14, 15, 16, 17, 18], [0, 18])])
def tutorlaw04_TrimLeast.B28 : List Nat := [0, 1, 3, 3, 15, 31, 3, 3, 195, 451, 3, 3, 3075, 7171, 15363, 31747, 65475, 131071, 262143, 524287]
theorem tutorlaw04_TrimLeast.tab28 : rtab .any (opsOf Try.f6 28) = tutorlaw04_TrimLeast.T28 := by kernel_rfl
theorem tutorlaw04_TrimLeast.bits28 : waitsOk tutorlaw04_TrimLeast.T28.2 tutorlaw04_TrimLeast.B28 = true := by kernel_rfl
set_option maxHeartbeats 8000000 in
set_option maxRecDepth 100000 in
theorem tutorlaw04_TrimLeast.calls (k : Nat) (a0_0 : Int) (a0_1 : Int) (a0_2 : Int) (a0_3 : Int) (A0_4 : Option Addr) (c0_4 : Nat) (l0_4 : List Int) (A0_5 : Option Addr) (c0_5 : Nat) (l0_5 : List Int) (A1 : Option Addr) (c1 : Nat) (l1 : List Int) (r : Bool) (w : World) (hr0_4 : Kd.C (Kd.int .i64) w A0_4 l0_4.length l0_4) (hc0_4 : l0_4.length ≤ c0_4) (hr0_5 : Kd.C (Kd.int .i64) w A0_5 l0_5.length l0_5) (hc0_5 : l0_5.length ≤ c0_5) (hr1 : Kd.C (Kd.int .i64) w A1 l1.length l1) (hc1 : l1.length ≤ c1) (h : tutorlaw04_TrimLeast.f k a0_0 a0_1 a0_2 a0_3 l0_4 l0_5 l1 = some r) :
  Calls Try.prog 6 #[.agg #[.int .i64 a0_0, .int .i64 a0_1, .int .i64 a0_2, .int .i64 a0_3, .slice A0_4 l0_4.length c0_4, .slice A0_5 l0_5.length c0_5], .slice A1 l1.length c1] w fun e w' => e = .returned (.bool r) ∧ Below w.heap.size w w' := by
 have hu24 := Try.underlying24
 have HR0_4 := Aside0.mk hr0_4
 have HC0_4 := Aside0.mk hc0_4
 clear hr0_4 hc0_4
 have HR0_5 := Aside0.mk hr0_5
 have HC0_5 := Aside0.mk hc0_5
 clear hr0_5 hc0_5
 have HR1 := Aside0.mk hr1
 have HC1 := Aside0.mk hc1
 clear hr1 hc1
 have HB := Aside0.mk (Below.refl w.heap.size w)
 have H : ((tutorref03_Big.f a0_0 a0_1 a0_2 a0_3 l0_4 l0_5 300).bind fun t444 => (if t444 = true then (tutorlaw04_TrimLeast.j0 k l1 true a0_0 a0_1 a0_2 a0_3 l0_4 l0_5) else (tutorlaw04_TrimLeast.j0 k l1 (decide ((l1.length : Int) > 2000)) a0_0 a0_1 a0_2 a0_3 l0_4 l0_5))) = some r := h
 clear h
 have HC3 := Aside0.mk H
 clear H
 go_enter Try.func6, Try.ntmps6
 go_upto_region 1 with (first | ((with_reducible refine gate_dst (N := 2) rfl ?_); (try (refine gate_guard (by rfl) ?_; dsimp only)); refine box_event ?hg (N := 2) ?hd (cs := #[.int .i64 a0_0, .int .i64 a0_1, .int .i64 a0_2, .int .i64 a0_3, .slice A0_4 l0_4.length c0_4, .slice A0_5 l0_5.length c0_5]) (t := 24) ?hr ?_; (case hd => rfl); (case hg => rfl); (case hr => first | (go_simp; done) | (go_simp; rfl)); intro gb443 hg w4 hbox hb; have n0_ := Aside0.mk (below_step (by repeat (first | (with_reducible first | exact HB.out | apply below_alloc | apply pw_below_drewN | apply below_drew1) | exact HB.out)) hb); have n1_ := Aside0.mk (hbox); have n2_ := Aside0.mk ((by rw [hg]; exact (below_size (by repeat (first | (with_reducible first | exact HB.out | apply below_alloc | apply pw_below_drewN | apply below_drew1) | exact HB.out))) : w.heap.size ≤ gb443)); have n3_ := Aside0.mk ((by rw [hg]; exact (below_size (by repeat (first | (with_reducible first | exact HB.out | apply below_alloc | apply pw_below_drewN | apply below_drew1) | exact HB.out))) : w.heap.size ≤ gb443)); clear HB; have HB := n0_; have BK443 := n1_; have GW443 := n2_; have GE443 := n3_; clear n0_ n1_ n2_ n3_; clear hb hbox hg))
 (try simp only [Act.put, List.setIfInBounds_toArray, List.set_cons_zero, List.set_cons_succ])
 go_cut [23] (fun v23 wc => ∃ (kq : Nat) (x23_2 : Bool), v23 = .bool x23_2 ∧ Aside0 (tutorlaw04_TrimLeast.j0 kq l1 x23_2 a0_0 a0_1 a0_2 a0_3 l0_4 l0_5 = some r) ∧ Aside0 (kq ≤ k) ∧ Aside0 (wc.heap[gb443]? = some (.cells #[.int .i64 a0_0, .int .i64 a0_1, .int .i64 a0_2, .int .i64 a0_3, (.slice A0_4 l0_4.length c0_4), (.slice A0_5 l0_5.length c0_5)] 24 (0, 0))) ∧ Aside0 (Below w.heap.size w wc))
 case first =>
  have H := HC3.out
  clear HC3
  replace H := Option.bind_eq_some_iff.mp H
  obtain ⟨t444, A50, H⟩ := H
  replace H : (if t444 = true then (tutorlaw04_TrimLeast.j0 k l1 true a0_0 a0_1 a0_2 a0_3 l0_4 l0_5) else (tutorlaw04_TrimLeast.j0 k l1 (decide ((l1.length : Int) > 2000)) a0_0 a0_1 a0_2 a0_3 l0_4 l0_5)) = some r := H
  have A5 := Aside0.mk A50
  clear A50
  by_cases c6 : t444 = true
  ·subst c6
   have H1 : (tutorlaw04_TrimLeast.j0 k l1 true a0_0 a0_1 a0_2 a0_3 l0_4 l0_5) = some r := by rw [if_pos rfl] at H; exact H
   clear H
   have H := H1
   clear H1
   have H' := Aside0.mk H
   clear H
   have hcz7_0 : w4.cell? ⟨gb443, 0, none⟩ = some (.int .i64 a0_0) := (blk_cell BK443.out 0).trans rfl
   have hcz7_1 : w4.cell? ⟨gb443, 1, none⟩ = some (.int .i64 a0_1) := (blk_cell BK443.out 1).trans rfl
   have hcz7_2 : w4.cell? ⟨gb443, 2, none⟩ = some (.int .i64 a0_2) := (blk_cell BK443.out 2).trans rfl
   have hcz7_3 : w4.cell? ⟨gb443, 3, none⟩ = some (.int .i64 a0_3) := (blk_cell BK443.out 3).trans rfl
   have hcz7_4 : w4.cell? ⟨gb443, 4, none⟩ = some (.slice A0_4 l0_4.length c0_4) := (blk_cell BK443.out 4).trans rfl
   have hcz7_5 : w4.cell? ⟨gb443, 5, none⟩ = some (.slice A0_5 l0_5.length c0_5) := (blk_cell BK443.out 5).trans rfl
   have hfz7_0 := blk_frozen BK443.out 0
   have hfz7_1 := blk_frozen BK443.out 1
   have hfz7_2 := blk_frozen BK443.out 2
   have hfz7_3 := blk_frozen BK443.out 3
   have hfz7_4 := blk_frozen BK443.out 4
   have hfz7_5 := blk_frozen BK443.out 5
   go_wp2_with (first | ((with_reducible refine gate_callee (f := 15) rfl ?_); refine goesL_ (some 18) rfl rfl Try.func15 (by kernel_rfl) rfl #[.agg #[.int .i64 a0_0, .int .i64 a0_1, .int .i64 a0_2, .int .i64 a0_3, .slice A0_4 l0_4.length c0_4, .slice A0_5 l0_5.length c0_5], .int .i64 300] rfl (by (try simp only [List.map_toArray, List.map_cons, List.map_nil]); first | done | rfl | (simp only [List.length_drop, List.length_take]; rfl)) ?_; (with_reducible refine (tutorref03_Big.calls a0_0 a0_1 a0_2 a0_3 _ _ l0_4 _ _ l0_5 300 true _ ?side1 ?side2 ?side3 ?side4 A5.out).mono ?_); (case side1 => repeat (first | exact (Kd.C_below HR0_4.out HB.out) | (with_reducible refine Kd.C_alloc ?_ _) | (with_reducible refine Kd.C_drewN ?_ _) | (with_reducible refine Kd.C_drew ?_))); (case side2 => exact HC0_4.out); (case side3 => repeat (first | exact (Kd.C_below HR0_5.out HB.out) | (with_reducible refine Kd.C_alloc ?_ _) | (with_reducible refine Kd.C_drewN ?_ _) | (with_reducible refine Kd.C_drew ?_))); (case side4 => exact HC0_5.out); rintro e w8 ⟨rfl, hb⟩; refine ⟨_, rfl, ?_⟩; have n0_ := Aside0.mk (blk_below (g := gb443) (o := .cells #[.int .i64 a0_0, .int .i64 a0_1, .int .i64 a0_2, .int .i64 a0_3, .slice A0_4 l0_4.length c0_4, .slice A0_5 l0_5.length c0_5] 24 (0, 0)) (by (with_reducible repeat (first | refine blk_drewN ?_ _ | refine blk_drew ?_ | refine blk_alloc ?_ _)); exact BK443.out) hb); have n1_ := Aside0.mk (below_step (by repeat (first | (with_reducible first | exact HB.out | apply below_alloc | apply pw_below_drewN | apply below_drew1 | refine below_set ?_ GE443.out) | exact HB.out)) hb); clear BK443; clear HB; have BK443 := n0_; have HB := n1_; clear n0_ n1_; (try clear hb); (try clear hb2); (try clear hk); (try clear hi)))
   go_meet
   case rel => exact ⟨_, (true), (by first | rfl | (simp; done) | (simp [*]; done)), H', ⟨by first | omega | exact Nat.le_refl _⟩, ⟨by (with_reducible repeat (first | refine blk_drewN ?_ _ | refine blk_drew ?_ | refine blk_alloc ?_ _)); exact BK443.out⟩, ⟨by repeat (first | (with_reducible first | exact HB.out | apply below_alloc | apply pw_below_drewN | apply below_drew1 | refine below_set ?_ GE443.out) | exact HB.out)⟩⟩
  ·replace c6 := Bool.eq_false_iff.mpr c6
   subst c6
   have H1 : (tutorlaw04_TrimLeast.j0 k l1 (decide ((l1.length : Int) > 2000)) a0_0 a0_1 a0_2 a0_3 l0_4 l0_5) = some r := by rw [if_neg (show ¬ (false = true) by decide)] at H; exact H
   clear H
   have H := H1
   clear H1
   have H' := Aside0.mk H
   clear H
   have hcz9_0 : w4.cell? ⟨gb443, 0, none⟩ = some (.int .i64 a0_0) := (blk_cell BK443.out 0).trans rfl
   have hcz9_1 : w4.cell? ⟨gb443, 1, none⟩ = some (.int .i64 a0_1) := (blk_cell BK443.out 1).trans rfl
   have hcz9_2 : w4.cell? ⟨gb443, 2, none⟩ = some (.int .i64 a0_2) := (blk_cell BK443.out 2).trans rfl
   have hcz9_3 : w4.cell? ⟨gb443, 3, none⟩ = some (.int .i64 a0_3) := (blk_cell BK443.out 3).trans rfl
   have hcz9_4 : w4.cell? ⟨gb443, 4, none⟩ = some (.slice A0_4 l0_4.length c0_4) := (blk_cell BK443.out 4).trans rfl
   have hcz9_5 : w4.cell? ⟨gb443, 5, none⟩ = some (.slice A0_5 l0_5.length c0_5) := (blk_cell BK443.out 5).trans rfl
   have hfz9_0 := blk_frozen BK443.out 0
   have hfz9_1 := blk_frozen BK443.out 1
   have hfz9_2 := blk_frozen BK443.out 2
   have hfz9_3 := blk_frozen BK443.out 3
   have hfz9_4 := blk_frozen BK443.out 4
   have hfz9_5 := blk_frozen BK443.out 5
   go_wp2_with (first | ((with_reducible refine gate_callee (f := 15) rfl ?_); refine goesL_ (some 18) rfl rfl Try.func15 (by kernel_rfl) rfl #[.agg #[.int .i64 a0_0, .int .i64 a0_1, .int .i64 a0_2, .int .i64 a0_3, .slice A0_4 l0_4.length c0_4, .slice A0_5 l0_5.length c0_5], .int .i64 300] rfl (by (try simp only [List.map_toArray, List.map_cons, List.map_nil]); first | done | rfl | (simp only [List.length_drop, List.length_take]; rfl)) ?_; (with_reducible refine (tutorref03_Big.calls a0_0 a0_1 a0_2 a0_3 _ _ l0_4 _ _ l0_5 300 false _ ?side1 ?side2 ?side3 ?side4 A5.out).mono ?_); (case side1 => repeat (first | exact (Kd.C_below HR0_4.out HB.out) | (with_reducible refine Kd.C_alloc ?_ _) | (with_reducible refine Kd.C_drewN ?_ _) | (with_reducible refine Kd.C_drew ?_))); (case side2 => exact HC0_4.out); (case side3 => repeat (first | exact (Kd.C_below HR0_5.out HB.out) | (with_reducible refine Kd.C_alloc ?_ _) | (with_reducible refine Kd.C_drewN ?_ _) | (with_reducible refine Kd.C_drew ?_))); (case side4 => exact HC0_5.out); rintro e w10 ⟨rfl, hb⟩; refine ⟨_, rfl, ?_⟩; have n0_ := Aside0.mk (blk_below (g := gb443) (o := .cells #[.int .i64 a0_0, .int .i64 a0_1, .int .i64 a0_2, .int .i64 a0_3, .slice A0_4 l0_4.length c0_4, .slice A0_5 l0_5.length c0_5] 24 (0, 0)) (by (with_reducible repeat (first | refine blk_drewN ?_ _ | refine blk_drew ?_ | refine blk_alloc ?_ _)); exact BK443.out) hb); have n1_ := Aside0.mk (below_step (by repeat (first | (with_reducible first | exact HB.out | apply below_alloc | apply pw_below_drewN | apply below_drew1 | refine below_set ?_ GE443.out) | exact HB.out)) hb); clear BK443; clear HB; have BK443 := n0_; have HB := n1_; clear n0_ n1_; (try clear hb); (try clear hb2); (try clear hk); (try clear hi)))
   go_meet
   case rel => exact ⟨_, (decide ((l1.length : Int) > 2000)), (by first | rfl | (simp; done) | (simp [*]; done)), H', ⟨by first | omega | exact Nat.le_refl _⟩, ⟨by (with_reducible repeat (first | refine blk_drewN ?_ _ | refine blk_drew ?_ | refine blk_alloc ?_ _)); exact BK443.out⟩, ⟨by repeat (first | (with_reducible first | exact HB.out | apply below_alloc | apply pw_below_drewN | apply below_drew1 | refine below_set ?_ GE443.out) | exact HB.out)⟩⟩
 case rest =>
  clear HC3
  try clear c1
  try clear p2
  try clear c6
  try clear hcz7_0
  try clear hcz7_1
  try clear hcz7_2
  try clear hcz7_3
  try clear hcz7_4
  try clear hcz7_5
  try clear hcz9_0
  try clear hcz9_1
  try clear hcz9_2
  try clear hcz9_3
  try clear hcz9_4
  try clear hcz9_5
  try clear hfz7_0
  try clear hfz7_1
  try clear hfz7_2
  try clear hfz7_3
  try clear hfz7_4
  try clear hfz7_5
  try clear hfz9_0
  try clear hfz9_1
  try clear hfz9_2
  try clear hfz9_3
  try clear hfz9_4
  try clear hfz9_5
  obtain ⟨kq, x23_2, rfl, HA, HJ2, BK443, HB⟩ := hcut
  cases kq with
  | zero => exact absurd HA.out (by simp [tutorlaw04_TrimLeast.j0])
  | succ kj2 =>
   have H := HA.out
   clear HA
   simp only [tutorlaw04_TrimLeast.j0] at H
   by_cases c11 : x23_2 = true
   ·subst c11
    have H1 : ((tutorlaw04_live.f kj2).bind fun t445 => (some t445)) = some r := by rw [if_pos rfl] at H; exact H
    clear H
    have H := H1
    clear H1
    replace H := Option.bind_eq_some_iff.mp H
    obtain ⟨t445, A120, H⟩ := H
    replace H : (some t445) = some r := H
    have A12 := Aside0.mk A120
    clear A120
    obtain rfl := Option.some.inj H
    go_wp2_with (first | ((with_reducible refine gate_callee (f := 16) rfl ?_); refine goesL_ (some 24) rfl rfl Try.func16 (by kernel_rfl) rfl #[] rfl (by (try simp only [List.map_toArray, List.map_cons, List.map_nil]); first | done | rfl | (simp only [List.length_drop, List.length_take]; rfl)) ?_; (with_reducible refine (tutorlaw04_live.calls kj2  t445 _ A12.out).mono ?_); rintro e w13 ⟨rfl, hb⟩; refine ⟨_, rfl, ?_⟩; have n0_ := Aside0.mk (blk_below (g := gb443) (o := .cells #[.int .i64 a0_0, .int .i64 a0_1, .int .i64 a0_2, .int .i64 a0_3, .slice A0_4 l0_4.length c0_4, .slice A0_5 l0_5.length c0_5] 24 (0, 0)) (by (with_reducible repeat (first | refine blk_drewN ?_ _ | refine blk_drew ?_ | refine blk_alloc ?_ _)); exact BK443.out) hb); have n1_ := Aside0.mk (below_step (by repeat (first | (with_reducible first | exact HB.out | apply below_alloc | apply pw_below_drewN | apply below_drew1 | refine below_set ?_ GE443.out) | exact HB.out)) hb); clear BK443; clear HB; have BK443 := n0_; have HB := n1_; clear n0_ n1_; (try clear hb); (try clear hb2); (try clear hk); (try clear hi)))
    go_ret
    exact ⟨by first | rfl | (simp [errW_none, errW_some] <;> rfl) | (simp [*, errW_none, errW_some] <;> rfl), by repeat (first | (with_reducible first | exact HB.out | apply below_alloc | apply pw_below_drewN | apply below_drew1 | refine below_set ?_ GE443.out) | exact HB.out)⟩
   ·replace c11 := Bool.eq_false_iff.mpr c11
    subst c11
    have H1 : ((trim_Reach.f kj2 a0_0 a0_1 a0_2 a0_3 l0_4 l0_5).bind fun bt446 => ((tutorlaw04_num.f bt446.2.2).bind fun t453 => (if t453 = 0 then (if (bt446.1.length : Int) = (bt446.2.1.length : Int) then (if (bt446.1.length : Int) = 0 then (tutorlaw04_TrimLeast.j1 kj2 l1 bt446.1 bt446.2.1 true a0_0 a0_1 a0_2 a0_3 l0_4 l0_5) else (if 0 < (bt446.2.1.length : Int) then (tutorlaw04_TrimLeast.j1 kj2 l1 bt446.1 bt446.2.1 (((rd_L1 bt446.2.1 0).length : Int) != 0) a0_0 a0_1 a0_2 a0_3 l0_4 l0_5) else (none))) else (tutorlaw04_TrimLeast.j1 kj2 l1 bt446.1 bt446.2.1 true a0_0 a0_1 a0_2 a0_3 l0_4 l0_5)) else (if (wrap64 ((bt446.1.length : Int) + (bt446.2.1.length : Int))) = 0 then ((tutorlaw04_live.f kj2).bind fun t454 => (some t454)) else (none))))) = some r := by rw [if_neg (show ¬ (false = true) by decide)] at H; exact H
    clear H
    have H := H1
    clear H1
    replace H := Option.bind_eq_some_iff.mp H
    obtain ⟨⟨t446, t449, t452⟩, A140, H⟩ := H
    replace H : ((tutorlaw04_num.f t452).bind fun t453 => (if t453 = 0 then (if (t446.length : Int) = (t449.length : Int) then (if (t446.length : Int) = 0 then (tutorlaw04_TrimLeast.j1 kj2 l1 t446 t449 true a0_0 a0_1 a0_2 a0_3 l0_4 l0_5) else (if 0 < (t449.length : Int) then (tutorlaw04_TrimLeast.j1 kj2 l1 t446 t449 (((rd_L1 t449 0).length : Int) != 0) a0_0 a0_1 a0_2 a0_3 l0_4 l0_5) else (none))) else (tutorlaw04_TrimLeast.j1 kj2 l1 t446 t449 true a0_0 a0_1 a0_2 a0_3 l0_4 l0_5)) else (if (wrap64 ((t446.length : Int) + (t449.length : Int))) = 0 then ((tutorlaw04_live.f kj2).bind fun t454 => (some t454)) else (none)))) = some r := H
    have A14 := Aside0.mk A140
    clear A140
    replace H := Option.bind_eq_some_iff.mp H
    obtain ⟨t453, A150, H⟩ := H
    replace H : (if t453 = 0 then (if (t446.length : Int) = (t449.length : Int) then (if (t446.length : Int) = 0 then (tutorlaw04_TrimLeast.j1 kj2 l1 t446 t449 true a0_0 a0_1 a0_2 a0_3 l0_4 l0_5) else (if 0 < (t449.length : Int) then (tutorlaw04_TrimLeast.j1 kj2 l1 t446 t449 (((rd_L1 t449 0).length : Int) != 0) a0_0 a0_1 a0_2 a0_3 l0_4 l0_5) else (none))) else (tutorlaw04_TrimLeast.j1 kj2 l1 t446 t449 true a0_0 a0_1 a0_2 a0_3 l0_4 l0_5)) else (if (wrap64 ((t446.length : Int) + (t449.length : Int))) = 0 then ((tutorlaw04_live.f kj2).bind fun t454 => (some t454)) else (none))) = some r := H
    have A15 := Aside0.mk A150
    clear A150
    by_cases c16 : t453 = 0
    ·rw [if_pos c16] at H
     have c16b0 : (t453 == 0) = true := beq_iff_eq.mpr c16
     have c16b1 : (t453 != 0) = false := bne_eq_false_iff_eq.mpr c16
     clear c16
     have HC17 := Aside0.mk H
     clear H
     have hcz18_0 : wc.cell? ⟨gb443, 0, none⟩ = some (.int .i64 a0_0) := (blk_cell BK443.out 0).trans rfl
     have hcz18_1 : wc.cell? ⟨gb443, 1, none⟩ = some (.int .i64 a0_1) := (blk_cell BK443.out 1).trans rfl
     have hcz18_2 : wc.cell? ⟨gb443, 2, none⟩ = some (.int .i64 a0_2) := (blk_cell BK443.out 2).trans rfl
     have hcz18_3 : wc.cell? ⟨gb443, 3, none⟩ = some (.int .i64 a0_3) := (blk_cell BK443.out 3).trans rfl
     have hcz18_4 : wc.cell? ⟨gb443, 4, none⟩ = some (.slice A0_4 l0_4.length c0_4) := (blk_cell BK443.out 4).trans rfl
     have hcz18_5 : wc.cell? ⟨gb443, 5, none⟩ = some (.slice A0_5 l0_5.length c0_5) := (blk_cell BK443.out 5).trans rfl
     have hfz18_0 := blk_frozen BK443.out 0
     have hfz18_1 := blk_frozen BK443.out 1
     have hfz18_2 := blk_frozen BK443.out 2
     have hfz18_3 := blk_frozen BK443.out 3
     have hfz18_4 := blk_frozen BK443.out 4
     have hfz18_5 := blk_frozen BK443.out 5
     go_upto_region 6 with (first | ((with_reducible refine gate_callee (f := 18) rfl ?_); refine goesL_ (some 27) rfl rfl Try.func18 (by kernel_rfl) rfl #[.agg #[.int .i64 a0_0, .int .i64 a0_1, .int .i64 a0_2, .int .i64 a0_3, .slice A0_4 l0_4.length c0_4, .slice A0_5 l0_5.length c0_5]] rfl (by (try simp only [List.map_toArray, List.map_cons, List.map_nil]); first | done | rfl | (simp only [List.length_drop, List.length_take]; rfl)) ?_; (with_reducible refine (trim_Reach.calls kj2 a0_0 a0_1 a0_2 a0_3 _ _ l0_4 _ _ l0_5 t446 t449 t452 _ ?side1 ?side2 ?side3 ?side4 A14.out).mono ?_); (case side1 => repeat (first | exact (Kd.C_below HR0_4.out HB.out) | (with_reducible refine Kd.C_alloc ?_ _) | (with_reducible refine Kd.C_drewN ?_ _) | (with_reducible refine Kd.C_drew ?_))); (case side2 => exact HC0_4.out); (case side3 => repeat (first | exact (Kd.C_below HR0_5.out HB.out) | (with_reducible refine Kd.C_alloc ?_ _) | (with_reducible refine Kd.C_drewN ?_ _) | (with_reducible refine Kd.C_drew ?_))); (case side4 => exact HC0_5.out); rintro e w19 ⟨v447, v450, rfl, ho0, ho1, hb⟩; refine ⟨_, rfl, ?_⟩; have n0_ := Aside0.mk (Kd.R_lower (Kd.R_mono (ok' := fun k_ => True) ho0 (fun _ hk_ => trivial)) (below_size (by repeat (first | (with_reducible first | exact HB.out | apply below_alloc | apply pw_below_drewN | apply below_drew1 | refine below_set ?_ GE443.out) | exact HB.out)))); have n1_ := Aside0.mk (Kd.N_lower (Kd.N_mono (ok' := fun k_ => some k_ ≠ (v447 : Value).ownBlock ∧ k_ ≠ gb443) ho1 (fun k_ hk_ => ⟨hk_.2, (Kd.freshB (g := gb443) (o := .cells #[.int .i64 a0_0, .int .i64 a0_1, .int .i64 a0_2, .int .i64 a0_3, .slice A0_4 l0_4.length c0_4, .slice A0_5 l0_5.length c0_5] 24 (0, 0)) (by (with_reducible repeat (first | refine blk_drewN ?_ _ | refine blk_drew ?_ | refine blk_alloc ?_ _)); exact BK443.out) k_ hk_.1)⟩)) (below_size (by repeat (first | (with_reducible first | exact HB.out | apply below_alloc | apply pw_below_drewN | apply below_drew1 | refine below_set ?_ GE443.out) | exact HB.out)))); have n2_ := Aside0.mk (blk_below (g := gb443) (o := .cells #[.int .i64 a0_0, .int .i64 a0_1, .int .i64 a0_2, .int .i64 a0_3, .slice A0_4 l0_4.length c0_4, .slice A0_5 l0_5.length c0_5] 24 (0, 0)) (by (with_reducible repeat (first | refine blk_drewN ?_ _ | refine blk_drew ?_ | refine blk_alloc ?_ _)); exact BK443.out) hb); have n3_ := Aside0.mk (below_step (by repeat (first | (with_reducible first | exact HB.out | apply below_alloc | apply pw_below_drewN | apply below_drew1 | refine below_set ?_ GE443.out) | exact HB.out)) hb); clear BK443; clear HB; have HO448 := n0_; have HO451 := n1_; have BK443 := n2_; have HB := n3_; clear n0_ n1_ n2_ n3_; (try clear hb); (try clear hb2); (try clear hk); (try clear hi); (try clear ho0); (try clear ho1)) | ((with_reducible refine gate_callee (f := 22) rfl ?_); refine goesL_ (some 32) rfl rfl Try.func22 (by kernel_rfl) rfl #[.int .i64 t452] rfl (by (try simp only [List.map_toArray, List.map_cons, List.map_nil]); first | done | rfl | (simp only [List.length_drop, List.length_take]; rfl)) ?_; (with_reducible refine (tutorlaw04_num.calls t452 t453 _ A15.out).mono ?_); rintro e w' ⟨rfl, ⟨nd, rfl⟩⟩; refine ⟨_, rfl, ?_⟩))
     (try simp only [Act.put, List.setIfInBounds_toArray, List.set_cons_zero, List.set_cons_succ])
     go_cut [59] (fun v59 wc => ∃ (kq : Nat) (x59_16 : Bool), v59 = .bool x59_16 ∧ Aside0 (tutorlaw04_TrimLeast.j1 kq l1 t446 t449 x59_16 a0_0 a0_1 a0_2 a0_3 l0_4 l0_5 = some r) ∧ Aside0 (kq ≤ kj2) ∧ Aside0 (Kd.R (Kd.int .i64) 3 wc w.heap.size (fun _ => True) v447 t446) ∧ Aside0 (Kd.N (Kd.slice 3 (Kd.int .i64)) 22 wc w.heap.size (fun k_ => some k_ ≠ (v447 : Value).ownBlock ∧ k_ ≠ gb443) v450 t449) ∧ Aside0 (wc.heap[gb443]? = some (.cells #[.int .i64 a0_0, .int .i64 a0_1, .int .i64 a0_2, .int .i64 a0_3, (.slice A0_4 l0_4.length c0_4), (.slice A0_5 l0_5.length c0_5)] 24 (0, 0))) ∧ Aside0 (Below w.heap.size w wc))
     case first =>
      have H := HC17.out
      clear HC17
      by_cases c20 : (t446.length : Int) = (t449.length : Int)
      ·rw [if_pos c20] at H
       have c20b0 : ((t446.length : Int) == (t449.length : Int)) = true := beq_iff_eq.mpr c20
       have c20b1 : ((t446.length : Int) != (t449.length : Int)) = false := bne_eq_false_iff_eq.mpr c20
       have c20b2 : (t446.length == t449.length) = true := by first | simpa using c20 | (simp at c20 ⊢; omega)
       clear c20
       (first | rw [c20b0] | (simp only [i64_w, i32_w]; rw [c20b0]) | skip)
       by_cases c21 : (t446.length : Int) = 0
       ·rw [if_pos c21] at H
        have c21b0 : ((t446.length : Int) == 0) = true := beq_iff_eq.mpr c21
        have c21b1 : ((t446.length : Int) != 0) = false := bne_eq_false_iff_eq.mpr c21
        clear c21
        have H' := Aside0.mk H
        clear H
        obtain ⟨Ao22, co22, eo22⟩ := Kd.R_slice HO448.out
        subst eo22
        obtain ⟨Ao23, co23, eo23⟩ := Kd.N_slice HO451.out
        subst eo23
        go_wp2
        go_meet
        case rel => exact ⟨_, (true), (by first | rfl | (simp; done) | (simp [*]; done)), H', ⟨by have := HJ2.out; first | omega | exact Nat.le_refl _⟩, ⟨by (with_reducible repeat (first | apply Kd.R_alloc | apply Kd.R_drewN | apply Kd.R_drew)); exact HO448.out⟩, ⟨by (with_reducible repeat (first | apply Kd.N_alloc | apply Kd.N_drewN | apply Kd.N_drew)); exact HO451.out⟩, ⟨by (with_reducible repeat (first | refine blk_drewN ?_ _ | refine blk_drew ?_ | refine blk_alloc ?_ _)); exact BK443.out⟩, ⟨by repeat (first | (with_reducible first | exact HB.out | apply below_alloc | apply pw_below_drewN | apply below_drew1 | refine below_set ?_ GE443.out) | exact HB.out)⟩⟩
       ·rw [if_neg c21] at H
        have c21b0 : ((t446.length : Int) == 0) = false := beq_eq_false_iff_ne.mpr c21
        have c21b1 : ((t446.length : Int) != 0) = true := bne_iff_ne.mpr c21
        have c21b2 : ¬ (t446 = []) := fun h_ => c21 (by rw [h_]; rfl)
        by_cases c24 : 0 < (t449.length : Int)
        ·rw [if_pos c24] at H
         have c24b0 : decide (0 < (t449.length : Int)) = true := decide_eq_true c24
         have c24b1 : decide (0 < t449.length) = true := decide_eq_true (by omega)
         clear c24
         have H' := Aside0.mk H
         clear H
         obtain ⟨Ao25, co25, eo25⟩ := Kd.R_slice HO448.out
         subst eo25
         obtain ⟨Ao26, co26, eo26⟩ := Kd.N_slice HO451.out
         subst eo26
         have p455 : 0 ≤ (0 : Int) := (by omega)
         have q455 : 0 < (t449.length : Int) := of_decide_eq_true (by first | (with_reducible assumption) | assumption)
         obtain ⟨ad455, A455_0, c455_0, e455, hx455_0, hl455_0, hi455_0⟩ := at_L1 (Kd.N_reads' HO451.out).2.2 0 p455 q455
         cases e455
         obtain ⟨ce455, hce455, hMe455, hcc455⟩ := Kd.N_get HO451.out [] 0 p455 (by first | exact q455 | exact of_decide_eq_true (by first | (with_reducible assumption) | assumption) | (have e_ := (Kd.N_reads' HO451.out).1; omega))
         obtain ⟨ua455_0, uc455_0, rfl, ul455_0, ge455_0⟩ := Kd.FK_slice_open hMe455
         have hv455_0 := hcc455 0 _ rfl
         rw [Nat.add_zero, show ((Kd.slice 3 (Kd.int .i64))).sz = 1 from rfl, Nat.mul_one] at hv455_0
         replace hv455_0 := Option.some.inj (hv455_0.symm.trans hx455_0)
         injection hv455_0 with hva_ hvn_ hvc_
         rw [hva_] at ge455_0
         rw [hvc_] at ul455_0
         have HL455_0 := Aside0.mk (show Kd.V (Kd.int .i64) 3 _ w.heap.size _ _ (rd_L1 t449 0) from Kd.V_mk ul455_0 ge455_0)
         clear hva_ hvn_ hvc_ ge455_0 ul455_0
         clear hcc455 hce455
         have qi455 : (0 < t449.length) = True := eq_true (by omega)
         (try rw [show ((0 : Int)).toNat = 0 from rfl] at hx455_0)
         (try rw [Addr.add_zero'] at hx455_0)
         have HR455_0 := Aside0.mk hi455_0
         have HC455_0 := Aside0.mk hl455_0
         clear hi455_0 hl455_0
         replace p455 := eq_true p455
         replace q455 := eq_true q455
         go_wp2
         go_meet
         case rel => exact ⟨_, ((((rd_L1 t449 0).length : Int) != 0)), (by first | rfl | (simp; done) | (simp [*]; done)), H', ⟨by have := HJ2.out; first | omega | exact Nat.le_refl _⟩, ⟨by (with_reducible repeat (first | apply Kd.R_alloc | apply Kd.R_drewN | apply Kd.R_drew)); exact HO448.out⟩, ⟨by (with_reducible repeat (first | apply Kd.N_alloc | apply Kd.N_drewN | apply Kd.N_drew)); exact HO451.out⟩, ⟨by (with_reducible repeat (first | refine blk_drewN ?_ _ | refine blk_drew ?_ | refine blk_alloc ?_ _)); exact BK443.out⟩, ⟨by repeat (first | (with_reducible first | exact HB.out | apply below_alloc | apply pw_below_drewN | apply below_drew1 | refine below_set ?_ GE443.out) | exact HB.out)⟩⟩
        ·rw [if_neg c24] at H
         exact absurd H (by simp)
      ·rw [if_neg c20] at H
       have c20b0 : ((t446.length : Int) == (t449.length : Int)) = false := beq_eq_false_iff_ne.mpr c20
       have c20b1 : ((t446.length : Int) != (t449.length : Int)) = true := bne_iff_ne.mpr c20
       have c20b2 : (t446.length == t449.length) = false := by first | simpa using c20 | (simp at c20 ⊢; omega)
       (first | rw [c20b0] | (simp only [i64_w, i32_w]; rw [c20b0]) | skip)
       have H' := Aside0.mk H
       clear H
       obtain ⟨Ao27, co27, eo27⟩ := Kd.R_slice HO448.out
       subst eo27
       obtain ⟨Ao28, co28, eo28⟩ := Kd.N_slice HO451.out
       subst eo28
       go_wp2
       go_meet
       case rel => exact ⟨_, (true), (by first | rfl | (simp; done) | (simp [*]; done)), H', ⟨by have := HJ2.out; first | omega | exact Nat.le_refl _⟩, ⟨by (with_reducible repeat (first | apply Kd.R_alloc | apply Kd.R_drewN | apply Kd.R_drew)); exact HO448.out⟩, ⟨by (with_reducible repeat (first | apply Kd.N_alloc | apply Kd.N_drewN | apply Kd.N_drew)); exact HO451.out⟩, ⟨by (with_reducible repeat (first | refine blk_drewN ?_ _ | refine blk_drew ?_ | refine blk_alloc ?_ _)); exact BK443.out⟩, ⟨by repeat (first | (with_reducible first | exact HB.out | apply below_alloc | apply pw_below_drewN | apply below_drew1 | refine below_set ?_ GE443.out) | exact HB.out)⟩⟩
     case rest =>
      clear HC17
      try clear c1
      try clear c2
      try clear p2
      try clear c4
      try clear p4
      try clear q4
      try clear hx4
      try clear qi4
      try clear c6
      try clear p6
      try clear c11
      try clear c15
      try clear c16
      try clear c16b0
      try clear c16b1
      try clear c18
      try clear c20
      try clear c20b0
      try clear c20b1
      try clear c20b2
      try clear c21
      try clear c21b0
      try clear c21b1
      try clear c21b2
      try clear c22
      try clear c24
      try clear c24b0
      try clear c24b1
      try clear hcz18_0
      try clear hcz18_1
      try clear hcz18_2
      try clear hcz18_3
      try clear hcz18_4
      try clear hcz18_5
      try clear hcz7_0
      try clear hcz7_1
      try clear hcz7_2
      try clear hcz7_3
      try clear hcz7_4
      try clear hcz7_5
      try clear hcz9_0
      try clear hcz9_1
      try clear hcz9_2
      try clear hcz9_3
      try clear hcz9_4
      try clear hcz9_5
      try clear hfz18_0
      try clear hfz18_1
      try clear hfz18_2
      try clear hfz18_3
      try clear hfz18_4
      try clear hfz18_5
      try clear hfz7_0
      try clear hfz7_1
      try clear hfz7_2
      try clear hfz7_3
      try clear hfz7_4
      try clear hfz7_5
      try clear hfz9_0
      try clear hfz9_1
      try clear hfz9_2
      try clear hfz9_3
      try clear hfz9_4
      try clear hfz9_5
      try clear hx455_0
      try clear p2
      try clear p455
      try clear q455
      obtain ⟨kq, x59_16, rfl, HA, HJ16, HO_5, HO_6, BK443, HB⟩ := hcut
      cases kq with
      | zero => exact absurd HA.out (by simp [tutorlaw04_TrimLeast.j1])
      | succ kj16 =>
       have H := HA.out
       clear HA
       simp only [tutorlaw04_TrimLeast.j1] at H
       by_cases c29 : x59_16 = true
       ·subst c29
        have H1 : (none) = some r := by rw [if_pos rfl] at H; exact H
        clear H
        have H := H1
        clear H1
        exact absurd H (by simp)
       ·replace c29 := Bool.eq_false_iff.mpr c29
        subst c29
        have H1 : ((tutorref01_Check.f kj16 l1 a0_1).bind fun bt456 => (if bt456.2 = 0 then ((tutorref03_Go.f kj16 a0_0 a0_1 a0_2 a0_3 l0_4 l0_5 0 l1).bind fun bt458 => (tutorlaw04_TrimLeast.j2 kj16 l1 t446 t449 bt456.2 bt458.1 a0_0 a0_1 a0_2 a0_3 l0_4 l0_5)) else (tutorlaw04_TrimLeast.j2 kj16 l1 t446 t449 bt456.2 (-1) a0_0 a0_1 a0_2 a0_3 l0_4 l0_5))) = some r := by rw [if_neg (show ¬ (false = true) by decide)] at H; exact H
        clear H
        have H := H1
        clear H1
        replace H := Option.bind_eq_some_iff.mp H
        obtain ⟨⟨t456, t457⟩, A300, H⟩ := H
        replace H : (if t457 = 0 then ((tutorref03_Go.f kj16 a0_0 a0_1 a0_2 a0_3 l0_4 l0_5 0 l1).bind fun bt458 => (tutorlaw04_TrimLeast.j2 kj16 l1 t446 t449 t457 bt458.1 a0_0 a0_1 a0_2 a0_3 l0_4 l0_5)) else (tutorlaw04_TrimLeast.j2 kj16 l1 t446 t449 t457 (-1) a0_0 a0_1 a0_2 a0_3 l0_4 l0_5)) = some r := H
        have A30 := Aside0.mk A300
        clear A300
        have HC31 := Aside0.mk H
        clear H
        have hcz32_0 : wc.cell? ⟨gb443, 0, none⟩ = some (.int .i64 a0_0) := (blk_cell BK443.out 0).trans rfl
        have hcz32_1 : wc.cell? ⟨gb443, 1, none⟩ = some (.int .i64 a0_1) := (blk_cell BK443.out 1).trans rfl
        have hcz32_2 : wc.cell? ⟨gb443, 2, none⟩ = some (.int .i64 a0_2) := (blk_cell BK443.out 2).trans rfl
        have hcz32_3 : wc.cell? ⟨gb443, 3, none⟩ = some (.int .i64 a0_3) := (blk_cell BK443.out 3).trans rfl
        have hcz32_4 : wc.cell? ⟨gb443, 4, none⟩ = some (.slice A0_4 l0_4.length c0_4) := (blk_cell BK443.out 4).trans rfl
        have hcz32_5 : wc.cell? ⟨gb443, 5, none⟩ = some (.slice A0_5 l0_5.length c0_5) := (blk_cell BK443.out 5).trans rfl
        have hfz32_0 := blk_frozen BK443.out 0
        have hfz32_1 := blk_frozen BK443.out 1
        have hfz32_2 := blk_frozen BK443.out 2
        have hfz32_3 := blk_frozen BK443.out 3
        have hfz32_4 := blk_frozen BK443.out 4
        have hfz32_5 := blk_frozen BK443.out 5
        go_upto_if 68 with (first | ((with_reducible refine gate_callee (f := 29) rfl ?_); refine goesL_ (some 64) rfl rfl Try.func29 (by kernel_rfl) rfl #[.slice A1 l1.length c1, .int .i64 a0_1] rfl (by (try simp only [List.map_toArray, List.map_cons, List.map_nil]); first | done | rfl | (simp only [List.length_drop, List.length_take]; rfl)) ?_; (with_reducible refine (tutorref01_Check.calls kj16 _ _ l1 a0_1 t456 t457 _ ?side1 ?side2 A30.out).mono ?_); (case side1 => repeat (first | exact (Kd.C_below HR1.out HB.out) | (with_reducible refine Kd.C_alloc ?_ _) | (with_reducible refine Kd.C_drewN ?_ _) | (with_reducible refine Kd.C_drew ?_))); (case side2 => exact HC1.out); rintro e w' ⟨rfl, ⟨nd, rfl⟩⟩; refine ⟨_, rfl, ?_⟩))
        (try simp only [Act.put, List.setIfInBounds_toArray, List.set_cons_zero, List.set_cons_succ])
        go_cut [10] (fun v10 wc => ∃ (kq : Nat) (x10_30 : Int), v10 = .int .i64 x10_30 ∧ Aside0 (tutorlaw04_TrimLeast.j2 kq l1 t446 t449 t457 x10_30 a0_0 a0_1 a0_2 a0_3 l0_4 l0_5 = some r) ∧ Aside0 (kq ≤ kj16) ∧ Aside0 (Kd.R (Kd.int .i64) 3 wc w.heap.size (fun _ => True) v447 t446) ∧ Aside0 (Kd.N (Kd.slice 3 (Kd.int .i64)) 22 wc w.heap.size (fun k_ => some k_ ≠ (v447 : Value).ownBlock ∧ k_ ≠ gb443) v450 t449) ∧ Aside0 (wc.heap[gb443]? = some (.cells #[.int .i64 a0_0, .int .i64 a0_1, .int .i64 a0_2, .int .i64 a0_3, (.slice A0_4 l0_4.length c0_4), (.slice A0_5 l0_5.length c0_5)] 24 (0, 0))) ∧ Aside0 (Below w.heap.size w wc))
        case first =>
         have H := HC31.out
         clear HC31
         by_cases c33 : t457 = 0
         ·rw [if_pos c33] at H
          have c33b0 : (t457 == 0) = true := beq_iff_eq.mpr c33
          have c33b1 : (t457 != 0) = false := bne_eq_false_iff_eq.mpr c33
          clear c33
          (first | rw [c33b0] | (simp only [i64_w, i32_w]; rw [c33b0]) | skip)
          replace H := Option.bind_eq_some_iff.mp H
          obtain ⟨⟨t458, t459⟩, A340, H⟩ := H
          replace H : (tutorlaw04_TrimLeast.j2 kj16 l1 t446 t449 t457 t458 a0_0 a0_1 a0_2 a0_3 l0_4 l0_5) = some r := H
          have A34 := Aside0.mk A340
          clear A340
          have H' := Aside0.mk H
          clear H
          have hcz35_0 : wc.cell? ⟨gb443, 0, none⟩ = some (.int .i64 a0_0) := (blk_cell BK443.out 0).trans rfl
          have hcz35_1 : wc.cell? ⟨gb443, 1, none⟩ = some (.int .i64 a0_1) := (blk_cell BK443.out 1).trans rfl
          have hcz35_2 : wc.cell? ⟨gb443, 2, none⟩ = some (.int .i64 a0_2) := (blk_cell BK443.out 2).trans rfl
          have hcz35_3 : wc.cell? ⟨gb443, 3, none⟩ = some (.int .i64 a0_3) := (blk_cell BK443.out 3).trans rfl
          have hcz35_4 : wc.cell? ⟨gb443, 4, none⟩ = some (.slice A0_4 l0_4.length c0_4) := (blk_cell BK443.out 4).trans rfl
          have hcz35_5 : wc.cell? ⟨gb443, 5, none⟩ = some (.slice A0_5 l0_5.length c0_5) := (blk_cell BK443.out 5).trans rfl
          have hfz35_0 := blk_frozen BK443.out 0
          have hfz35_1 := blk_frozen BK443.out 1
          have hfz35_2 := blk_frozen BK443.out 2
          have hfz35_3 := blk_frozen BK443.out 3
          have hfz35_4 := blk_frozen BK443.out 4
          have hfz35_5 := blk_frozen BK443.out 5
          go_wp2_with (first | ((with_reducible refine gate_callee (f := 30) rfl ?_); refine goesL_ (some 72) rfl rfl Try.func30 (by kernel_rfl) rfl #[.agg #[.int .i64 a0_0, .int .i64 a0_1, .int .i64 a0_2, .int .i64 a0_3, .slice A0_4 l0_4.length c0_4, .slice A0_5 l0_5.length c0_5], .int .i64 0, .slice A1 l1.length c1] rfl (by (try simp only [List.map_toArray, List.map_cons, List.map_nil]); first | done | rfl | (simp only [List.length_drop, List.length_take]; rfl)) ?_; (with_reducible refine (tutorref03_Go.calls kj16 a0_0 a0_1 a0_2 a0_3 _ _ l0_4 _ _ l0_5 0 _ _ l1 t458 t459 _ ?side1 ?side2 ?side3 ?side4 ?side5 ?side6 A34.out).mono ?_); (case side1 => repeat (first | exact (Kd.C_below HR0_4.out HB.out) | (with_reducible refine Kd.C_alloc ?_ _) | (with_reducible refine Kd.C_drewN ?_ _) | (with_reducible refine Kd.C_drew ?_))); (case side2 => exact HC0_4.out); (case side3 => repeat (first | exact (Kd.C_below HR0_5.out HB.out) | (with_reducible refine Kd.C_alloc ?_ _) | (with_reducible refine Kd.C_drewN ?_ _) | (with_reducible refine Kd.C_drew ?_))); (case side4 => exact HC0_5.out); (case side5 => repeat (first | exact (Kd.C_below HR1.out HB.out) | (with_reducible refine Kd.C_alloc ?_ _) | (with_reducible refine Kd.C_drewN ?_ _) | (with_reducible refine Kd.C_drew ?_))); (case side6 => exact HC1.out); rintro e w36 ⟨v460, rfl, ho0, hb⟩; refine ⟨_, rfl, ?_⟩; have n0_ := Aside0.mk (Kd.R_elder' (by (with_reducible repeat (first | apply Kd.R_alloc | apply Kd.R_drewN | apply Kd.R_drew)); exact HO_5.out) (Kd.R_base ho0) hb); have n1_ := Aside0.mk (Kd.N_elder' (by (with_reducible repeat (first | apply Kd.N_alloc | apply Kd.N_drewN | apply Kd.N_drew)); exact HO_6.out) (Kd.R_base ho0) hb); have n2_ := Aside0.mk (Kd.R_lower (Kd.R_new' ho0 (Kd.R_lt (by (with_reducible repeat (first | apply Kd.R_alloc | apply Kd.R_drewN | apply Kd.R_drew)); exact HO_5.out))) (below_size (by repeat (first | (with_reducible first | exact HB.out | apply below_alloc | apply pw_below_drewN | apply below_drew1 | refine below_set ?_ GE443.out) | exact HB.out)))); have n3_ := Aside0.mk (blk_below (g := gb443) (o := .cells #[.int .i64 a0_0, .int .i64 a0_1, .int .i64 a0_2, .int .i64 a0_3, .slice A0_4 l0_4.length c0_4, .slice A0_5 l0_5.length c0_5] 24 (0, 0)) (by (with_reducible repeat (first | refine blk_drewN ?_ _ | refine blk_drew ?_ | refine blk_alloc ?_ _)); exact BK443.out) hb); have n4_ := Aside0.mk (below_step (by repeat (first | (with_reducible first | exact HB.out | apply below_alloc | apply pw_below_drewN | apply below_drew1 | refine below_set ?_ GE443.out) | exact HB.out)) hb); clear HO_5; clear HO_6; clear BK443; clear HB; have HO_5 := n0_; have HO_6 := n1_; have HO461 := n2_; have BK443 := n3_; have HB := n4_; clear n0_ n1_ n2_ n3_ n4_; (try clear hb); (try clear hb2); (try clear hk); (try clear hi); (try clear ho0)))
          go_meet
          case rel => exact ⟨_, (t458), (by first | rfl | (simp; done) | (simp [*]; done)), H', ⟨by have := HJ2.out; have := HJ16.out; first | omega | exact Nat.le_refl _⟩, ⟨by (with_reducible repeat (first | apply Kd.R_alloc | apply Kd.R_drewN | apply Kd.R_drew)); exact Kd.R_mono HO_5.out (fun _ hk => trivial)⟩, ⟨by (with_reducible repeat (first | apply Kd.N_alloc | apply Kd.N_drewN | apply Kd.N_drew)); exact Kd.N_mono HO_6.out (fun _ hk => ⟨hk.1.1, hk.1.2⟩)⟩, ⟨by (with_reducible repeat (first | refine blk_drewN ?_ _ | refine blk_drew ?_ | refine blk_alloc ?_ _)); exact BK443.out⟩, ⟨by repeat (first | (with_reducible first | exact HB.out | apply below_alloc | apply pw_below_drewN | apply below_drew1 | refine below_set ?_ GE443.out) | exact HB.out)⟩⟩
         ·rw [if_neg c33] at H
          have c33b0 : (t457 == 0) = false := beq_eq_false_iff_ne.mpr c33
          have c33b1 : (t457 != 0) = true := bne_iff_ne.mpr c33
          (first | rw [c33b0] | (simp only [i64_w, i32_w]; rw [c33b0]) | skip)
          have H' := Aside0.mk H
          clear H
          go_wp2
          go_meet
          case rel => exact ⟨_, ((-1)), (by first | rfl | (simp; done) | (simp [*]; done)), H', ⟨by have := HJ2.out; have := HJ16.out; first | omega | exact Nat.le_refl _⟩, ⟨by (with_reducible repeat (first | apply Kd.R_alloc | apply Kd.R_drewN | apply Kd.R_drew)); exact HO_5.out⟩, ⟨by (with_reducible repeat (first | apply Kd.N_alloc | apply Kd.N_drewN | apply Kd.N_drew)); exact HO_6.out⟩, ⟨by (with_reducible repeat (first | refine blk_drewN ?_ _ | refine blk_drew ?_ | refine blk_alloc ?_ _)); exact BK443.out⟩, ⟨by repeat (first | (with_reducible first | exact HB.out | apply below_alloc | apply pw_below_drewN | apply below_drew1 | refine below_set ?_ GE443.out) | exact HB.out)⟩⟩
        case rest =>
         clear HC31
         try clear c1
         try clear c2
         try clear p2
         try clear c3
         try clear c4
         try clear p4
         try clear q4
         try clear hx4
         try clear qi4
         try clear c6
         try clear p6
         try clear c11
         try clear c15
         try clear c16
         try clear c16b0
         try clear c16b1
         try clear c18
         try clear c20
         try clear c20b0
         try clear c20b1
         try clear c20b2
         try clear c21
         try clear c21b0
         try clear c21b1
         try clear c21b2
         try clear c22
         try clear c24
         try clear c24b0
         try clear c24b1
         try clear c29
         try clear c30
         try clear c33
         try clear c33b0
         try clear c33b1
         try clear hcz18_0
         try clear hcz18_1
         try clear hcz18_2
         try clear hcz18_3
         try clear hcz18_4
         try clear hcz18_5
         try clear hcz32_0
         try clear hcz32_1
         try clear hcz32_2
         try clear hcz32_3
         try clear hcz32_4
         try clear hcz32_5
         try clear hcz35_0
         try clear hcz35_1
         try clear hcz35_2
         try clear hcz35_3
         try clear hcz35_4
         try clear hcz35_5
         try clear hcz7_0
         try clear hcz7_1
         try clear hcz7_2
         try clear hcz7_3
         try clear hcz7_4
         try clear hcz7_5
         try clear hcz9_0
         try clear hcz9_1
         try clear hcz9_2
         try clear hcz9_3
         try clear hcz9_4
         try clear hcz9_5
         try clear hfz18_0
         try clear hfz18_1
         try clear hfz18_2
         try clear hfz18_3
         try clear hfz18_4
         try clear hfz18_5
         try clear hfz32_0
         try clear hfz32_1
         try clear hfz32_2
         try clear hfz32_3
         try clear hfz32_4
         try clear hfz32_5
         try clear hfz35_0
         try clear hfz35_1
         try clear hfz35_2
         try clear hfz35_3
         try clear hfz35_4
         try clear hfz35_5
         try clear hfz7_0
         try clear hfz7_1
         try clear hfz7_2
         try clear hfz7_3
         try clear hfz7_4
         try clear hfz7_5
         try clear hfz9_0
         try clear hfz9_1
         try clear hfz9_2
         try clear hfz9_3
         try clear hfz9_4
         try clear hfz9_5
         try clear hx455_0
         try clear p2
         try clear p4
         try clear p455
         try clear p6
         try clear q4
         try clear q455
         obtain ⟨kq, x10_30, rfl, HA, HJ30, HO_5, HO_6, BK443, HB⟩ := hcut
         cases kq with
         | zero => exact absurd HA.out (by simp [tutorlaw04_TrimLeast.j2])
         | succ kj30 =>
          have H := HA.out
          clear HA
          simp only [tutorlaw04_TrimLeast.j2] at H
          have H' := Aside0.mk H
          clear H
          go_wp2
          go_loopg [11, 12] kj30 (fun kq v11 v12 w' => ∃ (x11_4 : Bool) (x12_4 : Int), v11 = .bool x11_4 ∧ v12 = .int .i64 x12_4 ∧ Aside0 (tutorlaw04_TrimLeast.l0 kq l1 t446 t449 x10_30 x11_4 x12_4 a0_0 a0_1 a0_2 a0_3 l0_4 l0_5 = some r) ∧ Aside0 (kq ≤ kj30) ∧ Aside0 (Kd.R (Kd.int .i64) 3 w' w.heap.size (fun _ => True) v447 t446) ∧ Aside0 (Kd.N (Kd.slice 3 (Kd.int .i64)) 22 w' w.heap.size (fun k_ => some k_ ≠ (v447 : Value).ownBlock ∧ k_ ≠ gb443) v450 t449) ∧ Aside0 (w'.heap[gb443]? = some (.cells #[.int .i64 a0_0, .int .i64 a0_1, .int .i64 a0_2, .int .i64 a0_3, (.slice A0_4 l0_4.length c0_4), (.slice A0_5 l0_5.length c0_5)] 24 (0, 0))) ∧ Aside0 (Below w.heap.size w w'))
          case atStart => exact ⟨((t457 != 0)), (0), (by first | rfl | (simp; done) | (simp [*]; done)), (by first | rfl | (simp; done) | (simp [*]; done)), H', ⟨Nat.le_refl _⟩, ⟨by (with_reducible repeat (first | apply Kd.R_alloc | apply Kd.R_drewN | apply Kd.R_drew)); exact HO_5.out⟩, ⟨by (with_reducible repeat (first | apply Kd.N_alloc | apply Kd.N_drewN | apply Kd.N_drew)); exact HO_6.out⟩, ⟨by (with_reducible repeat (first | refine blk_drewN ?_ _ | refine blk_drew ?_ | refine blk_alloc ?_ _)); exact BK443.out⟩, ⟨by repeat (first | (with_reducible first | exact HB.out | apply below_alloc | apply pw_below_drewN | apply below_drew1 | refine below_set ?_ GE443.out) | exact HB.out)⟩⟩
          case round =>
           clear H'
           try clear c1
           try clear c2
           try clear p2
           try clear c3
           try clear c4
           try clear p4
           try clear q4
           try clear hx4
           try clear qi4
           try clear c6
           try clear p6
           try clear c11
           try clear c15
           try clear c16
           try clear c16b0
           try clear c16b1
           try clear c18
           try clear c20
           try clear c20b0
           try clear c20b1
           try clear c20b2
           try clear c21
           try clear c21b0
           try clear c21b1
           try clear c21b2
           try clear c22
           try clear c24
           try clear c24b0
           try clear c24b1
           try clear c29
           try clear c30
           try clear c33
           try clear c33b0
           try clear c33b1
           try clear hcz18_0
           try clear hcz18_1
           try clear hcz18_2
           try clear hcz18_3
           try clear hcz18_4
           try clear hcz18_5
           try clear hcz32_0
           try clear hcz32_1
           try clear hcz32_2
           try clear hcz32_3
           try clear hcz32_4
           try clear hcz32_5
           try clear hcz35_0
           try clear hcz35_1
           try clear hcz35_2
           try clear hcz35_3
           try clear hcz35_4
           try clear hcz35_5
           try clear hcz7_0
           try clear hcz7_1
           try clear hcz7_2
           try clear hcz7_3
           try clear hcz7_4
           try clear hcz7_5
           try clear hcz9_0
           try clear hcz9_1
           try clear hcz9_2
           try clear hcz9_3
           try clear hcz9_4
           try clear hcz9_5
           try clear hfz18_0
           try clear hfz18_1
           try clear hfz18_2
           try clear hfz18_3
           try clear hfz18_4
           try clear hfz18_5
           try clear hfz32_0
           try clear hfz32_1
           try clear hfz32_2
           try clear hfz32_3
           try clear hfz32_4
           try clear hfz32_5
           try clear hfz35_0
           try clear hfz35_1
           try clear hfz35_2
           try clear hfz35_3
           try clear hfz35_4
           try clear hfz35_5
           try clear hfz7_0
           try clear hfz7_1
           try clear hfz7_2
           try clear hfz7_3
           try clear hfz7_4
           try clear hfz7_5
           try clear hfz9_0
           try clear hfz9_1
           try clear hfz9_2
           try clear hfz9_3
           try clear hfz9_4
           try clear hfz9_5
           try clear hx455_0
           try clear p2
           try clear p4
           try clear p455
           try clear p6
           try clear q4
           try clear q455
           obtain ⟨x11_4, x12_4, rfl, rfl, HA, HK4, HO_5, HO_6, BK443, HB⟩ := hrel
           cases gk with
           | zero => exact absurd HA.out (by simp [tutorlaw04_TrimLeast.l0])
           | succ k4 =>
            have H := HA.out
            clear HA
            simp only [tutorlaw04_TrimLeast.l0] at H
            by_cases c37 : x12_4 < (t446.length : Int)
            ·rw [if_pos c37] at H
             have c37b0 : decide (x12_4 < (t446.length : Int)) = true := decide_eq_true c37
             clear c37
             by_cases c38 : 0 ≤ x12_4
             ·rw [if_pos c38] at H
              have c38b0 : decide (0 ≤ x12_4) = true := decide_eq_true c38
              clear c38
              by_cases c39 : x12_4 < (t449.length : Int)
              ·rw [if_pos c39] at H
               have c39b0 : decide (x12_4 < (t449.length : Int)) = true := decide_eq_true c39
               clear c39
               replace H := Option.bind_eq_some_iff.mp H
               obtain ⟨⟨t464, t465⟩, A400, H⟩ := H
               replace H : (if t464 = (rd t446 x12_4) then (if x12_4 > 0 then (if 0 ≤ (wrap64 (x12_4 - 1)) then (if (wrap64 (x12_4 - 1)) < (t449.length : Int) then ((tutorref01_Ahead.f k4 (rd_L1 t449 (wrap64 (x12_4 - 1))) (rd_L1 t449 x12_4)).bind fun t471 => (tutorlaw04_TrimLeast.j4 k4 l1 t446 t449 x10_30 x11_4 x12_4 t464 (!t471) a0_0 a0_1 a0_2 a0_3 l0_4 l0_5)) else (none)) else (none)) else (tutorlaw04_TrimLeast.j4 k4 l1 t446 t449 x10_30 x11_4 x12_4 t464 false a0_0 a0_1 a0_2 a0_3 l0_4 l0_5)) else (tutorlaw04_TrimLeast.j4 k4 l1 t446 t449 x10_30 x11_4 x12_4 t464 true a0_0 a0_1 a0_2 a0_3 l0_4 l0_5)) = some r := H
               have A40 := Aside0.mk A400
               clear A400
               have HC41 := Aside0.mk H
               clear H
               obtain ⟨Ao42, co42, eo42⟩ := Kd.R_slice HO_5.out
               subst eo42
               try go_wp2
               have n0_ := Aside0.mk (Kd.R_drew HO_5.out)
               have n1_ := Aside0.mk (Kd.N_drew HO_6.out)
               have n2_ := Aside0.mk (blk_drew BK443.out)
               have n3_ := Aside0.mk (below_drew1 HB.out)
               clear HO_5
               clear HO_6
               clear BK443
               clear HB
               have HO_5 := n0_
               have HO_6 := n1_
               have BK443 := n2_
               have HB := n3_
               clear n0_ n1_ n2_ n3_
               obtain ⟨Ao44, co44, eo44⟩ := Kd.N_slice HO_6.out
               (first | subst eo44 | (injection eo44 with f1_ f2_ f3_; have f4_ := f1_.symm; have f5_ := f3_.symm; clear f1_ f2_ f3_; subst f4_; subst f5_))
               have p463 : 0 ≤ (x12_4 : Int) := of_decide_eq_true (by first | (with_reducible assumption) | assumption)
               have q463 : x12_4 < (t449.length : Int) := of_decide_eq_true (by first | (with_reducible assumption) | assumption)
               obtain ⟨ad463, A463_0, c463_0, e463, hx463_0, hl463_0, hi463_0⟩ := at_L1 (Kd.N_reads' HO_6.out).2.2 x12_4 p463 q463
               cases e463
               obtain ⟨ce463, hce463, hMe463, hcc463⟩ := Kd.N_get HO_6.out [] x12_4 p463 (by first | exact q463 | exact of_decide_eq_true (by first | (with_reducible assumption) | assumption) | (have e_ := (Kd.N_reads' HO_6.out).1; omega))
               obtain ⟨ua463_0, uc463_0, rfl, ul463_0, ge463_0⟩ := Kd.FK_slice_open hMe463
               have hv463_0 := hcc463 0 _ rfl
               rw [Nat.add_zero, show ((Kd.slice 3 (Kd.int .i64))).sz = 1 from rfl, Nat.mul_one] at hv463_0
               replace hv463_0 := Option.some.inj (hv463_0.symm.trans hx463_0)
               injection hv463_0 with hva_ hvn_ hvc_
               rw [hva_] at ge463_0
               rw [hvc_] at ul463_0
               have HL463_0 := Aside0.mk (show Kd.V (Kd.int .i64) 3 _ w.heap.size _ _ (rd_L1 t449 x12_4) from Kd.V_mk ul463_0 ge463_0)
               clear hva_ hvn_ hvc_ ge463_0 ul463_0
               clear hcc463 hce463
               have HR463_0 := Aside0.mk hi463_0
               have HC463_0 := Aside0.mk hl463_0
               clear hi463_0 hl463_0
               replace p463 := eq_true p463
               replace q463 := eq_true q463
               refine start_ (n := 11) (S := fun w' => w'.cell? ⟨gb443, 0, none⟩ = some (.int .i64 a0_0) ∧ w'.cell? ⟨gb443, 1, none⟩ = some (.int .i64 a0_1) ∧ w'.cell? ⟨gb443, 2, none⟩ = some (.int .i64 a0_2) ∧ w'.cell? ⟨gb443, 3, none⟩ = some (.int .i64 a0_3) ∧ w'.cell? ⟨gb443, 4, none⟩ = some (.slice A0_4 l0_4.length c0_4) ∧ w'.cell? ⟨gb443, 5, none⟩ = some (.slice A0_5 l0_5.length c0_5) ∧ w'.cell? (ad463.add (x12_4).toNat) = some (.slice A463_0 (rd_L1 t449 x12_4).length c463_0)) (ds := []) #[false, false, false, false, false, false, false, false, false, false, false] (by kernel_rfl) rfl rfl ⟨(blk_cell BK443.out 0).trans rfl, (blk_cell BK443.out 1).trans rfl, (blk_cell BK443.out 2).trans rfl, (blk_cell BK443.out 3).trans rfl, (blk_cell BK443.out 4).trans rfl, (blk_cell BK443.out 5).trans rfl, hx463_0⟩ (fun hHeld => ?_); refine with_tabW tutorlaw04_TrimLeast.tab16 tutorlaw04_TrimLeast.bits16 (fun HT_ HW_ => ?_)
               generalize wr.drew = w43 at HO_5 HO_6 BK443 HB HL463_0 HR463_0 hx463_0 hHeld ⊢
               refine pure_ (i := 1) (N := some 85) (v := ?_) (a' := ?_) #[false, true, false, false, false, false, false, false, false, false, false] rfl rfl (any_of HT_.out (by kernel_rfl)) (fun _ _ _ h => h) (Or.inl ⟨by rfl, ?_⟩) ?_ ?_
               rotate_left
               ·intro w'
                go_simp
                with_reducible rfl
               rotate_left
               ·simp only [Act.put, List.setIfInBounds_toArray, List.set_cons_zero, List.set_cons_succ, i64_w, i32_w]
                rfl
               refine pure_ (i := 2) (N := some 86) (v := ?_) (a' := ?_) #[false, true, true, false, false, false, false, false, false, false, false] rfl rfl (any_of HT_.out (by kernel_rfl)) (fun _ _ _ h => h) (Or.inl ⟨by rfl, ?_⟩) ?_ ?_
               rotate_left
               ·intro w'
                go_simp
                with_reducible rfl
               rotate_left
               ·simp only [Act.put, List.setIfInBounds_toArray, List.set_cons_zero, List.set_cons_succ, i64_w, i32_w]
                rfl
               refine pure_ (i := 3) (N := some 87) (v := ?_) (a' := ?_) #[false, true, true, true, false, false, false, false, false, false, false] rfl rfl (any_of HT_.out (by kernel_rfl)) (fun _ _ _ h => h) (Or.inl ⟨by rfl, ?_⟩) ?_ ?_
               rotate_left
               ·intro w'
                go_simp
                with_reducible rfl
               rotate_left
               ·simp only [Act.put, List.setIfInBounds_toArray, List.set_cons_zero, List.set_cons_succ, i64_w, i32_w]
                rfl
               refine take_ (i := 0) (N := some 84) (v := ?_) (a' := ?_) #[true, true, true, true, false, false, false, false, false, false, false] rfl rfl (take_ofW HT_.out HW_.out (by kernel_rfl)) (fun _ _ _ h => h) (Or.inl ⟨by rfl, ?_⟩) hHeld ?_ ?_
               rotate_left
               ·rintro w' ⟨s0, s1, s2, s3, s4, s5, s6⟩
                go_simp
                with_reducible rfl
               rotate_left
               ·simp only [Act.put, List.setIfInBounds_toArray, List.set_cons_zero, List.set_cons_succ, i64_w, i32_w]
                rfl
               refine take_ (i := 4) (N := some 88) (v := ?_) (a' := ?_) #[true, true, true, true, true, false, false, false, false, false, false] rfl rfl (take_ofW HT_.out HW_.out (by kernel_rfl)) (fun _ _ _ h => h) (Or.inl ⟨by rfl, ?_⟩) hHeld ?_ ?_
               rotate_left
               ·rintro w' ⟨s0, s1, s2, s3, s4, s5, s6⟩
                go_simp
                with_reducible rfl
               rotate_left
               ·simp only [Act.put, List.setIfInBounds_toArray, List.set_cons_zero, List.set_cons_succ, i64_w, i32_w]
                rfl
               refine one_ (i := 5) (N := some 89) #[true, true, true, true, true, true, false, false, false, false, false] rfl rfl (one_of HT_.out (by kernel_rfl)) (by decide) (fun K hK => ?_)
               refine goes_ Try.func30 (by kernel_rfl) rfl #[.agg #[.int .i64 a0_0, .int .i64 a0_1, .int .i64 a0_2, .int .i64 a0_3, .slice A0_4 l0_4.length c0_4, .slice A0_5 l0_5.length c0_5], .int .i64 0, .slice A463_0 (rd_L1 t449 x12_4).length c463_0] (by rfl) rfl rfl (by (try simp only [List.map_toArray, List.map_cons, List.map_nil]); first | done | rfl | (simp only [List.length_drop, List.length_take]; rfl)) ?_
               with_reducible refine (tutorref03_Go.calls k4 a0_0 a0_1 a0_2 a0_3 _ _ l0_4 _ _ l0_5 0 _ _ (rd_L1 t449 x12_4) t464 t465 _ ?side1 ?side2 ?side3 ?side4 ?side5 ?side6 A40.out).mono ?_
               (case side1 => repeat (first | exact (Kd.C_below HR0_4.out HB.out) | (with_reducible refine Kd.C_alloc ?_ _) | (with_reducible refine Kd.C_drewN ?_ _) | (with_reducible refine Kd.C_drew ?_)))
               (case side2 => exact HC0_4.out)
               (case side3 => repeat (first | exact (Kd.C_below HR0_5.out HB.out) | (with_reducible refine Kd.C_alloc ?_ _) | (with_reducible refine Kd.C_drewN ?_ _) | (with_reducible refine Kd.C_drew ?_)))
               (case side4 => exact HC0_5.out)
               (case side5 => repeat (first | exact (by repeat (first | (with_reducible exact HR463_0.out) | (with_reducible refine Kd.C_alloc ?_ _) | (with_reducible refine Kd.C_drewN ?_ _) | (with_reducible refine Kd.C_drew ?_) | exact HR463_0.out)) | (with_reducible refine Kd.C_alloc ?_ _) | (with_reducible refine Kd.C_drewN ?_ _) | (with_reducible refine Kd.C_drew ?_)))
               (case side6 => exact HC463_0.out)
               rintro e w45 ⟨v466, rfl, ho0, hb⟩
               have HS6_ := (hb.cell (World.block_lt_of_cell? _ _ (hHeld.2.2.2.2.2.2))).trans (hHeld.2.2.2.2.2.2)
               refine ⟨_, rfl, ?_⟩
               have n0_ := Aside0.mk (Kd.R_elder' (by (with_reducible repeat (first | apply Kd.R_alloc | apply Kd.R_drewN | apply Kd.R_drew)); exact HO_5.out) (Kd.R_base ho0) hb)
               have n1_ := Aside0.mk (Kd.N_elder' (by (with_reducible repeat (first | apply Kd.N_alloc | apply Kd.N_drewN | apply Kd.N_drew)); exact HO_6.out) (Kd.R_base ho0) hb)
               have n2_ := Aside0.mk (Kd.V_elder' (by (with_reducible repeat (first | apply Kd.V_alloc | apply Kd.V_drewN | apply Kd.V_drew)); exact HL463_0.out) (Kd.R_base ho0) hb)
               have n3_ := Aside0.mk (Kd.R_lower (Kd.R_new' ho0 (Kd.R_lt (by (with_reducible repeat (first | apply Kd.R_alloc | apply Kd.R_drewN | apply Kd.R_drew)); exact HO_5.out))) (below_size (by repeat (first | (with_reducible first | exact HB.out | apply below_alloc | apply pw_below_drewN | apply below_drew1 | refine below_set ?_ GE443.out) | exact HB.out))))
               have n4_ := Aside0.mk (blk_below (g := gb443) (o := .cells #[.int .i64 a0_0, .int .i64 a0_1, .int .i64 a0_2, .int .i64 a0_3, .slice A0_4 l0_4.length c0_4, .slice A0_5 l0_5.length c0_5] 24 (0, 0)) (by (with_reducible repeat (first | refine blk_drewN ?_ _ | refine blk_drew ?_ | refine blk_alloc ?_ _)); exact BK443.out) hb)
               have n5_ := Aside0.mk (Kd.C_below (by repeat (first | (with_reducible exact HR463_0.out) | (with_reducible refine Kd.C_alloc ?_ _) | (with_reducible refine Kd.C_drewN ?_ _) | (with_reducible refine Kd.C_drew ?_) | exact HR463_0.out)) hb)
               have n6_ := Aside0.mk (below_step (by repeat (first | (with_reducible first | exact HB.out | apply below_alloc | apply pw_below_drewN | apply below_drew1 | refine below_set ?_ GE443.out) | exact HB.out)) hb)
               clear HO_5
               clear HO_6
               clear HL463_0
               clear BK443
               clear HR463_0
               clear HB
               have HO_5 := n0_
               have HO_6 := n1_
               have HL463_0 := n2_
               have HO467 := n3_
               have BK443 := n4_
               have HR463_0 := n5_
               have HB := n6_
               clear n0_ n1_ n2_ n3_ n4_ n5_ n6_
               (try clear hb)
               (try clear hb2)
               (try clear hk)
               (try clear hi)
               (try clear ho0)
               refine hK.out _ _ ⟨(blk_cell BK443.out 0).trans rfl, (blk_cell BK443.out 1).trans rfl, (blk_cell BK443.out 2).trans rfl, (blk_cell BK443.out 3).trans rfl, (blk_cell BK443.out 4).trans rfl, (blk_cell BK443.out 5).trans rfl, HS6_⟩ (fun hHeld => ?_)
               clear hK K
               refine norm_ (a' := ?_) ?_ ?_
               rotate_left
               ·show Act.put _ (some 89) _ = _
                simp only [Act.put, List.setIfInBounds_toArray, List.set_cons_zero, List.set_cons_succ, i64_w, i32_w]
                rfl
               refine pure_ (i := 6) (N := some 83) (v := ?_) (a' := ?_) #[true, true, true, true, true, true, true, false, false, false, false] rfl rfl (any_of HT_.out (by kernel_rfl)) (fun _ _ _ h => h) (Or.inl ⟨by rfl, ?_⟩) ?_ ?_
               rotate_left
               ·intro w'
                go_simp
                with_reducible rfl
               rotate_left
               ·simp only [Act.put, List.setIfInBounds_toArray, List.set_cons_zero, List.set_cons_succ, i64_w, i32_w]
                rfl
               refine pure_ (i := 7) (N := some 90) (v := ?_) (a' := ?_) #[true, true, true, true, true, true, true, true, false, false, false] rfl rfl (any_of HT_.out (by kernel_rfl)) (fun _ _ _ h => h) (Or.inl ⟨by rfl, ?_⟩) ?_ ?_
               rotate_left
               ·intro w'
                go_simp
                with_reducible rfl
               rotate_left
               ·simp only [Act.put, List.setIfInBounds_toArray, List.set_cons_zero, List.set_cons_succ, i64_w, i32_w]
                rfl
               refine pure_ (i := 8) (N := some 91) (v := ?_) (a' := ?_) #[true, true, true, true, true, true, true, true, true, false, false] rfl rfl (any_of HT_.out (by kernel_rfl)) (fun _ _ _ h => h) (Or.inl ⟨by rfl, ?_⟩) ?_ ?_
               rotate_left
               ·intro w'
                go_simp
                with_reducible rfl
               rotate_left
               ·simp only [Act.put, List.setIfInBounds_toArray, List.set_cons_zero, List.set_cons_succ, i64_w, i32_w]
                rfl
               refine pure_ (i := 9) (N := some 13) (v := ?_) (a' := ?_) #[true, true, true, true, true, true, true, true, true, true, false] rfl rfl (any_of HT_.out (by kernel_rfl)) (fun _ _ _ h => h) (Or.inl ⟨by rfl, ?_⟩) ?_ ?_
               rotate_left
               ·intro w'
                go_simp
                with_reducible rfl
               rotate_left
               ·simp only [Act.put, List.setIfInBounds_toArray, List.set_cons_zero, List.set_cons_succ, i64_w, i32_w]
                rfl
               refine pure_ (i := 10) (N := some 14) (v := ?_) (a' := ?_) #[true, true, true, true, true, true, true, true, true, true, true] rfl rfl (any_of HT_.out (by kernel_rfl)) (fun _ _ _ h => h) (Or.inl ⟨by rfl, ?_⟩) ?_ ?_
               rotate_left
               ·intro w'
                go_simp
                with_reducible rfl
               rotate_left
               ·simp only [Act.put, List.setIfInBounds_toArray, List.set_cons_zero, List.set_cons_succ, i64_w, i32_w]
                rfl
               refine done_ (done_of HT_.out (by kernel_rfl)) ?_
               go_upto_region 17 with (fail)
               go_cut [114] (fun v114 wc => ∃ (kq : Nat) (x114_40 : Bool), v114 = .bool x114_40 ∧ Aside0 (tutorlaw04_TrimLeast.j4 kq l1 t446 t449 x10_30 x11_4 x12_4 t464 x114_40 a0_0 a0_1 a0_2 a0_3 l0_4 l0_5 = some r) ∧ Aside0 (kq ≤ k4) ∧ Aside0 (Kd.R (Kd.int .i64) 3 wc w.heap.size (fun _ => True) (.slice Ao42 t446.length co42) t446) ∧ Aside0 (Kd.N (Kd.slice 3 (Kd.int .i64)) 22 wc w.heap.size (fun k_ => some k_ ≠ ((.slice Ao42 t446.length co42) : Value).ownBlock ∧ k_ ≠ gb443) (.slice (some ad463) t449.length co44) t449) ∧ Aside0 (wc.heap[gb443]? = some (.cells #[.int .i64 a0_0, .int .i64 a0_1, .int .i64 a0_2, .int .i64 a0_3, (.slice A0_4 l0_4.length c0_4), (.slice A0_5 l0_5.length c0_5)] 24 (0, 0))) ∧ Aside0 (Kd.C (Kd.int .i64) wc A463_0 (rd_L1 t449 x12_4).length (rd_L1 t449 x12_4)) ∧ Aside0 (Below w.heap.size w wc))
               case first =>
                have H := HC41.out
                clear HC41
                by_cases c46 : t464 = (rd t446 x12_4)
                ·rw [if_pos c46] at H
                 have c46b0 : (t464 == (rd t446 x12_4)) = true := beq_iff_eq.mpr c46
                 have c46b1 : (t464 != (rd t446 x12_4)) = false := bne_eq_false_iff_eq.mpr c46
                 clear c46
                 (first | rw [c46b0] | (simp only [i64_w, i32_w]; rw [c46b0]) | skip)
                 by_cases c47 : x12_4 > 0
                 ·rw [if_pos c47] at H
                  have c47b0 : decide (0 < x12_4) = true := decide_eq_true c47
                  clear c47
                  obtain ⟨ji48, hji48⟩ : ∃ j_ : Int, (wrap64 (x12_4 - 1)) = j_ := ⟨_, rfl⟩
                  replace H : (if 0 ≤ (ji48) then (if (ji48) < (t449.length : Int) then ((tutorref01_Ahead.f k4 (rd_L1 t449 (ji48)) (rd_L1 t449 x12_4)).bind fun t471 => (tutorlaw04_TrimLeast.j4 k4 l1 t446 t449 x10_30 x11_4 x12_4 t464 (!t471) a0_0 a0_1 a0_2 a0_3 l0_4 l0_5)) else (none)) else (none)) = some r := by first | (rw [hji48] at H; exact H) | (simp only [hji48] at H ⊢; exact H)
                  have hji48w : (IntKind.i64.wrap (x12_4 - 1)) = ji48 := (i64_w _).trans hji48
                  by_cases c49 : 0 ≤ (ji48)
                  ·rw [if_pos c49] at H
                   have c49b0 : decide (0 ≤ (ji48)) = true := decide_eq_true c49
                   clear c49
                   by_cases c50 : (ji48) < (t449.length : Int)
                   ·rw [if_pos c50] at H
                    have c50b0 : decide ((ji48) < (t449.length : Int)) = true := decide_eq_true c50
                    clear c50
                    replace H := Option.bind_eq_some_iff.mp H
                    obtain ⟨t471, A510, H⟩ := H
                    replace H : (tutorlaw04_TrimLeast.j4 k4 l1 t446 t449 x10_30 x11_4 x12_4 t464 (!t471) a0_0 a0_1 a0_2 a0_3 l0_4 l0_5) = some r := H
                    have A51 := Aside0.mk A510
                    clear A510
                    have H' := Aside0.mk H
                    clear H
                    try go_wp2
                    have n0_ := Aside0.mk (Kd.R_drew HO_5.out)
                    have n1_ := Aside0.mk (Kd.N_drew HO_6.out)
                    have n2_ := Aside0.mk (Kd.V_drew HL463_0.out)
                    have n3_ := Aside0.mk (Kd.R_drew HO467.out)
                    have n4_ := Aside0.mk (blk_drew BK443.out)
                    have n5_ := Aside0.mk (Kd.C_drew HR463_0.out)
                    have n6_ := Aside0.mk (below_drew1 HB.out)
                    clear HO_5
                    clear HO_6
                    clear HL463_0
                    clear HO467
                    clear BK443
                    clear HR463_0
                    clear HB
                    have HO_5 := n0_
                    have HO_6 := n1_
                    have HL463_0 := n2_
                    have HO467 := n3_
                    have BK443 := n4_
                    have HR463_0 := n5_
                    have HB := n6_
                    clear n0_ n1_ n2_ n3_ n4_ n5_ n6_
                    have p468 : 0 ≤ (x12_4 : Int) := of_decide_eq_true (by first | (with_reducible assumption) | assumption)
                    have q468 : x12_4 < (t446.length : Int) := of_decide_eq_true (by first | (with_reducible assumption) | assumption)
                    obtain ⟨ad468, e468, hx468_0⟩ := Kd.at_int (Kd.R_reads' HO_5.out).2.2 x12_4 p468 q468
                    cases e468
                    replace p468 := eq_true p468
                    replace q468 := eq_true q468
                    have p469 : 0 ≤ ((ji48) : Int) := of_decide_eq_true (by first | (with_reducible assumption) | assumption)
                    have q469 : (ji48) < (t449.length : Int) := of_decide_eq_true (by first | (with_reducible assumption) | assumption)
                    obtain ⟨ad469, A469_0, c469_0, e469, hx469_0, hl469_0, hi469_0⟩ := at_L1 (Kd.N_reads' HO_6.out).2.2 (ji48) p469 q469
                    obtain rfl : ad463 = ad469 := (by injection e469)
                    obtain ⟨ce469, hce469, hMe469, hcc469⟩ := Kd.N_get HO_6.out [] (ji48) p469 (by first | exact q469 | exact of_decide_eq_true (by first | (with_reducible assumption) | assumption) | (have e_ := (Kd.N_reads' HO_6.out).1; omega))
                    obtain ⟨ua469_0, uc469_0, rfl, ul469_0, ge469_0⟩ := Kd.FK_slice_open hMe469
                    have hv469_0 := hcc469 0 _ rfl
                    rw [Nat.add_zero, show ((Kd.slice 3 (Kd.int .i64))).sz = 1 from rfl, Nat.mul_one] at hv469_0
                    replace hv469_0 := Option.some.inj (hv469_0.symm.trans hx469_0)
                    injection hv469_0 with hva_ hvn_ hvc_
                    rw [hva_] at ge469_0
                    rw [hvc_] at ul469_0
                    have HL469_0 := Aside0.mk (show Kd.V (Kd.int .i64) 3 _ w.heap.size _ _ (rd_L1 t449 (ji48)) from Kd.V_mk ul469_0 ge469_0)
                    clear hva_ hvn_ hvc_ ge469_0 ul469_0
                    clear hcc469 hce469
                    have HR469_0 := Aside0.mk hi469_0
                    have HC469_0 := Aside0.mk hl469_0
                    clear hi469_0 hl469_0
                    replace p469 := eq_true p469
                    replace q469 := eq_true q469
                    have p470 : 0 ≤ (x12_4 : Int) := of_decide_eq_true (by first | (with_reducible assumption) | assumption)
                    have q470 : x12_4 < (t449.length : Int) := of_decide_eq_true (by first | (with_reducible assumption) | assumption)
                    obtain ⟨ad470, A470_0, c470_0, e470, hx470_0, hl470_0, hi470_0⟩ := at_L1 (Kd.N_reads' HO_6.out).2.2 x12_4 p470 q470
                    obtain rfl : ad463 = ad470 := (by injection e470)
                    obtain ⟨ce470, hce470, hMe470, hcc470⟩ := Kd.N_get HO_6.out [] x12_4 p470 (by first | exact q470 | exact of_decide_eq_true (by first | (with_reducible assumption) | assumption) | (have e_ := (Kd.N_reads' HO_6.out).1; omega))
                    obtain ⟨ua470_0, uc470_0, rfl, ul470_0, ge470_0⟩ := Kd.FK_slice_open hMe470
                    have hv470_0 := hcc470 0 _ rfl
                    rw [Nat.add_zero, show ((Kd.slice 3 (Kd.int .i64))).sz = 1 from rfl, Nat.mul_one] at hv470_0
                    replace hv470_0 := Option.some.inj (hv470_0.symm.trans hx470_0)
                    injection hv470_0 with hva_ hvn_ hvc_
                    rw [hva_] at ge470_0
                    rw [hvc_] at ul470_0
                    have HL470_0 := Aside0.mk (show Kd.V (Kd.int .i64) 3 _ w.heap.size _ _ (rd_L1 t449 x12_4) from Kd.V_mk ul470_0 ge470_0)
                    clear hva_ hvn_ hvc_ ge470_0 ul470_0
                    clear hcc470 hce470
                    have HR470_0 := Aside0.mk hi470_0
                    have HC470_0 := Aside0.mk hl470_0
                    clear hi470_0 hl470_0
                    replace p470 := eq_true p470
                    replace q470 := eq_true q470
                    refine start_ (n := 23) (S := fun w' => w'.cell? (ad468.add (x12_4).toNat) = some (.int .i64 (rd t446 x12_4)) ∧ w'.cell? (ad463.add ((ji48)).toNat) = some (.slice A469_0 (rd_L1 t449 (ji48)).length c469_0) ∧ w'.cell? (ad463.add (x12_4).toNat) = some (.slice A470_0 (rd_L1 t449 x12_4).length c470_0)) (ds := []) #[false, false, false, false, false, false, false, false, false, false, false, false, false, false, false, false, false, false, false, false, false, false, false] (by kernel_rfl) rfl rfl ⟨hx468_0, hx469_0, hx470_0⟩ (fun hHeld => ?_); refine with_tabW tutorlaw04_TrimLeast.tab17 tutorlaw04_TrimLeast.bits17 (fun HT_ HW_ => ?_)
                    generalize w45.drew = w52 at HO_5 HO_6 HL463_0 HO467 BK443 HR463_0 HB HL469_0 HL470_0 HR469_0 HR470_0 hx468_0 hx469_0 hx470_0 hHeld ⊢
                    refine pure_ (i := 0) (N := some 92) (v := ?_) (a' := ?_) #[true, false, false, false, false, false, false, false, false, false, false, false, false, false, false, false, false, false, false, false, false, false, false] rfl rfl (any_of HT_.out (by kernel_rfl)) (fun _ _ _ h => h) (Or.inl ⟨by rfl, ?_⟩) ?_ ?_
                    rotate_left
                    ·intro w'
                     go_simp
                     with_reducible rfl
                    rotate_left
                    ·simp only [Act.put, List.setIfInBounds_toArray, List.set_cons_zero, List.set_cons_succ, i64_w, i32_w]
                     rfl
                    refine pure_ (i := 1) (N := some 93) (v := ?_) (a' := ?_) #[true, true, false, false, false, false, false, false, false, false, false, false, false, false, false, false, false, false, false, false, false, false, false] rfl rfl (any_of HT_.out (by kernel_rfl)) (fun _ _ _ h => h) (Or.inl ⟨by rfl, ?_⟩) ?_ ?_
                    rotate_left
                    ·intro w'
                     go_simp
                     with_reducible rfl
                    rotate_left
                    ·simp only [Act.put, List.setIfInBounds_toArray, List.set_cons_zero, List.set_cons_succ, i64_w, i32_w]
                     rfl
                    refine pure_ (i := 2) (N := some 94) (v := ?_) (a' := ?_) #[true, true, true, false, false, false, false, false, false, false, false, false, false, false, false, false, false, false, false, false, false, false, false] rfl rfl (any_of HT_.out (by kernel_rfl)) (fun _ _ _ h => h) (Or.inl ⟨by rfl, ?_⟩) ?_ ?_
                    rotate_left
                    ·intro w'
                     go_simp
                     with_reducible rfl
                    rotate_left
                    ·simp only [Act.put, List.setIfInBounds_toArray, List.set_cons_zero, List.set_cons_succ, i64_w, i32_w]
                     rfl
                    refine pure_ (i := 3) (N := some 95) (v := ?_) (a' := ?_) #[true, true, true, true, false, false, false, false, false, false, false, false, false, false, false, false, false, false, false, false, false, false, false] rfl rfl (any_of HT_.out (by kernel_rfl)) (fun _ _ _ h => h) (Or.inl ⟨by rfl, ?_⟩) ?_ ?_
                    rotate_left
                    ·intro w'
                     go_simp
                     with_reducible rfl
                    rotate_left
                    ·simp only [Act.put, List.setIfInBounds_toArray, List.set_cons_zero, List.set_cons_succ, i64_w, i32_w]
                     rfl
                    refine take_ (i := 4) (N := some 96) (v := ?_) (a' := ?_) #[true, true, true, true, true, false, false, false, false, false, false, false, false, false, false, false, false, false, false, false, false, false, false] rfl rfl (take_ofW HT_.out HW_.out (by kernel_rfl)) (fun _ _ _ h => h) (Or.inl ⟨by rfl, ?_⟩) hHeld ?_ ?_
                    rotate_left
                    ·rintro w' ⟨s0, s1, s2⟩
                     go_simp
                     with_reducible rfl
                    rotate_left
                    ·simp only [Act.put, List.setIfInBounds_toArray, List.set_cons_zero, List.set_cons_succ, i64_w, i32_w]
                     rfl
                    refine pure_ (i := 5) (N := some 97) (v := ?_) (a' := ?_) #[true, true, true, true, true, true, false, false, false, false, false, false, false, false, false, false, false, false, false, false, false, false, false] rfl rfl (any_of HT_.out (by kernel_rfl)) (fun _ _ _ h => h) (Or.inl ⟨by rfl, ?_⟩) ?_ ?_
                    rotate_left
                    ·intro w'
                     go_simp
                     with_reducible rfl
                    rotate_left
                    ·simp only [Act.put, List.setIfInBounds_toArray, List.set_cons_zero, List.set_cons_succ, i64_w, i32_w]
                     rfl
                    refine pure_ (i := 6) (N := some 98) (v := ?_) (a' := ?_) #[true, true, true, true, true, true, true, false, false, false, false, false, false, false, false, false, false, false, false, false, false, false, false] rfl rfl (any_of HT_.out (by kernel_rfl)) (fun _ _ _ h => h) (Or.inl ⟨by rfl, ?_⟩) ?_ ?_
                    rotate_left
                    ·intro w'
                     go_simp
                     with_reducible rfl
                    rotate_left
                    ·simp only [Act.put, List.setIfInBounds_toArray, List.set_cons_zero, List.set_cons_succ, i64_w, i32_w]
                     rfl
                    refine pure_ (i := 7) (N := some 99) (v := ?_) (a' := ?_) #[true, true, true, true, true, true, true, true, false, false, false, false, false, false, false, false, false, false, false, false, false, false, false] rfl rfl (any_of HT_.out (by kernel_rfl)) (fun _ _ _ h => h) (Or.inl ⟨by rfl, ?_⟩) ?_ ?_
                    rotate_left
                    ·intro w'
                     go_simp
                     with_reducible rfl
                    rotate_left
                    ·simp only [Act.put, List.setIfInBounds_toArray, List.set_cons_zero, List.set_cons_succ, i64_w, i32_w]
                     rfl
                    refine pure_ (i := 8) (N := some 100) (v := ?_) (a' := ?_) #[true, true, true, true, true, true, true, true, true, false, false, false, false, false, false, false, false, false, false, false, false, false, false] rfl rfl (any_of HT_.out (by kernel_rfl)) (fun _ _ _ h => h) (Or.inl ⟨by rfl, ?_⟩) ?_ ?_
                    rotate_left
                    ·intro w'
                     go_simp
                     with_reducible rfl
                    rotate_left
                    ·simp only [Act.put, List.setIfInBounds_toArray, List.set_cons_zero, List.set_cons_succ, i64_w, i32_w]
                     rfl
                    refine pure_ (i := 9) (N := some 101) (v := ?_) (a' := ?_) #[true, true, true, true, true, true, true, true, true, true, false, false, false, false, false, false, false, false, false, false, false, false, false] rfl rfl (any_of HT_.out (by kernel_rfl)) (fun _ _ _ h => h) (Or.inl ⟨by rfl, ?_⟩) ?_ ?_
                    rotate_left
                    ·intro w'
                     go_simp
                     with_reducible rfl
                    rotate_left
                    ·simp only [Act.put, List.setIfInBounds_toArray, List.set_cons_zero, List.set_cons_succ, i64_w, i32_w]
                     rfl
                    refine pure_ (i := 10) (N := some 102) (v := ?_) (a' := ?_) #[true, true, true, true, true, true, true, true, true, true, true, false, false, false, false, false, false, false, false, false, false, false, false] rfl rfl (any_of HT_.out (by kernel_rfl)) (fun _ _ _ h => h) (Or.inl ⟨by rfl, ?_⟩) ?_ ?_
                    rotate_left
                    ·intro w'
                     go_simp
                     with_reducible rfl
                    rotate_left
                    ·simp only [Act.put, List.setIfInBounds_toArray, List.set_cons_zero, List.set_cons_succ, i64_w, i32_w]
                     rfl
                    refine pure_ (i := 11) (N := some 103) (v := ?_) (a' := ?_) #[true, true, true, true, true, true, true, true, true, true, true, true, false, false, false, false, false, false, false, false, false, false, false] rfl rfl (any_of HT_.out (by kernel_rfl)) (fun _ _ _ h => h) (Or.inl ⟨by rfl, ?_⟩) ?_ ?_
                    rotate_left
                    ·intro w'
                     go_simp
                     with_reducible rfl
                    rotate_left
                    ·simp only [Act.put, List.setIfInBounds_toArray, List.set_cons_zero, List.set_cons_succ, i64_w, i32_w]
                     rfl
                    refine pure_ (i := 12) (N := some 104) (v := ?_) (a' := ?_) #[true, true, true, true, true, true, true, true, true, true, true, true, true, false, false, false, false, false, false, false, false, false, false] rfl rfl (any_of HT_.out (by kernel_rfl)) (fun _ _ _ h => h) (Or.inl ⟨by rfl, ?_⟩) ?_ ?_
                    rotate_left
                    ·intro w'
                     go_simp
                     with_reducible rfl
                    rotate_left
                    ·simp only [Act.put, List.setIfInBounds_toArray, List.set_cons_zero, List.set_cons_succ, i64_w, i32_w]
                     rfl
                    refine pure_ (i := 13) (N := some 105) (v := ?_) (a' := ?_) #[true, true, true, true, true, true, true, true, true, true, true, true, true, true, false, false, false, false, false, false, false, false, false] rfl rfl (any_of HT_.out (by kernel_rfl)) (fun _ _ _ h => h) (Or.inl ⟨by rfl, ?_⟩) ?_ ?_
                    rotate_left
                    ·intro w'
                     go_simp
                     with_reducible rfl
                    rotate_left
                    ·simp only [Act.put, List.setIfInBounds_toArray, List.set_cons_zero, List.set_cons_succ, i64_w, i32_w]
                     rfl
                    refine pure_ (i := 15) (N := some 107) (v := ?_) (a' := ?_) #[true, true, true, true, true, true, true, true, true, true, true, true, true, true, false, true, false, false, false, false, false, false, false] rfl rfl (any_of HT_.out (by kernel_rfl)) (fun _ _ _ h => h) (Or.inl ⟨by rfl, ?_⟩) ?_ ?_
                    rotate_left
                    ·intro w'
                     go_simp
                     with_reducible rfl
                    rotate_left
                    ·simp only [Act.put, List.setIfInBounds_toArray, List.set_cons_zero, List.set_cons_succ, i64_w, i32_w]
                     rfl
                    refine pure_ (i := 16) (N := some 108) (v := ?_) (a' := ?_) #[true, true, true, true, true, true, true, true, true, true, true, true, true, true, false, true, true, false, false, false, false, false, false] rfl rfl (any_of HT_.out (by kernel_rfl)) (fun _ _ _ h => h) (Or.inl ⟨by rfl, ?_⟩) ?_ ?_
                    rotate_left
                    ·intro w'
                     go_simp
                     with_reducible rfl
                    rotate_left
                    ·simp only [Act.put, List.setIfInBounds_toArray, List.set_cons_zero, List.set_cons_succ, i64_w, i32_w]
                     rfl
                    refine pure_ (i := 17) (N := some 109) (v := ?_) (a' := ?_) #[true, true, true, true, true, true, true, true, true, true, true, true, true, true, false, true, true, true, false, false, false, false, false] rfl rfl (any_of HT_.out (by kernel_rfl)) (fun _ _ _ h => h) (Or.inl ⟨by rfl, ?_⟩) ?_ ?_
                    rotate_left
                    ·intro w'
                     go_simp
                     with_reducible rfl
                    rotate_left
                    ·simp only [Act.put, List.setIfInBounds_toArray, List.set_cons_zero, List.set_cons_succ, i64_w, i32_w]
                     rfl
                    refine take_ (i := 14) (N := some 106) (v := ?_) (a' := ?_) #[true, true, true, true, true, true, true, true, true, true, true, true, true, true, true, true, true, true, false, false, false, false, false] rfl rfl (take_ofW HT_.out HW_.out (by kernel_rfl)) (fun _ _ _ h => h) (Or.inl ⟨by rfl, ?_⟩) hHeld ?_ ?_
                    rotate_left
                    ·rintro w' ⟨s0, s1, s2⟩
                     go_simp
                     with_reducible rfl
                    rotate_left
                    ·simp only [Act.put, List.setIfInBounds_toArray, List.set_cons_zero, List.set_cons_succ, i64_w, i32_w]
                     rfl
                    refine take_ (i := 18) (N := some 110) (v := ?_) (a' := ?_) #[true, true, true, true, true, true, true, true, true, true, true, true, true, true, true, true, true, true, true, false, false, false, false] rfl rfl (take_ofW HT_.out HW_.out (by kernel_rfl)) (fun _ _ _ h => h) (Or.inl ⟨by rfl, ?_⟩) hHeld ?_ ?_
                    rotate_left
                    ·rintro w' ⟨s0, s1, s2⟩
                     go_simp
                     with_reducible rfl
                    rotate_left
                    ·simp only [Act.put, List.setIfInBounds_toArray, List.set_cons_zero, List.set_cons_succ, i64_w, i32_w]
                     rfl
                    refine one_ (i := 19) (N := some 111) #[true, true, true, true, true, true, true, true, true, true, true, true, true, true, true, true, true, true, true, true, false, false, false] rfl rfl (one_of HT_.out (by kernel_rfl)) (by decide) (fun K hK => ?_)
                    refine goes_ Try.func31 (by kernel_rfl) rfl #[.slice A469_0 (rd_L1 t449 (ji48)).length c469_0, .slice A470_0 (rd_L1 t449 x12_4).length c470_0] (by rfl) rfl rfl (by (try simp only [List.map_toArray, List.map_cons, List.map_nil]); first | done | (simp only [hji48]; rfl) | rfl | (simp only [List.length_drop, List.length_take]; rfl)) ?_
                    with_reducible refine (tutorref01_Ahead.calls k4 _ _ (rd_L1 t449 (ji48)) _ _ (rd_L1 t449 x12_4) t471 _ ?side1 ?side2 ?side3 ?side4 A51.out).mono ?_
                    (case side1 => repeat (first | exact (by repeat (first | (with_reducible exact HR469_0.out) | (with_reducible refine Kd.C_alloc ?_ _) | (with_reducible refine Kd.C_drewN ?_ _) | (with_reducible refine Kd.C_drew ?_) | exact HR469_0.out)) | (with_reducible refine Kd.C_alloc ?_ _) | (with_reducible refine Kd.C_drewN ?_ _) | (with_reducible refine Kd.C_drew ?_)))
                    (case side2 => exact HC469_0.out)
                    (case side3 => repeat (first | exact (by repeat (first | (with_reducible exact HR470_0.out) | (with_reducible refine Kd.C_alloc ?_ _) | (with_reducible refine Kd.C_drewN ?_ _) | (with_reducible refine Kd.C_drew ?_) | exact HR470_0.out)) | (with_reducible refine Kd.C_alloc ?_ _) | (with_reducible refine Kd.C_drewN ?_ _) | (with_reducible refine Kd.C_drew ?_)))
                    (case side4 => exact HC470_0.out)
                    rintro e w' ⟨rfl, ⟨nd, rfl⟩⟩
                    refine ⟨_, rfl, ?_⟩
                    refine hK.out _ _ ⟨hHeld.1, hHeld.2.1, hHeld.2.2⟩ (fun hHeld => ?_)
                    clear hK K
                    refine norm_ (a' := ?_) ?_ ?_
                    rotate_left
                    ·show Act.put _ (some 111) _ = _
                     simp only [Act.put, List.setIfInBounds_toArray, List.set_cons_zero, List.set_cons_succ, i64_w, i32_w]
                     rfl
                    refine pure_ (i := 20) (N := some 112) (v := ?_) (a' := ?_) #[true, true, true, true, true, true, true, true, true, true, true, true, true, true, true, true, true, true, true, true, true, false, false] rfl rfl (any_of HT_.out (by kernel_rfl)) (fun _ _ _ h => h) (Or.inl ⟨by rfl, ?_⟩) ?_ ?_
                    rotate_left
                    ·intro w'
                     go_simp
                     with_reducible rfl
                    rotate_left
                    ·simp only [Act.put, List.setIfInBounds_toArray, List.set_cons_zero, List.set_cons_succ, i64_w, i32_w]
                     rfl
                    refine pure_ (i := 21) (N := some 113) (v := ?_) (a' := ?_) #[true, true, true, true, true, true, true, true, true, true, true, true, true, true, true, true, true, true, true, true, true, true, false] rfl rfl (any_of HT_.out (by kernel_rfl)) (fun _ _ _ h => h) (Or.inl ⟨by rfl, ?_⟩) ?_ ?_
                    rotate_left
                    ·intro w'
                     go_simp
                     with_reducible rfl
                    rotate_left
                    ·simp only [Act.put, List.setIfInBounds_toArray, List.set_cons_zero, List.set_cons_succ, i64_w, i32_w]
                     rfl
                    refine pure_ (i := 22) (N := some 114) (v := ?_) (a' := ?_) #[true, true, true, true, true, true, true, true, true, true, true, true, true, true, true, true, true, true, true, true, true, true, true] rfl rfl (any_of HT_.out (by kernel_rfl)) (fun _ _ _ h => h) (Or.inl ⟨by rfl, ?_⟩) ?_ ?_
                    rotate_left
                    ·intro w'
                     go_simp
                     with_reducible rfl
                    rotate_left
                    ·simp only [Act.put, List.setIfInBounds_toArray, List.set_cons_zero, List.set_cons_succ, i64_w, i32_w]
                     rfl
                    refine done_ (done_of HT_.out (by kernel_rfl)) ?_
                    try go_wp2
                    go_meet
                    case rel => exact ⟨_, (!t471), (by first | rfl | (simp; done) | (simp [*]; done)), H', ⟨by have := HJ2.out; have := HJ16.out; have := HJ30.out; have := HK4.out; first | omega | exact Nat.le_refl _⟩, ⟨by (with_reducible repeat (first | apply Kd.R_alloc | apply Kd.R_drewN | apply Kd.R_drew)); exact Kd.R_mono HO_5.out (fun _ hk => trivial)⟩, ⟨by (with_reducible repeat (first | apply Kd.N_alloc | apply Kd.N_drewN | apply Kd.N_drew)); exact Kd.N_mono HO_6.out (fun _ hk => ⟨hk.1.1, hk.1.2⟩)⟩, ⟨by (with_reducible repeat (first | refine blk_drewN ?_ _ | refine blk_drew ?_ | refine blk_alloc ?_ _)); exact BK443.out⟩, ⟨by repeat (first | (with_reducible exact HR463_0.out) | (with_reducible refine Kd.C_alloc ?_ _) | (with_reducible refine Kd.C_drewN ?_ _) | (with_reducible refine Kd.C_drew ?_) | exact HR463_0.out)⟩, ⟨by repeat (first | (with_reducible first | exact HB.out | apply below_alloc | apply pw_below_drewN | apply below_drew1 | refine below_set ?_ GE443.out) | exact HB.out)⟩⟩
                   ·rw [if_neg c50] at H
                    exact absurd H (by simp)
                  ·rw [if_neg c49] at H
                   exact absurd H (by simp)
                 ·rw [if_neg c47] at H
                  have c47b0 : decide (0 < x12_4) = false := decide_eq_false c47
                  clear c47
                  have H' := Aside0.mk H
                  clear H
                  try go_wp2
                  have n0_ := Aside0.mk (Kd.R_drew HO_5.out)
                  have n1_ := Aside0.mk (Kd.N_drew HO_6.out)
                  have n2_ := Aside0.mk (Kd.V_drew HL463_0.out)
                  have n3_ := Aside0.mk (Kd.R_drew HO467.out)
                  have n4_ := Aside0.mk (blk_drew BK443.out)
                  have n5_ := Aside0.mk (Kd.C_drew HR463_0.out)
                  have n6_ := Aside0.mk (below_drew1 HB.out)
                  clear HO_5
                  clear HO_6
                  clear HL463_0
                  clear HO467
                  clear BK443
                  clear HR463_0
                  clear HB
                  have HO_5 := n0_
                  have HO_6 := n1_
                  have HL463_0 := n2_
                  have HO467 := n3_
                  have BK443 := n4_
                  have HR463_0 := n5_
                  have HB := n6_
                  clear n0_ n1_ n2_ n3_ n4_ n5_ n6_
                  have p468 : 0 ≤ (x12_4 : Int) := of_decide_eq_true (by first | (with_reducible assumption) | assumption)
                  have q468 : x12_4 < (t446.length : Int) := of_decide_eq_true (by first | (with_reducible assumption) | assumption)
                  obtain ⟨ad468, e468, hx468_0⟩ := Kd.at_int (Kd.R_reads' HO_5.out).2.2 x12_4 p468 q468
                  cases e468
                  replace p468 := eq_true p468
                  replace q468 := eq_true q468
                  refine start_ (n := 23) (S := fun w' => w'.cell? (ad468.add (x12_4).toNat) = some (.int .i64 (rd t446 x12_4))) (ds := []) #[false, false, false, false, false, false, false, false, false, false, false, false, false, false, false, false, false, false, false, false, false, false, false] (by kernel_rfl) rfl rfl (hx468_0) (fun hHeld => ?_); refine with_tabW tutorlaw04_TrimLeast.tab17 tutorlaw04_TrimLeast.bits17 (fun HT_ HW_ => ?_)
                  generalize w45.drew = w53 at HO_5 HO_6 HL463_0 HO467 BK443 HR463_0 HB hx468_0 hHeld ⊢
                  refine pure_ (i := 0) (N := some 92) (v := ?_) (a' := ?_) #[true, false, false, false, false, false, false, false, false, false, false, false, false, false, false, false, false, false, false, false, false, false, false] rfl rfl (any_of HT_.out (by kernel_rfl)) (fun _ _ _ h => h) (Or.inl ⟨by rfl, ?_⟩) ?_ ?_
                  rotate_left
                  ·intro w'
                   go_simp
                   with_reducible rfl
                  rotate_left
                  ·simp only [Act.put, List.setIfInBounds_toArray, List.set_cons_zero, List.set_cons_succ, i64_w, i32_w]
                   rfl
                  refine pure_ (i := 1) (N := some 93) (v := ?_) (a' := ?_) #[true, true, false, false, false, false, false, false, false, false, false, false, false, false, false, false, false, false, false, false, false, false, false] rfl rfl (any_of HT_.out (by kernel_rfl)) (fun _ _ _ h => h) (Or.inl ⟨by rfl, ?_⟩) ?_ ?_
                  rotate_left
                  ·intro w'
                   go_simp
                   with_reducible rfl
                  rotate_left
                  ·simp only [Act.put, List.setIfInBounds_toArray, List.set_cons_zero, List.set_cons_succ, i64_w, i32_w]
                   rfl
                  refine pure_ (i := 2) (N := some 94) (v := ?_) (a' := ?_) #[true, true, true, false, false, false, false, false, false, false, false, false, false, false, false, false, false, false, false, false, false, false, false] rfl rfl (any_of HT_.out (by kernel_rfl)) (fun _ _ _ h => h) (Or.inl ⟨by rfl, ?_⟩) ?_ ?_
                  rotate_left
                  ·intro w'
                   go_simp
                   with_reducible rfl
                  rotate_left
                  ·simp only [Act.put, List.setIfInBounds_toArray, List.set_cons_zero, List.set_cons_succ, i64_w, i32_w]
                   rfl
                  refine pure_ (i := 3) (N := some 95) (v := ?_) (a' := ?_) #[true, true, true, true, false, false, false, false, false, false, false, false, false, false, false, false, false, false, false, false, false, false, false] rfl rfl (any_of HT_.out (by kernel_rfl)) (fun _ _ _ h => h) (Or.inl ⟨by rfl, ?_⟩) ?_ ?_
                  rotate_left
                  ·intro w'
                   go_simp
                   with_reducible rfl
                  rotate_left
                  ·simp only [Act.put, List.setIfInBounds_toArray, List.set_cons_zero, List.set_cons_succ, i64_w, i32_w]
                   rfl
                  refine take_ (i := 4) (N := some 96) (v := ?_) (a' := ?_) #[true, true, true, true, true, false, false, false, false, false, false, false, false, false, false, false, false, false, false, false, false, false, false] rfl rfl (take_ofW HT_.out HW_.out (by kernel_rfl)) (fun _ _ _ h => h) (Or.inl ⟨by rfl, ?_⟩) hHeld ?_ ?_
                  rotate_left
                  ·intro w' s0
                   go_simp
                   with_reducible rfl
                  rotate_left
                  ·simp only [Act.put, List.setIfInBounds_toArray, List.set_cons_zero, List.set_cons_succ, i64_w, i32_w]
                   rfl
                  refine pure_ (i := 5) (N := some 97) (v := ?_) (a' := ?_) #[true, true, true, true, true, true, false, false, false, false, false, false, false, false, false, false, false, false, false, false, false, false, false] rfl rfl (any_of HT_.out (by kernel_rfl)) (fun _ _ _ h => h) (Or.inl ⟨by rfl, ?_⟩) ?_ ?_
                  rotate_left
                  ·intro w'
                   go_simp
                   with_reducible rfl
                  rotate_left
                  ·simp only [Act.put, List.setIfInBounds_toArray, List.set_cons_zero, List.set_cons_succ, i64_w, i32_w]
                   rfl
                  refine pure_ (i := 6) (N := some 98) (v := ?_) (a' := ?_) #[true, true, true, true, true, true, true, false, false, false, false, false, false, false, false, false, false, false, false, false, false, false, false] rfl rfl (any_of HT_.out (by kernel_rfl)) (fun _ _ _ h => h) (Or.inl ⟨by rfl, ?_⟩) ?_ ?_
                  rotate_left
                  ·intro w'
                   go_simp
                   with_reducible rfl
                  rotate_left
                  ·simp only [Act.put, List.setIfInBounds_toArray, List.set_cons_zero, List.set_cons_succ, i64_w, i32_w]
                   rfl
                  refine pure_ (i := 7) (N := some 99) (v := ?_) (a' := ?_) #[true, true, true, true, true, true, true, true, false, false, false, false, false, false, false, false, false, false, false, false, false, false, false] rfl rfl (any_of HT_.out (by kernel_rfl)) (fun _ _ _ h => h) (Or.inl ⟨by rfl, ?_⟩) ?_ ?_
                  rotate_left
                  ·intro w'
                   go_simp
                   with_reducible rfl
                  rotate_left
                  ·simp only [Act.put, List.setIfInBounds_toArray, List.set_cons_zero, List.set_cons_succ, i64_w, i32_w]
                   rfl
                  refine pure_ (i := 8) (N := some 100) (v := ?_) (a' := ?_) #[true, true, true, true, true, true, true, true, true, false, false, false, false, false, false, false, false, false, false, false, false, false, false] rfl rfl (any_of HT_.out (by kernel_rfl)) (fun _ _ _ h => h) (Or.inl ⟨by rfl, ?_⟩) ?_ ?_
                  rotate_left
                  ·intro w'
                   go_simp
                   with_reducible rfl
                  rotate_left
                  ·simp only [Act.put, List.setIfInBounds_toArray, List.set_cons_zero, List.set_cons_succ, i64_w, i32_w]
                   rfl
                  refine pure_ (i := 9) (N := some 101) (v := ?_) (a' := ?_) #[true, true, true, true, true, true, true, true, true, true, false, false, false, false, false, false, false, false, false, false, false, false, false] rfl rfl (any_of HT_.out (by kernel_rfl)) (fun _ _ _ h => h) (Or.inl ⟨by rfl, ?_⟩) ?_ ?_
                  rotate_left
                  ·intro w'
                   go_simp
                   with_reducible rfl
                  rotate_left
                  ·simp only [Act.put, List.setIfInBounds_toArray, List.set_cons_zero, List.set_cons_succ, i64_w, i32_w]
                   rfl
                  refine pure_ (i := 10) (N := some 102) (v := undef) (a' := ?_) #[true, true, true, true, true, true, true, true, true, true, true, false, false, false, false, false, false, false, false, false, false, false, false] rfl rfl (any_of HT_.out (by kernel_rfl)) (fun _ _ _ h => h) (Or.inr ⟨by rfl, rfl⟩) ?_ ?_
                  rotate_left
                  ·simp only [Act.put, List.setIfInBounds_toArray, List.set_cons_zero, List.set_cons_succ, i64_w, i32_w]
                   rfl
                  refine pure_ (i := 11) (N := some 103) (v := undef) (a' := ?_) #[true, true, true, true, true, true, true, true, true, true, true, true, false, false, false, false, false, false, false, false, false, false, false] rfl rfl (any_of HT_.out (by kernel_rfl)) (fun _ _ _ h => h) (Or.inr ⟨by rfl, rfl⟩) ?_ ?_
                  rotate_left
                  ·simp only [Act.put, List.setIfInBounds_toArray, List.set_cons_zero, List.set_cons_succ, i64_w, i32_w]
                   rfl
                  refine pure_ (i := 12) (N := some 104) (v := undef) (a' := ?_) #[true, true, true, true, true, true, true, true, true, true, true, true, true, false, false, false, false, false, false, false, false, false, false] rfl rfl (any_of HT_.out (by kernel_rfl)) (fun _ _ _ h => h) (Or.inr ⟨by rfl, rfl⟩) ?_ ?_
                  rotate_left
                  ·simp only [Act.put, List.setIfInBounds_toArray, List.set_cons_zero, List.set_cons_succ, i64_w, i32_w]
                   rfl
                  refine pure_ (i := 13) (N := some 105) (v := undef) (a' := ?_) #[true, true, true, true, true, true, true, true, true, true, true, true, true, true, false, false, false, false, false, false, false, false, false] rfl rfl (any_of HT_.out (by kernel_rfl)) (fun _ _ _ h => h) (Or.inr ⟨by rfl, rfl⟩) ?_ ?_
                  rotate_left
                  ·simp only [Act.put, List.setIfInBounds_toArray, List.set_cons_zero, List.set_cons_succ, i64_w, i32_w]
                   rfl
                  refine pure_ (i := 14) (N := some 106) (v := undef) (a' := ?_) #[true, true, true, true, true, true, true, true, true, true, true, true, true, true, true, false, false, false, false, false, false, false, false] rfl rfl (any_of HT_.out (by kernel_rfl)) (fun _ _ _ h => h) (Or.inr ⟨by rfl, rfl⟩) ?_ ?_
                  rotate_left
                  ·simp only [Act.put, List.setIfInBounds_toArray, List.set_cons_zero, List.set_cons_succ, i64_w, i32_w]
                   rfl
                  refine pure_ (i := 15) (N := some 107) (v := undef) (a' := ?_) #[true, true, true, true, true, true, true, true, true, true, true, true, true, true, true, true, false, false, false, false, false, false, false] rfl rfl (any_of HT_.out (by kernel_rfl)) (fun _ _ _ h => h) (Or.inr ⟨by rfl, rfl⟩) ?_ ?_
                  rotate_left
                  ·simp only [Act.put, List.setIfInBounds_toArray, List.set_cons_zero, List.set_cons_succ, i64_w, i32_w]
                   rfl
                  refine pure_ (i := 16) (N := some 108) (v := undef) (a' := ?_) #[true, true, true, true, true, true, true, true, true, true, true, true, true, true, true, true, true, false, false, false, false, false, false] rfl rfl (any_of HT_.out (by kernel_rfl)) (fun _ _ _ h => h) (Or.inr ⟨by rfl, rfl⟩) ?_ ?_
                  rotate_left
                  ·simp only [Act.put, List.setIfInBounds_toArray, List.set_cons_zero, List.set_cons_succ, i64_w, i32_w]
                   rfl
                  refine pure_ (i := 17) (N := some 109) (v := undef) (a' := ?_) #[true, true, true, true, true, true, true, true, true, true, true, true, true, true, true, true, true, true, false, false, false, false, false] rfl rfl (any_of HT_.out (by kernel_rfl)) (fun _ _ _ h => h) (Or.inr ⟨by rfl, rfl⟩) ?_ ?_
                  rotate_left
                  ·simp only [Act.put, List.setIfInBounds_toArray, List.set_cons_zero, List.set_cons_succ, i64_w, i32_w]
                   rfl
                  refine pure_ (i := 18) (N := some 110) (v := undef) (a' := ?_) #[true, true, true, true, true, true, true, true, true, true, true, true, true, true, true, true, true, true, true, false, false, false, false] rfl rfl (any_of HT_.out (by kernel_rfl)) (fun _ _ _ h => h) (Or.inr ⟨by rfl, rfl⟩) ?_ ?_
                  rotate_left
                  ·simp only [Act.put, List.setIfInBounds_toArray, List.set_cons_zero, List.set_cons_succ, i64_w, i32_w]
                   rfl
                  refine pure_ (i := 19) (N := some 111) (v := undef) (a' := ?_) #[true, true, true, true, true, true, true, true, true, true, true, true, true, true, true, true, true, true, true, true, false, false, false] rfl rfl (any_of HT_.out (by kernel_rfl)) (fun _ _ _ h => h) (Or.inr ⟨by rfl, rfl⟩) ?_ ?_
                  rotate_left
                  ·simp only [Act.put, List.setIfInBounds_toArray, List.set_cons_zero, List.set_cons_succ, i64_w, i32_w]
                   rfl
                  refine pure_ (i := 20) (N := some 112) (v := undef) (a' := ?_) #[true, true, true, true, true, true, true, true, true, true, true, true, true, true, true, true, true, true, true, true, true, false, false] rfl rfl (any_of HT_.out (by kernel_rfl)) (fun _ _ _ h => h) (Or.inr ⟨by rfl, rfl⟩) ?_ ?_
                  rotate_left
                  ·simp only [Act.put, List.setIfInBounds_toArray, List.set_cons_zero, List.set_cons_succ, i64_w, i32_w]
                   rfl
                  refine pure_ (i := 21) (N := some 113) (v := ?_) (a' := ?_) #[true, true, true, true, true, true, true, true, true, true, true, true, true, true, true, true, true, true, true, true, true, true, false] rfl rfl (any_of HT_.out (by kernel_rfl)) (fun _ _ _ h => h) (Or.inl ⟨by rfl, ?_⟩) ?_ ?_
                  rotate_left
                  ·intro w'
                   go_simp
                   with_reducible rfl
                  rotate_left
                  ·simp only [Act.put, List.setIfInBounds_toArray, List.set_cons_zero, List.set_cons_succ, i64_w, i32_w]
                   rfl
                  refine pure_ (i := 22) (N := some 114) (v := ?_) (a' := ?_) #[true, true, true, true, true, true, true, true, true, true, true, true, true, true, true, true, true, true, true, true, true, true, true] rfl rfl (any_of HT_.out (by kernel_rfl)) (fun _ _ _ h => h) (Or.inl ⟨by rfl, ?_⟩) ?_ ?_
                  rotate_left
                  ·intro w'
                   go_simp
                   with_reducible rfl
                  rotate_left
                  ·simp only [Act.put, List.setIfInBounds_toArray, List.set_cons_zero, List.set_cons_succ, i64_w, i32_w]
                   rfl
                  refine done_ (done_of HT_.out (by kernel_rfl)) ?_
                  try go_wp2
                  go_meet
                  case rel => exact ⟨_, (false), (by first | rfl | (simp; done) | (simp [*]; done)), H', ⟨by have := HJ2.out; have := HJ16.out; have := HJ30.out; have := HK4.out; first | omega | exact Nat.le_refl _⟩, ⟨by (with_reducible repeat (first | apply Kd.R_alloc | apply Kd.R_drewN | apply Kd.R_drew)); exact Kd.R_mono HO_5.out (fun _ hk => trivial)⟩, ⟨by (with_reducible repeat (first | apply Kd.N_alloc | apply Kd.N_drewN | apply Kd.N_drew)); exact Kd.N_mono HO_6.out (fun _ hk => ⟨hk.1.1, hk.1.2⟩)⟩, ⟨by (with_reducible repeat (first | refine blk_drewN ?_ _ | refine blk_drew ?_ | refine blk_alloc ?_ _)); exact BK443.out⟩, ⟨by repeat (first | (with_reducible exact HR463_0.out) | (with_reducible refine Kd.C_alloc ?_ _) | (with_reducible refine Kd.C_drewN ?_ _) | (with_reducible refine Kd.C_drew ?_) | exact HR463_0.out)⟩, ⟨by repeat (first | (with_reducible first | exact HB.out | apply below_alloc | apply pw_below_drewN | apply below_drew1 | refine below_set ?_ GE443.out) | exact HB.out)⟩⟩
                ·rw [if_neg c46] at H
                 have c46b0 : (t464 == (rd t446 x12_4)) = false := beq_eq_false_iff_ne.mpr c46
                 have c46b1 : (t464 != (rd t446 x12_4)) = true := bne_iff_ne.mpr c46
                 (first | rw [c46b0] | (simp only [i64_w, i32_w]; rw [c46b0]) | skip)
                 have H' := Aside0.mk H
                 clear H
                 try go_wp2
                 have n0_ := Aside0.mk (Kd.R_drew HO_5.out)
                 have n1_ := Aside0.mk (Kd.N_drew HO_6.out)
                 have n2_ := Aside0.mk (Kd.V_drew HL463_0.out)
                 have n3_ := Aside0.mk (Kd.R_drew HO467.out)
                 have n4_ := Aside0.mk (blk_drew BK443.out)
                 have n5_ := Aside0.mk (Kd.C_drew HR463_0.out)
                 have n6_ := Aside0.mk (below_drew1 HB.out)
                 clear HO_5
                 clear HO_6
                 clear HL463_0
                 clear HO467
                 clear BK443
                 clear HR463_0
                 clear HB
                 have HO_5 := n0_
                 have HO_6 := n1_
                 have HL463_0 := n2_
                 have HO467 := n3_
                 have BK443 := n4_
                 have HR463_0 := n5_
                 have HB := n6_
                 clear n0_ n1_ n2_ n3_ n4_ n5_ n6_
                 have p468 : 0 ≤ (x12_4 : Int) := of_decide_eq_true (by first | (with_reducible assumption) | assumption)
                 have q468 : x12_4 < (t446.length : Int) := of_decide_eq_true (by first | (with_reducible assumption) | assumption)
                 obtain ⟨ad468, e468, hx468_0⟩ := Kd.at_int (Kd.R_reads' HO_5.out).2.2 x12_4 p468 q468
                 cases e468
                 replace p468 := eq_true p468
                 replace q468 := eq_true q468
                 refine start_ (n := 23) (S := fun w' => w'.cell? (ad468.add (x12_4).toNat) = some (.int .i64 (rd t446 x12_4))) (ds := []) #[false, false, false, false, false, false, false, false, false, false, false, false, false, false, false, false, false, false, false, false, false, false, false] (by kernel_rfl) rfl rfl (hx468_0) (fun hHeld => ?_); refine with_tabW tutorlaw04_TrimLeast.tab17 tutorlaw04_TrimLeast.bits17 (fun HT_ HW_ => ?_)
                 generalize w45.drew = w54 at HO_5 HO_6 HL463_0 HO467 BK443 HR463_0 HB hx468_0 hHeld ⊢
                 refine pure_ (i := 0) (N := some 92) (v := ?_) (a' := ?_) #[true, false, false, false, false, false, false, false, false, false, false, false, false, false, false, false, false, false, false, false, false, false, false] rfl rfl (any_of HT_.out (by kernel_rfl)) (fun _ _ _ h => h) (Or.inl ⟨by rfl, ?_⟩) ?_ ?_
                 rotate_left
                 ·intro w'
                  go_simp
                  with_reducible rfl
                 rotate_left
                 ·simp only [Act.put, List.setIfInBounds_toArray, List.set_cons_zero, List.set_cons_succ, i64_w, i32_w]
                  rfl
                 refine pure_ (i := 1) (N := some 93) (v := ?_) (a' := ?_) #[true, true, false, false, false, false, false, false, false, false, false, false, false, false, false, false, false, false, false, false, false, false, false] rfl rfl (any_of HT_.out (by kernel_rfl)) (fun _ _ _ h => h) (Or.inl ⟨by rfl, ?_⟩) ?_ ?_
                 rotate_left
                 ·intro w'
                  go_simp
                  with_reducible rfl
                 rotate_left
                 ·simp only [Act.put, List.setIfInBounds_toArray, List.set_cons_zero, List.set_cons_succ, i64_w, i32_w]
                  rfl
                 refine pure_ (i := 2) (N := some 94) (v := ?_) (a' := ?_) #[true, true, true, false, false, false, false, false, false, false, false, false, false, false, false, false, false, false, false, false, false, false, false] rfl rfl (any_of HT_.out (by kernel_rfl)) (fun _ _ _ h => h) (Or.inl ⟨by rfl, ?_⟩) ?_ ?_
                 rotate_left
                 ·intro w'
                  go_simp
                  with_reducible rfl
                 rotate_left
                 ·simp only [Act.put, List.setIfInBounds_toArray, List.set_cons_zero, List.set_cons_succ, i64_w, i32_w]
                  rfl
                 refine pure_ (i := 3) (N := some 95) (v := ?_) (a' := ?_) #[true, true, true, true, false, false, false, false, false, false, false, false, false, false, false, false, false, false, false, false, false, false, false] rfl rfl (any_of HT_.out (by kernel_rfl)) (fun _ _ _ h => h) (Or.inl ⟨by rfl, ?_⟩) ?_ ?_
                 rotate_left
                 ·intro w'
                  go_simp
                  with_reducible rfl
                 rotate_left
                 ·simp only [Act.put, List.setIfInBounds_toArray, List.set_cons_zero, List.set_cons_succ, i64_w, i32_w]
                  rfl
                 refine take_ (i := 4) (N := some 96) (v := ?_) (a' := ?_) #[true, true, true, true, true, false, false, false, false, false, false, false, false, false, false, false, false, false, false, false, false, false, false] rfl rfl (take_ofW HT_.out HW_.out (by kernel_rfl)) (fun _ _ _ h => h) (Or.inl ⟨by rfl, ?_⟩) hHeld ?_ ?_
                 rotate_left
                 ·intro w' s0
                  go_simp
                  with_reducible rfl
                 rotate_left
                 ·simp only [Act.put, List.setIfInBounds_toArray, List.set_cons_zero, List.set_cons_succ, i64_w, i32_w]
                  rfl
                 refine pure_ (i := 5) (N := some 97) (v := ?_) (a' := ?_) #[true, true, true, true, true, true, false, false, false, false, false, false, false, false, false, false, false, false, false, false, false, false, false] rfl rfl (any_of HT_.out (by kernel_rfl)) (fun _ _ _ h => h) (Or.inl ⟨by rfl, ?_⟩) ?_ ?_
                 rotate_left
                 ·intro w'
                  go_simp
                  with_reducible rfl
                 rotate_left
                 ·simp only [Act.put, List.setIfInBounds_toArray, List.set_cons_zero, List.set_cons_succ, i64_w, i32_w]
                  rfl
                 refine pure_ (i := 6) (N := some 98) (v := ?_) (a' := ?_) #[true, true, true, true, true, true, true, false, false, false, false, false, false, false, false, false, false, false, false, false, false, false, false] rfl rfl (any_of HT_.out (by kernel_rfl)) (fun _ _ _ h => h) (Or.inl ⟨by rfl, ?_⟩) ?_ ?_
                 rotate_left
                 ·intro w'
                  go_simp
                  with_reducible rfl
                 rotate_left
                 ·simp only [Act.put, List.setIfInBounds_toArray, List.set_cons_zero, List.set_cons_succ, i64_w, i32_w]
                  rfl
                 refine pure_ (i := 7) (N := some 99) (v := undef) (a' := ?_) #[true, true, true, true, true, true, true, true, false, false, false, false, false, false, false, false, false, false, false, false, false, false, false] rfl rfl (any_of HT_.out (by kernel_rfl)) (fun _ _ _ h => h) (Or.inr ⟨by rfl, rfl⟩) ?_ ?_
                 rotate_left
                 ·simp only [Act.put, List.setIfInBounds_toArray, List.set_cons_zero, List.set_cons_succ, i64_w, i32_w]
                  rfl
                 refine pure_ (i := 8) (N := some 100) (v := undef) (a' := ?_) #[true, true, true, true, true, true, true, true, true, false, false, false, false, false, false, false, false, false, false, false, false, false, false] rfl rfl (any_of HT_.out (by kernel_rfl)) (fun _ _ _ h => h) (Or.inr ⟨by rfl, rfl⟩) ?_ ?_
                 rotate_left
                 ·simp only [Act.put, List.setIfInBounds_toArray, List.set_cons_zero, List.set_cons_succ, i64_w, i32_w]
                  rfl
                 refine pure_ (i := 9) (N := some 101) (v := undef) (a' := ?_) #[true, true, true, true, true, true, true, true, true, true, false, false, false, false, false, false, false, false, false, false, false, false, false] rfl rfl (any_of HT_.out (by kernel_rfl)) (fun _ _ _ h => h) (Or.inr ⟨by rfl, rfl⟩) ?_ ?_
                 rotate_left
                 ·simp only [Act.put, List.setIfInBounds_toArray, List.set_cons_zero, List.set_cons_succ, i64_w, i32_w]
                  rfl
                 refine pure_ (i := 10) (N := some 102) (v := undef) (a' := ?_) #[true, true, true, true, true, true, true, true, true, true, true, false, false, false, false, false, false, false, false, false, false, false, false] rfl rfl (any_of HT_.out (by kernel_rfl)) (fun _ _ _ h => h) (Or.inr ⟨by rfl, rfl⟩) ?_ ?_
                 rotate_left
                 ·simp only [Act.put, List.setIfInBounds_toArray, List.set_cons_zero, List.set_cons_succ, i64_w, i32_w]
                  rfl
                 refine pure_ (i := 11) (N := some 103) (v := undef) (a' := ?_) #[true, true, true, true, true, true, true, true, true, true, true, true, false, false, false, false, false, false, false, false, false, false, false] rfl rfl (any_of HT_.out (by kernel_rfl)) (fun _ _ _ h => h) (Or.inr ⟨by rfl, rfl⟩) ?_ ?_
                 rotate_left
                 ·simp only [Act.put, List.setIfInBounds_toArray, List.set_cons_zero, List.set_cons_succ, i64_w, i32_w]
                  rfl
                 refine pure_ (i := 12) (N := some 104) (v := undef) (a' := ?_) #[true, true, true, true, true, true, true, true, true, true, true, true, true, false, false, false, false, false, false, false, false, false, false] rfl rfl (any_of HT_.out (by kernel_rfl)) (fun _ _ _ h => h) (Or.inr ⟨by rfl, rfl⟩) ?_ ?_
                 rotate_left
                 ·simp only [Act.put, List.setIfInBounds_toArray, List.set_cons_zero, List.set_cons_succ, i64_w, i32_w]
                  rfl
                 refine pure_ (i := 13) (N := some 105) (v := undef) (a' := ?_) #[true, true, true, true, true, true, true, true, true, true, true, true, true, true, false, false, false, false, false, false, false, false, false] rfl rfl (any_of HT_.out (by kernel_rfl)) (fun _ _ _ h => h) (Or.inr ⟨by rfl, rfl⟩) ?_ ?_
                 rotate_left
                 ·simp only [Act.put, List.setIfInBounds_toArray, List.set_cons_zero, List.set_cons_succ, i64_w, i32_w]
                  rfl
                 refine pure_ (i := 14) (N := some 106) (v := undef) (a' := ?_) #[true, true, true, true, true, true, true, true, true, true, true, true, true, true, true, false, false, false, false, false, false, false, false] rfl rfl (any_of HT_.out (by kernel_rfl)) (fun _ _ _ h => h) (Or.inr ⟨by rfl, rfl⟩) ?_ ?_
                 rotate_left
                 ·simp only [Act.put, List.setIfInBounds_toArray, List.set_cons_zero, List.set_cons_succ, i64_w, i32_w]
                  rfl
                 refine pure_ (i := 15) (N := some 107) (v := undef) (a' := ?_) #[true, true, true, true, true, true, true, true, true, true, true, true, true, true, true, true, false, false, false, false, false, false, false] rfl rfl (any_of HT_.out (by kernel_rfl)) (fun _ _ _ h => h) (Or.inr ⟨by rfl, rfl⟩) ?_ ?_
                 rotate_left
                 ·simp only [Act.put, List.setIfInBounds_toArray, List.set_cons_zero, List.set_cons_succ, i64_w, i32_w]
                  rfl
                 refine pure_ (i := 16) (N := some 108) (v := undef) (a' := ?_) #[true, true, true, true, true, true, true, true, true, true, true, true, true, true, true, true, true, false, false, false, false, false, false] rfl rfl (any_of HT_.out (by kernel_rfl)) (fun _ _ _ h => h) (Or.inr ⟨by rfl, rfl⟩) ?_ ?_
                 rotate_left
                 ·simp only [Act.put, List.setIfInBounds_toArray, List.set_cons_zero, List.set_cons_succ, i64_w, i32_w]
                  rfl
                 refine pure_ (i := 17) (N := some 109) (v := undef) (a' := ?_) #[true, true, true, true, true, true, true, true, true, true, true, true, true, true, true, true, true, true, false, false, false, false, false] rfl rfl (any_of HT_.out (by kernel_rfl)) (fun _ _ _ h => h) (Or.inr ⟨by rfl, rfl⟩) ?_ ?_
                 rotate_left
                 ·simp only [Act.put, List.setIfInBounds_toArray, List.set_cons_zero, List.set_cons_succ, i64_w, i32_w]
                  rfl
                 refine pure_ (i := 18) (N := some 110) (v := undef) (a' := ?_) #[true, true, true, true, true, true, true, true, true, true, true, true, true, true, true, true, true, true, true, false, false, false, false] rfl rfl (any_of HT_.out (by kernel_rfl)) (fun _ _ _ h => h) (Or.inr ⟨by rfl, rfl⟩) ?_ ?_
                 rotate_left
                 ·simp only [Act.put, List.setIfInBounds_toArray, List.set_cons_zero, List.set_cons_succ, i64_w, i32_w]
                  rfl
                 refine pure_ (i := 19) (N := some 111) (v := undef) (a' := ?_) #[true, true, true, true, true, true, true, true, true, true, true, true, true, true, true, true, true, true, true, true, false, false, false] rfl rfl (any_of HT_.out (by kernel_rfl)) (fun _ _ _ h => h) (Or.inr ⟨by rfl, rfl⟩) ?_ ?_
                 rotate_left
                 ·simp only [Act.put, List.setIfInBounds_toArray, List.set_cons_zero, List.set_cons_succ, i64_w, i32_w]
                  rfl
                 refine pure_ (i := 20) (N := some 112) (v := undef) (a' := ?_) #[true, true, true, true, true, true, true, true, true, true, true, true, true, true, true, true, true, true, true, true, true, false, false] rfl rfl (any_of HT_.out (by kernel_rfl)) (fun _ _ _ h => h) (Or.inr ⟨by rfl, rfl⟩) ?_ ?_
                 rotate_left
                 ·simp only [Act.put, List.setIfInBounds_toArray, List.set_cons_zero, List.set_cons_succ, i64_w, i32_w]
                  rfl
                 refine pure_ (i := 21) (N := some 113) (v := undef) (a' := ?_) #[true, true, true, true, true, true, true, true, true, true, true, true, true, true, true, true, true, true, true, true, true, true, false] rfl rfl (any_of HT_.out (by kernel_rfl)) (fun _ _ _ h => h) (Or.inr ⟨by rfl, rfl⟩) ?_ ?_
                 rotate_left
                 ·simp only [Act.put, List.setIfInBounds_toArray, List.set_cons_zero, List.set_cons_succ, i64_w, i32_w]
                  rfl
                 refine pure_ (i := 22) (N := some 114) (v := ?_) (a' := ?_) #[true, true, true, true, true, true, true, true, true, true, true, true, true, true, true, true, true, true, true, true, true, true, true] rfl rfl (any_of HT_.out (by kernel_rfl)) (fun _ _ _ h => h) (Or.inl ⟨by rfl, ?_⟩) ?_ ?_
                 rotate_left
                 ·intro w'
                  go_simp
                  with_reducible rfl
                 rotate_left
                 ·simp only [Act.put, List.setIfInBounds_toArray, List.set_cons_zero, List.set_cons_succ, i64_w, i32_w]
                  rfl
                 refine done_ (done_of HT_.out (by kernel_rfl)) ?_
                 try go_wp2
                 go_meet
                 case rel => exact ⟨_, (true), (by first | rfl | (simp; done) | (simp [*]; done)), H', ⟨by have := HJ2.out; have := HJ16.out; have := HJ30.out; have := HK4.out; first | omega | exact Nat.le_refl _⟩, ⟨by (with_reducible repeat (first | apply Kd.R_alloc | apply Kd.R_drewN | apply Kd.R_drew)); exact Kd.R_mono HO_5.out (fun _ hk => trivial)⟩, ⟨by (with_reducible repeat (first | apply Kd.N_alloc | apply Kd.N_drewN | apply Kd.N_drew)); exact Kd.N_mono HO_6.out (fun _ hk => ⟨hk.1.1, hk.1.2⟩)⟩, ⟨by (with_reducible repeat (first | refine blk_drewN ?_ _ | refine blk_drew ?_ | refine blk_alloc ?_ _)); exact BK443.out⟩, ⟨by repeat (first | (with_reducible exact HR463_0.out) | (with_reducible refine Kd.C_alloc ?_ _) | (with_reducible refine Kd.C_drewN ?_ _) | (with_reducible refine Kd.C_drew ?_) | exact HR463_0.out)⟩, ⟨by repeat (first | (with_reducible first | exact HB.out | apply below_alloc | apply pw_below_drewN | apply below_drew1 | refine below_set ?_ GE443.out) | exact HB.out)⟩⟩
               case rest =>
                clear HC41
                try clear p2
                try clear c3
                try clear c4
                try clear p4
                try clear q4
                try clear hx4
                try clear c5
                try clear c31
                try clear c46
                try clear c46b0
                try clear c46b1
                try clear p46
                try clear q46
                try clear hx46
                try clear c47
                try clear c47b0
                try clear p47
                try clear q47
                try clear hx47
                try clear c49
                try clear c50
                try clear hx468_0
                try clear hx469_0
                try clear hx470_0
                try clear p468
                try clear p469
                try clear p470
                try clear q468
                try clear q469
                try clear q470
                obtain ⟨kq, x114_40, rfl, HA, HJ40, HO_5, HO_6, BK443, HR463_0, HB⟩ := hcut
                cases kq with
                | zero => exact absurd HA.out (by simp [tutorlaw04_TrimLeast.j4])
                | succ kj40 =>
                 have H := HA.out
                 clear HA
                 simp only [tutorlaw04_TrimLeast.j4] at H
                 by_cases c55 : x114_40 = true
                 ·subst c55
                  have H1 : (none) = some r := by rw [if_pos rfl] at H; exact H
                  clear H
                  have H := H1
                  clear H1
                  exact absurd H (by simp)
                 ·replace c55 := Bool.eq_false_iff.mpr c55
                  subst c55
                  have H1 : (if t464 = x10_30 then (if 0 ≤ x12_4 then (if x12_4 < (t449.length : Int) then ((tutorref01_Ahead.f kj40 l1 (rd_L1 t449 x12_4)).bind fun t473 => (if t473 = true then (none) else (tutorlaw04_TrimLeast.j5 kj40 l1 t446 t449 x10_30 true x12_4 a0_0 a0_1 a0_2 a0_3 l0_4 l0_5))) else (none)) else (none)) else (tutorlaw04_TrimLeast.j5 kj40 l1 t446 t449 x10_30 x11_4 x12_4 a0_0 a0_1 a0_2 a0_3 l0_4 l0_5)) = some r := by rw [if_neg (show ¬ (false = true) by decide)] at H; exact H
                  clear H
                  have H := H1
                  clear H1
                  have HC56 := Aside0.mk H
                  clear H
                  go_upto_if 117 with (fail)
                  go_cut [11] (fun v11 wc => ∃ (kq : Nat) (x11_55 : Bool), v11 = .bool x11_55 ∧ Aside0 (tutorlaw04_TrimLeast.j5 kq l1 t446 t449 x10_30 x11_55 x12_4 a0_0 a0_1 a0_2 a0_3 l0_4 l0_5 = some r) ∧ Aside0 (kq ≤ kj40) ∧ Aside0 (Kd.R (Kd.int .i64) 3 wc w.heap.size (fun _ => True) (.slice Ao42 t446.length co42) t446) ∧ Aside0 (Kd.N (Kd.slice 3 (Kd.int .i64)) 22 wc w.heap.size (fun k_ => some k_ ≠ ((.slice Ao42 t446.length co42) : Value).ownBlock ∧ k_ ≠ gb443) (.slice (some ad463) t449.length co44) t449) ∧ Aside0 (wc.heap[gb443]? = some (.cells #[.int .i64 a0_0, .int .i64 a0_1, .int .i64 a0_2, .int .i64 a0_3, (.slice A0_4 l0_4.length c0_4), (.slice A0_5 l0_5.length c0_5)] 24 (0, 0))) ∧ Aside0 (Kd.C (Kd.int .i64) wc A463_0 (rd_L1 t449 x12_4).length (rd_L1 t449 x12_4)) ∧ Aside0 (Below w.heap.size w wc))
                  case first =>
                   have H := HC56.out
                   clear HC56
                   by_cases c57 : t464 = x10_30
                   ·rw [if_pos c57] at H
                    have c57b0 : (t464 == x10_30) = true := beq_iff_eq.mpr c57
                    have c57b1 : (t464 != x10_30) = false := bne_eq_false_iff_eq.mpr c57
                    clear c57
                    (first | rw [c57b0] | (simp only [i64_w, i32_w]; rw [c57b0]) | skip)
                    by_cases c58 : 0 ≤ x12_4
                    ·rw [if_pos c58] at H
                     have c58b0 : decide (0 ≤ x12_4) = true := decide_eq_true c58
                     clear c58
                     by_cases c59 : x12_4 < (t449.length : Int)
                     ·rw [if_pos c59] at H
                      have c59b0 : decide (x12_4 < (t449.length : Int)) = true := decide_eq_true c59
                      clear c59
                      replace H := Option.bind_eq_some_iff.mp H
                      obtain ⟨t473, A600, H⟩ := H
                      replace H : (if t473 = true then (none) else (tutorlaw04_TrimLeast.j5 kj40 l1 t446 t449 x10_30 true x12_4 a0_0 a0_1 a0_2 a0_3 l0_4 l0_5)) = some r := H
                      have A60 := Aside0.mk A600
                      clear A600
                      by_cases c61 : t473 = true
                      ·subst c61
                       have H1 : (none) = some r := by rw [if_pos rfl] at H; exact H
                       clear H
                       have H := H1
                       clear H1
                       exact absurd H (by simp)
                      ·replace c61 := Bool.eq_false_iff.mpr c61
                       subst c61
                       have H1 : (tutorlaw04_TrimLeast.j5 kj40 l1 t446 t449 x10_30 true x12_4 a0_0 a0_1 a0_2 a0_3 l0_4 l0_5) = some r := by rw [if_neg (show ¬ (false = true) by decide)] at H; exact H
                       clear H
                       have H := H1
                       clear H1
                       have H' := Aside0.mk H
                       clear H
                       have p472 : 0 ≤ (x12_4 : Int) := of_decide_eq_true (by first | (with_reducible assumption) | assumption)
                       have q472 : x12_4 < (t449.length : Int) := of_decide_eq_true (by first | (with_reducible assumption) | assumption)
                       obtain ⟨ad472, A472_0, c472_0, e472, hx472_0, hl472_0, hi472_0⟩ := at_L1 (Kd.N_reads' HO_6.out).2.2 x12_4 p472 q472
                       obtain rfl : ad463 = ad472 := (by injection e472)
                       obtain ⟨ce472, hce472, hMe472, hcc472⟩ := Kd.N_get HO_6.out [] x12_4 p472 (by first | exact q472 | exact of_decide_eq_true (by first | (with_reducible assumption) | assumption) | (have e_ := (Kd.N_reads' HO_6.out).1; omega))
                       obtain ⟨ua472_0, uc472_0, rfl, ul472_0, ge472_0⟩ := Kd.FK_slice_open hMe472
                       have hv472_0 := hcc472 0 _ rfl
                       rw [Nat.add_zero, show ((Kd.slice 3 (Kd.int .i64))).sz = 1 from rfl, Nat.mul_one] at hv472_0
                       replace hv472_0 := Option.some.inj (hv472_0.symm.trans hx472_0)
                       injection hv472_0 with hva_ hvn_ hvc_
                       rw [hva_] at ge472_0
                       rw [hvc_] at ul472_0
                       have HL472_0 := Aside0.mk (show Kd.V (Kd.int .i64) 3 _ w.heap.size _ _ (rd_L1 t449 x12_4) from Kd.V_mk ul472_0 ge472_0)
                       clear hva_ hvn_ hvc_ ge472_0 ul472_0
                       clear hcc472 hce472
                       have HR472_0 := Aside0.mk hi472_0
                       have HC472_0 := Aside0.mk hl472_0
                       clear hi472_0 hl472_0
                       replace p472 := eq_true p472
                       replace q472 := eq_true q472
                       go_wp2_with (first | ((with_reducible refine gate_callee (f := 31) rfl ?_); refine goesL_ (some 123) rfl rfl Try.func31 (by kernel_rfl) rfl #[.slice A1 l1.length c1, .slice A472_0 (rd_L1 t449 x12_4).length c472_0] rfl (by (try simp only [List.map_toArray, List.map_cons, List.map_nil]); first | done | rfl | (simp only [List.length_drop, List.length_take]; rfl)) ?_; (with_reducible refine (tutorref01_Ahead.calls kj40 _ _ l1 _ _ (rd_L1 t449 x12_4) false _ ?side1 ?side2 ?side3 ?side4 A60.out).mono ?_); (case side1 => repeat (first | exact (Kd.C_below HR1.out HB.out) | (with_reducible refine Kd.C_alloc ?_ _) | (with_reducible refine Kd.C_drewN ?_ _) | (with_reducible refine Kd.C_drew ?_))); (case side2 => exact HC1.out); (case side3 => repeat (first | exact (by repeat (first | (with_reducible exact HR472_0.out) | (with_reducible refine Kd.C_alloc ?_ _) | (with_reducible refine Kd.C_drewN ?_ _) | (with_reducible refine Kd.C_drew ?_) | exact HR472_0.out)) | (with_reducible refine Kd.C_alloc ?_ _) | (with_reducible refine Kd.C_drewN ?_ _) | (with_reducible refine Kd.C_drew ?_))); (case side4 => exact HC472_0.out); rintro e w' ⟨rfl, ⟨nd, rfl⟩⟩; refine ⟨_, rfl, ?_⟩))
                       go_meet
                       case rel => exact ⟨_, (true), (by first | rfl | (simp; done) | (simp [*]; done)), H', ⟨by have := HJ2.out; have := HJ16.out; have := HJ30.out; have := HK4.out; have := HJ40.out; first | omega | exact Nat.le_refl _⟩, ⟨by (with_reducible repeat (first | apply Kd.R_alloc | apply Kd.R_drewN | apply Kd.R_drew)); exact HO_5.out⟩, ⟨by (with_reducible repeat (first | apply Kd.N_alloc | apply Kd.N_drewN | apply Kd.N_drew)); exact HO_6.out⟩, ⟨by (with_reducible repeat (first | refine blk_drewN ?_ _ | refine blk_drew ?_ | refine blk_alloc ?_ _)); exact BK443.out⟩, ⟨by repeat (first | (with_reducible exact HR463_0.out) | (with_reducible refine Kd.C_alloc ?_ _) | (with_reducible refine Kd.C_drewN ?_ _) | (with_reducible refine Kd.C_drew ?_) | exact HR463_0.out)⟩, ⟨by repeat (first | (with_reducible first | exact HB.out | apply below_alloc | apply pw_below_drewN | apply below_drew1 | refine below_set ?_ GE443.out) | exact HB.out)⟩⟩
                     ·rw [if_neg c59] at H
                      exact absurd H (by simp)
                    ·rw [if_neg c58] at H
                     exact absurd H (by simp)
                   ·rw [if_neg c57] at H
                    have c57b0 : (t464 == x10_30) = false := beq_eq_false_iff_ne.mpr c57
                    have c57b1 : (t464 != x10_30) = true := bne_iff_ne.mpr c57
                    (first | rw [c57b0] | (simp only [i64_w, i32_w]; rw [c57b0]) | skip)
                    have H' := Aside0.mk H
                    clear H
                    go_wp2
                    go_meet
                    case rel => exact ⟨_, (x11_4), (by first | rfl | (simp; done) | (simp [*]; done)), H', ⟨by have := HJ2.out; have := HJ16.out; have := HJ30.out; have := HK4.out; have := HJ40.out; first | omega | exact Nat.le_refl _⟩, ⟨by (with_reducible repeat (first | apply Kd.R_alloc | apply Kd.R_drewN | apply Kd.R_drew)); exact HO_5.out⟩, ⟨by (with_reducible repeat (first | apply Kd.N_alloc | apply Kd.N_drewN | apply Kd.N_drew)); exact HO_6.out⟩, ⟨by (with_reducible repeat (first | refine blk_drewN ?_ _ | refine blk_drew ?_ | refine blk_alloc ?_ _)); exact BK443.out⟩, ⟨by repeat (first | (with_reducible exact HR463_0.out) | (with_reducible refine Kd.C_alloc ?_ _) | (with_reducible refine Kd.C_drewN ?_ _) | (with_reducible refine Kd.C_drew ?_) | exact HR463_0.out)⟩, ⟨by repeat (first | (with_reducible first | exact HB.out | apply below_alloc | apply pw_below_drewN | apply below_drew1 | refine below_set ?_ GE443.out) | exact HB.out)⟩⟩
                  case rest =>
                   clear HC56
                   try clear c1
                   try clear p2
                   try clear c3
                   try clear c4
                   try clear p4
                   try clear q4
                   try clear hx4
                   try clear c5
                   try clear c6
                   try clear c31
                   try clear c46
                   try clear c46b0
                   try clear c46b1
                   try clear p46
                   try clear q46
                   try clear hx46
                   try clear c47
                   try clear c47b0
                   try clear p47
                   try clear q47
                   try clear hx47
                   try clear c49
                   try clear c50
                   try clear c55
                   try clear c57
                   try clear c57b0
                   try clear c57b1
                   try clear c58
                   try clear c58b0
                   try clear c59
                   try clear c59b0
                   try clear c61
                   try clear hx468_0
                   try clear hx469_0
                   try clear hx470_0
                   try clear hx472_0
                   try clear p2
                   try clear p4
                   try clear p46
                   try clear p468
                   try clear p469
                   try clear p47
                   try clear p470
                   try clear p472
                   try clear q4
                   try clear q46
                   try clear q468
                   try clear q469
                   try clear q47
                   try clear q470
                   try clear q472
                   obtain ⟨kq, x11_55, rfl, HA, HJ55, HO_5, HO_6, BK443, HR463_0, HB⟩ := hcut
                   cases kq with
                   | zero => exact absurd HA.out (by simp [tutorlaw04_TrimLeast.j5])
                   | succ kj55 =>
                    have H := HA.out
                    clear HA
                    simp only [tutorlaw04_TrimLeast.j5] at H
                    by_cases c62 : 0 ≤ x12_4
                    ·rw [if_pos c62] at H
                     have c62b0 : decide (0 ≤ x12_4) = true := decide_eq_true c62
                     clear c62
                     by_cases c63 : x12_4 < (t449.length : Int)
                     ·rw [if_pos c63] at H
                      have c63b0 : decide (x12_4 < (t449.length : Int)) = true := decide_eq_true c63
                      clear c63
                      by_cases c64 : ((rd_L1 t449 x12_4).length : Int) > 0
                      ·rw [if_pos c64] at H
                       have c64b0 : decide (0 < ((rd_L1 t449 x12_4).length : Int)) = true := decide_eq_true c64
                       have c64b1 : decide (0 < (rd_L1 t449 x12_4).length) = true := decide_eq_true (by omega)
                       clear c64
                       have H' := Aside0.mk H
                       clear H
                       have p474 : 0 ≤ (x12_4 : Int) := of_decide_eq_true (by first | (with_reducible assumption) | assumption)
                       have q474 : x12_4 < (t449.length : Int) := of_decide_eq_true (by first | (with_reducible assumption) | assumption)
                       obtain ⟨ad474, A474_0, c474_0, e474, hx474_0, hl474_0, hi474_0⟩ := at_L1 (Kd.N_reads' HO_6.out).2.2 x12_4 p474 q474
                       obtain rfl : ad463 = ad474 := (by injection e474)
                       obtain ⟨ce474, hce474, hMe474, hcc474⟩ := Kd.N_get HO_6.out [] x12_4 p474 (by first | exact q474 | exact of_decide_eq_true (by first | (with_reducible assumption) | assumption) | (have e_ := (Kd.N_reads' HO_6.out).1; omega))
                       obtain ⟨ua474_0, uc474_0, rfl, ul474_0, ge474_0⟩ := Kd.FK_slice_open hMe474
                       have hv474_0 := hcc474 0 _ rfl
                       rw [Nat.add_zero, show ((Kd.slice 3 (Kd.int .i64))).sz = 1 from rfl, Nat.mul_one] at hv474_0
                       replace hv474_0 := Option.some.inj (hv474_0.symm.trans hx474_0)
                       injection hv474_0 with hva_ hvn_ hvc_
                       rw [hva_] at ge474_0
                       rw [hvc_] at ul474_0
                       have HL474_0 := Aside0.mk (show Kd.V (Kd.int .i64) 3 _ w.heap.size _ _ (rd_L1 t449 x12_4) from Kd.V_mk ul474_0 ge474_0)
                       clear hva_ hvn_ hvc_ ge474_0 ul474_0
                       clear hcc474 hce474
                       have HR474_0 := Aside0.mk hi474_0
                       have HC474_0 := Aside0.mk hl474_0
                       clear hi474_0 hl474_0
                       replace p474 := eq_true p474
                       replace q474 := eq_true q474
                       go_wp2
                       go_loopg [15, 16] kj55 (fun kq v15 v16 w' => ∃ (x15_7 : Bool) (x16_7 : Int), v15 = .bool x15_7 ∧ v16 = .int .i64 x16_7 ∧ Aside0 (tutorlaw04_TrimLeast.l1 kq l1 t446 t449 x10_30 x11_55 x12_4 x15_7 x16_7 a0_0 a0_1 a0_2 a0_3 l0_4 l0_5 = some r) ∧ Aside0 (kq ≤ kj55) ∧ Aside0 (Kd.R (Kd.int .i64) 3 w' w.heap.size (fun _ => True) (.slice Ao42 t446.length co42) t446) ∧ Aside0 (Kd.N (Kd.slice 3 (Kd.int .i64)) 22 w' w.heap.size (fun k_ => some k_ ≠ ((.slice Ao42 t446.length co42) : Value).ownBlock ∧ k_ ≠ gb443) (.slice (some ad463) t449.length co44) t449) ∧ Aside0 (w'.heap[gb443]? = some (.cells #[.int .i64 a0_0, .int .i64 a0_1, .int .i64 a0_2, .int .i64 a0_3, (.slice A0_4 l0_4.length c0_4), (.slice A0_5 l0_5.length c0_5)] 24 (0, 0))) ∧ Aside0 (Kd.C (Kd.int .i64) w' A463_0 (rd_L1 t449 x12_4).length (rd_L1 t449 x12_4)) ∧ Aside0 (Kd.C (Kd.int .i64) w' A474_0 (rd_L1 t449 x12_4).length (rd_L1 t449 x12_4)) ∧ Aside0 (Below w.heap.size w w'))
                       case atStart => exact ⟨(false), (0), (by first | rfl | (simp; done) | (simp [*]; done)), (by first | rfl | (simp; done) | (simp [*]; done)), H', ⟨Nat.le_refl _⟩, ⟨by (with_reducible repeat (first | apply Kd.R_alloc | apply Kd.R_drewN | apply Kd.R_drew)); exact HO_5.out⟩, ⟨by (with_reducible repeat (first | apply Kd.N_alloc | apply Kd.N_drewN | apply Kd.N_drew)); exact HO_6.out⟩, ⟨by (with_reducible repeat (first | refine blk_drewN ?_ _ | refine blk_drew ?_ | refine blk_alloc ?_ _)); exact BK443.out⟩, ⟨by repeat (first | (with_reducible exact HR463_0.out) | (with_reducible refine Kd.C_alloc ?_ _) | (with_reducible refine Kd.C_drewN ?_ _) | (with_reducible refine Kd.C_drew ?_) | exact HR463_0.out)⟩, ⟨by repeat (first | (with_reducible exact HR474_0.out) | (with_reducible refine Kd.C_alloc ?_ _) | (with_reducible refine Kd.C_drewN ?_ _) | (with_reducible refine Kd.C_drew ?_) | exact HR474_0.out)⟩, ⟨by repeat (first | (with_reducible first | exact HB.out | apply below_alloc | apply pw_below_drewN | apply below_drew1 | refine below_set ?_ GE443.out) | exact HB.out)⟩⟩
                       case round =>
                        clear H'
                        try clear c1
                        try clear p2
                        try clear c3
                        try clear c4
                        try clear p4
                        try clear q4
                        try clear hx4
                        try clear c5
                        try clear c6
                        try clear c31
                        try clear c46
                        try clear c46b0
                        try clear c46b1
                        try clear p46
                        try clear q46
                        try clear hx46
                        try clear c47
                        try clear c47b0
                        try clear p47
                        try clear q47
                        try clear hx47
                        try clear c49
                        try clear c50
                        try clear c55
                        try clear c57
                        try clear c57b0
                        try clear c57b1
                        try clear c58
                        try clear c58b0
                        try clear c59
                        try clear c59b0
                        try clear c61
                        try clear c62
                        try clear c62b0
                        try clear c63
                        try clear c63b0
                        try clear c64
                        try clear c64b0
                        try clear c64b1
                        try clear hx468_0
                        try clear hx469_0
                        try clear hx470_0
                        try clear hx472_0
                        try clear hx474_0
                        try clear p2
                        try clear p4
                        try clear p46
                        try clear p468
                        try clear p469
                        try clear p47
                        try clear p470
                        try clear p472
                        try clear p474
                        try clear q4
                        try clear q46
                        try clear q468
                        try clear q469
                        try clear q47
                        try clear q470
                        try clear q472
                        try clear q474
                        obtain ⟨x15_7, x16_7, rfl, rfl, HA, HK7, HO_5, HO_6, BK443, HR463_0, HR474_0, HB⟩ := hrel
                        cases gk with
                        | zero => exact absurd HA.out (by simp [tutorlaw04_TrimLeast.l1])
                        | succ k7 =>
                         have H := HA.out
                         clear HA
                         simp only [tutorlaw04_TrimLeast.l1] at H
                         by_cases c65 : x16_7 < x12_4
                         ·rw [if_pos c65] at H
                          have c65b0 : decide (x16_7 < x12_4) = true := decide_eq_true c65
                          clear c65
                          by_cases c66 : x15_7 = true
                          ·subst c66
                           have H1 : (tutorlaw04_TrimLeast.l1 k7 l1 t446 t449 x10_30 x11_55 x12_4 true (wrap64 (x16_7 + 1)) a0_0 a0_1 a0_2 a0_3 l0_4 l0_5) = some r := by rw [if_pos rfl] at H; exact H
                           clear H
                           have H := H1
                           clear H1
                           have H' := Aside0.mk H
                           clear H
                           try go_wp2
                           have n0_ := Aside0.mk (Kd.R_drew HO_5.out)
                           have n1_ := Aside0.mk (Kd.N_drew HO_6.out)
                           have n2_ := Aside0.mk (blk_drew BK443.out)
                           have n3_ := Aside0.mk (Kd.C_drew HR463_0.out)
                           have n4_ := Aside0.mk (Kd.C_drew HR474_0.out)
                           have n5_ := Aside0.mk (below_drew1 HB.out)
                           clear HO_5
                           clear HO_6
                           clear BK443
                           clear HR463_0
                           clear HR474_0
                           clear HB
                           have HO_5 := n0_
                           have HO_6 := n1_
                           have BK443 := n2_
                           have HR463_0 := n3_
                           have HR474_0 := n4_
                           have HB := n5_
                           clear n0_ n1_ n2_ n3_ n4_ n5_
                           refine start_ (n := 20) (S := fun w' => True) (ds := []) #[false, false, false, false, false, false, false, false, false, false, false, false, false, false, false, false, false, false, false, false] (by kernel_rfl) rfl rfl trivial (fun hHeld => ?_); refine with_tabW tutorlaw04_TrimLeast.tab28 tutorlaw04_TrimLeast.bits28 (fun HT_ HW_ => ?_)
                           generalize wr.drew = w67 at HO_5 HO_6 BK443 HR463_0 HR474_0 HB hHeld ⊢
                           refine pure_ (i := 0) (N := some 135) (v := ?_) (a' := ?_) #[true, false, false, false, false, false, false, false, false, false, false, false, false, false, false, false, false, false, false, false] rfl rfl (any_of HT_.out (by kernel_rfl)) (fun _ _ _ h => h) (Or.inl ⟨by rfl, ?_⟩) ?_ ?_
                           rotate_left
                           ·intro w'
                            go_simp
                            with_reducible rfl
                           rotate_left
                           ·simp only [Act.put, List.setIfInBounds_toArray, List.set_cons_zero, List.set_cons_succ, i64_w, i32_w]
                            rfl
                           refine pure_ (i := 1) (N := some 136) (v := ?_) (a' := ?_) #[true, true, false, false, false, false, false, false, false, false, false, false, false, false, false, false, false, false, false, false] rfl rfl (any_of HT_.out (by kernel_rfl)) (fun _ _ _ h => h) (Or.inl ⟨by rfl, ?_⟩) ?_ ?_
                           rotate_left
                           ·intro w'
                            go_simp
                            with_reducible rfl
                           rotate_left
                           ·simp only [Act.put, List.setIfInBounds_toArray, List.set_cons_zero, List.set_cons_succ, i64_w, i32_w]
                            rfl
                           refine pure_ (i := 2) (N := some 137) (v := undef) (a' := ?_) #[true, true, true, false, false, false, false, false, false, false, false, false, false, false, false, false, false, false, false, false] rfl rfl (any_of HT_.out (by kernel_rfl)) (fun _ _ _ h => h) (Or.inr ⟨by rfl, rfl⟩) ?_ ?_
                           rotate_left
                           ·simp only [Act.put, List.setIfInBounds_toArray, List.set_cons_zero, List.set_cons_succ, i64_w, i32_w]
                            rfl
                           refine pure_ (i := 3) (N := some 138) (v := undef) (a' := ?_) #[true, true, true, true, false, false, false, false, false, false, false, false, false, false, false, false, false, false, false, false] rfl rfl (any_of HT_.out (by kernel_rfl)) (fun _ _ _ h => h) (Or.inr ⟨by rfl, rfl⟩) ?_ ?_
                           rotate_left
                           ·simp only [Act.put, List.setIfInBounds_toArray, List.set_cons_zero, List.set_cons_succ, i64_w, i32_w]
                            rfl
                           refine pure_ (i := 4) (N := some 139) (v := undef) (a' := ?_) #[true, true, true, true, true, false, false, false, false, false, false, false, false, false, false, false, false, false, false, false] rfl rfl (any_of HT_.out (by kernel_rfl)) (fun _ _ _ h => h) (Or.inr ⟨by rfl, rfl⟩) ?_ ?_
                           rotate_left
                           ·simp only [Act.put, List.setIfInBounds_toArray, List.set_cons_zero, List.set_cons_succ, i64_w, i32_w]
                            rfl
                           refine pure_ (i := 5) (N := some 140) (v := undef) (a' := ?_) #[true, true, true, true, true, true, false, false, false, false, false, false, false, false, false, false, false, false, false, false] rfl rfl (any_of HT_.out (by kernel_rfl)) (fun _ _ _ h => h) (Or.inr ⟨by rfl, rfl⟩) ?_ ?_
                           rotate_left
                           ·simp only [Act.put, List.setIfInBounds_toArray, List.set_cons_zero, List.set_cons_succ, i64_w, i32_w]
                            rfl
                           refine pure_ (i := 6) (N := some 141) (v := undef) (a' := ?_) #[true, true, true, true, true, true, true, false, false, false, false, false, false, false, false, false, false, false, false, false] rfl rfl (any_of HT_.out (by kernel_rfl)) (fun _ _ _ h => h) (Or.inr ⟨by rfl, rfl⟩) ?_ ?_
                           rotate_left
                           ·simp only [Act.put, List.setIfInBounds_toArray, List.set_cons_zero, List.set_cons_succ, i64_w, i32_w]
                            rfl
                           refine pure_ (i := 7) (N := some 142) (v := undef) (a' := ?_) #[true, true, true, true, true, true, true, true, false, false, false, false, false, false, false, false, false, false, false, false] rfl rfl (any_of HT_.out (by kernel_rfl)) (fun _ _ _ h => h) (Or.inr ⟨by rfl, rfl⟩) ?_ ?_
                           rotate_left
                           ·simp only [Act.put, List.setIfInBounds_toArray, List.set_cons_zero, List.set_cons_succ, i64_w, i32_w]
                            rfl
                           refine pure_ (i := 8) (N := some 143) (v := undef) (a' := ?_) #[true, true, true, true, true, true, true, true, true, false, false, false, false, false, false, false, false, false, false, false] rfl rfl (any_of HT_.out (by kernel_rfl)) (fun _ _ _ h => h) (Or.inr ⟨by rfl, rfl⟩) ?_ ?_
                           rotate_left
                           ·simp only [Act.put, List.setIfInBounds_toArray, List.set_cons_zero, List.set_cons_succ, i64_w, i32_w]
                            rfl
                           refine pure_ (i := 9) (N := some 144) (v := undef) (a' := ?_) #[true, true, true, true, true, true, true, true, true, true, false, false, false, false, false, false, false, false, false, false] rfl rfl (any_of HT_.out (by kernel_rfl)) (fun _ _ _ h => h) (Or.inr ⟨by rfl, rfl⟩) ?_ ?_
                           rotate_left
                           ·simp only [Act.put, List.setIfInBounds_toArray, List.set_cons_zero, List.set_cons_succ, i64_w, i32_w]
                            rfl
                           refine pure_ (i := 10) (N := some 145) (v := undef) (a' := ?_) #[true, true, true, true, true, true, true, true, true, true, true, false, false, false, false, false, false, false, false, false] rfl rfl (any_of HT_.out (by kernel_rfl)) (fun _ _ _ h => h) (Or.inr ⟨by rfl, rfl⟩) ?_ ?_
                           rotate_left
                           ·simp only [Act.put, List.setIfInBounds_toArray, List.set_cons_zero, List.set_cons_succ, i64_w, i32_w]
                            rfl
                           refine pure_ (i := 11) (N := some 146) (v := undef) (a' := ?_) #[true, true, true, true, true, true, true, true, true, true, true, true, false, false, false, false, false, false, false, false] rfl rfl (any_of HT_.out (by kernel_rfl)) (fun _ _ _ h => h) (Or.inr ⟨by rfl, rfl⟩) ?_ ?_
                           rotate_left
                           ·simp only [Act.put, List.setIfInBounds_toArray, List.set_cons_zero, List.set_cons_succ, i64_w, i32_w]
                            rfl
                           refine pure_ (i := 12) (N := some 147) (v := undef) (a' := ?_) #[true, true, true, true, true, true, true, true, true, true, true, true, true, false, false, false, false, false, false, false] rfl rfl (any_of HT_.out (by kernel_rfl)) (fun _ _ _ h => h) (Or.inr ⟨by rfl, rfl⟩) ?_ ?_
                           rotate_left
                           ·simp only [Act.put, List.setIfInBounds_toArray, List.set_cons_zero, List.set_cons_succ, i64_w, i32_w]
                            rfl
                           refine pure_ (i := 13) (N := some 148) (v := undef) (a' := ?_) #[true, true, true, true, true, true, true, true, true, true, true, true, true, true, false, false, false, false, false, false] rfl rfl (any_of HT_.out (by kernel_rfl)) (fun _ _ _ h => h) (Or.inr ⟨by rfl, rfl⟩) ?_ ?_
                           rotate_left
                           ·simp only [Act.put, List.setIfInBounds_toArray, List.set_cons_zero, List.set_cons_succ, i64_w, i32_w]
                            rfl
                           refine pure_ (i := 14) (N := some 149) (v := undef) (a' := ?_) #[true, true, true, true, true, true, true, true, true, true, true, true, true, true, true, false, false, false, false, false] rfl rfl (any_of HT_.out (by kernel_rfl)) (fun _ _ _ h => h) (Or.inr ⟨by rfl, rfl⟩) ?_ ?_
                           rotate_left
                           ·simp only [Act.put, List.setIfInBounds_toArray, List.set_cons_zero, List.set_cons_succ, i64_w, i32_w]
                            rfl
                           refine pure_ (i := 15) (N := some 150) (v := undef) (a' := ?_) #[true, true, true, true, true, true, true, true, true, true, true, true, true, true, true, true, false, false, false, false] rfl rfl (any_of HT_.out (by kernel_rfl)) (fun _ _ _ h => h) (Or.inr ⟨by rfl, rfl⟩) ?_ ?_
                           rotate_left
                           ·simp only [Act.put, List.setIfInBounds_toArray, List.set_cons_zero, List.set_cons_succ, i64_w, i32_w]
                            rfl
                           refine pure_ (i := 16) (N := some 151) (v := undef) (a' := ?_) #[true, true, true, true, true, true, true, true, true, true, true, true, true, true, true, true, true, false, false, false] rfl rfl (any_of HT_.out (by kernel_rfl)) (fun _ _ _ h => h) (Or.inr ⟨by rfl, rfl⟩) ?_ ?_
                           rotate_left
                           ·simp only [Act.put, List.setIfInBounds_toArray, List.set_cons_zero, List.set_cons_succ, i64_w, i32_w]
                            rfl
                           refine pure_ (i := 17) (N := some 152) (v := undef) (a' := ?_) #[true, true, true, true, true, true, true, true, true, true, true, true, true, true, true, true, true, true, false, false] rfl rfl (any_of HT_.out (by kernel_rfl)) (fun _ _ _ h => h) (Or.inr ⟨by rfl, rfl⟩) ?_ ?_
                           rotate_left
                           ·simp only [Act.put, List.setIfInBounds_toArray, List.set_cons_zero, List.set_cons_succ, i64_w, i32_w]
                            rfl
                           refine pure_ (i := 18) (N := some 153) (v := ?_) (a' := ?_) #[true, true, true, true, true, true, true, true, true, true, true, true, true, true, true, true, true, true, true, false] rfl rfl (any_of HT_.out (by kernel_rfl)) (fun _ _ _ h => h) (Or.inl ⟨by rfl, ?_⟩) ?_ ?_
                           rotate_left
                           ·intro w'
                            go_simp
                            with_reducible rfl
                           rotate_left
                           ·simp only [Act.put, List.setIfInBounds_toArray, List.set_cons_zero, List.set_cons_succ, i64_w, i32_w]
                            rfl
                           refine pure_ (i := 19) (N := some 15) (v := ?_) (a' := ?_) #[true, true, true, true, true, true, true, true, true, true, true, true, true, true, true, true, true, true, true, true] rfl rfl (any_of HT_.out (by kernel_rfl)) (fun _ _ _ h => h) (Or.inl ⟨by rfl, ?_⟩) ?_ ?_
                           rotate_left
                           ·intro w'
                            go_simp
                            with_reducible rfl
                           rotate_left
                           ·simp only [Act.put, List.setIfInBounds_toArray, List.set_cons_zero, List.set_cons_succ, i64_w, i32_w]
                            rfl
                           refine done_ (done_of HT_.out (by kernel_rfl)) ?_
                           try go_wp2
                           go_roundg k7
                           case measure => have := HJ2.out; have := HJ16.out; have := HJ30.out; have := HK4.out; have := HJ40.out; have := HJ55.out; have := HK7.out; omega
                           case rel => exact ⟨(true), (wrap64 (x16_7 + 1)), (by first | rfl | (simp; done) | (simp [*]; done)), (by first | rfl | (simp; done) | (simp [*]; done)), H', ⟨by have := HJ2.out; have := HJ16.out; have := HJ30.out; have := HK4.out; have := HJ40.out; have := HJ55.out; have := HK7.out; omega⟩, ⟨by (with_reducible repeat (first | apply Kd.R_alloc | apply Kd.R_drewN | apply Kd.R_drew)); exact HO_5.out⟩, ⟨by (with_reducible repeat (first | apply Kd.N_alloc | apply Kd.N_drewN | apply Kd.N_drew)); exact HO_6.out⟩, ⟨by (with_reducible repeat (first | refine blk_drewN ?_ _ | refine blk_drew ?_ | refine blk_alloc ?_ _)); exact BK443.out⟩, ⟨by repeat (first | (with_reducible exact HR463_0.out) | (with_reducible refine Kd.C_alloc ?_ _) | (with_reducible refine Kd.C_drewN ?_ _) | (with_reducible refine Kd.C_drew ?_) | exact HR463_0.out)⟩, ⟨by repeat (first | (with_reducible exact HR474_0.out) | (with_reducible refine Kd.C_alloc ?_ _) | (with_reducible refine Kd.C_drewN ?_ _) | (with_reducible refine Kd.C_drew ?_) | exact HR474_0.out)⟩, ⟨by repeat (first | (with_reducible first | exact HB.out | apply below_alloc | apply pw_below_drewN | apply below_drew1 | refine below_set ?_ GE443.out) | exact HB.out)⟩⟩
                          ·replace c66 := Bool.eq_false_iff.mpr c66
                           subst c66
                           have H1 : (if 0 ≤ x16_7 then (if x16_7 < (t449.length : Int) then (if 0 ≤ x12_4 then (if x12_4 < (t449.length : Int) then (if 0 ≤ (wrap64 (((rd_L1 t449 x12_4).length : Int) - 1)) then (if (wrap64 (((rd_L1 t449 x12_4).length : Int) - 1)) ≤ ((rd_L1 t449 x12_4).length : Int) then ((tutorref01_Same.f k7 (rd_L1 t449 x16_7) ((rd_L1 t449 x12_4).take ((wrap64 (((rd_L1 t449 x12_4).length : Int) - 1)) : Int).toNat)).bind fun t483 => (tutorlaw04_TrimLeast.l1 k7 l1 t446 t449 x10_30 x11_55 x12_4 t483 (wrap64 (x16_7 + 1)) a0_0 a0_1 a0_2 a0_3 l0_4 l0_5)) else (none)) else (none)) else (none)) else (none)) else (none)) else (none)) = some r := by rw [if_neg (show ¬ (false = true) by decide)] at H; exact H
                           clear H
                           have H := H1
                           clear H1
                           by_cases c68 : 0 ≤ x16_7
                           ·rw [if_pos c68] at H
                            have c68b0 : decide (0 ≤ x16_7) = true := decide_eq_true c68
                            clear c68
                            by_cases c69 : x16_7 < (t449.length : Int)
                            ·rw [if_pos c69] at H
                             have c69b0 : decide (x16_7 < (t449.length : Int)) = true := decide_eq_true c69
                             clear c69
                             by_cases c70 : 0 ≤ x12_4
                             ·rw [if_pos c70] at H
                              have c70b0 : decide (0 ≤ x12_4) = true := decide_eq_true c70
                              clear c70
                              by_cases c71 : x12_4 < (t449.length : Int)
                              ·rw [if_pos c71] at H
                               have c71b0 : decide (x12_4 < (t449.length : Int)) = true := decide_eq_true c71
                               clear c71
                               obtain ⟨ji72, hji72⟩ : ∃ j_ : Int, (wrap64 (((rd_L1 t449 x12_4).length : Int) - 1)) = j_ := ⟨_, rfl⟩
                               replace H : (if 0 ≤ (ji72) then (if (ji72) ≤ ((rd_L1 t449 x12_4).length : Int) then ((tutorref01_Same.f k7 (rd_L1 t449 x16_7) ((rd_L1 t449 x12_4).take ((ji72) : Int).toNat)).bind fun t483 => (tutorlaw04_TrimLeast.l1 k7 l1 t446 t449 x10_30 x11_55 x12_4 t483 (wrap64 (x16_7 + 1)) a0_0 a0_1 a0_2 a0_3 l0_4 l0_5)) else (none)) else (none)) = some r := by first | (rw [hji72] at H; exact H) | (simp only [hji72] at H ⊢; exact H)
                               have hji72w : (IntKind.i64.wrap (((rd_L1 t449 x12_4).length : Int) - 1)) = ji72 := (i64_w _).trans hji72
                               by_cases c73 : 0 ≤ (ji72)
                               ·rw [if_pos c73] at H
                                have c73b0 := eq_true c73
                                have c73b1 : decide (0 ≤ (ji72)) = true := decide_eq_true c73
                                clear c73
                                by_cases c74 : (ji72) ≤ ((rd_L1 t449 x12_4).length : Int)
                                ·rw [if_pos c74] at H
                                 have c74b0 := eq_true c74
                                 have c74b1 : decide ((ji72) ≤ ((rd_L1 t449 x12_4).length : Int)) = true := decide_eq_true c74
                                 clear c74
                                 obtain ⟨y478, hy478⟩ : ∃ y_ : List Int, y_ = ((rd_L1 t449 x12_4).take ((ji72) : Int).toNat) := ⟨_, rfl⟩
                                 replace H : ((tutorref01_Same.f k7 (rd_L1 t449 x16_7) y478).bind fun t483 => (tutorlaw04_TrimLeast.l1 k7 l1 t446 t449 x10_30 x11_55 x12_4 t483 (wrap64 (x16_7 + 1)) a0_0 a0_1 a0_2 a0_3 l0_4 l0_5)) = some r := by first | (rw [hy478]; with_reducible exact H) | (have H2_ := (Option.bind_some _ _).symm.trans H; rw [hy478]; with_reducible exact H2_) | (have H2_ := (Option.bind_some _ _).symm.trans H; with_reducible exact H2_) | with_reducible exact H | (rw [hy478]; exact H) | exact H
                                 have Ny478 := Aside0.mk hy478
                                 clear hy478
                                 replace H := Option.bind_eq_some_iff.mp H
                                 obtain ⟨t483, A750, H⟩ := H
                                 replace H : (tutorlaw04_TrimLeast.l1 k7 l1 t446 t449 x10_30 x11_55 x12_4 t483 (wrap64 (x16_7 + 1)) a0_0 a0_1 a0_2 a0_3 l0_4 l0_5) = some r := H
                                 have A75 := Aside0.mk A750
                                 clear A750
                                 have H' := Aside0.mk H
                                 clear H
                                 try go_wp2
                                 have n0_ := Aside0.mk (Kd.R_drew HO_5.out)
                                 have n1_ := Aside0.mk (Kd.N_drew HO_6.out)
                                 have n2_ := Aside0.mk (blk_drew BK443.out)
                                 have n3_ := Aside0.mk (Kd.C_drew HR463_0.out)
                                 have n4_ := Aside0.mk (Kd.C_drew HR474_0.out)
                                 have n5_ := Aside0.mk (below_drew1 HB.out)
                                 clear HO_5
                                 clear HO_6
                                 clear BK443
                                 clear HR463_0
                                 clear HR474_0
                                 clear HB
                                 have HO_5 := n0_
                                 have HO_6 := n1_
                                 have BK443 := n2_
                                 have HR463_0 := n3_
                                 have HR474_0 := n4_
                                 have HB := n5_
                                 clear n0_ n1_ n2_ n3_ n4_ n5_
                                 have p475 : 0 ≤ (x16_7 : Int) := of_decide_eq_true (by first | (with_reducible assumption) | assumption)
                                 have q475 : x16_7 < (t449.length : Int) := of_decide_eq_true (by first | (with_reducible assumption) | assumption)
                                 obtain ⟨ad475, A475_0, c475_0, e475, hx475_0, hl475_0, hi475_0⟩ := at_L1 (Kd.N_reads' HO_6.out).2.2 x16_7 p475 q475
                                 obtain rfl : ad463 = ad475 := (by injection e475)
                                 obtain ⟨ce475, hce475, hMe475, hcc475⟩ := Kd.N_get HO_6.out [] x16_7 p475 (by first | exact q475 | exact of_decide_eq_true (by first | (with_reducible assumption) | assumption) | (have e_ := (Kd.N_reads' HO_6.out).1; omega))
                                 obtain ⟨ua475_0, uc475_0, rfl, ul475_0, ge475_0⟩ := Kd.FK_slice_open hMe475
                                 have hv475_0 := hcc475 0 _ rfl
                                 rw [Nat.add_zero, show ((Kd.slice 3 (Kd.int .i64))).sz = 1 from rfl, Nat.mul_one] at hv475_0
                                 replace hv475_0 := Option.some.inj (hv475_0.symm.trans hx475_0)
                                 injection hv475_0 with hva_ hvn_ hvc_
                                 rw [hva_] at ge475_0
                                 rw [hvc_] at ul475_0
                                 have HL475_0 := Aside0.mk (show Kd.V (Kd.int .i64) 3 _ w.heap.size _ _ (rd_L1 t449 x16_7) from Kd.V_mk ul475_0 ge475_0)
                                 clear hva_ hvn_ hvc_ ge475_0 ul475_0
                                 clear hcc475 hce475
                                 have HR475_0 := Aside0.mk hi475_0
                                 have HC475_0 := Aside0.mk hl475_0
                                 clear hi475_0 hl475_0
                                 replace p475 := eq_true p475
                                 replace q475 := eq_true q475
                                 have p476 : 0 ≤ (x12_4 : Int) := of_decide_eq_true (by first | (with_reducible assumption) | assumption)
                                 have q476 : x12_4 < (t449.length : Int) := of_decide_eq_true (by first | (with_reducible assumption) | assumption)
                                 obtain ⟨ad476, A476_0, c476_0, e476, hx476_0, hl476_0, hi476_0⟩ := at_L1 (Kd.N_reads' HO_6.out).2.2 x12_4 p476 q476
                                 obtain rfl : ad463 = ad476 := (by injection e476)
                                 obtain ⟨ce476, hce476, hMe476, hcc476⟩ := Kd.N_get HO_6.out [] x12_4 p476 (by first | exact q476 | exact of_decide_eq_true (by first | (with_reducible assumption) | assumption) | (have e_ := (Kd.N_reads' HO_6.out).1; omega))
                                 obtain ⟨ua476_0, uc476_0, rfl, ul476_0, ge476_0⟩ := Kd.FK_slice_open hMe476
                                 have hv476_0 := hcc476 0 _ rfl
                                 rw [Nat.add_zero, show ((Kd.slice 3 (Kd.int .i64))).sz = 1 from rfl, Nat.mul_one] at hv476_0
                                 replace hv476_0 := Option.some.inj (hv476_0.symm.trans hx476_0)
                                 injection hv476_0 with hva_ hvn_ hvc_
                                 rw [hva_] at ge476_0
                                 rw [hvc_] at ul476_0
                                 have HL476_0 := Aside0.mk (show Kd.V (Kd.int .i64) 3 _ w.heap.size _ _ (rd_L1 t449 x12_4) from Kd.V_mk ul476_0 ge476_0)
                                 clear hva_ hvn_ hvc_ ge476_0 ul476_0
                                 clear hcc476 hce476
                                 have HR476_0 := Aside0.mk hi476_0
                                 have HC476_0 := Aside0.mk hl476_0
                                 clear hi476_0 hl476_0
                                 replace p476 := eq_true p476
                                 replace q476 := eq_true q476
                                 have p477 : 0 ≤ (x12_4 : Int) := of_decide_eq_true (by first | (with_reducible assumption) | assumption)
                                 have q477 : x12_4 < (t449.length : Int) := of_decide_eq_true (by first | (with_reducible assumption) | assumption)
                                 obtain ⟨ad477, A477_0, c477_0, e477, hx477_0, hl477_0, hi477_0⟩ := at_L1 (Kd.N_reads' HO_6.out).2.2 x12_4 p477 q477
                                 obtain rfl : ad463 = ad477 := (by injection e477)
                                 obtain ⟨ce477, hce477, hMe477, hcc477⟩ := Kd.N_get HO_6.out [] x12_4 p477 (by first | exact q477 | exact of_decide_eq_true (by first | (with_reducible assumption) | assumption) | (have e_ := (Kd.N_reads' HO_6.out).1; omega))
                                 obtain ⟨ua477_0, uc477_0, rfl, ul477_0, ge477_0⟩ := Kd.FK_slice_open hMe477
                                 have hv477_0 := hcc477 0 _ rfl
                                 rw [Nat.add_zero, show ((Kd.slice 3 (Kd.int .i64))).sz = 1 from rfl, Nat.mul_one] at hv477_0
                                 replace hv477_0 := Option.some.inj (hv477_0.symm.trans hx477_0)
                                 injection hv477_0 with hva_ hvn_ hvc_
                                 rw [hva_] at ge477_0
                                 rw [hvc_] at ul477_0
                                 have HL477_0 := Aside0.mk (show Kd.V (Kd.int .i64) 3 _ w.heap.size _ _ (rd_L1 t449 x12_4) from Kd.V_mk ul477_0 ge477_0)
                                 clear hva_ hvn_ hvc_ ge477_0 ul477_0
                                 clear hcc477 hce477
                                 have HR477_0 := Aside0.mk hi477_0
                                 have HC477_0 := Aside0.mk hl477_0
                                 clear hi477_0 hl477_0
                                 replace p477 := eq_true p477
                                 replace q477 := eq_true q477
                                 have ea_ := Option.some.inj (hx476_0.symm.trans hx477_0)
                                 injection ea_ with ea_ en_ ec_
                                 subst ea_
                                 subst ec_
                                 clear en_
                                 have q77 : ((ji72) : Int) ≤ (((rd_L1 t449 x12_4).length : Int) : Int) := of_decide_eq_true (by first | (with_reducible assumption) | assumption)
                                 obtain ⟨i077, hi077, _, hsz77, _⟩ := info_parts info3
                                 have hroom77 : (rd_L1 t449 x12_4).length ≤ c476_0 := HC476_0.out
                                 have hC77 : Kd.F (Kd.int .i64) _ _ A476_0 (rd_L1 t449 x12_4).length (rd_L1 t449 x12_4) := (Kd.V_at (base := w.heap.size) HL476_0.out).2.2
                                 have hcut77 := cut_to (P := Try.prog) 22 3 .i64 Try.underlying22 hi077 A476_0 (rd_L1 t449 x12_4).length c476_0 (ji72) (of_decide_eq_true (by first | (with_reducible assumption) | assumption)) q77 hroom77
                                 have hr77 := Kd.F_take (m := ((ji72) : Int).toNat) hC77 (by omega)
                                 have hy77 : y478.length = ((ji72) : Int).toNat := (by rw [Ny478.out, List.length_take]; omega)
                                 rw [← Ny478.out] at hr77
                                 rw [← hy77] at hcut77
                                 have HO482 := Aside0.mk (show Kd.V (Kd.int .i64) 3 _ w.heap.size _ (.slice A476_0 y478.length c476_0) y478 from Kd.V_mk (by omega) hr77)
                                 have HC482 := Aside0.mk (show y478.length ≤ c476_0 from by omega)
                                 clear hr77 hC77 hroom77 hi077 hsz77
                                 have KY77 := Aside0.mk hy77
                                 clear hy77
                                 replace q77 := eq_true q77
                                 refine start_ (n := 20) (S := fun w' => w'.cell? (ad463.add (x16_7).toNat) = some (.slice A475_0 (rd_L1 t449 x16_7).length c475_0) ∧ w'.cell? (ad463.add (x12_4).toNat) = some (.slice A476_0 (rd_L1 t449 x12_4).length c476_0) ∧ w'.cell? (ad463.add (x12_4).toNat) = some (.slice A476_0 (rd_L1 t449 x12_4).length c476_0)) (ds := []) #[false, false, false, false, false, false, false, false, false, false, false, false, false, false, false, false, false, false, false, false] (by kernel_rfl) rfl rfl ⟨hx475_0, hx476_0, hx477_0⟩ (fun hHeld => ?_); refine with_tabW tutorlaw04_TrimLeast.tab28 tutorlaw04_TrimLeast.bits28 (fun HT_ HW_ => ?_)
                                 generalize wr.drew = w76 at HO_5 HO_6 BK443 HR463_0 HR474_0 HB HL475_0 HL476_0 HL477_0 HO482 HR475_0 HR476_0 HR477_0 hx475_0 hx476_0 hx477_0 hHeld ⊢
                                 refine pure_ (i := 0) (N := some 135) (v := ?_) (a' := ?_) #[true, false, false, false, false, false, false, false, false, false, false, false, false, false, false, false, false, false, false, false] rfl rfl (any_of HT_.out (by kernel_rfl)) (fun _ _ _ h => h) (Or.inl ⟨by rfl, ?_⟩) ?_ ?_
                                 rotate_left
                                 ·intro w'
                                  go_simp
                                  with_reducible rfl
                                 rotate_left
                                 ·simp only [Act.put, List.setIfInBounds_toArray, List.set_cons_zero, List.set_cons_succ, i64_w, i32_w]
                                  rfl
                                 refine pure_ (i := 1) (N := some 136) (v := ?_) (a' := ?_) #[true, true, false, false, false, false, false, false, false, false, false, false, false, false, false, false, false, false, false, false] rfl rfl (any_of HT_.out (by kernel_rfl)) (fun _ _ _ h => h) (Or.inl ⟨by rfl, ?_⟩) ?_ ?_
                                 rotate_left
                                 ·intro w'
                                  go_simp
                                  with_reducible rfl
                                 rotate_left
                                 ·simp only [Act.put, List.setIfInBounds_toArray, List.set_cons_zero, List.set_cons_succ, i64_w, i32_w]
                                  rfl
                                 refine pure_ (i := 2) (N := some 137) (v := ?_) (a' := ?_) #[true, true, true, false, false, false, false, false, false, false, false, false, false, false, false, false, false, false, false, false] rfl rfl (any_of HT_.out (by kernel_rfl)) (fun _ _ _ h => h) (Or.inl ⟨by rfl, ?_⟩) ?_ ?_
                                 rotate_left
                                 ·intro w'
                                  go_simp
                                  with_reducible rfl
                                 rotate_left
                                 ·simp only [Act.put, List.setIfInBounds_toArray, List.set_cons_zero, List.set_cons_succ, i64_w, i32_w]
                                  rfl
                                 refine pure_ (i := 3) (N := some 138) (v := ?_) (a' := ?_) #[true, true, true, true, false, false, false, false, false, false, false, false, false, false, false, false, false, false, false, false] rfl rfl (any_of HT_.out (by kernel_rfl)) (fun _ _ _ h => h) (Or.inl ⟨by rfl, ?_⟩) ?_ ?_
                                 rotate_left
                                 ·intro w'
                                  go_simp
                                  with_reducible rfl
                                 rotate_left
                                 ·simp only [Act.put, List.setIfInBounds_toArray, List.set_cons_zero, List.set_cons_succ, i64_w, i32_w]
                                  rfl
                                 refine pure_ (i := 4) (N := some 139) (v := ?_) (a' := ?_) #[true, true, true, true, true, false, false, false, false, false, false, false, false, false, false, false, false, false, false, false] rfl rfl (any_of HT_.out (by kernel_rfl)) (fun _ _ _ h => h) (Or.inl ⟨by rfl, ?_⟩) ?_ ?_
                                 rotate_left
                                 ·intro w'
                                  go_simp
                                  with_reducible rfl
                                 rotate_left
                                 ·simp only [Act.put, List.setIfInBounds_toArray, List.set_cons_zero, List.set_cons_succ, i64_w, i32_w]
                                  rfl
                                 refine pure_ (i := 6) (N := some 141) (v := ?_) (a' := ?_) #[true, true, true, true, true, false, true, false, false, false, false, false, false, false, false, false, false, false, false, false] rfl rfl (any_of HT_.out (by kernel_rfl)) (fun _ _ _ h => h) (Or.inl ⟨by rfl, ?_⟩) ?_ ?_
                                 rotate_left
                                 ·intro w'
                                  go_simp
                                  with_reducible rfl
                                 rotate_left
                                 ·simp only [Act.put, List.setIfInBounds_toArray, List.set_cons_zero, List.set_cons_succ, i64_w, i32_w]
                                  rfl
                                 refine pure_ (i := 7) (N := some 142) (v := ?_) (a' := ?_) #[true, true, true, true, true, false, true, true, false, false, false, false, false, false, false, false, false, false, false, false] rfl rfl (any_of HT_.out (by kernel_rfl)) (fun _ _ _ h => h) (Or.inl ⟨by rfl, ?_⟩) ?_ ?_
                                 rotate_left
                                 ·intro w'
                                  go_simp
                                  with_reducible rfl
                                 rotate_left
                                 ·simp only [Act.put, List.setIfInBounds_toArray, List.set_cons_zero, List.set_cons_succ, i64_w, i32_w]
                                  rfl
                                 refine pure_ (i := 8) (N := some 143) (v := ?_) (a' := ?_) #[true, true, true, true, true, false, true, true, true, false, false, false, false, false, false, false, false, false, false, false] rfl rfl (any_of HT_.out (by kernel_rfl)) (fun _ _ _ h => h) (Or.inl ⟨by rfl, ?_⟩) ?_ ?_
                                 rotate_left
                                 ·intro w'
                                  go_simp
                                  with_reducible rfl
                                 rotate_left
                                 ·simp only [Act.put, List.setIfInBounds_toArray, List.set_cons_zero, List.set_cons_succ, i64_w, i32_w]
                                  rfl
                                 refine pure_ (i := 10) (N := some 145) (v := ?_) (a' := ?_) #[true, true, true, true, true, false, true, true, true, false, true, false, false, false, false, false, false, false, false, false] rfl rfl (any_of HT_.out (by kernel_rfl)) (fun _ _ _ h => h) (Or.inl ⟨by rfl, ?_⟩) ?_ ?_
                                 rotate_left
                                 ·intro w'
                                  go_simp
                                  with_reducible rfl
                                 rotate_left
                                 ·simp only [Act.put, List.setIfInBounds_toArray, List.set_cons_zero, List.set_cons_succ, i64_w, i32_w]
                                  rfl
                                 refine pure_ (i := 11) (N := some 146) (v := ?_) (a' := ?_) #[true, true, true, true, true, false, true, true, true, false, true, true, false, false, false, false, false, false, false, false] rfl rfl (any_of HT_.out (by kernel_rfl)) (fun _ _ _ h => h) (Or.inl ⟨by rfl, ?_⟩) ?_ ?_
                                 rotate_left
                                 ·intro w'
                                  go_simp
                                  with_reducible rfl
                                 rotate_left
                                 ·simp only [Act.put, List.setIfInBounds_toArray, List.set_cons_zero, List.set_cons_succ, i64_w, i32_w]
                                  rfl
                                 refine pure_ (i := 12) (N := some 147) (v := ?_) (a' := ?_) #[true, true, true, true, true, false, true, true, true, false, true, true, true, false, false, false, false, false, false, false] rfl rfl (any_of HT_.out (by kernel_rfl)) (fun _ _ _ h => h) (Or.inl ⟨by rfl, ?_⟩) ?_ ?_
                                 rotate_left
                                 ·intro w'
                                  go_simp
                                  with_reducible rfl
                                 rotate_left
                                 ·simp only [Act.put, List.setIfInBounds_toArray, List.set_cons_zero, List.set_cons_succ, i64_w, i32_w]
                                  rfl
                                 refine take_ (i := 5) (N := some 140) (v := ?_) (a' := ?_) #[true, true, true, true, true, true, true, true, true, false, true, true, true, false, false, false, false, false, false, false] rfl rfl (take_ofW HT_.out HW_.out (by kernel_rfl)) (fun _ _ _ h => h) (Or.inl ⟨by rfl, ?_⟩) hHeld ?_ ?_
                                 rotate_left
                                 ·rintro w' ⟨s0, s1, s2⟩
                                  go_simp
                                  with_reducible rfl
                                 rotate_left
                                 ·simp only [Act.put, List.setIfInBounds_toArray, List.set_cons_zero, List.set_cons_succ, i64_w, i32_w]
                                  rfl
                                 refine take_ (i := 9) (N := some 144) (v := ?_) (a' := ?_) #[true, true, true, true, true, true, true, true, true, true, true, true, true, false, false, false, false, false, false, false] rfl rfl (take_ofW HT_.out HW_.out (by kernel_rfl)) (fun _ _ _ h => h) (Or.inl ⟨by rfl, ?_⟩) hHeld ?_ ?_
                                 rotate_left
                                 ·rintro w' ⟨s0, s1, s2⟩
                                  go_simp
                                  with_reducible rfl
                                 rotate_left
                                 ·simp only [Act.put, List.setIfInBounds_toArray, List.set_cons_zero, List.set_cons_succ, i64_w, i32_w]
                                  rfl
                                 refine take_ (i := 13) (N := some 148) (v := ?_) (a' := ?_) #[true, true, true, true, true, true, true, true, true, true, true, true, true, true, false, false, false, false, false, false] rfl rfl (take_ofW HT_.out HW_.out (by kernel_rfl)) (fun _ _ _ h => h) (Or.inl ⟨by rfl, ?_⟩) hHeld ?_ ?_
                                 rotate_left
                                 ·rintro w' ⟨s0, s1, s2⟩
                                  go_simp
                                  with_reducible rfl
                                 rotate_left
                                 ·simp only [Act.put, List.setIfInBounds_toArray, List.set_cons_zero, List.set_cons_succ, i64_w, i32_w]
                                  rfl
                                 refine pure_ (i := 14) (N := some 149) (v := ?_) (a' := ?_) #[true, true, true, true, true, true, true, true, true, true, true, true, true, true, true, false, false, false, false, false] rfl rfl (any_of HT_.out (by kernel_rfl)) (fun _ _ _ h => h) (Or.inl ⟨by rfl, ?_⟩) ?_ ?_
                                 rotate_left
                                 ·intro w'
                                  go_simp
                                  with_reducible rfl
                                 rotate_left
                                 ·simp only [Act.put, List.setIfInBounds_toArray, List.set_cons_zero, List.set_cons_succ, i64_w, i32_w]
                                  rfl
                                 refine pure_ (i := 15) (N := some 150) (v := ?_) (a' := ?_) #[true, true, true, true, true, true, true, true, true, true, true, true, true, true, true, true, false, false, false, false] rfl rfl (any_of HT_.out (by kernel_rfl)) (fun _ _ _ h => h) (Or.inl ⟨by rfl, ?_⟩) ?_ ?_
                                 rotate_left
                                 ·intro w'
                                  go_simp
                                  with_reducible rfl
                                 rotate_left
                                 ·simp only [Act.put, List.setIfInBounds_toArray, List.set_cons_zero, List.set_cons_succ, i64_w, i32_w]
                                  rfl
                                 refine pure_ (i := 16) (N := some 151) (v := ?_) (a' := ?_) #[true, true, true, true, true, true, true, true, true, true, true, true, true, true, true, true, true, false, false, false] rfl rfl (any_of HT_.out (by kernel_rfl)) (fun _ _ _ h => h) (Or.inl ⟨by rfl, ?_⟩) ?_ ?_
                                 rotate_left
                                 ·intro w'
                                  go_simp
                                  with_reducible rfl
                                 rotate_left
                                 ·simp only [Act.put, List.setIfInBounds_toArray, List.set_cons_zero, List.set_cons_succ, i64_w, i32_w]
                                  rfl
                                 refine one_ (i := 17) (N := some 152) #[true, true, true, true, true, true, true, true, true, true, true, true, true, true, true, true, true, true, false, false] rfl rfl (one_of HT_.out (by kernel_rfl)) (by decide) (fun K hK => ?_)
                                 refine goes_ Try.func20 (by kernel_rfl) rfl #[.slice A475_0 (rd_L1 t449 x16_7).length c475_0, .slice A476_0 y478.length c476_0] (by rfl) rfl rfl (by (try simp only [List.map_toArray, List.map_cons, List.map_nil]); first | done | rfl | (simp only [List.length_drop, List.length_take]; rfl)) ?_
                                 with_reducible refine (tutorref01_Same.calls k7 _ _ (rd_L1 t449 x16_7) _ _ y478 t483 _ ?side1 ?side2 ?side3 ?side4 A75.out).mono ?_
                                 (case side1 => repeat (first | exact (by repeat (first | (with_reducible exact HR475_0.out) | (with_reducible refine Kd.C_alloc ?_ _) | (with_reducible refine Kd.C_drewN ?_ _) | (with_reducible refine Kd.C_drew ?_) | exact HR475_0.out)) | (with_reducible refine Kd.C_alloc ?_ _) | (with_reducible refine Kd.C_drewN ?_ _) | (with_reducible refine Kd.C_drew ?_)))
                                 (case side2 => exact HC475_0.out)
                                 (case side3 => repeat (first | exact (Kd.V_reads' HO482.out).2.2 | (with_reducible refine Kd.C_alloc ?_ _) | (with_reducible refine Kd.C_drewN ?_ _) | (with_reducible refine Kd.C_drew ?_)))
                                 (case side4 => exact (Kd.V_reads' HO482.out).2.1)
                                 rintro e w' ⟨rfl, ⟨nd, rfl⟩⟩
                                 refine ⟨_, rfl, ?_⟩
                                 refine hK.out _ _ ⟨hHeld.1, hHeld.2.1, hHeld.2.2⟩ (fun hHeld => ?_)
                                 clear hK K
                                 refine norm_ (a' := ?_) ?_ ?_
                                 rotate_left
                                 ·show Act.put _ (some 152) _ = _
                                  simp only [Act.put, List.setIfInBounds_toArray, List.set_cons_zero, List.set_cons_succ, i64_w, i32_w]
                                  rfl
                                 refine pure_ (i := 18) (N := some 153) (v := ?_) (a' := ?_) #[true, true, true, true, true, true, true, true, true, true, true, true, true, true, true, true, true, true, true, false] rfl rfl (any_of HT_.out (by kernel_rfl)) (fun _ _ _ h => h) (Or.inl ⟨by rfl, ?_⟩) ?_ ?_
                                 rotate_left
                                 ·intro w'
                                  go_simp
                                  with_reducible rfl
                                 rotate_left
                                 ·simp only [Act.put, List.setIfInBounds_toArray, List.set_cons_zero, List.set_cons_succ, i64_w, i32_w]
                                  rfl
                                 refine pure_ (i := 19) (N := some 15) (v := ?_) (a' := ?_) #[true, true, true, true, true, true, true, true, true, true, true, true, true, true, true, true, true, true, true, true] rfl rfl (any_of HT_.out (by kernel_rfl)) (fun _ _ _ h => h) (Or.inl ⟨by rfl, ?_⟩) ?_ ?_
                                 rotate_left
                                 ·intro w'
                                  go_simp
                                  with_reducible rfl
                                 rotate_left
                                 ·simp only [Act.put, List.setIfInBounds_toArray, List.set_cons_zero, List.set_cons_succ, i64_w, i32_w]
                                  rfl
                                 refine done_ (done_of HT_.out (by kernel_rfl)) ?_
                                 try go_wp2
                                 go_roundg k7
                                 case measure => have := HJ2.out; have := HJ16.out; have := HJ30.out; have := HK4.out; have := HJ40.out; have := HJ55.out; have := HK7.out; omega
                                 case rel => exact ⟨(t483), (wrap64 (x16_7 + 1)), (by first | rfl | (simp; done) | (simp [*]; done)), (by first | rfl | (simp; done) | (simp [*]; done)), H', ⟨by have := HJ2.out; have := HJ16.out; have := HJ30.out; have := HK4.out; have := HJ40.out; have := HJ55.out; have := HK7.out; omega⟩, ⟨by (with_reducible repeat (first | apply Kd.R_alloc | apply Kd.R_drewN | apply Kd.R_drew)); exact HO_5.out⟩, ⟨by (with_reducible repeat (first | apply Kd.N_alloc | apply Kd.N_drewN | apply Kd.N_drew)); exact HO_6.out⟩, ⟨by (with_reducible repeat (first | refine blk_drewN ?_ _ | refine blk_drew ?_ | refine blk_alloc ?_ _)); exact BK443.out⟩, ⟨by repeat (first | (with_reducible exact HR463_0.out) | (with_reducible refine Kd.C_alloc ?_ _) | (with_reducible refine Kd.C_drewN ?_ _) | (with_reducible refine Kd.C_drew ?_) | exact HR463_0.out)⟩, ⟨by repeat (first | (with_reducible exact HR474_0.out) | (with_reducible refine Kd.C_alloc ?_ _) | (with_reducible refine Kd.C_drewN ?_ _) | (with_reducible refine Kd.C_drew ?_) | exact HR474_0.out)⟩, ⟨by repeat (first | (with_reducible first | exact HB.out | apply below_alloc | apply pw_below_drewN | apply below_drew1 | refine below_set ?_ GE443.out) | exact HB.out)⟩⟩
                                ·rw [if_neg c74] at H
                                 exact absurd H (by simp)
                               ·rw [if_neg c73] at H
                                exact absurd H (by simp)
                              ·rw [if_neg c71] at H
                               exact absurd H (by simp)
                             ·rw [if_neg c70] at H
                              exact absurd H (by simp)
                            ·rw [if_neg c69] at H
                             exact absurd H (by simp)
                           ·rw [if_neg c68] at H
                            exact absurd H (by simp)
                         ·rw [if_neg c65] at H
                          have c65b0 : decide (x16_7 < x12_4) = false := decide_eq_false c65
                          clear c65
                          by_cases c78 : x15_7 = true
                          ·subst c78
                           have H1 : (tutorlaw04_TrimLeast.l0 k7 l1 t446 t449 x10_30 x11_55 (wrap64 (x12_4 + 1)) a0_0 a0_1 a0_2 a0_3 l0_4 l0_5) = some r := by rw [if_pos rfl] at H; exact H
                           clear H
                           have H := H1
                           clear H1
                           have H' := Aside0.mk H
                           clear H
                           go_wp2
                           go_roundg k7
                           case measure => have := HJ2.out; have := HJ16.out; have := HJ30.out; have := HK4.out; have := HJ40.out; have := HJ55.out; have := HK7.out; omega
                           case rel => exact ⟨(x11_55), (wrap64 (x12_4 + 1)), (by first | rfl | (simp; done) | (simp [*]; done)), (by first | rfl | (simp; done) | (simp [*]; done)), H', ⟨by have := HJ2.out; have := HJ16.out; have := HJ30.out; have := HK4.out; have := HJ40.out; have := HJ55.out; have := HK7.out; omega⟩, ⟨by (with_reducible repeat (first | apply Kd.R_alloc | apply Kd.R_drewN | apply Kd.R_drew)); exact HO_5.out⟩, ⟨by (with_reducible repeat (first | apply Kd.N_alloc | apply Kd.N_drewN | apply Kd.N_drew)); exact HO_6.out⟩, ⟨by (with_reducible repeat (first | refine blk_drewN ?_ _ | refine blk_drew ?_ | refine blk_alloc ?_ _)); exact BK443.out⟩, ⟨by repeat (first | (with_reducible first | exact HB.out | apply below_alloc | apply pw_below_drewN | apply below_drew1 | refine below_set ?_ GE443.out) | exact HB.out)⟩⟩
                          ·replace c78 := Bool.eq_false_iff.mpr c78
                           subst c78
                           have H1 : (none) = some r := by rw [if_neg (show ¬ (false = true) by decide)] at H; exact H
                           clear H
                           have H := H1
                           clear H1
                           exact absurd H (by simp)
                      ·rw [if_neg c64] at H
                       have c64b0 : decide (0 < ((rd_L1 t449 x12_4).length : Int)) = false := decide_eq_false c64
                       have c64b1 : decide (0 < (rd_L1 t449 x12_4).length) = false := decide_eq_false (by omega)
                       clear c64
                       have H' := Aside0.mk H
                       clear H
                       have p474 : 0 ≤ (x12_4 : Int) := of_decide_eq_true (by first | (with_reducible assumption) | assumption)
                       have q474 : x12_4 < (t449.length : Int) := of_decide_eq_true (by first | (with_reducible assumption) | assumption)
                       obtain ⟨ad474, A474_0, c474_0, e474, hx474_0, hl474_0, hi474_0⟩ := at_L1 (Kd.N_reads' HO_6.out).2.2 x12_4 p474 q474
                       obtain rfl : ad463 = ad474 := (by injection e474)
                       obtain ⟨ce474, hce474, hMe474, hcc474⟩ := Kd.N_get HO_6.out [] x12_4 p474 (by first | exact q474 | exact of_decide_eq_true (by first | (with_reducible assumption) | assumption) | (have e_ := (Kd.N_reads' HO_6.out).1; omega))
                       obtain ⟨ua474_0, uc474_0, rfl, ul474_0, ge474_0⟩ := Kd.FK_slice_open hMe474
                       have hv474_0 := hcc474 0 _ rfl
                       rw [Nat.add_zero, show ((Kd.slice 3 (Kd.int .i64))).sz = 1 from rfl, Nat.mul_one] at hv474_0
                       replace hv474_0 := Option.some.inj (hv474_0.symm.trans hx474_0)
                       injection hv474_0 with hva_ hvn_ hvc_
                       rw [hva_] at ge474_0
                       rw [hvc_] at ul474_0
                       have HL474_0 := Aside0.mk (show Kd.V (Kd.int .i64) 3 _ w.heap.size _ _ (rd_L1 t449 x12_4) from Kd.V_mk ul474_0 ge474_0)
                       clear hva_ hvn_ hvc_ ge474_0 ul474_0
                       clear hcc474 hce474
                       have HR474_0 := Aside0.mk hi474_0
                       have HC474_0 := Aside0.mk hl474_0
                       clear hi474_0 hl474_0
                       replace p474 := eq_true p474
                       replace q474 := eq_true q474
                       go_wp2
                       go_roundg kj55
                       case measure => have := HJ2.out; have := HJ16.out; have := HJ30.out; have := HK4.out; have := HJ40.out; have := HJ55.out; omega
                       case rel => exact ⟨(x11_55), (wrap64 (x12_4 + 1)), (by first | rfl | (simp; done) | (simp [*]; done)), (by first | rfl | (simp; done) | (simp [*]; done)), H', ⟨by have := HJ2.out; have := HJ16.out; have := HJ30.out; have := HK4.out; have := HJ40.out; have := HJ55.out; omega⟩, ⟨by (with_reducible repeat (first | apply Kd.R_alloc | apply Kd.R_drewN | apply Kd.R_drew)); exact HO_5.out⟩, ⟨by (with_reducible repeat (first | apply Kd.N_alloc | apply Kd.N_drewN | apply Kd.N_drew)); exact HO_6.out⟩, ⟨by (with_reducible repeat (first | refine blk_drewN ?_ _ | refine blk_drew ?_ | refine blk_alloc ?_ _)); exact BK443.out⟩, ⟨by repeat (first | (with_reducible first | exact HB.out | apply below_alloc | apply pw_below_drewN | apply below_drew1 | refine below_set ?_ GE443.out) | exact HB.out)⟩⟩
                     ·rw [if_neg c63] at H
                      exact absurd H (by simp)
                    ·rw [if_neg c62] at H
                     exact absurd H (by simp)
              ·rw [if_neg c39] at H
               exact absurd H (by simp)
             ·rw [if_neg c38] at H
              exact absurd H (by simp)
            ·rw [if_neg c37] at H
             have c37b0 : decide (x12_4 < (t446.length : Int)) = false := decide_eq_false c37
             clear c37
             by_cases c79 : x11_4 = true
             ·subst c79
              have H1 : ((tutorlaw04_live.f k4).bind fun t462 => (some t462)) = some r := by rw [if_pos rfl] at H; exact H
              clear H
              have H := H1
              clear H1
              replace H := Option.bind_eq_some_iff.mp H
              obtain ⟨t462, A800, H⟩ := H
              replace H : (some t462) = some r := H
              have A80 := Aside0.mk A800
              clear A800
              obtain rfl := Option.some.inj H
              obtain ⟨Ao81, co81, eo81⟩ := Kd.R_slice HO_5.out
              subst eo81
              go_wp2_with (first | (go_at_call 16; (with_reducible refine (tutorlaw04_live.calls k4  t462 _ A80.out).mono ?_); rintro e w82 ⟨rfl, hb⟩; have n0_ := Aside0.mk (Kd.R_below (by (with_reducible repeat (first | apply Kd.R_alloc | apply Kd.R_drewN | apply Kd.R_drew)); exact HO_5.out) hb); have n1_ := Aside0.mk (Kd.N_below (by (with_reducible repeat (first | apply Kd.N_alloc | apply Kd.N_drewN | apply Kd.N_drew)); exact HO_6.out) hb); have n2_ := Aside0.mk (blk_below (g := gb443) (o := .cells #[.int .i64 a0_0, .int .i64 a0_1, .int .i64 a0_2, .int .i64 a0_3, .slice A0_4 l0_4.length c0_4, .slice A0_5 l0_5.length c0_5] 24 (0, 0)) (by (with_reducible repeat (first | refine blk_drewN ?_ _ | refine blk_drew ?_ | refine blk_alloc ?_ _)); exact BK443.out) hb); have n3_ := Aside0.mk (below_step (by repeat (first | (with_reducible first | exact HB.out | apply below_alloc | apply pw_below_drewN | apply below_drew1 | refine below_set ?_ GE443.out) | exact HB.out)) hb); clear HO_5; clear HO_6; clear BK443; clear HB; have HO_5 := n0_; have HO_6 := n1_; have BK443 := n2_; have HB := n3_; clear n0_ n1_ n2_ n3_; (try clear hb); (try clear hb2); (try clear hk); (try clear hi)))
              go_ret
              exact ⟨by first | rfl | (simp [errW_none, errW_some] <;> rfl) | (simp [*, errW_none, errW_some] <;> rfl), by repeat (first | (with_reducible first | exact HB.out | apply below_alloc | apply pw_below_drewN | apply below_drew1 | refine below_set ?_ GE443.out) | exact HB.out)⟩
             ·replace c79 := Bool.eq_false_iff.mpr c79
              subst c79
              have H1 : (none) = some r := by rw [if_neg (show ¬ (false = true) by decide)] at H; exact H
              clear H
              have H := H1
              clear H1
              exact absurd H (by simp)
    ·rw [if_neg c16] at H
     have c16b0 : (t453 == 0) = false := beq_eq_false_iff_ne.mpr c16
     have c16b1 : (t453 != 0) = true := bne_iff_ne.mpr c16
     by_cases c83 : (wrap64 ((t446.length : Int) + (t449.length : Int))) = 0
     ·rw [if_pos c83] at H
      have c83b0 : ((wrap64 ((t446.length : Int) + (t449.length : Int))) == 0) = true := beq_iff_eq.mpr c83
      have c83b1 : ((wrap64 ((t446.length : Int) + (t449.length : Int))) != 0) = false := bne_eq_false_iff_eq.mpr c83
      clear c83
      replace H := Option.bind_eq_some_iff.mp H
      obtain ⟨t454, A840, H⟩ := H
      replace H : (some t454) = some r := H
      have A84 := Aside0.mk A840
      clear A840
      obtain rfl := Option.some.inj H
      have hcz85_0 : wc.cell? ⟨gb443, 0, none⟩ = some (.int .i64 a0_0) := (blk_cell BK443.out 0).trans rfl
      have hcz85_1 : wc.cell? ⟨gb443, 1, none⟩ = some (.int .i64 a0_1) := (blk_cell BK443.out 1).trans rfl
      have hcz85_2 : wc.cell? ⟨gb443, 2, none⟩ = some (.int .i64 a0_2) := (blk_cell BK443.out 2).trans rfl
      have hcz85_3 : wc.cell? ⟨gb443, 3, none⟩ = some (.int .i64 a0_3) := (blk_cell BK443.out 3).trans rfl
      have hcz85_4 : wc.cell? ⟨gb443, 4, none⟩ = some (.slice A0_4 l0_4.length c0_4) := (blk_cell BK443.out 4).trans rfl
      have hcz85_5 : wc.cell? ⟨gb443, 5, none⟩ = some (.slice A0_5 l0_5.length c0_5) := (blk_cell BK443.out 5).trans rfl
      have hfz85_0 := blk_frozen BK443.out 0
      have hfz85_1 := blk_frozen BK443.out 1
      have hfz85_2 := blk_frozen BK443.out 2
      have hfz85_3 := blk_frozen BK443.out 3
      have hfz85_4 := blk_frozen BK443.out 4
      have hfz85_5 := blk_frozen BK443.out 5
      go_wp2_with (first | ((with_reducible refine gate_callee (f := 18) rfl ?_); refine goesL_ (some 27) rfl rfl Try.func18 (by kernel_rfl) rfl #[.agg #[.int .i64 a0_0, .int .i64 a0_1, .int .i64 a0_2, .int .i64 a0_3, .slice A0_4 l0_4.length c0_4, .slice A0_5 l0_5.length c0_5]] rfl (by (try simp only [List.map_toArray, List.map_cons, List.map_nil]); first | done | rfl | (simp only [List.length_drop, List.length_take]; rfl)) ?_; (with_reducible refine (trim_Reach.calls kj2 a0_0 a0_1 a0_2 a0_3 _ _ l0_4 _ _ l0_5 t446 t449 t452 _ ?side1 ?side2 ?side3 ?side4 A14.out).mono ?_); (case side1 => repeat (first | exact (Kd.C_below HR0_4.out HB.out) | (with_reducible refine Kd.C_alloc ?_ _) | (with_reducible refine Kd.C_drewN ?_ _) | (with_reducible refine Kd.C_drew ?_))); (case side2 => exact HC0_4.out); (case side3 => repeat (first | exact (Kd.C_below HR0_5.out HB.out) | (with_reducible refine Kd.C_alloc ?_ _) | (with_reducible refine Kd.C_drewN ?_ _) | (with_reducible refine Kd.C_drew ?_))); (case side4 => exact HC0_5.out); rintro e w86 ⟨v447, v450, rfl, ho0, ho1, hb⟩; refine ⟨_, rfl, ?_⟩; have n0_ := Aside0.mk (Kd.R_lower (Kd.R_mono (ok' := fun k_ => True) ho0 (fun _ hk_ => trivial)) (below_size (by repeat (first | (with_reducible first | exact HB.out | apply below_alloc | apply pw_below_drewN | apply below_drew1 | refine below_set ?_ GE443.out) | exact HB.out)))); have n1_ := Aside0.mk (Kd.N_lower (Kd.N_mono (ok' := fun k_ => some k_ ≠ (v447 : Value).ownBlock ∧ k_ ≠ gb443) ho1 (fun k_ hk_ => ⟨hk_.2, (Kd.freshB (g := gb443) (o := .cells #[.int .i64 a0_0, .int .i64 a0_1, .int .i64 a0_2, .int .i64 a0_3, .slice A0_4 l0_4.length c0_4, .slice A0_5 l0_5.length c0_5] 24 (0, 0)) (by (with_reducible repeat (first | refine blk_drewN ?_ _ | refine blk_drew ?_ | refine blk_alloc ?_ _)); exact BK443.out) k_ hk_.1)⟩)) (below_size (by repeat (first | (with_reducible first | exact HB.out | apply below_alloc | apply pw_below_drewN | apply below_drew1 | refine below_set ?_ GE443.out) | exact HB.out)))); have n2_ := Aside0.mk (blk_below (g := gb443) (o := .cells #[.int .i64 a0_0, .int .i64 a0_1, .int .i64 a0_2, .int .i64 a0_3, .slice A0_4 l0_4.length c0_4, .slice A0_5 l0_5.length c0_5] 24 (0, 0)) (by (with_reducible repeat (first | refine blk_drewN ?_ _ | refine blk_drew ?_ | refine blk_alloc ?_ _)); exact BK443.out) hb); have n3_ := Aside0.mk (below_step (by repeat (first | (with_reducible first | exact HB.out | apply below_alloc | apply pw_below_drewN | apply below_drew1 | refine below_set ?_ GE443.out) | exact HB.out)) hb); clear BK443; clear HB; have HO448 := n0_; have HO451 := n1_; have BK443 := n2_; have HB := n3_; clear n0_ n1_ n2_ n3_; (try clear hb); (try clear hb2); (try clear hk); (try clear hi); (try clear ho0); (try clear ho1)) | ((with_reducible refine gate_callee (f := 22) rfl ?_); refine goesL_ (some 32) rfl rfl Try.func22 (by kernel_rfl) rfl #[.int .i64 t452] rfl (by (try simp only [List.map_toArray, List.map_cons, List.map_nil]); first | done | rfl | (simp only [List.length_drop, List.length_take]; rfl)) ?_; (with_reducible refine (tutorlaw04_num.calls t452 t453 _ A15.out).mono ?_); rintro e w' ⟨rfl, ⟨nd, rfl⟩⟩; refine ⟨_, rfl, ?_⟩; obtain ⟨Ao87, co87, eo87⟩ := Kd.R_slice HO448.out; subst eo87; obtain ⟨Ao88, co88, eo88⟩ := Kd.N_slice HO451.out; subst eo88) | (go_at_call 16; (with_reducible refine (tutorlaw04_live.calls kj2  t454 _ A84.out).mono ?_); rintro e w89 ⟨rfl, hb⟩; have n0_ := Aside0.mk (Kd.R_below (by (with_reducible repeat (first | apply Kd.R_alloc | apply Kd.R_drewN | apply Kd.R_drew)); exact HO448.out) hb); have n1_ := Aside0.mk (Kd.N_below (by (with_reducible repeat (first | apply Kd.N_alloc | apply Kd.N_drewN | apply Kd.N_drew)); exact HO451.out) hb); have n2_ := Aside0.mk (blk_below (g := gb443) (o := .cells #[.int .i64 a0_0, .int .i64 a0_1, .int .i64 a0_2, .int .i64 a0_3, .slice A0_4 l0_4.length c0_4, .slice A0_5 l0_5.length c0_5] 24 (0, 0)) (by (with_reducible repeat (first | refine blk_drewN ?_ _ | refine blk_drew ?_ | refine blk_alloc ?_ _)); exact BK443.out) hb); have n3_ := Aside0.mk (below_step (by repeat (first | (with_reducible first | exact HB.out | apply below_alloc | apply pw_below_drewN | apply below_drew1 | refine below_set ?_ GE443.out) | exact HB.out)) hb); clear HO448; clear HO451; clear BK443; clear HB; have HO448 := n0_; have HO451 := n1_; have BK443 := n2_; have HB := n3_; clear n0_ n1_ n2_ n3_; (try clear hb); (try clear hb2); (try clear hk); (try clear hi)))
      go_ret
      exact ⟨by first | rfl | (simp [errW_none, errW_some] <;> rfl) | (simp [*, errW_none, errW_some] <;> rfl), by repeat (first | (with_reducible first | exact HB.out | apply below_alloc | apply pw_below_drewN | apply below_drew1 | refine below_set ?_ GE443.out) | exact HB.out)⟩
     ·rw [if_neg c83] at H
      exact absurd H (by simp)

end Go.Proofs.Ytllgeljacmpdjaa.PTrim
