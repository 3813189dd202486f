/- A row that is lent bears two marks behind its end; that they are kept is told by reading them. -/
import Derived.Test.YtllgeljacmpdjaaPTrimx0
import Derived.Test.YtllgeljacmpdjaaPTrimxf20
import Derived.IntWalk
namespace Go.Proofs.Ytllgeljacmpdjaa.PTrim
open Go.RowKit Go.Proofs.YtllgeljacmpdjaaW.PrintWords Go.Proofs.YtllgeljacmpdjaaW.PrintLast Go.Proofs.YtllgeljacmpdjaaW.PrintMore
attribute [local go_sem] max2_int min2_int max_two min_two max_three min_three max_four min_four   -- for this text's walks alone
set_option linter.unusedVariables false
set_option linter.unusedSimpArgs false

section
variable {d : Kd Int} {e base : Nat} {ok : Nat → Prop} {w : World} {A : Option Addr} {c : Nat} {r F : List Int}
theorem lent_cut (hF : F = r ++ [-771, -772]) (h : d.R e w base ok (.slice A F.length c) F) : d.R e w base ok (.slice A r.length c) r := by
 have := Kd.R_take (m := r.length) h (by rw [hF]; simp)
 rw [hF, List.take_left] at this
 exact this
theorem lent_C (hF : F = r ++ [-771, -772]) (h : d.R e w base ok (.slice A F.length c) F) : d.C w A (r.length + 2) (r ++ [-771, -772]) := by
 have := (Kd.R_reads' h).2.2
 rw [hF] at this
 simpa using this
theorem lent_c (hF : F = r ++ [-771, -772]) (h : d.R e w base ok (.slice A F.length c) F) : r.length + 2 ≤ c := by
 have := (Kd.R_reads' h).2.1
 rw [hF] at this
 simpa using this
def LentPost (w : World) (r : List Int) (e : Ending) (w' : World) : Prop := ∃ (A : Option Addr) (c : Nat) (F : List Int), e = .returned (.slice A r.length c) ∧ F = r ++ [-771, -772] ∧ Kd.R (Kd.int .i64) 3 w' w.heap.size (fun _ => True) (.slice A F.length c) F ∧ Below w.heap.size w w'
theorem C_prefix {ys : List Int} {n : Nat} (hn : n = (r ++ ys).length) (h : d.C w A n (r ++ ys)) : d.C w A r.length r := by
 obtain ⟨h1, h2, h3⟩ := h
 refine ⟨rfl, by rw [hn] at h2; simp at h2; omega, fun hpos => ?_⟩
 obtain ⟨ad, ea, hc⟩ := h3 (by rw [hn]; simp; omega)
 refine ⟨ad, ea, fun j p hj => hc j p ?_⟩
 rw [List.getElem?_append_left (List.getElem?_eq_some_iff.mp hj).1]
 exact hj
end

def tutorref01_Lent.f (l0 : List Int) : Option (List Int) := (some (([] : List Int) : List Int)).bind fun y484 => (if y484.length + l0.length < 17592186044416 then ((some (y484 ++ l0 : List Int)).bind fun y487 => ((some (([(-771), (-772)] : List Int) : List Int)).bind fun y490 => (if y487.length + y490.length < 17592186044416 then ((some (y487 ++ y490 : List Int)).bind fun y493 => (if 0 ≤ (l0.length : Int) then (if (l0.length : Int) ≤ (y493.length : Int) then (some (y493.take ((l0.length : Int) : Int).toNat)) else (none)) else (none))) else (none)))) else (none))
set_option maxHeartbeats 8000000 in
set_option maxRecDepth 100000 in
theorem tutorref01_Lent.calls (A0 : Option Addr) (c0 : Nat) (l0 : List Int) (r : List Int) (w : World) (hr0 : Kd.C (Kd.int .i64) w A0 l0.length l0) (hc0 : l0.length ≤ c0) (h : tutorref01_Lent.f l0 = some r) :
  Calls Try.prog 32 #[.slice A0 l0.length c0] w fun e w' => LentPost w r e w' := by
 have HR0 := Aside0.mk hr0
 have HC0 := Aside0.mk hc0
 clear hr0 hc0
 have HB := Aside0.mk (Below.refl w.heap.size w)
 have H : ((some (([] : List Int) : List Int)).bind fun y484 => (if y484.length + l0.length < 17592186044416 then ((some (y484 ++ l0 : List Int)).bind fun y487 => ((some (([(-771), (-772)] : List Int) : List Int)).bind fun y490 => (if y487.length + y490.length < 17592186044416 then ((some (y487 ++ y490 : List Int)).bind fun y493 => (if 0 ≤ (l0.length : Int) then (if (l0.length : Int) ≤ (y493.length : Int) then (some (y493.take ((l0.length : Int) : Int).toNat)) else (none)) else (none))) else (none)))) else (none))) = some r := h
 clear h
 obtain ⟨y484, hy484⟩ : ∃ y_ : List Int, y_ = (([] : List Int)) := ⟨_, rfl⟩
 replace H : (if y484.length + l0.length < 17592186044416 then ((some (y484 ++ l0 : List Int)).bind fun y487 => ((some (([(-771), (-772)] : List Int) : List Int)).bind fun y490 => (if y487.length + y490.length < 17592186044416 then ((some (y487 ++ y490 : List Int)).bind fun y493 => (if 0 ≤ (l0.length : Int) then (if (l0.length : Int) ≤ (y493.length : Int) then (some (y493.take ((l0.length : Int) : Int).toNat)) else (none)) else (none))) else (none)))) else (none)) = some r := by first | (rw [hy484]; with_reducible exact H) | (have H2_ := (Option.bind_some _ _).symm.trans H; rw [hy484]; with_reducible exact H2_) | (have H2_ := (Option.bind_some _ _).symm.trans H; with_reducible exact H2_) | with_reducible exact H | (rw [hy484]; exact H) | exact H
 have Ny484 := Aside0.mk hy484
 clear hy484
 by_cases c2 : y484.length + l0.length < 17592186044416
 ·rw [if_pos c2] at H
  have LMc2 := Aside0.mk c2
  clear c2
  obtain ⟨y487, hy487⟩ : ∃ y_ : List Int, y_ = (y484 ++ l0) := ⟨_, rfl⟩
  replace H : ((some (([(-771), (-772)] : List Int) : List Int)).bind fun y490 => (if y487.length + y490.length < 17592186044416 then ((some (y487 ++ y490 : List Int)).bind fun y493 => (if 0 ≤ (l0.length : Int) then (if (l0.length : Int) ≤ (y493.length : Int) then (some (y493.take ((l0.length : Int) : Int).toNat)) else (none)) else (none))) else (none))) = some r := by first | (rw [hy487]; with_reducible exact H) | (have H2_ := (Option.bind_some _ _).symm.trans H; rw [hy487]; with_reducible exact H2_) | (have H2_ := (Option.bind_some _ _).symm.trans H; with_reducible exact H2_) | with_reducible exact H | (rw [hy487]; exact H) | exact H
  have Ny487 := Aside0.mk hy487
  clear hy487
  obtain ⟨y490, hy490⟩ : ∃ y_ : List Int, y_ = (([(-771), (-772)] : List Int)) := ⟨_, rfl⟩
  replace H : (if y487.length + y490.length < 17592186044416 then ((some (y487 ++ y490 : List Int)).bind fun y493 => (if 0 ≤ (l0.length : Int) then (if (l0.length : Int) ≤ (y493.length : Int) then (some (y493.take ((l0.length : Int) : Int).toNat)) else (none)) else (none))) else (none)) = some r := by first | (rw [hy490]; with_reducible exact H) | (have H2_ := (Option.bind_some _ _).symm.trans H; rw [hy490]; with_reducible exact H2_) | (have H2_ := (Option.bind_some _ _).symm.trans H; with_reducible exact H2_) | with_reducible exact H | (rw [hy490]; exact H) | exact H
  have Ny490 := Aside0.mk hy490
  clear hy490
  by_cases c3 : y487.length + y490.length < 17592186044416
  ·rw [if_pos c3] at H
   have LMc3 := Aside0.mk c3
   clear c3
   obtain ⟨y493, hy493⟩ : ∃ y_ : List Int, y_ = (y487 ++ y490) := ⟨_, rfl⟩
   replace H : (if 0 ≤ (l0.length : Int) then (if (l0.length : Int) ≤ (y493.length : Int) then (some (y493.take ((l0.length : Int) : Int).toNat)) else (none)) else (none)) = some r := by first | (rw [hy493]; with_reducible exact H) | (have H2_ := (Option.bind_some _ _).symm.trans H; rw [hy493]; with_reducible exact H2_) | (have H2_ := (Option.bind_some _ _).symm.trans H; with_reducible exact H2_) | with_reducible exact H | (rw [hy493]; exact H) | exact H
   have Ny493 := Aside0.mk hy493
   clear hy493
   by_cases c4 : 0 ≤ (l0.length : Int)
   ·rw [if_pos c4] at H
    have c4b0 := eq_true c4
    have c4b1 : decide (0 ≤ (l0.length : Int)) = true := decide_eq_true c4
    clear c4
    by_cases c5 : (l0.length : Int) ≤ (y493.length : Int)
    ·rw [if_pos c5] at H
     have c5b0 := eq_true c5
     have c5b1 : decide ((l0.length : Int) ≤ (y493.length : Int)) = true := decide_eq_true c5
     clear c5
     obtain ⟨y496, hy496⟩ : ∃ y_ : List Int, y_ = (y493.take ((l0.length : Int) : Int).toNat) := ⟨_, rfl⟩
     replace H : (some y496) = some r := by first | (rw [hy496]; with_reducible exact H) | (have H2_ := (Option.bind_some _ _).symm.trans H; rw [hy496]; with_reducible exact H2_) | (have H2_ := (Option.bind_some _ _).symm.trans H; with_reducible exact H2_) | with_reducible exact H | (rw [hy496]; exact H) | exact H
     have Ny496 := Aside0.mk hy496
     clear hy496
     obtain rfl := Option.some.inj H
     go_enter Try.func32, Try.ntmps32
     go_wp2_with (first | ((with_reducible refine gate_dst (N := 4) rfl ?_); refine Kd.R_lit (Kd.int .i64) _ 3 ?hg (N := 4) ?hd (xs := ([] : List Int)) (inner := []) (ok := fun _ => True) (okp := fun _ => True) ?hr ?hp (fun _ hk => hk) trivial (Below.refl _ _) (Nat.le_refl _) (by simp) ?_; (case hd => rfl); (case hg => rfl); (case hr => first | (go_simp; done) | (go_simp; rfl)); (case hp => exact (Reps.none _ _)); intro v485 w6 ho7 hb hg_ hnew_; clear hg_ hnew_; (first | rw [← Ny484.out] at ho7 | (simp only [Int.reduceToNat] at ho7; rw [← Ny484.out] at ho7)); have n0_ := Aside0.mk (Kd.R_lower ho7 (below_size (by repeat (first | (with_reducible first | exact HB.out | apply below_alloc | apply pw_below_drewN | apply below_drew1) | exact HB.out)))); have n1_ := Aside0.mk (below_step (by repeat (first | (with_reducible first | exact HB.out | apply below_alloc | apply pw_below_drewN | apply below_drew1) | exact HB.out)) hb); clear HB; have HO486 := n0_; have HB := n1_; clear n0_ n1_; clear hb ho7) | ((with_reducible refine gate_builtin (b := .append) (xs := #[.tmp 4, .tmp 5]) rfl ?_); at_builtin; refine Kd.R_append_rows (Kd.int .i64) (w0 := w) w.heap.size rfl (.tmp 4) (.tmp 5) 22 3 (.int .i64 0) 8 rfl Try.underlying22 info3 rfl (by decide) (by omega) v485 y484 l0 _ _ _ (fun _ => True) (fun _ => False) rfl rfl ?aO ?aR (fun _ _ h => h) (fun _ h => h.elim) ?aF ?aB ?aS ?aL ?_; (case aR => repeat (first | exact (Kd.C_below HR0.out HB.out) | (with_reducible refine Kd.C_alloc ?_ _) | (with_reducible refine Kd.C_drewN ?_ _) | (with_reducible refine Kd.C_drew ?_))); (case aB => exact (by repeat (first | (with_reducible first | exact HB.out | apply below_alloc | apply pw_below_drewN | apply below_drew1) | exact HB.out))); (case aF => exact (fun _ _ => trivial)); (case aO => exact (by (with_reducible repeat (first | apply Kd.R_alloc | apply Kd.R_drewN | apply Kd.R_drew)); exact HO486.out)); (case aS => exact (below_size (by repeat (first | (with_reducible first | exact HB.out | apply below_alloc | apply pw_below_drewN | apply below_drew1) | exact HB.out)))); (case aL => have := LMc2.out; omega); intro v488 w8 ho hb hg hat; rw [← Ny487.out] at ho; have n0_ := Aside0.mk (hb); have n1_ := Aside0.mk (ho); clear HB; clear HO486; have HB := n0_; have HO489 := n1_; clear n0_ n1_; clear ho hb hg hat) | ((with_reducible refine gate_dst (N := 7) rfl ?_); refine Kd.R_lit (Kd.int .i64) _ 3 ?hg (N := 7) ?hd (xs := ([(-771), (-772)] : List Int)) (inner := [.int .i64 (-771), .int .i64 (-772)]) (ok := fun _ => True) (okp := fun _ => True) ?hr ?hp (fun _ hk => hk) trivial (Below.refl _ _) (Nat.le_refl _) (by simp) ?_; (case hd => rfl); (case hg => rfl); (case hr => first | (go_simp; done) | (go_simp; rfl)); (case hp => exact (Reps.one (show Kd.M (Kd.int .i64) _ _ _ (-771) [.int .i64 (-771)] from rfl) (Reps.one (show Kd.M (Kd.int .i64) _ _ _ (-772) [.int .i64 (-772)] from rfl) (Reps.none _ _)))); intro v491 w9 ho10 hb hg_ hnew_; clear hg_ hnew_; (first | rw [← Ny490.out] at ho10 | (simp only [Int.reduceToNat] at ho10; rw [← Ny490.out] at ho10)); have n0_ := Aside0.mk (Kd.R_elder' (by (with_reducible repeat (first | apply Kd.R_alloc | apply Kd.R_drewN | apply Kd.R_drew)); exact HO489.out) (Kd.R_base ho10) hb); have n1_ := Aside0.mk (Kd.R_lower (Kd.R_new' ho10 (Kd.R_lt (by (with_reducible repeat (first | apply Kd.R_alloc | apply Kd.R_drewN | apply Kd.R_drew)); exact HO489.out))) (below_size (by repeat (first | (with_reducible first | exact HB.out | apply below_alloc | apply pw_below_drewN | apply below_drew1) | exact HB.out)))); have n2_ := Aside0.mk (below_step (by repeat (first | (with_reducible first | exact HB.out | apply below_alloc | apply pw_below_drewN | apply below_drew1) | exact HB.out)) hb); clear HO489; clear HB; have HO489 := n0_; have HO492 := n1_; have HB := n2_; clear n0_ n1_ n2_; clear hb ho10; obtain ⟨Ao12, co12, eo12⟩ := Kd.R_slice HO492.out; subst eo12) | ((with_reducible refine gate_builtin (b := .append) (xs := #[.tmp 6, .tmp 7]) rfl ?_); at_builtin; refine Kd.R_append_rows (Kd.int .i64) (w0 := w) w.heap.size rfl (.tmp 6) (.tmp 7) 22 3 (.int .i64 0) 8 rfl Try.underlying22 info3 rfl (by decide) (by omega) v488 y487 y490 _ _ _ (fun k_ => some k_ ≠ (.slice Ao12 y490.length co12 : Value).ownBlock) (fun _ => False) rfl rfl ?aO ?aR (fun _ _ h => h) (fun _ h => h.elim) ?aF ?aB ?aS ?aL ?_; (case aR => repeat (first | exact (Kd.R_reads' HO492.out).2.2 | (with_reducible refine Kd.C_alloc ?_ _) | (with_reducible refine Kd.C_drewN ?_ _) | (with_reducible refine Kd.C_drew ?_))); (case aB => exact (by repeat (first | (with_reducible first | exact HB.out | apply below_alloc | apply pw_below_drewN | apply below_drew1) | exact HB.out))); (case aF => exact (fun k_ hk => Kd.fresh' (Kd.R_lt (by (with_reducible repeat (first | apply Kd.R_alloc | apply Kd.R_drewN | apply Kd.R_drew)); exact HO492.out)) k_ hk)); (case aO => exact (by (with_reducible repeat (first | apply Kd.R_alloc | apply Kd.R_drewN | apply Kd.R_drew)); exact Kd.R_mono HO489.out (fun _ hk => hk.2))); (case aS => exact (below_size (by repeat (first | (with_reducible first | exact HB.out | apply below_alloc | apply pw_below_drewN | apply below_drew1) | exact HB.out)))); (case aL => have := LMc3.out; omega); intro v494 w11 ho hb hg hat; rw [← Ny493.out] at ho; have n0_ := Aside0.mk (Kd.R_after (ok := (fun _ => True)) (by (with_reducible repeat (first | apply Kd.R_alloc | apply Kd.R_drewN | apply Kd.R_drew)); exact HO492.out) hg hat); have n1_ := Aside0.mk (hb); have n2_ := Aside0.mk (ho); clear HO492; clear HB; clear HO489; have HO492 := n0_; have HB := n1_; have HO495 := n2_; clear n0_ n1_ n2_; clear ho hb hg hat; obtain ⟨Ao13, co13, eo13⟩ := Kd.R_slice HO495.out; subst eo13; have q14 : ((l0.length : Int) : Int) ≤ ((y493.length : Int) : Int) := of_decide_eq_true (by first | (with_reducible assumption) | assumption); obtain ⟨i014, hi014, _, hsz14, _⟩ := info_parts info3; have hcut14 := cut_to (P := Try.prog) 22 3 .i64 Try.underlying22 hi014 Ao13 y493.length co13 (l0.length : Int) (of_decide_eq_true (by first | (with_reducible assumption) | assumption)) q14 (Kd.R_reads' HO495.out).2.1; have hr14 := Kd.R_take (m := ((l0.length : Int) : Int).toNat) HO495.out (by omega); have hy14 : y496.length = ((l0.length : Int) : Int).toNat := (by rw [Ny496.out, List.length_take]; omega); rw [← Ny496.out] at hr14; rw [← hy14] at hr14 hcut14; clear hy14 hi014 hsz14; have HO498 := Aside0.mk hr14; clear hr14; replace q14 := eq_true q14))
     go_ret
     exact ⟨_, _, y493, by first | rfl | (simp [errW_none, errW_some] <;> rfl) | (simp [*, errW_none, errW_some] <;> rfl), by (have e1_ := Ny496.out; have e2_ := Ny493.out; have e3_ := Ny487.out; have e4_ := Ny484.out; have e5_ := Ny490.out; rw [e1_, e2_, e3_, e4_, e5_]; simp), by (with_reducible repeat (first | apply Kd.R_alloc | apply Kd.R_drewN | apply Kd.R_drew)); exact Kd.R_mono HO495.out (fun _ hk => trivial), by repeat (first | (with_reducible first | exact HB.out | apply below_alloc | apply pw_below_drewN | apply below_drew1) | exact HB.out)⟩
    ·rw [if_neg c5] at H
     exact absurd H (by simp)
   ·rw [if_neg c4] at H
    exact absurd H (by simp)
  ·rw [if_neg c3] at H
   exact absurd H (by simp)
 ·rw [if_neg c2] at H
  exact absurd H (by simp)


def tutorref01_Kept.f (k : Nat) (l0 : List Int) (l1 : List Int) : Option (Bool) := (tutorref01_Same.f k l0 l1).bind fun t => if t = true then some true else none
theorem tutorref01_Kept.mono : ∀ a0 a1 k, LeO (tutorref01_Kept.f k a0 a1) (tutorref01_Kept.f (k + 1) a0 a1) := by
 intro a0 a1 k
 unfold tutorref01_Kept.f
 exact LeO.bind (tutorref01_Same.mono _ _ _) (fun _ => LeO.refl _)
set_option maxHeartbeats 8000000 in
set_option maxRecDepth 100000 in
theorem tutorref01_Kept.calls (k : Nat) (A0 : Option Addr) (c0 : Nat) (l0 : List Int) (A1 : Option Addr) (c1 : Nat) (l1 : List Int) (r : Bool) (w : World) (hr0 : Kd.C (Kd.int .i64) w A0 (l0.length + 2) (l0 ++ [-771, -772])) (hc0 : l0.length + 2 ≤ c0) (hr1 : Kd.C (Kd.int .i64) w A1 l1.length l1) (hc1 : l1.length ≤ c1) (h : tutorref01_Kept.f k l0 l1 = some r) :
  Calls Try.prog 35 #[.slice A0 l0.length c0, .slice A1 l1.length c1] w fun e w' => e = .returned (.bool r) ∧ Below w.heap.size w w' := by
 unfold tutorref01_Kept.f at h
 obtain ⟨t541, A60, H⟩ := Option.bind_eq_some_iff.mp h
 clear h
 by_cases ht : t541 = true
 ·subst ht
  rw [if_pos rfl] at H
  obtain rfl := Option.some.inj H
  clear H
  have A6 := Aside0.mk A60
  clear A60
  obtain ⟨N, hN⟩ : ∃ N : Nat, N = l0.length + 2 := ⟨_, rfl⟩
  have hmx : N ≤ 9223372036854775807 := by rw [hN]; exact hr0.2.1
  have HR0 := Aside0.mk (C_prefix (by simp) hr0)
  have HC0 := Aside0.mk (show l0.length ≤ c0 by omega)
  have hx542_0 : ∃ ad, A0 = some ad ∧ w.cell? (ad.add l0.length) = some (.int .i64 (-771)) ∧ w.cell? (ad.add (l0.length + 1)) = some (.int .i64 (-772)) := by
   obtain ⟨ad, e1, g1⟩ := Kd.at_int hr0 (l0.length : Int) (by omega) (by omega)
   obtain ⟨ad2, e2, g2⟩ := Kd.at_int hr0 ((l0.length + 1 : Nat) : Int) (by omega) (by omega)
   rw [e1] at e2
   obtain rfl := Option.some.inj e2
   refine ⟨ad, e1, ?_, ?_⟩
   ·rw [Int.toNat_natCast] at g1
    rw [g1]
    simp [rd]
   ·rw [Int.toNat_natCast] at g2
    rw [g2]
    simp [rd]
  obtain ⟨ad542, rfl, hx542_0, hx543_1⟩ := hx542_0
  have HR1 := Aside0.mk hr1
  have HC1 := Aside0.mk hc1
  clear hr0 hr1 hc1
  obtain ⟨ji3, hji3⟩ : ∃ j_ : Int, (wrap64 ((l0.length : Int) + 2)) = j_ := ⟨_, rfl⟩
  have hv3 : ji3 = (N : Int) := by rw [← hji3, hN]; unfold wrap64; omega
  have hji3w : (IntKind.i64.wrap ((l0.length : Int) + 2)) = ji3 := (i64_w _).trans hji3
  obtain ⟨ji11, hji11⟩ : ∃ j_ : Int, (wrap64 ((l0.length : Int) + 1)) = j_ := ⟨_, rfl⟩
  have hv11 : ji11 = ((l0.length + 1 : Nat) : Int) := by rw [← hji11]; unfold wrap64; omega
  have hji11w : (IntKind.i64.wrap ((l0.length : Int) + 1)) = ji11 := (i64_w _).trans hji11
  have hcut14 : ∀ W : World, (Instr.slice 22 (.slice (some ad542) l0.length c0) none (some (.int .i64 ji3)) none).run Try.prog W = .ok (.slice (some ad542) N c0) W := by
   intro W
   obtain ⟨i0, hi, _, hsz, _⟩ := info_parts info3
   have hel : Try.prog.elem 22 = 3 := by simp [Program.elem, Try.underlying22]
   have hu : Try.prog.underlying 22 = some (.slice (Try.prog.elem 22)) := by rw [hel]; exact Try.underlying22
   have h1 := cut_to (P := Try.prog) 22 3 .i64 Try.underlying22 hi (some ad542) N c0 ji3 (by omega) (by omega) (by omega) W
   rw [run_slice_h W 22 (some ad542) N c0 hu .i64 ji3 (by omega) (by omega)] at h1
   rw [run_slice_h W 22 (some ad542) l0.length c0 hu .i64 ji3 (by omega) (by omega), h1]
   have : ji3.toNat = N := by omega
   rw [this]
  have p542 : (0 ≤ (l0.length : Int)) = True := eq_true (by omega)
  have q542 : ((l0.length : Int) < (N : Int)) = True := eq_true (by omega)
  have p543 : (0 ≤ ji11) = True := eq_true (by omega)
  have q543 : (ji11 < (N : Int)) = True := eq_true (by omega)
  have hx543_0 : w.cell? (ad542.add ji11.toNat) = some (.int .i64 (-772)) := by
   have : ji11.toNat = l0.length + 1 := by omega
   rw [this]
   exact hx543_1
  clear hx543_1 hN hv3 hv11 hmx hc0
  have HB := Aside0.mk (Below.refl w.heap.size w)
  go_enter Try.func35, Try.ntmps35
  go_wp2_with (first | ((with_reducible refine gate_callee (f := 20) rfl ?_); refine goesL_ (some 13) rfl rfl Try.func20 (by kernel_rfl) rfl #[.slice (some ad542) l0.length c0, .slice A1 l1.length c1] rfl (by (try simp only [List.map_toArray, List.map_cons, List.map_nil]); first | done | rfl | (simp only [List.length_drop, List.length_take]; rfl)) ?_; (with_reducible refine (tutorref01_Same.calls k _ _ l0 _ _ l1 true _ ?side1 ?side2 ?side3 ?side4 A6.out).mono ?_); (case side1 => repeat (first | exact HR0.out | (with_reducible refine Kd.C_alloc ?_ _) | (with_reducible refine Kd.C_drewN ?_ _) | (with_reducible refine Kd.C_drew ?_))); (case side2 => exact HC0.out); (case side3 => repeat (first | exact HR1.out | (with_reducible refine Kd.C_alloc ?_ _) | (with_reducible refine Kd.C_drewN ?_ _) | (with_reducible refine Kd.C_drew ?_))); (case side4 => exact HC1.out); rintro e w' ⟨rfl, ⟨nd, rfl⟩⟩; refine ⟨_, rfl, ?_⟩))
  go_ret
  exact ⟨by first | rfl | (simp; done) | (simp [*]; done), by repeat (first | (with_reducible first | exact HB.out | apply below_alloc | apply pw_below_drewN | apply below_drew1) | exact HB.out)⟩
 ·rw [if_neg ht] at H
  cases H

end Go.Proofs.Ytllgeljacmpdjaa.PTrim
