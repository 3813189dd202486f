/- The walk of the telling that rows share no memory. -/
import Derived.Test.YtllgeljacmpdjaaGApart
namespace Go.Proofs.Ytllgeljacmpdjaa.PTrim
open Go.RowKit Go.Proofs.YtllgeljacmpdjaaW.PrintWords Go.Proofs.YtllgeljacmpdjaaW.PrintLast Go.Proofs.YtllgeljacmpdjaaW.PrintMore
attribute [local go_sem] max2_int min2_int max_two min_two max_three min_three max_four min_four   -- for this text's walks alone
set_option linter.unusedVariables false
set_option linter.unusedSimpArgs false

theorem OM {w w1 : World} {ad : Addr} {N : Nat} {vs : Nat → Value} (h : Ou w ad N vs) (hb : Below w.heap.size w w1 := by repeat (first | exact Below.refl _ _ | (with_reducible first | apply below_alloc | apply pw_below_drewN | apply below_drew))) : Ou w1 ad N vs := h.below hb
theorem WM {w w1 : World} {base N : Nat} {vs : Nat → Value} {ns : Nat → Nat} {D : Nat → Nat → Prop} (h : Rw w base N vs ns D) (hb : Below w.heap.size w w1 := by repeat (first | exact Below.refl _ _ | (with_reducible first | apply below_alloc | apply pw_below_drewN | apply below_drew))) : Rw w1 base N vs ns D := h.below hb
theorem IM {w w1 : World} {base : Nat} {v : Value} {xs : List Int} (h : IR w base v xs) (hb : Below w.heap.size w w1 := by repeat (first | exact Below.refl _ _ | (with_reducible first | apply below_alloc | apply pw_below_drewN | apply below_drew))) : IR w1 base v xs := Kd.R_below h hb
theorem BM {w0 w w1 : World} {base N : Nat} {vs : Nat → Value} (h : Bk w0 w base N vs) (h2 : base ≤ w.heap.size) (hb : Below w.heap.size w w1 := by repeat (first | exact Below.refl _ _ | (with_reducible first | apply below_alloc | apply pw_below_drewN | apply below_drew))) : Bk w0 w1 base N vs := ⟨h.1.trans (hb.mono h2), fun k hk hv => (hb.block k (by have := h.1.size; omega)).trans (h.2 k hk hv)⟩

set_option maxHeartbeats 8000000 in
set_option maxRecDepth 100000 in
theorem apart_calls (ad : Addr) (c N : Nat) (vs : Nat → Value) (ns : Nat → Nat) (w : World) (base : Nat) (ho : Ou w ad N vs) (hr : Rw w base N vs ns (fun _ _ => False)) (hd : Dist N vs ad.block) (hs : ∀ j, j < N → ns j + 6 < 17592186044416) (hN : N < 17592186044416) (hab : ad.block < w.heap.size) (hb : base ≤ w.heap.size) :
  Calls Try.prog 24 #[.slice (some ad) N c] w fun e w' => e = .returned (.bool true) ∧ Bk w w' base N vs := by
 have HO := Aside0.mk ho
 have HR := Aside0.mk hr
 have HD := Aside0.mk hd
 have HS := Aside0.mk hs
 have HN := Aside0.mk hN
 have HA := Aside0.mk hab
 have HB := Aside0.mk hb
 clear ho hr hd hs hN hab hb
 go_enter Try.func24, Try.ntmps24
 go_wp2
 repeat (go_quiet (fail); try go_wp2)
 go_loopg [3] N (fun kq v3 w' => ∃ x : Int, v3 = .int .i64 x ∧ Aside0 (0 ≤ x ∧ x ≤ N ∧ (kq : Int) + x = N) ∧ Aside0 (Ou w' ad N vs) ∧ Aside0 (Rw w' base N vs ns (fun j _ => (j : Int) < x)) ∧ Aside0 (Bk w w' base N vs))
 case atStart => exact ⟨0, rfl, ⟨by omega⟩, ⟨OM HO.out⟩, ⟨WM (HR.out.mono (fun j p h => by omega))⟩, ⟨BM (Bk.refl _ _ _ _) HB.out⟩⟩
 case round =>
  clear HO HR
  obtain ⟨x, rfl, HX, HO, HR, HBB⟩ := hrel
  by_cases c1 : x < (N : Int)
  · have c1b : decide (x < (N : Int)) = true := decide_eq_true c1
    have c0b : decide (0 ≤ x) = true := decide_eq_true HX.out.1
    obtain ⟨j, hj⟩ : ∃ j : Nat, j = x.toNat := ⟨_, rfl⟩
    have hjN : j < N := by have := HX.out; omega
    obtain ⟨A, cj, xs, e1, e2, e3, e4, e5, e6⟩ := HR.out.row hjN
    have hx1 : wr.cell? (ad.add x.toNat) = some (.slice A (ns j) cj) := (HO.out x HX.out.1 c1).trans (by rw [← hj, e1])
    have hnw : wrap64 (x + 1) = x + 1 := by have := HX.out; have := HN.out; unfold wrap64; omega
    have HXI := Aside0.mk hx1
    have HV := Aside0.mk e1
    have HL := Aside0.mk e2
    have HJ := Aside0.mk hj
    clear hx1 e1 e2 e3 e4 e5 e6 hj
    have hx2 := HXI.out
    go_wp2
    repeat (go_quiet (fail); try go_wp2)
    clear hx2
    go_loopg [4] (ns j) (fun kq v4 w' => ∃ y : Int, v4 = .int .i64 y ∧ Aside0 (0 ≤ y ∧ y ≤ ns j ∧ (kq : Int) + y = ns j) ∧ Aside0 (Ou w' ad N vs) ∧ Aside0 (Rw w' base N vs ns (fun i p => (i : Int) < x ∨ (i = j ∧ (p : Int) < y))) ∧ Aside0 (Bk w w' base N vs))
    case atStart => exact ⟨0, rfl, ⟨by omega⟩, ⟨OM HO.out⟩, ⟨WM (HR.out.mono' (fun i p h1 h2 h => by omega))⟩, ⟨BM HBB.out (by have := HBB.out.1.size; have := HB.out; omega)⟩⟩
    case round =>
      clear HO HR HBB HXI
      obtain ⟨y, rfl, HY, HO, HR, HBB⟩ := hrel
      obtain ⟨A2, cj2, xs, e1, e2, e3, e4, e5, e6⟩ := HR.out.row hjN
      have hx1 : wr.cell? (ad.add x.toNat) = some (.slice A2 (ns j) cj2) := (HO.out x HX.out.1 c1).trans (by rw [← HJ.out, e1])
      by_cases c2 : y < (ns j : Int)
      · have c2b : decide (y < (ns j : Int)) = true := decide_eq_true c2
        have c20 : decide (0 ≤ y) = true := decide_eq_true HY.out.1
        obtain ⟨g, cap, hf, _⟩ := Kd.R_form e3 (by have := HY.out; omega)
        injection hf with hf1 hf2 hf3
        subst hf1
        subst hf3
        obtain ⟨mk, hmk⟩ : ∃ m : Int, wrap64 (-1000 - x) = m := ⟨_, rfl⟩
        have hmkw : (IntKind.i64.wrap (-1000 - x)) = mk := (i64_w _).trans hmk
        have hjx : (j : Int) = x := by have := HX.out; have := HJ.out; omega
        have HMK := Aside0.mk hmk
        have HV2 := Aside0.mk e1
        have hny : wrap64 (y + 1) = y + 1 := by have := HY.out; have := HS.out j hjN; unfold wrap64; omega
        have HJX := Aside0.mk hjx
        obtain ⟨hxr, hfr⟩ := Kd.R_celln 0 e3 y HY.out.1 c2
        have HP := Aside0.mk (HR.out.put HD.out hjN e1 y HY.out.1 c2)
        have p1 := eq_true HX.out.1
        have q1 := eq_true c1
        have p2 := eq_true HY.out.1
        have q2 := eq_true c2
        clear hmk e1 e2 e3 e4 e5 e6 hf2 hjx
        go_wp2
        repeat (go_quiet (fail); try go_wp2)
        go_roundg (ns j - (y.toNat + 1))
        case measure => have := HY.out; omega
        case rel =>
          have HPo := HP.out
          rw [HJX.out, HMK.out] at HPo
          obtain ⟨r1, r2, r3⟩ := HPo
          exact ⟨y + 1, by first | rfl | rw [hny], ⟨by have := HY.out; omega⟩, ⟨HO.out.grown r2 (fun he => by have h5 := HD.out.1 j hjN; rw [HV2.out] at h5; exact h5 (by rw [he]; rfl))⟩, ⟨r1.mono' (fun i p h1 h2 h => by have := HY.out; omega)⟩, ⟨HBB.out.grown r2 (by have := HBB.out.1.size; have := HB.out; omega) (fun k hk => by injection hk with hk; omega) (fun k hk => .inr ⟨j, hjN, by rw [HV2.out]; exact hk⟩)⟩⟩
      · have c2b : decide (y < (ns j : Int)) = false := decide_eq_false c2
        have p1 := eq_true HX.out.1
        have q1 := eq_true c1
        clear e1 e2 e3 e4 e5 e6
        go_wp2
        repeat (go_quiet (fail); try go_wp2)
        go_roundg (N - (j + 1))
        case measure => have := HX.out; have := HJ.out; omega
        case rel =>
          exact ⟨x + 1, by first | rfl | rw [hnw], ⟨by have := HX.out; have := HJ.out; omega⟩, ⟨OM HO.out⟩, ⟨WM (HR.out.mono' (fun i p h1 h2 h => by
            have := HX.out
            have := HJ.out
            have := HY.out
            by_cases hij : i = j
            · subst hij
              exact .inr ⟨rfl, by omega⟩
            · exact .inl (by omega)))⟩, ⟨BM HBB.out (by have := HBB.out.1.size; have := HB.out; omega)⟩⟩
  · have c1b : decide (x < (N : Int)) = false := decide_eq_false c1
    go_wp2
    repeat (go_quiet (fail); try go_wp2)
    have HR := Aside0.mk (HR.out.mono' (D' := fun _ _ => True) (fun i p h1 h2 h => by have := HX.out; omega))
    have HX' := HX
    clear HX c1 c1b
    go_loopg [5, 6] N (fun kq v5 v6 w' => ∃ x : Int, v5 = .int .i64 x ∧ Aside0 (0 ≤ x ∧ x ≤ N ∧ (kq : Int) + x = N) ∧ Aside0 (Ou w' ad N vs) ∧ Aside0 (Rw w' base N vs ns (fun _ _ => True)) ∧ Aside0 (Bk w w' base N vs))
    case atStart => exact ⟨0, rfl, ⟨by omega⟩, ⟨OM HO.out⟩, ⟨WM HR.out⟩, ⟨BM HBB.out (by have := HBB.out.1.size; have := HB.out; omega)⟩⟩
    case round =>
      clear HO HR HBB
      obtain ⟨x, rfl, HX, HO, HR, HBB⟩ := hrel
      by_cases c1 : x < (N : Int)
      · have c1b : decide (x < (N : Int)) = true := decide_eq_true c1
        obtain ⟨j, hj⟩ : ∃ j : Nat, j = x.toNat := ⟨_, rfl⟩
        have hjN : j < N := by have := HX.out; omega
        obtain ⟨A, cj, xs, e1, e2, e3, e4, e5, e6⟩ := HR.out.row hjN
        have hx1 : wr.cell? (ad.add x.toNat) = some (.slice A (ns j) cj) := (HO.out x HX.out.1 c1).trans (by rw [← hj, e1])
        have hnw : wrap64 (x + 1) = x + 1 := by have := HX.out; have := HN.out; unfold wrap64; omega
        have HV := Aside0.mk e1
        have HJ := Aside0.mk hj
        have HS3 := Aside0.mk e3
        have HL := Aside0.mk e4
        have p1 := eq_true HX.out.1
        have q1 := eq_true c1
        clear e1 e2 e3 e4 e5 e6 hj
        go_wp2
        repeat (go_quiet (fail); try go_wp2)
        go_loopg [6, 7] 6 (fun kq v6 v7 w' => ∃ (y : Int) (zs : List Int), v7 = .int .i64 y ∧ Aside0 (0 ≤ y ∧ y ≤ 6 ∧ (kq : Int) + y = 6) ∧ Aside0 (Ou w' ad N vs) ∧ Aside0 (Rw w' base N vs ns (fun _ _ => True)) ∧ Aside0 (Bk w w' base N vs) ∧ Aside0 (IR w' base v6 zs) ∧ Aside0 (zs.length = ns j + y.toNat) ∧ Aside0 (Onw N vs w.heap.size ad.block j v6))
        case atStart => exact ⟨0, xs, rfl, ⟨by omega⟩, ⟨OM HO.out⟩, ⟨WM HR.out⟩, ⟨BM HBB.out (by have := HBB.out.1.size; have := HB.out; omega)⟩, ⟨IM HS3.out⟩, ⟨HL.out⟩, ⟨.inl (by rw [HV.out])⟩⟩
        case round =>
          clear HO HR HBB HS3 HL
          obtain ⟨y, zs, rfl, HY, HO, HR, HBB, HI, HL, HW⟩ := hrel
          by_cases c2 : y < 6
          · have c2b : decide (y < 6) = true := decide_eq_true c2
            obtain ⟨mk, hmk⟩ : ∃ m : Int, wrap64 (-5000 - x) = m := ⟨_, rfl⟩
            have hmkw : (IntKind.i64.wrap (-5000 - x)) = mk := (i64_w _).trans hmk
            have hny : wrap64 (y + 1) = y + 1 := by have := HY.out; unfold wrap64; omega
            have hlen := Aside0.mk (show (zs.length + 1) * 8 ≤ 140737488355328 by have := HY.out; have := HS.out j hjN; have := HL.out; omega)
            clear hmk
            go_wp2_with (first | ((with_reducible refine gate_builtin (b := .append) (xs := #[.tmp 47, .tmp 50]) rfl ?_); at_builtin; refine wp_append_sharp (base := base) (v := u6) rfl (.tmp 47) (.tmp 50) rfl info3 Try.underlying22 mk rfl rfl ?aO ?aS hlen.out ?_; (case aO => exact IM HI.out); (case aS => have h1_ := HBB.out.1.size; have h2_ := HB.out; first | omega | (simp only [World.heap_drewN]; omega)); intro v1 w1 h1 h2 h3; have hw_ := Aside0.mk (Rw.went (WM HR.out) (OM HO.out) HD.out (by have h1_ := HBB.out.1.size; have h2_ := HA.out; first | omega | (simp only [World.heap_drewN]; omega)) hjN (IM HI.out) (by have := HL.out; omega) (by have h1_ := HBB.out.1.size; first | omega | (simp only [World.heap_drewN]; omega)) HW.out h1 h2 h3); have hi_ := Aside0.mk h1; have hg_ := Aside0.mk h2; clear h1 h2 h3))
            repeat (go_quiet (fail); try go_wp2)
            go_roundg (6 - (y.toNat + 1))
            case measure => have := HY.out; omega
            case rel =>
              exact ⟨y + 1, zs ++ [mk], by first | rfl | rw [hny], ⟨by have := HY.out; omega⟩, ⟨hw_.out.2.1⟩, ⟨hw_.out.1⟩, ⟨HBB.out.grown hg_.out (by have := HBB.out.1.size; have := HB.out; omega) (fun k hk => Kd.R_base HI.out k hk) (fun k hk => HW.out.elim (fun h => .inr ⟨j, hjN, by rw [← h]; exact hk⟩) (fun ⟨g, h1, h2, _⟩ => .inl (by rw [h1] at hk; injection hk with hk; omega)))⟩, ⟨hi_.out⟩, ⟨by have := HL.out; have := HY.out; simp; omega⟩, ⟨hw_.out.2.2⟩⟩
          · have c2b : decide (y < 6) = false := decide_eq_false c2
            go_wp2
            repeat (go_quiet (fail); try go_wp2)
            go_roundg (N - (j + 1))
            case measure => have := HX.out; have := HJ.out; omega
            case rel =>
              exact ⟨x + 1, by first | rfl | rw [hnw], ⟨by have := HX.out; have := HJ.out; omega⟩, ⟨OM HO.out⟩, ⟨WM HR.out⟩, ⟨BM HBB.out (by have := HBB.out.1.size; have := HB.out; omega)⟩⟩
      · have c1b : decide (x < (N : Int)) = false := decide_eq_false c1
        go_wp2
        repeat (go_quiet (fail); try go_wp2)
        have HX3 := HX
        clear HX c1 c1b
        go_loopg [8, 9] N (fun kq v5 v6 w' => ∃ x : Int, v5 = .int .i64 x ∧ Aside0 (0 ≤ x ∧ x ≤ N ∧ (kq : Int) + x = N) ∧ Aside0 (Ou w' ad N vs) ∧ Aside0 (Rw w' base N vs ns (fun _ _ => True)) ∧ Aside0 (Bk w w' base N vs))
        case atStart => exact ⟨0, rfl, ⟨by omega⟩, ⟨OM HO.out⟩, ⟨WM HR.out⟩, ⟨BM HBB.out (by have := HBB.out.1.size; have := HB.out; omega)⟩⟩
        case round =>
          clear HO HR HBB
          obtain ⟨x2, rfl, HX, HO, HR, HBB⟩ := hrel
          by_cases c1 : x2 < (N : Int)
          · have c1b : decide (x2 < (N : Int)) = true := decide_eq_true c1
            obtain ⟨j, hj⟩ : ∃ j : Nat, j = x2.toNat := ⟨_, rfl⟩
            have hjN : j < N := by have := HX.out; omega
            obtain ⟨A, cj, xs, e1, e2, e3, e4, e5, e6⟩ := HR.out.row hjN
            have hx1 : wr.cell? (ad.add x2.toNat) = some (.slice A (ns j) cj) := (HO.out x2 HX.out.1 c1).trans (by rw [← hj, e1])
            have hnw : wrap64 (x2 + 1) = x2 + 1 := by have := HX.out; have := HN.out; unfold wrap64; omega
            have HJ := Aside0.mk hj
            have p1 := eq_true HX.out.1
            have q1 := eq_true c1
            clear e1 e2 e3 e4 e5 e6 hj
            go_wp2
            repeat (go_quiet (fail); try go_wp2)
            go_loopg [9] (ns j) (fun kq v4 w' => ∃ y : Int, v4 = .int .i64 y ∧ Aside0 (0 ≤ y ∧ y ≤ ns j ∧ (kq : Int) + y = ns j) ∧ Aside0 (Ou w' ad N vs) ∧ Aside0 (Rw w' base N vs ns (fun _ _ => True)) ∧ Aside0 (Bk w w' base N vs))
            case atStart => exact ⟨0, rfl, ⟨by omega⟩, ⟨OM HO.out⟩, ⟨WM HR.out⟩, ⟨BM HBB.out (by have := HBB.out.1.size; have := HB.out; omega)⟩⟩
            case round =>
              clear HO HR HBB hx1
              obtain ⟨y, rfl, HY, HO, HR, HBB⟩ := hrel
              obtain ⟨A2, cj2, xs, e1, e2, e3, e4, e5, e6⟩ := HR.out.row hjN
              have hx1 : wr.cell? (ad.add x2.toNat) = some (.slice A2 (ns j) cj2) := (HO.out x2 HX.out.1 c1).trans (by rw [← HJ.out, e1])
              by_cases c2 : y < (ns j : Int)
              · have c2b : decide (y < (ns j : Int)) = true := decide_eq_true c2
                obtain ⟨g, cap, hf, _⟩ := Kd.R_form e3 (by have := HY.out; omega)
                injection hf with hf1 hf2 hf3
                subst hf1
                subst hf3
                obtain ⟨mk, hmk⟩ : ∃ m : Int, wrap64 (-1000 - x2) = m := ⟨_, rfl⟩
                have hmkw : (IntKind.i64.wrap (-1000 - x2)) = mk := (i64_w _).trans hmk
                have hny : wrap64 (y + 1) = y + 1 := by have := HY.out; have := HS.out j hjN; unfold wrap64; omega
                obtain ⟨hxr, hfr⟩ := Kd.R_celln 0 e3 y HY.out.1 c2
                have hrd : rdOf 0 xs y = mk := by
                  have h6 := e6 y.toNat (by have := HY.out; omega) trivial
                  have hjx : (j : Int) = x2 := by have := HX.out; have := HJ.out; omega
                  rw [hjx, hmk] at h6
                  unfold rdOf
                  rw [List.getD_eq_getElem?_getD, h6]
                  rfl
                rw [hrd] at hxr
                have p2 := eq_true HY.out.1
                have q2 := eq_true c2
                clear hmk hrd e1 e2 e3 e4 e5 e6 hf2
                go_wp2
                repeat (go_quiet (fail); try go_wp2)
                go_roundg (ns j - (y.toNat + 1))
                case measure => have := HY.out; omega
                case rel =>
                  exact ⟨y + 1, by first | rfl | rw [hny], ⟨by have := HY.out; omega⟩, ⟨OM HO.out⟩, ⟨WM HR.out⟩, ⟨BM HBB.out (by have := HBB.out.1.size; have := HB.out; omega)⟩⟩
              · have c2b : decide (y < (ns j : Int)) = false := decide_eq_false c2
                clear e1 e2 e3 e4 e5 e6
                go_wp2
                repeat (go_quiet (fail); try go_wp2)
                go_roundg (N - (j + 1))
                case measure => have := HX.out; have := HJ.out; omega
                case rel =>
                  exact ⟨x2 + 1, by first | rfl | rw [hnw], ⟨by have := HX.out; have := HJ.out; omega⟩, ⟨OM HO.out⟩, ⟨WM HR.out⟩, ⟨BM HBB.out (by have := HBB.out.1.size; have := HB.out; omega)⟩⟩
          · have c1b : decide (x2 < (N : Int)) = false := decide_eq_false c1
            go_wp2
            repeat (go_quiet (fail); try go_wp2)
            go_ret
            exact ⟨rfl, BM HBB.out (by have := HBB.out.1.size; have := HB.out; omega)⟩

def tutorref01_Apart.f (l : List (List Int)) : Option Bool := if ∀ r ∈ l, r.length + 6 < 17592186044416 then some true else none
theorem apart_small {l : List (List Int)} (h : tutorref01_Apart.f l = some true) : ∀ r ∈ l, r.length + 6 < 17592186044416 := by
 unfold tutorref01_Apart.f at h
 by_cases hc : ∀ r ∈ l, r.length + 6 < 17592186044416
 · exact hc
 · rw [if_neg hc] at h
   cases h

section
variable {w w0 w1 W : World} {base N : Nat} {vs : Nat → Value} {ns : Nat → Nat} {D : Nat → Nat → Prop}
def two {α : Type} (a b : α) : Nat → α := fun j => if j = 0 then a else b
theorem Bk.blk {g t : Nat} {cs : Array Value} (h : Bk w w1 base N vs) (hr : Rw w base N vs ns D) (hb : w.heap[g]? = some (.cells cs t (0, 0))) (ht : 3 ≠ t) : w1.heap[g]? = some (.cells cs t (0, 0)) := by
 rw [h.2 g (blk_lt hb) (fun j hj he => ?_)]
 · exact hb
 · obtain ⟨xs, h1, _⟩ := hr j hj
   exact Kd.R_ne h1 hb ht he.symm
theorem Bk.R {α : Type} {d : Kd α} {e b : Nat} {ok : Nat → Prop} {v : Value} {xs : List α} (h : Bk w w1 base N vs) (hr : d.R e w b ok v xs) (hne : ∀ k, ok k → ∀ j, j < N → (vs j).ownBlock ≠ some k) : d.R e w1 b ok v xs :=
 Kd.R_step hr (fun k hk hlt => h.2 k hlt (hne k hk))
theorem two_ne {s1 s2 : Value} {k : Nat} (h1 : some k ≠ s1.ownBlock) (h2 : some k ≠ s2.ownBlock) : ∀ j, j < 2 → (two s1 s2 j).ownBlock ≠ some k := by
 intro j hj he
 unfold two at he
 split at he
 · exact h1 he.symm
 · exact h2 he.symm
theorem two_Rw {s1 s2 : Value} {ok1 ok2 : Nat → Prop} {xs ys : List Int} (h1 : (Kd.int .i64).R 3 w base ok1 s1 xs) (h2 : (Kd.int .i64).R 3 w base ok2 s2 ys) : Rw w base 2 (two s1 s2) (two xs.length ys.length) (fun _ _ => False) := by
 intro j hj
 by_cases h : j = 0
 · subst h
   exact ⟨xs, Kd.R_mono h1 (fun _ _ => trivial), rfl, fun _ _ h => h.elim⟩
 · have : j = 1 := by omega
   subst this
   exact ⟨ys, Kd.R_mono h2 (fun _ _ => trivial), rfl, fun _ _ h => h.elim⟩
theorem two_Dist {s1 s2 : Value} {b : Nat} (h1 : ∀ k, s1.ownBlock = some k → k < b) (h2 : ∀ k, s2.ownBlock = some k → k < b) (hne : ∀ k, s1.ownBlock = some k → some k ≠ s2.ownBlock) : Dist 2 (two s1 s2) b := by
 refine ⟨fun j hj he => ?_, fun i j hi hj hij g hg he => ?_⟩
 · unfold two at he
   split at he
   · have := h1 b he; omega
   · have := h2 b he; omega
 · unfold two at hg he
   split at hg <;> split at he
   · omega
   · exact hne g hg he.symm
   · exact hne g he hg.symm
   · omega
theorem two_small {xs ys : List Int} {l : List (List Int)} (hl : l = [xs, ys]) (h : tutorref01_Apart.f l = some true) : ∀ j, j < 2 → two xs.length ys.length j + 6 < 17592186044416 := by
 intro j hj
 subst hl
 have h' := apart_small h
 unfold two
 split
 · exact h' xs (by simp)
 · exact h' ys (by simp)
def TwoLit (W w1 : World) (ad : Addr) (s1 s2 : Value) : Prop := ad.block = W.heap.size ∧ W.heap.size < w1.heap.size ∧ Ou w1 ad 2 (two s1 s2)
variable {P : Program} {ops : Array Oper} {rest : List Oper} {o : Oper} {a : Act} {Q : Exit → Act → World → Prop}
theorem lit_two (hgd : o.guard = none) {N' : Tmp} (_hd : o.dst = some N') {s1 s2 : Value} (hrun : (execOp a.eval o).run P W = .ok (.value (.slice (some ⟨W.heap.size, 0, none⟩) 2 2)) (W.alloc (.cells [s1, s2].toArray 22)))
  (h : ∀ ad w1, TwoLit W w1 ad s1 s2 → Below W.heap.size W w1 → wpList P ops Q rest (a.put o.dst (.slice (some ad) 2 2)) w1) : wpList P ops Q (o :: rest) a W := by
 refine Kd.event_run hgd hrun (h _ _ ⟨rfl, by simp, fun x h0 h1 => ?_⟩ ((Below.refl _ W).alloc (Nat.le_refl _) _))
 have hblk : (W.alloc (.cells [s1, s2].toArray 22)).heap[W.heap.size]? = some (.cells [s1, s2].toArray 22 (0, 0)) := heap_alloc_new W _
 have hx : x = 0 ∨ x = 1 := by omega
 rcases hx with rfl | rfl
 · exact (blk_cell hblk 0).trans rfl
 · exact (blk_cell hblk 1).trans rfl
theorem AB {n : Nat} (h : n < w.heap.size) (hb : Below w.heap.size w w1 := by repeat (first | exact Below.refl _ _ | (with_reducible first | apply below_alloc | apply pw_below_drewN | apply below_drew))) : n < w1.heap.size := Nat.lt_of_lt_of_le h hb.size
end
end Go.Proofs.Ytllgeljacmpdjaa.PTrim
