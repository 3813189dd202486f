/- The walks of moore.numbered, letters and finer. -/
import Derived.Test.YtllgeljacmpdjaaGPairs
import Derived.Test.YtllgeljacmpdjaaPTrimxs
import Derived.Test.YtllgeljacmpdjaaGShort
import Derived.Deep.RegionHeld3
import Derived.Deep.DeepCutAuto
import Derived.StillTailTactics
namespace Go.Proofs.Ytllgeljacmpdjaa.PTrim
open Go.RowKit Go.Proofs.YtllgeljacmpdjaaW.PrintWords Go.Proofs.YtllgeljacmpdjaaW.PrintLast Go.Proofs.YtllgeljacmpdjaaW.PrintMore
set_option linter.unusedVariables false
set_option linter.unusedSimpArgs false

theorem region_tail {P : Program} {id : Nat} {Q : Exit → Act → World → Prop} {a : Act} {w : World} {l : List Oper} (n : Nat) (hm : P.follows .mixedOrders = true) (hB : Region.lexTailB .any l.toArray n = true)
    (h : ∀ w2, Below w.heap.size w w2 → (∀ B w0, Below B w0 w → Below B w0 w2) → wpStill P l.toArray w2 (fun a' => wpList P l.toArray Q (l.drop n) a' w2) (l.take n) a) : (Code.region id l.toArray true).wp P Q a w :=
  wp_region_still_tail n hm hB (h w.drew (below_drew (Below.refl _ _)) (fun _ _ hb => below_drew1 hb))
theorem below_none {a b : World} (h : a.grownBy b none) : Below a.heap.size a b := ⟨h.os, h.tape, h.output, h.size, fun k hk => h.block k hk (by simp)⟩
theorem cell_on {w w2 : World} {a : Addr} {v : Value} (hb : Below w.heap.size w w2) (h : w.cell? a = some v) : w2.cell? a = some v := (hb.cell (World.block_lt_of_cell? w _ h)).trans h

set_option maxHeartbeats 4000000 in
set_option maxRecDepth 100000 in
theorem finer1_calls (s x j t : Int) (bo bc bm bx : Nat) (o c l0_4 : List Int) (a0_0 a0_1 a0_2 a0_3 : Int) (Ao Ac A0_4 : Option Addr) (co cc c0_4 : Nat) (v5 : Value) (w : World)
  (hbo : w.heap[bo]? = some (.cells #[.slice Ao o.length co] 22 (0, 0))) (hbc : w.heap[bc]? = some (.cells #[.slice Ac c.length cc] 22 (0, 0)))
  (hbm : w.heap[bm]? = some (.cells #[.int .i64 a0_0, .int .i64 a0_1, .int .i64 a0_2, .int .i64 a0_3, .slice A0_4 l0_4.length c0_4, v5] 24 (0, 0)))
  (hbx : w.heap[bx]? = some (.cells #[.int .i64 x] 3 (0, 0)))
  (ho : Kd.C (Kd.int .i64) w Ao o.length o) (hc : Kd.C (Kd.int .i64) w Ac c.length c) (h4 : Kd.C (Kd.int .i64) w A0_4 l0_4.length l0_4)
  (s0 : 0 ≤ s) (s1 : s < o.length) (hj : IntKind.i64.wrap (IntKind.i64.wrap (s * a0_1) + x) = j) (j0 : 0 ≤ j) (j1 : j < l0_4.length) (ht : rd l0_4 j = t) (t0 : 0 ≤ t) (t1 : t < c.length) :
  Calls Try.prog 62 #[.int .i64 s, .pointer (some ⟨bo, 0, none⟩), .pointer (some ⟨bc, 0, none⟩), .pointer (some ⟨bm, 0, none⟩), .pointer (some ⟨bx, 0, none⟩)] w fun e w' => e = .returned (PV (rd o s, rd c t)) ∧ Below w.heap.size w w' := by
  obtain ⟨ad1, e1, hx1⟩ := Kd.at_int ho s s0 s1
  obtain ⟨ad2, e2, hx2⟩ := Kd.at_int h4 j j0 j1
  obtain ⟨ad3, e3, hx3⟩ := Kd.at_int hc t t0 t1
  subst e1 e2 e3
  rw [ht] at hx2
  have z1 : w.cell? ⟨bo, 0, none⟩ = some (.slice (some ad1) o.length co) := (blk_cell hbo 0).trans rfl
  have z2 : w.cell? ⟨bc, 0, none⟩ = some (.slice (some ad3) c.length cc) := (blk_cell hbc 0).trans rfl
  have z3 : w.cell? ⟨bm, 1, none⟩ = some (.int .i64 a0_1) := (blk_cell hbm 1).trans rfl
  have z4 : w.cell? ⟨bm, 4, none⟩ = some (.slice (some ad2) l0_4.length c0_4) := (blk_cell hbm 4).trans rfl
  have z5 : w.cell? ⟨bx, 0, none⟩ = some (.int .i64 x) := (blk_cell hbx 0).trans rfl
  replace s0 := eq_true s0
  replace s1 := eq_true s1
  replace j0 := eq_true j0
  replace j1 := eq_true j1
  replace t0 := eq_true t0
  replace t1 := eq_true t1
  clear ho h4 hc hbo hbc hbm hbx ht
  go_enter Try.func62, Try.ntmps62
  go_wp2
  refine region_tail 18 (by kernel_rfl) (by kernel_rfl) (fun w2 hb hB => ?_)
  have hb2 := hB _ _ ((Below.refl w.heap.size w).alloc (Nat.le_refl _) (Obj.cells #[Value.int IntKind.i64 0, Value.int IntKind.i64 0] 84))
  have hn := blk_below (heap_alloc_new w (.cells #[.int .i64 0, .int .i64 0] 84)) hb
  replace hx1 := cell_on hb2 hx1
  replace hx2 := cell_on hb2 hx2
  replace hx3 := cell_on hb2 hx3
  replace z1 := cell_on hb2 z1
  replace z2 := cell_on hb2 z2
  replace z3 := cell_on hb2 z3
  replace z4 := cell_on hb2 z4
  replace z5 := cell_on hb2 z5
  simp only [List.take_succ_cons, List.take_zero, List.drop_succ_cons, List.drop_zero]
  repeat still_step
  refine wpStill_nil ?_
  have q0 : w2.cell? ⟨w.heap.size, 0, none⟩ = some (.int .i64 0) := (blk_cell hn 0).trans rfl
  have q1 : w2.cell? ⟨w.heap.size, 1, none⟩ = some (.int .i64 0) := (blk_cell hn 1).trans rfl
  have f0 := blk_frozen hn 0
  have f1 := blk_frozen hn 1
  go_wp2
  exact bodyPost_ret (v := PV (rd o s, rd c t)) (by simp [results, Try.results62, go_sem, PV, q0, q1]) rfl ⟨rfl, (hb2.setCell (Nat.le_refl _) _).setCell (Nat.le_refl _) _⟩

def SL (w W : World) : Prop := Below w.heap.size w W ∧ ∃ c0 c1, W.heap[w.heap.size]? = some (.cells #[c0, c1] 84 (0, 0))
theorem SL.below {w W W' : World} (h : SL w W) (hb : Below W.heap.size W W') : SL w W' := by
  obtain ⟨h1, c0, c1, h2⟩ := h
  exact ⟨below_step h1 hb, c0, c1, blk_below h2 hb⟩
theorem SL.drew {w W : World} (h : SL w W) : SL w W.drew := h.below (below_drew (Below.refl _ _))
theorem SL.start (w : World) (c0 c1 : Value) : SL w (w.alloc (.cells #[c0, c1] 84)) := ⟨(Below.refl _ _).alloc (Nat.le_refl _) _, c0, c1, heap_alloc_new w _⟩

set_option maxHeartbeats 4000000 in
set_option maxRecDepth 100000 in
theorem letters1_calls (s i r : Int) (bw bm bi : Nat) (c l0_4 l0_5 : List Int) (a0_0 a0_1 a0_2 a0_3 : Int) (Ac A0_4 A0_5 : Option Addr) (cc c0_4 c0_5 : Nat) (w : World)
  (hbw : w.heap[bw]? = some (.cells #[.slice Ac c.length cc] 22 (0, 0)))
  (hbm : w.heap[bm]? = some (.cells #[.int .i64 a0_0, .int .i64 a0_1, .int .i64 a0_2, .int .i64 a0_3, .slice A0_4 l0_4.length c0_4, .slice A0_5 l0_5.length c0_5] 24 (0, 0)))
  (hbi : w.heap[bi]? = some (.cells #[.int .i64 i] 3 (0, 0)))
  (hc : Kd.C (Kd.int .i64) w Ac c.length c) (hr0_4 : Kd.C (Kd.int .i64) w A0_4 l0_4.length l0_4) (hc0_4 : l0_4.length ≤ c0_4) (hr0_5 : Kd.C (Kd.int .i64) w A0_5 l0_5.length l0_5) (hc0_5 : l0_5.length ≤ c0_5)
  (s0 : 0 ≤ s) (s1 : s < c.length) (hsaid : moore_said.f a0_0 a0_1 a0_2 a0_3 l0_4 l0_5 s i = some r) :
  Calls Try.prog 61 #[.int .i64 s, .pointer (some ⟨bw, 0, none⟩), .pointer (some ⟨bm, 0, none⟩), .pointer (some ⟨bi, 0, none⟩)] w fun e w' => e = .returned (PV (rd c s, r)) ∧ Below w.heap.size w w' := by
  obtain ⟨ad1, e1, hx1⟩ := Kd.at_int hc s s0 s1
  subst e1
  replace s0 := eq_true s0
  replace s1 := eq_true s1
  have hS : ∀ W, SL w W → W.cell? ⟨bw, 0, none⟩ = some (.slice (some ad1) c.length cc) ∧ W.cell? (ad1.add s.toNat) = some (.int .i64 (rd c s)) ∧ W.cell? ⟨bm, 0, none⟩ = some (.int .i64 a0_0) ∧ W.cell? ⟨bm, 1, none⟩ = some (.int .i64 a0_1) ∧ W.cell? ⟨bm, 2, none⟩ = some (.int .i64 a0_2) ∧ W.cell? ⟨bm, 3, none⟩ = some (.int .i64 a0_3) ∧ W.cell? ⟨bm, 4, none⟩ = some (.slice A0_4 l0_4.length c0_4) ∧ W.cell? ⟨bm, 5, none⟩ = some (.slice A0_5 l0_5.length c0_5) ∧ W.cell? ⟨bi, 0, none⟩ = some (.int .i64 i) ∧ SL w W := fun W h =>
    ⟨cell_on h.1 ((blk_cell hbw 0).trans rfl), cell_on h.1 hx1, cell_on h.1 ((blk_cell hbm 0).trans rfl), cell_on h.1 ((blk_cell hbm 1).trans rfl), cell_on h.1 ((blk_cell hbm 2).trans rfl), cell_on h.1 ((blk_cell hbm 3).trans rfl), cell_on h.1 ((blk_cell hbm 4).trans rfl), cell_on h.1 ((blk_cell hbm 5).trans rfl), cell_on h.1 ((blk_cell hbi 0).trans rfl), h⟩
  have hCall : ∀ W, SL w W → Calls Try.prog 57 #[.agg #[.int .i64 a0_0, .int .i64 a0_1, .int .i64 a0_2, .int .i64 a0_3, .slice A0_4 l0_4.length c0_4, .slice A0_5 l0_5.length c0_5], .int .i64 s, .int .i64 i] W fun e W' => e = .returned (.int .i64 r) ∧ SL w W' := fun W h =>
    (moore_said.calls a0_0 a0_1 a0_2 a0_3 _ _ l0_4 _ _ l0_5 s i r W (Kd.C_below hr0_4 h.1) hc0_4 (Kd.C_below hr0_5 h.1) hc0_5 hsaid).mono fun e W' ⟨he, hb⟩ => ⟨he, h.below hb⟩
  clear hbw hbm hbi hc hr0_4 hr0_5 hsaid hx1
  have HS := Aside0.mk hS
  have HC := Aside0.mk hCall
  clear hS hCall
  go_enter Try.func61, Try.ntmps61
  go_wp2
  have hSL := SL.start w (.int .i64 0) (.int .i64 0)
  refine start_ (n := 10) (S := fun w' => w'.cell? ⟨bw, 0, none⟩ = some (.slice (some ad1) c.length cc) ∧ w'.cell? (ad1.add s.toNat) = some (.int .i64 (rd c s)) ∧ w'.cell? ⟨bm, 0, none⟩ = some (.int .i64 a0_0) ∧ w'.cell? ⟨bm, 1, none⟩ = some (.int .i64 a0_1) ∧ w'.cell? ⟨bm, 2, none⟩ = some (.int .i64 a0_2) ∧ w'.cell? ⟨bm, 3, none⟩ = some (.int .i64 a0_3) ∧ w'.cell? ⟨bm, 4, none⟩ = some (.slice A0_4 l0_4.length c0_4) ∧ w'.cell? ⟨bm, 5, none⟩ = some (.slice A0_5 l0_5.length c0_5) ∧ w'.cell? ⟨bi, 0, none⟩ = some (.int .i64 i) ∧ SL w w') (ds := [9]) #[false, false, false, false, false, false, false, false, false, false] (by kernel_rfl) rfl rfl (HS.out _ hSL.drew) (fun hHeld => ?_)
  refine pure_ (i := 1) (N := some 7) (v := ?_) (a' := ?_) #[false, true, false, false, false, false, false, false, false, false] rfl rfl (by kernel_rfl) (fun _ _ _ h => h) (Or.inl ⟨by rfl, ?_⟩) ?_ ?_
  rotate_left
  · intro w'
    go_simp
    with_reducible rfl
  rotate_left
  · simp only [Act.put, List.setIfInBounds_toArray, List.set_cons_zero, List.set_cons_succ, i64_w, i32_w]
    rfl
  refine pure_ (i := 5) (N := some 11) (v := ?_) (a' := ?_) #[false, true, false, false, false, true, false, false, false, false] rfl rfl (by kernel_rfl) (fun _ _ _ h => h) (Or.inl ⟨by rfl, ?_⟩) ?_ ?_
  rotate_left
  · intro w'
    go_simp
    with_reducible rfl
  rotate_left
  · simp only [Act.put, List.setIfInBounds_toArray, List.set_cons_zero, List.set_cons_succ, i64_w, i32_w]
    rfl
  refine take_ (i := 0) (N := some 6) (v := ?_) (a' := ?_) #[true, true, false, false, false, true, false, false, false, false] rfl rfl (by kernel_rfl) (fun _ _ _ h => h) (Or.inl ⟨by rfl, ?_⟩) hHeld ?_ ?_
  rotate_left
  · rintro w' ⟨s0, s1, s2, s3, s4, s5, s6, s7, s8, s9⟩
    go_simp
    with_reducible rfl
  rotate_left
  · simp only [Act.put, List.setIfInBounds_toArray, List.set_cons_zero, List.set_cons_succ, i64_w, i32_w]
    rfl
  refine pure_ (i := 2) (N := some 8) (v := ?_) (a' := ?_) #[true, true, true, false, false, true, false, false, false, false] rfl rfl (by kernel_rfl) (fun _ _ _ h => h) (Or.inl ⟨by rfl, ?_⟩) ?_ ?_
  rotate_left
  · intro w'
    go_simp
    with_reducible rfl
  rotate_left
  · simp only [Act.put, List.setIfInBounds_toArray, List.set_cons_zero, List.set_cons_succ, i64_w, i32_w]
    rfl
  refine take_ (i := 3) (N := some 9) (v := ?_) (a' := ?_) #[true, true, true, true, false, true, false, false, false, false] rfl rfl (by kernel_rfl) (fun _ _ _ h => h) (Or.inl ⟨by rfl, ?_⟩) hHeld ?_ ?_
  rotate_left
  · rintro w' ⟨s0, s1, s2, s3, s4, s5, s6, s7, s8, s9⟩
    go_simp
    with_reducible rfl
  rotate_left
  · simp only [Act.put, List.setIfInBounds_toArray, List.set_cons_zero, List.set_cons_succ, i64_w, i32_w]
    rfl
  refine take_ (i := 4) (N := some 10) (v := ?_) (a' := ?_) #[true, true, true, true, true, true, false, false, false, false] rfl rfl (by kernel_rfl) (fun _ _ _ h => h) (Or.inl ⟨by rfl, ?_⟩) hHeld ?_ ?_
  rotate_left
  · rintro w' ⟨s0, s1, s2, s3, s4, s5, s6, s7, s8, s9⟩
    go_simp
    with_reducible rfl
  rotate_left
  · simp only [Act.put, List.setIfInBounds_toArray, List.set_cons_zero, List.set_cons_succ, i64_w, i32_w]
    rfl
  refine take_ (i := 6) (N := some 12) (v := ?_) (a' := ?_) #[true, true, true, true, true, true, true, false, false, false] rfl rfl (by kernel_rfl) (fun _ _ _ h => h) (Or.inl ⟨by rfl, ?_⟩) hHeld ?_ ?_
  rotate_left
  · rintro w' ⟨s0, s1, s2, s3, s4, s5, s6, s7, s8, s9⟩
    go_simp
    with_reducible rfl
  rotate_left
  · simp only [Act.put, List.setIfInBounds_toArray, List.set_cons_zero, List.set_cons_succ, i64_w, i32_w]
    rfl
  refine one_ (i := 7) (N := some 13) #[true, true, true, true, true, true, true, true, false, false] rfl rfl (by kernel_rfl) (by decide) (fun K hK => ?_)
  refine goes_ Try.func57 (by kernel_rfl) rfl #[.agg #[.int .i64 a0_0, .int .i64 a0_1, .int .i64 a0_2, .int .i64 a0_3, .slice A0_4 l0_4.length c0_4, .slice A0_5 l0_5.length c0_5], .int .i64 s, .int .i64 i] (by rfl) rfl rfl (by (try simp only [List.map_toArray, List.map_cons, List.map_nil]); first | done | rfl) ?_
  refine (HC.out _ hSL.drew).mono ?_
  rintro e w3 ⟨rfl, hsl⟩
  refine ⟨_, rfl, ?_⟩
  refine hK.out _ _ (HS.out _ hsl) (fun hHeld => ?_)
  clear hK K
  refine norm_ (a' := ?_) ?_ ?_
  rotate_left
  · show Act.put _ (some 13) _ = _
    simp only [Act.put, List.setIfInBounds_toArray, List.set_cons_zero, List.set_cons_succ, i64_w, i32_w]
    rfl
  refine pure_ (i := 8) (N := some 14) (v := ?_) (a' := ?_) #[true, true, true, true, true, true, true, true, true, false] rfl rfl (by kernel_rfl) (fun _ _ _ h => h) (Or.inl ⟨by rfl, ?_⟩) ?_ ?_
  rotate_left
  · intro w'
    go_simp
    with_reducible rfl
  rotate_left
  · simp only [Act.put, List.setIfInBounds_toArray, List.set_cons_zero, List.set_cons_succ, i64_w, i32_w]
    rfl
  refine last_ (i := 9) (N := none) #[true, true, true, true, true, true, true, true, true, true] rfl rfl (by kernel_rfl) (by decide) (fun K hK => ?_)
  obtain ⟨hb3, c0, c1, hn⟩ := hsl
  have q0 : w3.cell? ⟨w.heap.size, 0, none⟩ = some c0 := (blk_cell hn 0).trans rfl
  have q1 : w3.cell? ⟨w.heap.size, 1, none⟩ = some c1 := (blk_cell hn 1).trans rfl
  have f0 := blk_frozen hn 0
  have f1 := blk_frozen hn 1
  refine skip_ (w1 := ?_) (by rfl) rfl ?_ ?_
  rotate_left
  · go_simp
    rfl
  refine hK.out _ _ ?_
  clear hK K
  refine done_ (by kernel_rfl) ?_
  go_wp2
  exact bodyPost_ret (v := PV (rd c s, r)) (by simp [results, Try.results61, go_sem, PV, q0, q1]) rfl ⟨rfl, (hb3.setCell (Nat.le_refl _) _).setCell (Nat.le_refl _) _⟩

/-- one number more: its class, and the keys -/
def numU (u : List (Int × Int)) (p : Int × Int) : List (Int × Int) := if p ∈ u then u else u ++ [p]
def numS (pf : Nat → Int × Int) : Nat → List (Int × Int)
  | 0 => []
  | n + 1 => numU (numS pf n) (pf n)
def numC (pf : Nat → Int × Int) (n : Nat) : List Int := (List.range n).map fun s => (((numS pf (s + 1)).idxOf (pf s) : Nat) : Int)
theorem numS_len (pf : Nat → Int × Int) : ∀ n, (numS pf n).length ≤ n
  | 0 => by simp [numS]
  | n + 1 => by
    have := numS_len pf n
    simp only [numS, numU]
    split
    · omega
    · simp; omega

theorem numC_len (pf : Nat → Int × Int) (n : Nat) : (numC pf n).length = n := by simp [numC]
theorem numC_set (pf : Nat → Int × Int) {s n : Nat} (hs : s < n) : (numC pf s ++ List.replicate (n - s) 0).set s (((numS pf (s + 1)).idxOf (pf s) : Nat) : Int) = numC pf (s + 1) ++ List.replicate (n - (s + 1)) 0 := by
  have e : List.replicate (n - s) (0 : Int) = 0 :: List.replicate (n - (s + 1)) 0 := by rw [← List.replicate_succ]; congr 1; omega
  have e2 : numC pf (s + 1) = numC pf s ++ [(((numS pf (s + 1)).idxOf (pf s) : Nat) : Int)] := by simp only [numC, List.range_succ, List.map_append, List.map_cons, List.map_nil]
  rw [e, List.set_append_right _ _ (by rw [numC_len]; omega), numC_len, Nat.sub_self, List.set_cons_zero, e2, List.append_assoc]
  rfl
theorem wp_box2 {P : Program} {ops : Array Oper} {Q : Exit → Act → World → Prop} {rest : List Oper} {a : Act} {w : World} {x y : Value} {t : TypeId}
    (h : ∀ w4, Below w.heap.size w w4 → w4.heap[w.heap.size]? = some (.cells #[x, y] t (0, 0)) → wpList P ops Q rest a w4) :
    wpList P ops Q rest a (w.alloc (.cells #[x, y] t)) :=
  h _ ((Below.refl _ _).alloc (Nat.le_refl _) _) (heap_alloc_new w _)
theorem Pairs.cells {w : World} {base g : Nat} {u : List (Int × Int)} (h : Pairs w base g u) {b t : Nat} {cs : Array Value} (hb : w.heap[b]? = some (.cells cs t (0, 0))) : g ≠ b := by
  rintro rfl
  obtain ⟨es, clock, hm⟩ := h.map
  rw [hm] at hb
  cases hb

set_option maxHeartbeats 8000000 in
set_option maxRecDepth 100000 in
theorem numbered61_calls (n : Nat) (pf : Nat → Int × Int) (bw bm bi : Nat) (w : World) (hn : n ≤ 1024) (hpf : ∀ s, s < n → PW (pf s))
  (hkey : ∀ s : Nat, s < n → ∀ W, Below w.heap.size w W → Calls Try.prog 61 #[.int .i64 (s : Int), .pointer (some ⟨bw, 0, none⟩), .pointer (some ⟨bm, 0, none⟩), .pointer (some ⟨bi, 0, none⟩)] W fun e W' => e = .returned (PV (pf s)) ∧ Below W.heap.size W W') :
  Calls Try.prog 60 #[.int .i64 (n : Int), .func (.func 61) #[] #[.pointer (some ⟨bw, 0, none⟩), .pointer (some ⟨bm, 0, none⟩), .pointer (some ⟨bi, 0, none⟩)]] w fun e w' => ∃ v, e = .returned (.tuple #[v, .int .i64 ((numS pf n).length : Nat)]) ∧ Kd.R (Kd.int .i64) 3 w' w.heap.size (fun k => w.heap.size ≤ k) v (numC pf n) ∧ Below w.heap.size w w' := by
  have HK := Aside0.mk hkey
  have HP := Aside0.mk hpf
  clear hkey hpf
  have HN := Aside0.mk hn
  have hn2 : (n : Int) ≤ 1024 := by omega
  clear hn
  go_enter Try.func60, Try.ntmps60
  go_wp2_with (first | ((with_reducible refine gate_pmake rfl ?_); refine pairs_make rfl rfl ?_; intro gm w1 hm hb1; have HM := Aside0.mk hm; have HB := Aside0.mk hb1; clear hm hb1) | ((with_reducible refine gate_dst (N := 14) rfl ?_); refine Kd.R_make (Kd.int .i64) w.heap.size 3 rfl (N := 14) rfl 22 _ _ rfl (n : Int) rfl rfl Try.underlying22 (.int .i64 0) 8 info3 rfl (by decide) (by omega) 0 (ok := fun _ => True) (okp := fun _ => True) rfl (fun _ hk => hk) trivial (by omega) (by have := HN.out; rw [Int.toNat_natCast]; omega) HB.out HB.out.size ?_; intro v7 w2 ho hb hg_ hnew_; have hm2 := HM.out.below (below_none hg_); have HM2 := Aside0.mk hm2; have HO := Aside0.mk ho; clear HB HM hm2 ho; have HB := Aside0.mk hb; clear hb hg_ hnew_; have HM := HM2; clear HM2))
  obtain ⟨A, cap, ev⟩ := Kd.R_slice HO.out
  rw [List.length_replicate, Int.toNat_natCast] at ev
  subst ev
  rw [Int.toNat_natCast] at HO
  go_loopg [16] n (fun kq v16 w' => ∃ s : Nat, v16 = .int .i64 (s : Int) ∧ Aside0 (s ≤ n ∧ kq + s = n) ∧ Aside0 (Pairs w' w.heap.size gm (numS pf s)) ∧ Aside0 (Kd.R (Kd.int .i64) 3 w' w.heap.size (fun _ => True) (.slice A n cap) (numC pf s ++ List.replicate (n - s) 0)) ∧ Aside0 (Below w.heap.size w w'))
  case atStart => exact ⟨0, rfl, ⟨by omega⟩, HM, ⟨by simpa [numC] using HO.out⟩, HB⟩
  case round =>
    clear HM HO HB
    obtain ⟨s, rfl, HS, HM, HO, HB⟩ := hrel
    by_cases hs : s < n
    · obtain ⟨g, cap', hf, hgb, hgl, cells, hgc⟩ := Kd.R_form HO.out (by simp; omega)
      injection hf with hf1 hf2 hf3
      subst hf1
      clear hf2 hf3 cap'
      have HGC := Aside0.mk hgc
      clear hgc hgb hgl
      obtain ⟨a, b, hab⟩ : ∃ a b, pf s = (a, b) := ⟨_, _, rfl⟩
      have hPW := HP.out s hs
      rw [hab] at hPW
      have HPW := Aside0.mk hPW
      have hcall := HK.out s hs
      rw [hab] at hcall
      simp only [PV] at hcall
      have HC := Aside0.mk hcall
      clear hPW hcall
      have HAB := Aside0.mk hab
      clear hab
      have hslt : (s : Int) < n := by omega
      have hsl := numS_len pf s
      by_cases hmem : (a, b) ∈ numS pf s
      · have HME := Aside0.mk hmem
        clear hmem
        have HSL := Aside0.mk hsl
        clear hsl
        go_wp2_with (first | (go_at_call 61; refine (HC.out _ HB.out).mono ?_; rintro e w3 ⟨rfl, hb3⟩) | ((with_reducible refine gate_plook rfl ?_); refine wp_box2 (fun w4 hb4 hk4 => ?_); have hb5 := below_step hb3 hb4; have HM4 := Aside0.mk (HM.out.below hb5); have HO4 := Aside0.mk (Kd.R_below HO.out hb5); have HB4 := Aside0.mk (below_step HB.out hb5); have HK4 := Aside0.mk (blk_below HGC.out hb5); clear HM HO HB HGC hb3 hb4 hb5 hk4; refine pairs_lookup rfl _ _ rfl (a, b) true HM4.out rfl rfl HPW.out (by simpa using HME.out) ?_; intro c hcj; have HCJ := Aside0.mk hcj; clear hcj; have hxr : w4.cell? ⟨g, s, none⟩ = _ := (Kd.R_celln 0 HO4.out (s : Int) (by omega) (by omega)).1; have hfr : w4.frozen? ⟨g, s, none⟩ = _ := (Kd.R_celln 0 HO4.out (s : Int) (by omega) (by omega)).2))
        go_roundg (n - (s + 1))
        case measure => have := HS.out; omega
        case rel =>
          have hput := Kd.R_putg HO4.out (s : Int) c
          rw [Int.toNat_natCast] at hput
          have hnu : numS pf (s + 1) = numS pf s := by simp only [numS, numU]; rw [HAB.out, if_pos HME.out]
          have hcc : c = (((numS pf (s + 1)).idxOf (pf s) : Nat) : Int) := by
            rw [hnu, HAB.out]
            exact HCJ.out _ (List.getElem?_eq_some_iff.mpr ⟨List.idxOf_lt_length_of_mem HME.out, List.getElem_idxOf _⟩)
          rw [hcc, numC_set pf hs] at hput
          rw [← hcc] at hput
          exact ⟨s + 1, by first | rfl | go_num, ⟨by have := HS.out; omega⟩, ⟨by rw [hnu]; exact HM4.out.block (Below.heap_setCell _ _ _ _ (HM4.out.cells HK4.out))⟩, ⟨hput.1⟩, ⟨HB4.out.setCell (Kd.R_base HO4.out g (by simp [Value.ownBlock])) _⟩⟩
      · have HME := Aside0.mk hmem
        clear hmem
        have HSL := Aside0.mk hsl
        clear hsl
        go_wp2_with (first | (go_at_call 61; refine (HC.out _ HB.out).mono ?_; rintro e w3 ⟨rfl, hb3⟩) | ((with_reducible refine gate_plook rfl ?_); refine wp_box2 (fun w4 hb4 hk4 => ?_); have hb5 := below_step hb3 hb4; have HM4 := Aside0.mk (HM.out.below hb5); have HO4 := Aside0.mk (Kd.R_below HO.out hb5); have HB4 := Aside0.mk (below_step HB.out hb5); have HK4 := Aside0.mk (blk_below HGC.out hb5); have HX4 := Aside0.mk hk4; have hq0 : w4.cell? ⟨w3.heap.size, 0, none⟩ = some (.int .i64 a) := (blk_cell hk4 0).trans rfl; have hq1 : w4.cell? ⟨w3.heap.size, 1, none⟩ = some (.int .i64 b) := (blk_cell hk4 1).trans rfl; clear HM HO HB HGC hb3 hb4 hb5 hk4; refine pairs_lookup rfl _ _ rfl (a, b) false HM4.out rfl rfl HPW.out (by simpa using HME.out) ?_; intro c hcj; clear hcj) | ((with_reducible refine gate_plen rfl ?_); refine pairs_len rfl _ rfl HM4.out rfl ?_) | ((with_reducible refine gate_pmap rfl ?_); refine pairs_update rfl _ _ _ rfl (a, b) HM4.out rfl rfl rfl (by have := HSL.out; have := HN.out; omega) HPW.out HME.out ?_; intro w6 hm6 hg6; have HM6 := Aside0.mk hm6; have HO6 := Aside0.mk (R_over_pairs HO4.out HM4.out hg6); have HK6 := Aside0.mk (blk_grown HK4.out hg6 (fun he => HM4.out.cells HK4.out (by injection he with he; exact he.symm))); have HB6 := Aside0.mk (HB4.out.grown hg6 HB4.out.size (fun k hk => by injection hk with hk; subst hk; exact HM4.out.1)); clear hm6 hg6 hq0 hq1; have hxr : w6.cell? ⟨g, s, none⟩ = _ := (Kd.R_celln 0 HO6.out (s : Int) (by omega) (by omega)).1; have hfr : w6.frozen? ⟨g, s, none⟩ = _ := (Kd.R_celln 0 HO6.out (s : Int) (by omega) (by omega)).2))
        go_roundg (n - (s + 1))
        case measure => have := HS.out; omega
        case rel =>
          have hput := Kd.R_putg HO6.out (s : Int) ((numS pf s).length : Nat)
          rw [Int.toNat_natCast] at hput
          have hnu : numS pf (s + 1) = numS pf s ++ [(a, b)] := by simp only [numS, numU]; rw [HAB.out, if_neg HME.out]
          have hcc : (((numS pf s).length : Nat) : Int) = (((numS pf (s + 1)).idxOf (pf s) : Nat) : Int) := by
            rw [hnu, HAB.out, List.idxOf_append, if_neg HME.out]
            simp
          rw [hcc, numC_set pf hs] at hput
          rw [← hcc] at hput
          exact ⟨s + 1, by first | rfl | go_num, ⟨by have := HS.out; omega⟩, ⟨by rw [hnu]; exact HM6.out.block (Below.heap_setCell _ _ _ _ (HM6.out.cells HK6.out))⟩, ⟨hput.1⟩, ⟨HB6.out.setCell (Kd.R_base HO6.out g (by simp [Value.ownBlock])) _⟩⟩
    · have hsn : s = n := by have := HS.out; omega
      subst hsn
      go_wp2_with (first | ((with_reducible refine gate_plen rfl ?_); refine pairs_len rfl _ rfl HM.out rfl ?_))
      go_ret2
      have ho := HO.out
      rw [Nat.sub_self, List.replicate_zero, List.append_nil] at ho
      exact ⟨_, rfl, Kd.R_of_own (Kd.own_of_R ho) (fun k hk => Kd.R_base ho k hk), HB.out⟩

set_option maxHeartbeats 8000000 in
set_option maxRecDepth 100000 in
theorem numbered62_calls (n : Nat) (pf : Nat → Int × Int) (bo bc bm bx : Nat) (w : World) (hn : n ≤ 1024) (hpf : ∀ s, s < n → PW (pf s))
  (hkey : ∀ s : Nat, s < n → ∀ W, Below w.heap.size w W → Calls Try.prog 62 #[.int .i64 (s : Int), .pointer (some ⟨bo, 0, none⟩), .pointer (some ⟨bc, 0, none⟩), .pointer (some ⟨bm, 0, none⟩), .pointer (some ⟨bx, 0, none⟩)] W fun e W' => e = .returned (PV (pf s)) ∧ Below W.heap.size W W') :
  Calls Try.prog 60 #[.int .i64 (n : Int), .func (.func 62) #[] #[.pointer (some ⟨bo, 0, none⟩), .pointer (some ⟨bc, 0, none⟩), .pointer (some ⟨bm, 0, none⟩), .pointer (some ⟨bx, 0, none⟩)]] w fun e w' => ∃ v, e = .returned (.tuple #[v, .int .i64 ((numS pf n).length : Nat)]) ∧ Kd.R (Kd.int .i64) 3 w' w.heap.size (fun k => w.heap.size ≤ k) v (numC pf n) ∧ Below w.heap.size w w' := by
  have HK := Aside0.mk hkey
  have HP := Aside0.mk hpf
  clear hkey hpf
  have HN := Aside0.mk hn
  have hn2 : (n : Int) ≤ 1024 := by omega
  clear hn
  go_enter Try.func60, Try.ntmps60
  go_wp2_with (first | ((with_reducible refine gate_pmake rfl ?_); refine pairs_make rfl rfl ?_; intro gm w1 hm hb1; have HM := Aside0.mk hm; have HB := Aside0.mk hb1; clear hm hb1) | ((with_reducible refine gate_dst (N := 14) rfl ?_); refine Kd.R_make (Kd.int .i64) w.heap.size 3 rfl (N := 14) rfl 22 _ _ rfl (n : Int) rfl rfl Try.underlying22 (.int .i64 0) 8 info3 rfl (by decide) (by omega) 0 (ok := fun _ => True) (okp := fun _ => True) rfl (fun _ hk => hk) trivial (by omega) (by have := HN.out; rw [Int.toNat_natCast]; omega) HB.out HB.out.size ?_; intro v7 w2 ho hb hg_ hnew_; have hm2 := HM.out.below (below_none hg_); have HM2 := Aside0.mk hm2; have HO := Aside0.mk ho; clear HB HM hm2 ho; have HB := Aside0.mk hb; clear hb hg_ hnew_; have HM := HM2; clear HM2))
  obtain ⟨A, cap, ev⟩ := Kd.R_slice HO.out
  rw [List.length_replicate, Int.toNat_natCast] at ev
  subst ev
  rw [Int.toNat_natCast] at HO
  go_loopg [16] n (fun kq v16 w' => ∃ s : Nat, v16 = .int .i64 (s : Int) ∧ Aside0 (s ≤ n ∧ kq + s = n) ∧ Aside0 (Pairs w' w.heap.size gm (numS pf s)) ∧ Aside0 (Kd.R (Kd.int .i64) 3 w' w.heap.size (fun _ => True) (.slice A n cap) (numC pf s ++ List.replicate (n - s) 0)) ∧ Aside0 (Below w.heap.size w w'))
  case atStart => exact ⟨0, rfl, ⟨by omega⟩, HM, ⟨by simpa [numC] using HO.out⟩, HB⟩
  case round =>
    clear HM HO HB
    obtain ⟨s, rfl, HS, HM, HO, HB⟩ := hrel
    by_cases hs : s < n
    · obtain ⟨g, cap', hf, hgb, hgl, cells, hgc⟩ := Kd.R_form HO.out (by simp; omega)
      injection hf with hf1 hf2 hf3
      subst hf1
      clear hf2 hf3 cap'
      have HGC := Aside0.mk hgc
      clear hgc hgb hgl
      obtain ⟨a, b, hab⟩ : ∃ a b, pf s = (a, b) := ⟨_, _, rfl⟩
      have hPW := HP.out s hs
      rw [hab] at hPW
      have HPW := Aside0.mk hPW
      have hcall := HK.out s hs
      rw [hab] at hcall
      simp only [PV] at hcall
      have HC := Aside0.mk hcall
      clear hPW hcall
      have HAB := Aside0.mk hab
      clear hab
      have hslt : (s : Int) < n := by omega
      have hsl := numS_len pf s
      by_cases hmem : (a, b) ∈ numS pf s
      · have HME := Aside0.mk hmem
        clear hmem
        have HSL := Aside0.mk hsl
        clear hsl
        go_wp2_with (first | (go_at_call 62; refine (HC.out _ HB.out).mono ?_; rintro e w3 ⟨rfl, hb3⟩) | ((with_reducible refine gate_plook rfl ?_); refine wp_box2 (fun w4 hb4 hk4 => ?_); have hb5 := below_step hb3 hb4; have HM4 := Aside0.mk (HM.out.below hb5); have HO4 := Aside0.mk (Kd.R_below HO.out hb5); have HB4 := Aside0.mk (below_step HB.out hb5); have HK4 := Aside0.mk (blk_below HGC.out hb5); clear HM HO HB HGC hb3 hb4 hb5 hk4; refine pairs_lookup rfl _ _ rfl (a, b) true HM4.out rfl rfl HPW.out (by simpa using HME.out) ?_; intro c hcj; have HCJ := Aside0.mk hcj; clear hcj; have hxr : w4.cell? ⟨g, s, none⟩ = _ := (Kd.R_celln 0 HO4.out (s : Int) (by omega) (by omega)).1; have hfr : w4.frozen? ⟨g, s, none⟩ = _ := (Kd.R_celln 0 HO4.out (s : Int) (by omega) (by omega)).2))
        go_roundg (n - (s + 1))
        case measure => have := HS.out; omega
        case rel =>
          have hput := Kd.R_putg HO4.out (s : Int) c
          rw [Int.toNat_natCast] at hput
          have hnu : numS pf (s + 1) = numS pf s := by simp only [numS, numU]; rw [HAB.out, if_pos HME.out]
          have hcc : c = (((numS pf (s + 1)).idxOf (pf s) : Nat) : Int) := by
            rw [hnu, HAB.out]
            exact HCJ.out _ (List.getElem?_eq_some_iff.mpr ⟨List.idxOf_lt_length_of_mem HME.out, List.getElem_idxOf _⟩)
          rw [hcc, numC_set pf hs] at hput
          rw [← hcc] at hput
          exact ⟨s + 1, by first | rfl | go_num, ⟨by have := HS.out; omega⟩, ⟨by rw [hnu]; exact HM4.out.block (Below.heap_setCell _ _ _ _ (HM4.out.cells HK4.out))⟩, ⟨hput.1⟩, ⟨HB4.out.setCell (Kd.R_base HO4.out g (by simp [Value.ownBlock])) _⟩⟩
      · have HME := Aside0.mk hmem
        clear hmem
        have HSL := Aside0.mk hsl
        clear hsl
        go_wp2_with (first | (go_at_call 62; refine (HC.out _ HB.out).mono ?_; rintro e w3 ⟨rfl, hb3⟩) | ((with_reducible refine gate_plook rfl ?_); refine wp_box2 (fun w4 hb4 hk4 => ?_); have hb5 := below_step hb3 hb4; have HM4 := Aside0.mk (HM.out.below hb5); have HO4 := Aside0.mk (Kd.R_below HO.out hb5); have HB4 := Aside0.mk (below_step HB.out hb5); have HK4 := Aside0.mk (blk_below HGC.out hb5); have HX4 := Aside0.mk hk4; have hq0 : w4.cell? ⟨w3.heap.size, 0, none⟩ = some (.int .i64 a) := (blk_cell hk4 0).trans rfl; have hq1 : w4.cell? ⟨w3.heap.size, 1, none⟩ = some (.int .i64 b) := (blk_cell hk4 1).trans rfl; clear HM HO HB HGC hb3 hb4 hb5 hk4; refine pairs_lookup rfl _ _ rfl (a, b) false HM4.out rfl rfl HPW.out (by simpa using HME.out) ?_; intro c hcj; clear hcj) | ((with_reducible refine gate_plen rfl ?_); refine pairs_len rfl _ rfl HM4.out rfl ?_) | ((with_reducible refine gate_pmap rfl ?_); refine pairs_update rfl _ _ _ rfl (a, b) HM4.out rfl rfl rfl (by have := HSL.out; have := HN.out; omega) HPW.out HME.out ?_; intro w6 hm6 hg6; have HM6 := Aside0.mk hm6; have HO6 := Aside0.mk (R_over_pairs HO4.out HM4.out hg6); have HK6 := Aside0.mk (blk_grown HK4.out hg6 (fun he => HM4.out.cells HK4.out (by injection he with he; exact he.symm))); have HB6 := Aside0.mk (HB4.out.grown hg6 HB4.out.size (fun k hk => by injection hk with hk; subst hk; exact HM4.out.1)); clear hm6 hg6 hq0 hq1; have hxr : w6.cell? ⟨g, s, none⟩ = _ := (Kd.R_celln 0 HO6.out (s : Int) (by omega) (by omega)).1; have hfr : w6.frozen? ⟨g, s, none⟩ = _ := (Kd.R_celln 0 HO6.out (s : Int) (by omega) (by omega)).2))
        go_roundg (n - (s + 1))
        case measure => have := HS.out; omega
        case rel =>
          have hput := Kd.R_putg HO6.out (s : Int) ((numS pf s).length : Nat)
          rw [Int.toNat_natCast] at hput
          have hnu : numS pf (s + 1) = numS pf s ++ [(a, b)] := by simp only [numS, numU]; rw [HAB.out, if_neg HME.out]
          have hcc : (((numS pf s).length : Nat) : Int) = (((numS pf (s + 1)).idxOf (pf s) : Nat) : Int) := by
            rw [hnu, HAB.out, List.idxOf_append, if_neg HME.out]
            simp
          rw [hcc, numC_set pf hs] at hput
          rw [← hcc] at hput
          exact ⟨s + 1, by first | rfl | go_num, ⟨by have := HS.out; omega⟩, ⟨by rw [hnu]; exact HM6.out.block (Below.heap_setCell _ _ _ _ (HM6.out.cells HK6.out))⟩, ⟨hput.1⟩, ⟨HB6.out.setCell (Kd.R_base HO6.out g (by simp [Value.ownBlock])) _⟩⟩
    · have hsn : s = n := by have := HS.out; omega
      subst hsn
      go_wp2_with (first | ((with_reducible refine gate_plen rfl ?_); refine pairs_len rfl _ rfl HM.out rfl ?_))
      go_ret2
      have ho := HO.out
      rw [Nat.sub_self, List.replicate_zero, List.append_nil] at ho
      exact ⟨_, rfl, Kd.R_of_own (Kd.own_of_R ho) (fun k hk => Kd.R_base ho k hk), HB.out⟩


end Go.Proofs.Ytllgeljacmpdjaa.PTrim
