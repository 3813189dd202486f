/- The walks of moore.letters and moore.finer. -/
import Derived.Test.YtllgeljacmpdjaaGNum
namespace Go.Proofs.Ytllgeljacmpdjaa.PTrim
open Go.RowKit Go.Proofs.YtllgeljacmpdjaaW.PrintWords Go.Proofs.YtllgeljacmpdjaaW.PrintLast Go.Proofs.YtllgeljacmpdjaaW.PrintMore
set_option linter.unusedVariables false
set_option linter.unusedSimpArgs false

theorem wrap_in {x : Int} (h1 : -9223372036854775808 ≤ x) (h2 : x ≤ 9223372036854775807) : wrap64 x = x := by unfold wrap64; omega
/-! ### letters -/
theorem numS_mono (pf : Nat → Int × Int) (s : Nat) : ∀ d, ∃ v, numS pf (s + d) = numS pf s ++ v
  | 0 => ⟨[], by simp⟩
  | d + 1 => by
    obtain ⟨v, hv⟩ := numS_mono pf s d
    have e : numS pf (s + (d + 1)) = numU (numS pf (s + d)) (pf (s + d)) := rfl
    rw [e, hv]
    unfold numU
    split
    · exact ⟨v, rfl⟩
    · exact ⟨v ++ [pf (s + d)], by rw [List.append_assoc]⟩
theorem numS_mem (pf : Nat → Int × Int) (s : Nat) : pf s ∈ numS pf (s + 1) := by
  simp only [numS, numU]
  split
  · assumption
  · simp
theorem numC_get (pf : Nat → Int × Int) {s n : Nat} (hs : s < n) : rd (numC pf n) (s : Int) = (((numS pf (s + 1)).idxOf (pf s) : Nat) : Int) := by
  unfold rd numC
  rw [Int.toNat_natCast, List.getD_eq_getElem?_getD, List.getElem?_map, List.getElem?_range hs]
  rfl
theorem numC_bound (pf : Nat → Int × Int) {s n : Nat} (hs : s < n) : 0 ≤ rd (numC pf n) (s : Int) ∧ rd (numC pf n) (s : Int) < ((numS pf n).length : Nat) := by
  rw [numC_get pf hs]
  have h1 := List.idxOf_lt_length_of_mem (numS_mem pf s)
  obtain ⟨v, hv⟩ := numS_mono pf (s + 1) (n - (s + 1))
  rw [show s + 1 + (n - (s + 1)) = n by omega] at hv
  have h2 : (numS pf (s + 1)).length ≤ (numS pf n).length := by rw [hv, List.length_append]; omega
  omega

def letterP (c l5 : List Int) (each i : Nat) (s : Nat) : Int × Int := (rd c (s : Int), rd l5 ((s * each + i : Nat) : Int))
def lettersL (n each : Nat) (l5 : List Int) : Nat → List Int × Nat
  | 0 => (List.replicate n 0, 1)
  | i + 1 => (numC (letterP (lettersL n each l5 i).1 l5 each i) n, (numS (letterP (lettersL n each l5 i).1 l5 each i) n).length)
theorem lettersL_len (n each : Nat) (l5 : List Int) : ∀ i, (lettersL n each l5 i).1.length = n
  | 0 => by simp [lettersL]
  | i + 1 => by simp [lettersL, numC_len]
theorem lettersL_bd (n each : Nat) (l5 : List Int) (hn : n ≤ 1024) : ∀ i (s : Nat), s < n → 0 ≤ rd (lettersL n each l5 i).1 (s : Int) ∧ rd (lettersL n each l5 i).1 (s : Int) < 1024
  | 0, s, hs => by
    have : rd (lettersL n each l5 0).1 (s : Int) = 0 := by
      unfold rd lettersL
      rw [Int.toNat_natCast, List.getD_eq_getElem?_getD, List.getElem?_replicate]
      split <;> rfl
    omega
  | i + 1, s, hs => by
    have h1 := numC_bound (letterP (lettersL n each l5 i).1 l5 each i) hs
    have h2 := numS_len (letterP (lettersL n each l5 i).1 l5 each i) n
    exact ⟨h1.1, Int.lt_of_lt_of_le h1.2 (by omega)⟩
theorem rd_wf {l : List Int} (hw : ∀ x ∈ l, (Lit.int .i64 x).wf = true) (i : Int) : (Lit.int .i64 (rd l i)).wf = true := by
  unfold rd
  rw [List.getD_eq_getElem?_getD]
  cases h : l[i.toNat]? with
  | none => exact wf_key (by decide) (by decide)
  | some x => exact hw x (List.mem_of_getElem? h)
theorem letterP_pw {n each i s : Nat} {l5 : List Int} (hn : n ≤ 1024) (hw : ∀ x ∈ l5, (Lit.int .i64 x).wf = true) (hs : s < n) : PW (letterP (lettersL n each l5 i).1 l5 each i s) := by
  have h := lettersL_bd n each l5 hn i s hs
  exact ⟨wf_key h.1 h.2, rd_wf hw _⟩
theorem place_bd {n each i s len : Nat} (he : each = len / n) (hs : s < n) (hi : i < each) : s * each + i < len := by
  have h1 : (s + 1) * each ≤ n * each := Nat.mul_le_mul_right _ hs
  have h2 : n * each ≤ len := by rw [he]; exact Nat.mul_div_le len n
  have h3 : (s + 1) * each = s * each + each := by rw [Nat.add_mul, Nat.one_mul]
  omega
theorem said_eq {a0 a1 a2 : Int} {l4 l5 : List Int} {n each i s : Nat} (he : each = l5.length / n) (hs : s < n) (hi : i < each) (hl : l5.length ≤ 9223372036854775807) :
    moore_said.f a0 a1 a2 (n : Int) l4 l5 (s : Int) (i : Int) = some (rd l5 ((s * each + i : Nat) : Int)) := by
  have hb := place_bd he hs hi
  have h1 : s * each ≤ s * each + i := by omega
  have e1 : (l5.length : Int) / (n : Int) = (each : Int) := by rw [he]; exact (Int.natCast_ediv _ _).symm
  have hel : each ≤ l5.length := by rw [he]; exact Nat.div_le_self _ _
  unfold moore_said.f
  rw [if_neg (by omega), e1, wrap_in (x := (each : Int)) (by omega) (by omega)]
  have e2 : (s : Int) * (each : Int) = ((s * each : Nat) : Int) := by push_cast; rfl
  rw [e2, wrap_in (x := ((s * each : Nat) : Int)) (by omega) (by omega), show ((s * each : Nat) : Int) + (i : Int) = ((s * each + i : Nat) : Int) by push_cast; rfl, wrap_in (by omega) (by omega), if_pos (by omega), if_pos (by omega)]

theorem letters_key {wr : World} {n each i gb base : Nat} {Ac A0_4 A0_5 : Option Addr} {cap c0_4 c0_5 : Nat} {c l0_4 l0_5 : List Int} {a0_0 a0_1 a0_2 : Int} (he : each = l0_5.length / n) (hi : i < each) (hl : l0_5.length ≤ 9223372036854775807) (hc : c.length = n)
    (hbk : wr.heap[gb]? = some (.cells #[.int .i64 a0_0, .int .i64 a0_1, .int .i64 a0_2, .int .i64 (n : Int), .slice A0_4 l0_4.length c0_4, .slice A0_5 l0_5.length c0_5] 24 (0, 0))) (hr : Kd.R (Kd.int .i64) 3 wr base (fun _ => True) (.slice Ac n cap) c)
    (hr4 : Kd.C (Kd.int .i64) wr A0_4 l0_4.length l0_4) (hc4 : l0_4.length ≤ c0_4) (hr5 : Kd.C (Kd.int .i64) wr A0_5 l0_5.length l0_5) (hc5 : l0_5.length ≤ c0_5) {W5 : World} {bw bi : Nat} (hb5 : Below wr.heap.size wr W5) (hbw : W5.heap[bw]? = some (.cells #[.slice Ac n cap] 22 (0, 0))) (hbi : W5.heap[bi]? = some (.cells #[.int .i64 (i : Int)] 3 (0, 0))) :
    ∀ s : Nat, s < n → ∀ W, Below W5.heap.size W5 W → Calls Try.prog 61 #[.int .i64 (s : Int), .pointer (some ⟨bw, 0, none⟩), .pointer (some ⟨gb, 0, none⟩), .pointer (some ⟨bi, 0, none⟩)] W fun e W' => e = .returned (PV (letterP c l0_5 each i s)) ∧ Below W.heap.size W W' := by
  intro s hs W hW
  have hb := below_step hb5 hW
  have hbw' := blk_below hbw hW
  rw [← hc] at hbw'
  have hcC := (Kd.R_reads' (Kd.R_below hr hb)).2.2
  exact letters1_calls (s : Int) (i : Int) _ bw gb bi c l0_4 l0_5 a0_0 a0_1 a0_2 (n : Int) Ac A0_4 A0_5 cap c0_4 c0_5 W hbw' (blk_below hbk hb) (blk_below hbi hW) hcC (Kd.C_below hr4 hb) hc4 (Kd.C_below hr5 hb) hc5 (by omega) (by omega) (said_eq he hs hi hl)

def moore_letters.f (a0_0 a0_1 a0_2 a0_3 : Int) (l0_4 l0_5 : List Int) : Option (List Int × Int) :=
  if 0 < a0_3 ∧ a0_3 ≤ 1024 ∧ l0_5.length ≤ 140737488351232 ∧ (l0_5.all fun x => (Lit.int .i64 x).wf) = true then
    some ((lettersL a0_3.toNat (l0_5.length / a0_3.toNat) l0_5 (l0_5.length / a0_3.toNat)).1, (((lettersL a0_3.toNat (l0_5.length / a0_3.toNat) l0_5 (l0_5.length / a0_3.toNat)).2 : Nat) : Int)) else none

set_option maxHeartbeats 8000000 in
set_option maxRecDepth 100000 in
theorem moore_letters.calls (a0_0 : Int) (a0_1 : Int) (a0_2 : Int) (a0_3 : Int) (A0_4 : Option Addr) (c0_4 : Nat) (l0_4 : List Int) (A0_5 : Option Addr) (c0_5 : Nat) (l0_5 : List Int) (r1 : List Int) (r2 : Int) (w : World) (hr0_4 : Kd.C (Kd.int .i64) w A0_4 l0_4.length l0_4) (hc0_4 : l0_4.length ≤ c0_4) (hr0_5 : Kd.C (Kd.int .i64) w A0_5 l0_5.length l0_5) (hc0_5 : l0_5.length ≤ c0_5) (h : moore_letters.f a0_0 a0_1 a0_2 a0_3 l0_4 l0_5 = some (r1, r2)) :
  Calls Try.prog 51 #[.agg #[.int .i64 a0_0, .int .i64 a0_1, .int .i64 a0_2, .int .i64 a0_3, .slice A0_4 l0_4.length c0_4, .slice A0_5 l0_5.length c0_5]] w fun e w' => ∃ v0_, e = .returned (.tuple #[v0_, .int .i64 r2]) ∧ Kd.R (Kd.int .i64) 3 w' w.heap.size (fun k_ => w.heap.size ≤ k_) v0_ r1 ∧ Below w.heap.size w w' := by
  have hu24 := Try.underlying24
  unfold moore_letters.f at h
  by_cases hcond : 0 < a0_3 ∧ a0_3 ≤ 1024 ∧ l0_5.length ≤ 140737488351232 ∧ (l0_5.all fun x => (Lit.int .i64 x).wf) = true
  · rw [if_pos hcond] at h
    obtain ⟨hp, hle, hlen, hwf⟩ := hcond
    have hw5 : ∀ x ∈ l0_5, (Lit.int .i64 x).wf = true := fun x hx => by simpa using List.all_eq_true.mp hwf x hx
    obtain ⟨n, rfl⟩ : ∃ n : Nat, a0_3 = (n : Int) := ⟨a0_3.toNat, by omega⟩
    rw [Int.toNat_natCast] at h
    obtain ⟨each, heach⟩ : ∃ each, each = l0_5.length / n := ⟨_, rfl⟩
    rw [← heach] at h
    injection h with h
    injection h with h1 h2
    subst h1
    subst h2
    have eq1 : (l0_5.length : Int) / (n : Int) = (each : Int) := by rw [heach]; exact (Int.natCast_ediv _ _).symm
    have heL : each ≤ l0_5.length := by rw [heach]; exact Nat.div_le_self _ _
    have hn1 : n ≤ 1024 := by omega
    have hn0 : ((n : Int) == 0) = false := by simp; omega
    have hel2 : (each : Int) ≤ 140737488351232 := by omega
    have HE := Aside0.mk heach
    have HW := Aside0.mk hw5
    have HL := Aside0.mk hlen
    have HN := Aside0.mk hn1
    have HR4 := Aside0.mk hr0_4
    have HR5 := Aside0.mk hr0_5
    have HC4 := Aside0.mk hc0_4
    have HC5 := Aside0.mk hc0_5
    clear heach hw5 hlen hn1 hr0_4 hr0_5 hc0_4 hc0_5 hwf heL
    go_enter Try.func51, Try.ntmps51
    go_wp2_with (first | ((with_reducible refine gate_dst (N := 1) rfl ?_); refine box_event ?hg (N := 1) ?hd (cs := #[.int .i64 a0_0, .int .i64 a0_1, .int .i64 a0_2, .int .i64 (n : Int), .slice A0_4 l0_4.length c0_4, .slice A0_5 l0_5.length c0_5]) (t := 24) ?hr ?_; (case hd => rfl); (case hg => rfl); (case hr => first | (go_simp; done) | (go_simp; rfl)); intro gb hg w1 hbox hb; have HB := Aside0.mk hb; have BK := Aside0.mk hbox; have GE := Aside0.mk (by rw [hg]; exact Nat.le_refl _ : w.heap.size ≤ gb); clear hb hbox hg; obtain ⟨hz0, hz1, hz2, hz3, hz4, hz5, hy0, hy1, hy2, hy3, hy4, hy5⟩ := mach_cells BK.out) | ((with_reducible refine gate_dst (N := 10) rfl ?_); refine Kd.R_make (Kd.int .i64) w.heap.size 3 rfl (N := 10) rfl 22 _ _ rfl (n : Int) rfl rfl Try.underlying22 (.int .i64 0) 8 info3 rfl (by decide) (by omega) 0 (ok := fun _ => True) (okp := fun _ => True) rfl (fun _ hk => hk) trivial (by omega) (by have := HN.out; rw [Int.toNat_natCast]; omega) HB.out HB.out.size ?_; intro v4 w2 ho hb hg_ hnew_; have hk2 := blk_below BK.out (below_none hg_); have HK2 := Aside0.mk hk2; have HO := Aside0.mk ho; clear HB BK hk2 ho hz0 hz1 hz2 hz3 hz4 hz5 hy0 hy1 hy2 hy3 hy4 hy5; have HB := Aside0.mk hb; clear hb hg_ hnew_; have BK := HK2; clear HK2; obtain ⟨hz0, hz1, hz2, hz3, hz4, hz5, hy0, hy1, hy2, hy3, hy4, hy5⟩ := mach_cells BK.out))
    clear hz0 hz1 hz2 hz3 hz4 hz5 hy0 hy1 hy2 hy3 hy4 hy5
    obtain ⟨A, cap, ev⟩ := Kd.R_slice HO.out
    rw [List.length_replicate, Int.toNat_natCast] at ev
    subst ev
    rw [Int.toNat_natCast] at HO
    go_loopg [4, 5, 17] each (fun kq v4 v5 v17 w' => ∃ (i : Nat) (A : Option Addr) (cap : Nat), v17 = .int .i64 (i : Int) ∧ v4 = .slice A n cap ∧ v5 = .int .i64 (((lettersL n each l0_5 i).2 : Nat) : Int) ∧ Aside0 (i ≤ each ∧ kq + i = each) ∧ Aside0 (Kd.R (Kd.int .i64) 3 w' w.heap.size (fun _ => True) (.slice A n cap) (lettersL n each l0_5 i).1) ∧
      Aside0 (w'.heap[gb]? = some (.cells #[.int .i64 a0_0, .int .i64 a0_1, .int .i64 a0_2, .int .i64 (n : Int), .slice A0_4 l0_4.length c0_4, .slice A0_5 l0_5.length c0_5] 24 (0, 0))) ∧ Aside0 (Below w.heap.size w w'))
    case atStart => exact ⟨0, _, _, rfl, rfl, rfl, ⟨by omega⟩, HO, BK, HB⟩
    case round =>
      clear HO BK HB
      obtain ⟨i, A, cap, rfl, rfl, rfl, HI, HO, BK, HB⟩ := hrel
      obtain ⟨hz0, hz1, hz2, hz3, hz4, hz5, hy0, hy1, hy2, hy3, hy4, hy5⟩ := mach_cells BK.out
      by_cases hi : i < each
      · have hlt : (i : Int) < each := by omega
        have HI2 := Aside0.mk hi
        clear hi
        have hw5 : Below wr.heap.size wr ((wr.alloc (.cells #[.int .i64 (i : Int)] 3)).alloc (.cells #[.slice A n cap] 22)) := ((Below.refl _ wr).alloc (Nat.le_refl _) (.cells #[.int .i64 (i : Int)] 3)).alloc (by simp) (.cells #[.slice A n cap] 22)
        have hz3' : ((wr.alloc (.cells #[.int .i64 (i : Int)] 3)).alloc (.cells #[.slice A n cap] 22)).cell? ⟨gb, 3, none⟩ = some (.int .i64 (n : Int)) := cell_on hw5 hz3
        have hbi : ((wr.alloc (.cells #[.int .i64 (i : Int)] 3)).alloc (.cells #[.slice A n cap] 22)).heap[wr.heap.size]? = some (.cells #[.int .i64 (i : Int)] 3 (0, 0)) := blk_alloc (heap_alloc_new _ _) _
        have hbw : ((wr.alloc (.cells #[.int .i64 (i : Int)] 3)).alloc (.cells #[.slice A n cap] 22)).heap[wr.heap.size + 1]? = some (.cells #[.slice A n cap] 22 (0, 0)) := by
          have := heap_alloc_new (wr.alloc (.cells #[.int .i64 (i : Int)] 3)) (.cells #[.slice A n cap] 22)
          rwa [show (wr.alloc (.cells #[.int .i64 (i : Int)] 3)).heap.size = wr.heap.size + 1 by simp] at this
        have hnum := numbered61_calls n (letterP (lettersL n each l0_5 i).1 l0_5 each i) (wr.heap.size + 1) gb wr.heap.size ((wr.alloc (.cells #[.int .i64 (i : Int)] 3)).alloc (.cells #[.slice A n cap] 22)) HN.out (fun s hs => letterP_pw HN.out HW.out hs) (letters_key HE.out HI2.out (by have := HL.out; omega) (lettersL_len _ _ _ _) BK.out HO.out (Kd.C_below HR4.out HB.out) HC4.out (Kd.C_below HR5.out HB.out) HC5.out hw5 hbw hbi)
        have HNUM := Aside0.mk hnum
        have HW5 := Aside0.mk hw5
        clear hnum hbi hbw hw5
        go_wp2_with (first | (go_at_call 60; refine HNUM.out.mono ?_; rintro e w5 ⟨v, rfl, ho, hb⟩; have hb5 := below_step HW5.out hb; have n0_ := Aside0.mk (blk_below BK.out hb5); have n1_ := Aside0.mk (Kd.R_mono (ok' := fun _ => True) (Kd.R_lower ho (Nat.le_trans HB.out.size HW5.out.size)) (fun _ _ => trivial)); have n2_ := Aside0.mk (below_step HB.out hb5); obtain ⟨A2, cap2, e2⟩ := Kd.R_slice ho; rw [numC_len] at e2; subst e2; clear BK HO HB ho hb hb5; have BK := n0_; have HO := n1_; have HB := n2_; clear n0_ n1_ n2_))
        go_roundg (each - (i + 1))
        case measure => have := HI.out; omega
        case rel => exact ⟨i + 1, A2, cap2, by first | rfl | go_num, rfl, rfl, ⟨by have := HI.out; omega⟩, HO, BK, HB⟩
      · have hsn : i = each := by have := HI.out; omega
        subst hsn
        go_wp2
        go_ret2
        have ho := HO.out
        exact ⟨_, rfl, Kd.R_of_own (Kd.own_of_R ho) (fun k hk => Kd.R_base ho k hk), HB.out⟩
  · rw [if_neg hcond] at h
    cases h

/-! ### finer -/
def finerP (o c l4 : List Int) (k x : Nat) (s : Nat) : Int × Int := (rd o (s : Int), rd c (rd l4 ((s * k + x : Nat) : Int)))
def finerL (n k : Nat) (l4 c : List Int) : Nat → List Int × Nat
  | 0 => (c, 0)
  | x + 1 => (numC (finerP (finerL n k l4 c x).1 c l4 k x) n, (numS (finerP (finerL n k l4 c x).1 c l4 k x) n).length)
theorem finerL_len (n k : Nat) (l4 c : List Int) (hc : c.length = n) : ∀ i, (finerL n k l4 c i).1.length = n
  | 0 => hc
  | i + 1 => by simp [finerL, numC_len]
theorem finerP_pw {n k x s : Nat} {l4 c : List Int} (hn : n ≤ 1024) (hw : ∀ x ∈ c, (Lit.int .i64 x).wf = true) (hs : s < n) : PW (finerP (finerL n k l4 c x).1 c l4 k x s) := by
  refine ⟨?_, rd_wf hw _⟩
  cases x with
  | zero => exact rd_wf hw _
  | succ x =>
    have h1 := numC_bound (finerP (finerL n k l4 c x).1 c l4 k x) hs
    have h2 := numS_len (finerP (finerL n k l4 c x).1 c l4 k x) n
    exact wf_key h1.1 (Int.lt_of_lt_of_le h1.2 (by omega))

theorem finer_key {wr : World} {n k x gb bc : Nat} {Ao Ac A0_4 : Option Addr} {co cc c0_4 : Nat} {o c l0_4 : List Int} {a0_0 a0_2 : Int} {v5 : Value} (hx : x < k) (hl : l0_4.length ≤ 9223372036854775807) (hlen : l0_4.length = n * k) (ho : o.length = n) (hc : c.length = n) (hnx : ∀ y ∈ l0_4, 0 ≤ y ∧ y < (n : Int))
    (hbk : wr.heap[gb]? = some (.cells #[.int .i64 a0_0, .int .i64 (k : Int), .int .i64 a0_2, .int .i64 (n : Int), .slice A0_4 l0_4.length c0_4, v5] 24 (0, 0))) (hbc : wr.heap[bc]? = some (.cells #[.slice Ac c.length cc] 22 (0, 0)))
    (hr : Kd.C (Kd.int .i64) wr Ao n o) (hrc : Kd.C (Kd.int .i64) wr Ac c.length c) (hr4 : Kd.C (Kd.int .i64) wr A0_4 l0_4.length l0_4) {W5 : World} {bo bx : Nat} (hb5 : Below wr.heap.size wr W5) (hbo : W5.heap[bo]? = some (.cells #[.slice Ao n co] 22 (0, 0))) (hbx : W5.heap[bx]? = some (.cells #[.int .i64 (x : Int)] 3 (0, 0))) :
    ∀ s : Nat, s < n → ∀ W, Below W5.heap.size W5 W → Calls Try.prog 62 #[.int .i64 (s : Int), .pointer (some ⟨bo, 0, none⟩), .pointer (some ⟨bc, 0, none⟩), .pointer (some ⟨gb, 0, none⟩), .pointer (some ⟨bx, 0, none⟩)] W fun e W' => e = .returned (PV (finerP o c l0_4 k x s)) ∧ Below W.heap.size W W' := by
  intro s hs W hW
  have hb := below_step hb5 hW
  have hbo' := blk_below hbo hW
  rw [← ho] at hbo' hr
  have h1 : (s + 1) * k ≤ n * k := Nat.mul_le_mul_right _ hs
  have h3 : (s + 1) * k = s * k + k := by rw [Nat.add_mul, Nat.one_mul]
  have hj : s * k + x < l0_4.length := by omega
  have e2 : (s : Int) * (k : Int) = ((s * k : Nat) : Int) := by push_cast; rfl
  have hmem : rd l0_4 ((s * k + x : Nat) : Int) ∈ l0_4 := by
    unfold rd
    rw [Int.toNat_natCast, List.getD_eq_getElem?_getD, List.getElem?_eq_getElem hj]
    exact List.getElem_mem hj
  have ht := hnx _ hmem
  have hje : IntKind.i64.wrap (IntKind.i64.wrap ((s : Int) * (k : Int)) + (x : Int)) = ((s * k + x : Nat) : Int) := by
    rw [i64_w, i64_w, e2, wrap_in (x := ((s * k : Nat) : Int)) (by omega) (by omega), show ((s * k : Nat) : Int) + (x : Int) = ((s * k + x : Nat) : Int) by push_cast; rfl, wrap_in (by omega) (by omega)]
  exact finer1_calls (s : Int) (x : Int) _ _ bo bc gb bx o c l0_4 a0_0 (k : Int) a0_2 (n : Int) Ao Ac A0_4 co cc c0_4 v5 W hbo' (blk_below hbc hb) (blk_below hbk hb) (blk_below hbx hW) (Kd.C_below hr hb) (Kd.C_below hrc hb) (Kd.C_below hr4 hb) (by omega) (by omega) hje (by omega) (by omega) rfl ht.1 (by omega)

def moore_finer.f (a0_0 a0_1 a0_2 a0_3 : Int) (l0_4 l0_5 : List Int) (l1 : List Int) : Option (List Int × Int) :=
  if 0 < a0_3 ∧ a0_3 ≤ 1024 ∧ 0 < a0_1 ∧ a0_1 ≤ 64 ∧ l0_4.length = a0_3.toNat * a0_1.toNat ∧ l1.length = a0_3.toNat ∧ (l0_4.all fun y => decide (0 ≤ y ∧ y < a0_3)) = true ∧ (l1.all fun x => (Lit.int .i64 x).wf) = true then
    some ((finerL a0_3.toNat a0_1.toNat l0_4 l1 a0_1.toNat).1, (((finerL a0_3.toNat a0_1.toNat l0_4 l1 a0_1.toNat).2 : Nat) : Int)) else none

set_option maxHeartbeats 8000000 in
set_option maxRecDepth 100000 in
theorem moore_finer.calls (a0_0 : Int) (a0_1 : Int) (a0_2 : Int) (a0_3 : Int) (A0_4 : Option Addr) (c0_4 : Nat) (l0_4 : List Int) (A0_5 : Option Addr) (c0_5 : Nat) (l0_5 : List Int) (A1 : Option Addr) (c1 : Nat) (l1 : List Int) (r1 : List Int) (r2 : Int) (w : World) (hr0_4 : Kd.C (Kd.int .i64) w A0_4 l0_4.length l0_4) (hc0_4 : l0_4.length ≤ c0_4) (hr0_5 : Kd.C (Kd.int .i64) w A0_5 l0_5.length l0_5) (hc0_5 : l0_5.length ≤ c0_5) (hr1 : Kd.C (Kd.int .i64) w A1 l1.length l1) (hc1 : l1.length ≤ c1) (h : moore_finer.f a0_0 a0_1 a0_2 a0_3 l0_4 l0_5 l1 = some (r1, r2)) :
  Calls Try.prog 52 #[.agg #[.int .i64 a0_0, .int .i64 a0_1, .int .i64 a0_2, .int .i64 a0_3, .slice A0_4 l0_4.length c0_4, .slice A0_5 l0_5.length c0_5], .slice A1 l1.length c1] w fun e w' => ∃ v0_, e = .returned (.tuple #[v0_, .int .i64 r2]) ∧ Kd.R (Kd.int .i64) 3 w' w.heap.size (fun k_ => w.heap.size ≤ k_) v0_ r1 ∧ Below w.heap.size w w' := by
  have hu24 := Try.underlying24
  unfold moore_finer.f at h
  by_cases hcond : 0 < a0_3 ∧ a0_3 ≤ 1024 ∧ 0 < a0_1 ∧ a0_1 ≤ 64 ∧ l0_4.length = a0_3.toNat * a0_1.toNat ∧ l1.length = a0_3.toNat ∧ (l0_4.all fun y => decide (0 ≤ y ∧ y < a0_3)) = true ∧ (l1.all fun x => (Lit.int .i64 x).wf) = true
  · rw [if_pos hcond] at h
    obtain ⟨hp, hle, hkp, hkle, hlen, hl1, hnx0, hwf⟩ := hcond
    have hw1 : ∀ x ∈ l1, (Lit.int .i64 x).wf = true := fun x hx => by simpa using List.all_eq_true.mp hwf x hx
    have hnx1 : ∀ y ∈ l0_4, 0 ≤ y ∧ y < a0_3 := fun y hy => by simpa using List.all_eq_true.mp hnx0 y hy
    obtain ⟨n, rfl⟩ : ∃ n : Nat, a0_3 = (n : Int) := ⟨a0_3.toNat, by omega⟩
    obtain ⟨k, rfl⟩ : ∃ k : Nat, a0_1 = (k : Int) := ⟨a0_1.toNat, by omega⟩
    rw [Int.toNat_natCast] at h hlen hl1
    rw [Int.toNat_natCast] at h hlen
    injection h with h
    injection h with h1 h2
    subst h1
    subst h2
    have hn1 : n ≤ 1024 := by omega
    have hk1 : k ≤ 64 := by omega
    have hl4 : l0_4.length ≤ 9223372036854775807 := by
      have := Nat.mul_le_mul hn1 hk1
      omega
    rw [← hl1] at hp hle hn1 hlen hnx1
    rw [← hl1]
    clear hl1
    have HL := Aside0.mk hl4
    have HLEN := Aside0.mk hlen
    have HW := Aside0.mk hw1
    have HX := Aside0.mk hnx1
    have HN := Aside0.mk hn1
    have HK := Aside0.mk hk1
    have HR4 := Aside0.mk hr0_4
    have HR1 := Aside0.mk hr1
    have HKP := Aside0.mk hkp
    clear hl4 hlen hw1 hnx1 hn1 hk1 hr0_4 hr1 hc0_4 hr0_5 hc0_5 hc1 hwf hnx0 hkp
    go_enter Try.func52, Try.ntmps52
    go_wp2_with (first | ((with_reducible refine gate_dst (N := 2) rfl ?_); refine box_event ?hg (N := 2) ?hd (cs := #[.int .i64 a0_0, .int .i64 (k : Int), .int .i64 a0_2, .int .i64 (l1.length : Int), .slice A0_4 l0_4.length c0_4, .slice A0_5 l0_5.length c0_5]) (t := 24) ?hr ?_; (case hd => rfl); (case hg => rfl); (case hr => first | (go_simp; done) | (go_simp; rfl)); intro gb hg w1 hbox hb; have HB := Aside0.mk hb; have BK := Aside0.mk hbox; clear hb hbox hg) | ((with_reducible refine gate_dst (N := 3) rfl ?_); refine box_event ?hg (N := 3) ?hd (cs := #[.slice A1 l1.length c1]) (t := 22) ?hr ?_; (case hd => rfl); (case hg => rfl); (case hr => first | (go_simp; done) | (go_simp; rfl)); intro gc hg w2 hbox hb; have n0_ := Aside0.mk (blk_below BK.out hb); have n1_ := Aside0.mk (below_step HB.out hb); have CK := Aside0.mk hbox; clear BK HB; have BK := n0_; have HB := n1_; clear n0_ n1_ hb hbox hg; have hc0 : w2.cell? ⟨gc, 0, none⟩ = some (.slice A1 l1.length c1) := (blk_cell CK.out 0).trans rfl; obtain ⟨hz0, hz1, hz2, hz3, hz4, hz5, hy0, hy1, hy2, hy3, hy4, hy5⟩ := mach_cells BK.out))
    clear hz0 hz1 hz2 hz3 hz4 hz5 hy0 hy1 hy2 hy3 hy4 hy5 hc0
    go_loopg [6, 7, 13] k (fun kq v6 v7 v13 w' => ∃ (i : Nat) (A : Option Addr) (cap : Nat), v13 = .int .i64 (i : Int) ∧ v6 = .slice A l1.length cap ∧ v7 = .int .i64 (((finerL l1.length k l0_4 l1 i).2 : Nat) : Int) ∧ Aside0 (i ≤ k ∧ kq + i = k) ∧ Aside0 (Kd.C (Kd.int .i64) w' A l1.length (finerL l1.length k l0_4 l1 i).1) ∧ Aside0 (0 < i → Kd.R (Kd.int .i64) 3 w' w.heap.size (fun _ => True) (.slice A l1.length cap) (finerL l1.length k l0_4 l1 i).1) ∧
      Aside0 (w'.heap[gb]? = some (.cells #[.int .i64 a0_0, .int .i64 (k : Int), .int .i64 a0_2, .int .i64 (l1.length : Int), .slice A0_4 l0_4.length c0_4, .slice A0_5 l0_5.length c0_5] 24 (0, 0))) ∧ Aside0 (w'.heap[gc]? = some (.cells #[.slice A1 l1.length c1] 22 (0, 0))) ∧ Aside0 (Below w.heap.size w w'))
    case atStart => exact ⟨0, _, _, rfl, rfl, rfl, ⟨by omega⟩, ⟨Kd.C_below HR1.out HB.out⟩, ⟨fun h => by omega⟩, BK, CK, HB⟩
    case round =>
      clear BK CK HB
      obtain ⟨i, A, cap, rfl, rfl, rfl, HI, HO, HOR, BK, CK, HB⟩ := hrel
      obtain ⟨hz0, hz1, hz2, hz3, hz4, hz5, hy0, hy1, hy2, hy3, hy4, hy5⟩ := mach_cells BK.out
      by_cases hi : i < k
      · have hlt : (i : Int) < k := by omega
        have HI2 := Aside0.mk hi
        clear hi
        have hw5 : Below wr.heap.size wr ((wr.alloc (.cells #[.int .i64 (i : Int)] 3)).alloc (.cells #[.slice A l1.length cap] 22)) := ((Below.refl _ wr).alloc (Nat.le_refl _) (.cells #[.int .i64 (i : Int)] 3)).alloc (by simp) (.cells #[.slice A l1.length cap] 22)
        have hz3' : ((wr.alloc (.cells #[.int .i64 (i : Int)] 3)).alloc (.cells #[.slice A l1.length cap] 22)).cell? ⟨gb, 3, none⟩ = some (.int .i64 (l1.length : Int)) := cell_on hw5 hz3
        have hbi : ((wr.alloc (.cells #[.int .i64 (i : Int)] 3)).alloc (.cells #[.slice A l1.length cap] 22)).heap[wr.heap.size]? = some (.cells #[.int .i64 (i : Int)] 3 (0, 0)) := blk_alloc (heap_alloc_new _ _) _
        have hbw : ((wr.alloc (.cells #[.int .i64 (i : Int)] 3)).alloc (.cells #[.slice A l1.length cap] 22)).heap[wr.heap.size + 1]? = some (.cells #[.slice A l1.length cap] 22 (0, 0)) := by
          have := heap_alloc_new (wr.alloc (.cells #[.int .i64 (i : Int)] 3)) (.cells #[.slice A l1.length cap] 22)
          rwa [show (wr.alloc (.cells #[.int .i64 (i : Int)] 3)).heap.size = wr.heap.size + 1 by simp] at this
        have hnum := numbered62_calls l1.length (finerP (finerL l1.length k l0_4 l1 i).1 l1 l0_4 k i) (wr.heap.size + 1) gc gb wr.heap.size ((wr.alloc (.cells #[.int .i64 (i : Int)] 3)).alloc (.cells #[.slice A l1.length cap] 22)) HN.out (fun s hs => finerP_pw HN.out HW.out hs)
          (finer_key HI2.out HL.out HLEN.out (finerL_len _ _ _ _ rfl _) rfl HX.out BK.out CK.out HO.out (Kd.C_below HR1.out HB.out) (Kd.C_below HR4.out HB.out) hw5 hbw hbi)
        have HNUM := Aside0.mk hnum
        have HW5 := Aside0.mk hw5
        clear hnum hbi hbw hw5
        go_wp2_with (first | (go_at_call 60; refine HNUM.out.mono ?_; rintro e w5 ⟨v, rfl, ho, hb⟩; have hb5 := below_step HW5.out hb; have n0_ := Aside0.mk (blk_below BK.out hb5); have n1_ := Aside0.mk (Kd.R_mono (ok' := fun _ => True) (Kd.R_lower ho (Nat.le_trans HB.out.size HW5.out.size)) (fun _ _ => trivial)); have n2_ := Aside0.mk (below_step HB.out hb5); have n3_ := Aside0.mk (blk_below CK.out hb5); obtain ⟨A2, cap2, e2⟩ := Kd.R_slice ho; rw [numC_len] at e2; subst e2; clear BK CK HO HOR HB ho hb hb5; have BK := n0_; have HO := n1_; have HB := n2_; have CK := n3_; clear n0_ n1_ n2_ n3_))
        go_roundg (k - (i + 1))
        case measure => have := HI.out; omega
        case rel => exact ⟨i + 1, A2, cap2, by first | rfl | go_num, rfl, rfl, ⟨by have := HI.out; omega⟩, ⟨by have h3 := (Kd.R_reads' HO.out).2.2; rw [numC_len] at h3; exact h3⟩, ⟨fun _ => HO.out⟩, BK, CK, HB⟩
      · have hsn : i = k := by have := HI.out; omega
        subst hsn
        go_wp2
        go_ret2
        have ho := HOR.out (by have := HKP.out; omega)
        exact ⟨_, rfl, Kd.R_of_own (Kd.own_of_R ho) (fun k_ hk => Kd.R_base ho k_ hk), HB.out⟩
  · rw [if_neg hcond] at h
    cases h
end Go.Proofs.Ytllgeljacmpdjaa.PTrim
