/- Texts of this claim, joined. -/
import Derived.Test.YtednmmcdjhfflaaR15
/- What holds of an analysis, whatever is told: plain. -/
namespace Go.Proofs.Ytednmmcdjhfflaa.Vai
open Go
set_option linter.unusedVariables false
set_option linter.unusedSimpArgs false
theorem srAsk_in {r : Sr} (h1 : 1 ≤ r.how) (h2 : r.how ≤ 3) (h0 : 0 ≤ r.low) (hlt : r.low < r.high) (hs : 1 ≤ r.step) : ((srAsk r).2 = true → r.low < (srAsk r).1 ∧ (srAsk r).1 < r.high) ∧ ((srAsk r).2 = false → r.high = r.low + 1) := by
  unfold srAsk
  by_cases hc : r.high = r.low + 1
  · rw [if_pos hc]; exact ⟨fun h => (by cases h), fun _ => hc⟩
  rw [if_neg hc]
  split
  · exact ⟨fun _ => by show r.low < r.low + 1 ∧ r.low + 1 < r.high; omega, fun h => (by cases h)⟩
  · split
    · split
      · exact ⟨fun _ => by show r.low < r.low + 1 ∧ r.low + 1 < r.high; omega, fun h => (by cases h)⟩
      · exact ⟨fun _ => by show r.low < r.high - r.step ∧ r.high - r.step < r.high; omega, fun h => (by cases h)⟩
    · refine ⟨fun _ => ?_, fun h => (by cases h)⟩
      show r.low < (r.low + r.high).tdiv 2 ∧ (r.low + r.high).tdiv 2 < r.high
      rw [Int.tdiv_eq_ediv_of_nonneg (by omega)]; omega
theorem pow2_le {a b : Nat} (h : a ≤ b) : (2 : Int) ^ a ≤ 2 ^ b := by
  have := Nat.pow_le_pow_right (show 0 < 2 by decide) h
  exact_mod_cast this
theorem sr0_b : sr0.B := ⟨by decide, by decide, by decide, by decide, by decide, by decide⟩
structure SrG (r : Sr) : Prop where
  h1 : 1 ≤ r.how
  h2 : r.how ≤ 3
  l0 : 0 ≤ r.low
  lt : r.low < r.high
  hi : r.high ≤ 5000
  st : 1 ≤ r.step
  pot : r.step * 2 ^ (r.high - r.low).toNat ≤ 1152921504606846976
theorem SrG.le {r : Sr} (h : SrG r) : r.step ≤ 1152921504606846976 := by
  have h1 := h.pot
  have h2 : (1 : Int) ≤ 2 ^ (r.high - r.low).toNat := pow2_le (Nat.zero_le _)
  have h3 : r.step * 1 ≤ r.step * 2 ^ (r.high - r.low).toNat := Int.mul_le_mul_of_nonneg_left h2 (by have := h.st; omega)
  omega
theorem SrG.b {r : Sr} (h : SrG r) : r.B := by
  have := h.le; have := h.st; have := h.l0; have := h.lt; have := h.hi
  exact ⟨by omega, by omega, by omega, by omega, by omega, by omega⟩
theorem SrG.w {r : Sr} (h : SrG r) : SrW r := ⟨h.h1, h.h2, h.b, h.lt⟩
theorem SrG.ask {r : Sr} (h : SrG r) : ((srAsk r).2 = true → r.low < (srAsk r).1 ∧ (srAsk r).1 < r.high) ∧ ((srAsk r).2 = false → r.high = r.low + 1) := srAsk_in h.h1 h.h2 h.l0 h.lt h.st
theorem SrG.tell {r : Sr} (h : SrG r) (hm : (srAsk r).2 = true) (b : Bool) : SrG (srTell r b) := by
  obtain ⟨q1, q2⟩ := h.ask.1 hm
  have hst := h.st; have hpot := h.pot; have hl0 := h.l0; have hlt := h.lt; have hhi := h.hi; have hle := h.le
  have hw : IntKind.wrap .i64 (2 * r.step) = 2 * r.step := wrap64_id (by omega) (by omega)
  have key : ∀ d : Int, 0 ≤ d → d + 1 ≤ r.high - r.low → 2 * r.step * 2 ^ d.toNat ≤ 1152921504606846976 := fun d h0 hd => by
    have e1 : (2 : Int) ^ (d.toNat + 1) ≤ 2 ^ (r.high - r.low).toNat := pow2_le (by omega)
    have e2 : r.step * 2 ^ (d.toNat + 1) ≤ r.step * 2 ^ (r.high - r.low).toNat := Int.mul_le_mul_of_nonneg_left e1 (by omega)
    have e3 : 2 * r.step * 2 ^ d.toNat = r.step * 2 ^ (d.toNat + 1) := by rw [Int.pow_succ, Int.mul_comm 2 r.step, Int.mul_assoc, Int.mul_comm 2]
    omega
  unfold srTell
  rw [if_pos hm]
  cases b with
  | true => exact ⟨h.h1, h.h2, hl0, by simpa using q1, by show (if true = true then (srAsk r).1 else r.high) ≤ 5000; simp only [if_true, ↓reduceIte]; omega, by show (1 : Int) ≤ IntKind.wrap .i64 (2 * r.step); omega, by
      show IntKind.wrap .i64 (2 * r.step) * 2 ^ ((if true = true then (srAsk r).1 else r.high) - (if true = true then r.low else (srAsk r).1)).toNat ≤ 1152921504606846976
      simp only [if_true, ↓reduceIte]
      rw [hw]
      exact key _ (by omega) (by omega)⟩
  | false => exact ⟨h.h1, h.h2, by show 0 ≤ (if false = true then r.low else (srAsk r).1); simp only [Bool.false_eq_true, if_false, ↓reduceIte]; omega, by simpa using q2, by show (if false = true then (srAsk r).1 else r.high) ≤ 5000; simp only [Bool.false_eq_true, if_false, ↓reduceIte]; omega, by show (1 : Int) ≤ IntKind.wrap .i64 (2 * r.step); omega, by
      show IntKind.wrap .i64 (2 * r.step) * 2 ^ ((if false = true then (srAsk r).1 else r.high) - (if false = true then r.low else (srAsk r).1)).toNat ≤ 1152921504606846976
      simp only [Bool.false_eq_true, if_false, ↓reduceIte]
      rw [hw]
      exact key _ (by omega) (by omega)⟩
theorem SrG.new {how n : Int} (h1 : 1 ≤ how) (h2 : how ≤ 3) (n1 : 1 ≤ n) (n2 : n ≤ 60) : SrG (rsNew how n) := by
  have he : rsNewE how n = 0 := by unfold rsNewE; rw [if_neg (by omega), if_neg (by omega)]
  unfold rsNew
  rw [if_pos he]
  refine ⟨h1, h2, Int.le_refl _, by show (0 : Int) < n; omega, by show n ≤ 5000; omega, Int.le_refl _, ?_⟩
  show (1 : Int) * 2 ^ (n - 0).toNat ≤ 1152921504606846976
  have e1 : (2 : Int) ^ (n - 0).toNat ≤ 2 ^ 60 := pow2_le (by omega)
  have e2 : (2 : Int) ^ 60 = 1152921504606846976 := by decide
  omega
structure RA.Rn (a : RA) : Prop where
  g : SrG a.s
  hi : a.s.high + 1 ≤ a.said.length
  s1 : a.h.kind = 1 → a.said.length = a.w.length + 1
  s2 : a.h.kind = 2 → a.said.length = a.w.length
  lo : (a.said.getD a.s.low.toNat []).length = if a.h.kind = 1 then 1 else a.w.length - a.s.low.toNat
  ln : ∀ u ∈ a.said, u.length ≤ 10000
structure RA.Iv (a : RA) : Prop where
  ok : a.Ok
  wp : 0 < a.w.length
  w60 : a.w.length ≤ 60
  h1 : 1 ≤ a.how
  h2 : a.how ≤ 3
  ns : a.begun = false → a.spur = false
  sb : a.s.B
  rn : a.begun = true → a.spur = false → a.Rn
section
variable {a : RA}
theorem RA.Iv.hiw (h : a.Iv) (hb : a.begun = true) (hs : a.spur = false) : a.s.high ≤ a.w.length ∧ (a.h.kind = 2 → a.s.high + 1 ≤ a.w.length) := by
  have r := h.rn hb hs
  have := r.hi
  rcases h.ok.m.kk with hk | hk
  · have := r.s1 hk; exact ⟨by omega, fun h => by omega⟩
  · have := r.s2 hk; exact ⟨by omega, fun h => by omega⟩
theorem RA.Iv.ok3 (h : a.Iv) : a.Ok3 := by
  refine ⟨⟨h.ok, h.sb, fun hb hs => ?_⟩, fun hb hs => ?_, fun hb hs hm => ?_, h.wp⟩
  · have r := h.rn hb hs
    exact ⟨r.g.l0, r.g.lt, (h.hiw hb hs).1, r.g.ask.1⟩
  · have r := h.rn hb hs
    rcases h.ok.m.kk with hk | hk
    · exact .inl (r.s1 hk)
    · exact .inr (r.s2 hk)
  · have r := h.rn hb hs
    have := r.g.ask.1 hm
    have := r.hi
    omega
theorem RA.Iv.okP (h : a.Iv) : a.OkP := by
  refine ⟨h.ok3, h.h1, h.h2, h.ns, fun hb hs => ⟨(h.rn hb hs).g.w, fun b => ?_⟩, fun hb hs hm => h.ok3.sd2 hb hs hm⟩
  by_cases hm : (srAsk a.s).2 = true
  · exact .inl ((h.rn hb hs).g.tell hm b).w
  · exact .inr hm
theorem RA.Iv.fd (h : a.Iv) : a.Fd := by
  intro hb hs hm
  have r := h.rn hb hs
  have h3 := r.g.ask.2 hm
  have h4 := r.hi
  have h5 := h.hiw hb hs
  have h6 := h.w60
  have hlo := r.lo
  have hl0 := r.g.l0
  refine ⟨by omega, by omega, ?_, ?_⟩
  · rw [hlo]; split <;> omega
  · rcases h.ok.m.kk with hk | hk
    · exact .inl hk
    · right; rw [hlo, if_neg (by omega)]; omega
theorem getD_len {l : List (List Int)} {i N : Nat} (h : ∀ u ∈ l, u.length ≤ N) : (l.getD i []).length ≤ N := by
  rw [List.getD_eq_getElem?_getD]
  cases hi : l[i]? with
  | none => simp
  | some u => exact h u (List.mem_of_getElem? hi)
theorem RA.Iv.pfd (h : a.Iv) : a.prog.Fd := by
  unfold RA.prog
  cases hb : a.begun with
  | false => intro h; cases h
  | true =>
    cases hs : a.spur with
    | true => intro _ h; cases h
    | false =>
      cases hm : (srAsk a.s).2 with
      | true => intro h; cases h
      | false =>
        intro _ _
        have r := h.rn hb hs
        have h3 := r.g.ask.2 hm
        have h4 := r.hi
        have h5 := h.hiw hb hs
        have h6 := h.w60
        have hl0 := r.g.l0
        refine ⟨hl0, ?_, ?_, ?_, ?_, ?_⟩
        · show a.s.low + 1 < a.said.length; omega
        · show a.s.low < a.w.length; omega
        · show a.said.length ≤ 5000
          rcases h.ok.m.kk with hk | hk
          · have := r.s1 hk; omega
          · have := r.s2 hk; omega
        · have := getD_len (i := a.s.low.toNat) r.ln
          show (a.said.getD a.s.low.toNat []).length ≤ _; omega
        · have := getD_len (i := (a.s.low + 1).toNat) r.ln
          show (a.said.getD (a.s.low + 1).toNat []).length ≤ _; omega
theorem RA.Iv.found (h : a.Iv) : a.prog.found = a.found := by
  unfold RA.prog RA.found RA.ask
  cases hb : a.begun with
  | false => rfl
  | true =>
    cases hs : a.spur with
    | true => rfl
    | false =>
      cases hm : (srAsk a.s).2 with
      | true => rfl
      | false =>
        have r := h.rn hb hs
        have hlo := r.lo
        show ((a.pa a.said true false a.s.low).cut, true) = (a.cut, true)
        refine congrArg (·, true) ?_
        unfold PA.cut RA.cut endO PA.sz
        show Cut.mk _ _ _ _ ((a.said.getD a.s.low.toNat []).drop _) = Cut.mk _ _ _ _ _
        congr 1
        show (a.said.getD a.s.low.toNat []).drop ((a.said.getD a.s.low.toNat []).length - (if a.h.kind = 1 then 1 else _)) = _
        by_cases hk : a.h.kind = 1
        · rw [if_pos hk, if_pos hk, hlo, if_pos hk]; rfl
        · rw [if_neg hk, if_neg hk]
theorem fdiff_lt : ∀ {xs ys : List Int}, xs.length = ys.length → xs ≠ ys → fdiff xs ys < xs.length
  | [], [], _, h => absurd rfl h
  | [], _ :: _, h, _ => by simp at h
  | _ :: _, [], h, _ => by simp at h
  | x :: xs, y :: ys, hl, h => by
    unfold fdiff
    split
    · rename_i e
      have := fdiff_lt (xs := xs) (ys := ys) (by simpa using hl) (fun e2 => h (by rw [e, e2]))
      simp only [List.length_cons]; omega
    · simp
theorem RA.Iv.tell (h : a.Iv) (out : List Int) : (a.tell out).1.Iv := by
  unfold RA.tell
  by_cases c1 : a.ask.2 = false
  · rw [if_pos c1]; exact h
  rw [if_neg c1]
  by_cases c2 : fitE a.h.kind a.h.O a.ask.1 out = 0
  rotate_left
  · rw [if_pos c2]; exact h
  rw [if_neg (fun q => q c2)]
  have hlen := fitE_len c2
  have hw := h.w60
  have hkk := h.ok.m.kk
  cases hb : a.begun with
  | true =>
    rw [if_pos rfl]
    have hs : a.spur = false := by
      cases hs : a.spur with
      | false => rfl
      | true => simp [RA.ask, hb, hs] at c1
    have hm : (srAsk a.s).2 = true := by
      cases hm : (srAsk a.s).2 with
      | true => rfl
      | false => simp [RA.ask, hb, hs, hm] at c1
    have r := h.rn hb hs
    obtain ⟨q1, q2⟩ := r.g.ask.1 hm
    have hask : a.ask.1 = a.word (srAsk a.s).1 := by simp [RA.ask, hb, hs, hm]
    have hl0 := r.g.l0
    have hiw := h.hiw hb hs
    have hwl : a.w.length - (srAsk a.s).1.toNat ≤ a.ask.1.length := by rw [hask]; unfold RA.word; rw [List.length_append, List.length_drop]; omega
    have hol : (endO a.h.kind out (a.w.length - (srAsk a.s).1.toNat)).length = if a.h.kind = 1 then 1 else a.w.length - (srAsk a.s).1.toNat := by
      unfold endO
      by_cases hk : a.h.kind = 1
      · rw [if_pos hk, if_pos hk, hlen, if_pos hk]
      · rw [if_neg hk, if_neg hk, List.length_drop, hlen, if_neg hk]; omega
    generalize hoo : endO a.h.kind out (a.w.length - (srAsk a.s).1.toNat) = o at *
    generalize hbb : decide (o = a.mine (srAsk a.s).1) = b at *
    have hg := r.g.tell hm b
    have hi := r.hi
    refine ⟨⟨h.ok.m, h.ok.w, h.ok.wl, h.ok.al, h.ok.aw⟩, h.wp, h.w60, h.h1, h.h2, fun q => (by cases q), hg.b, fun _ _ => ⟨hg, ?_, fun hk => ?_, fun hk => ?_, ?_, fun u hu => ?_⟩⟩
    · show (srTell a.s b).high + 1 ≤ ((a.said.set (srAsk a.s).1.toNat o).length : Nat)
      rw [List.length_set]
      unfold srTell; rw [if_pos hm]
      cases b <;> simp only [Bool.false_eq_true, if_true, if_false, ↓reduceIte] <;> omega
    · show (a.said.set _ _).length = _; rw [List.length_set]; exact r.s1 hk
    · show (a.said.set _ _).length = _; rw [List.length_set]; exact r.s2 hk
    · show ((a.said.set (srAsk a.s).1.toNat o).getD (srTell a.s b).low.toNat []).length = if a.h.kind = 1 then 1 else a.w.length - (srTell a.s b).low.toNat
      cases b with
      | false =>
        have e : (srTell a.s false).low = (srAsk a.s).1 := by unfold srTell; rw [if_pos hm]; rfl
        rw [e, List.getD_eq_getElem?_getD, List.getElem?_set_self (by omega)]
        exact hol
      | true =>
        have e : (srTell a.s true).low = a.s.low := by unfold srTell; rw [if_pos hm]; rfl
        rw [e, List.getD_eq_getElem?_getD, List.getElem?_set_ne (by omega), ← List.getD_eq_getElem?_getD]
        exact r.lo
    · rcases List.mem_or_eq_of_mem_set hu with hu | hu
      · exact r.ln u hu
      · rw [hu, hol]; split <;> omega
  | false =>
    rw [if_neg (by decide)]
    have hask : a.ask.1 = a.w := by simp [RA.ask, hb]
    rw [hask] at hlen
    by_cases c3 : out = a.mine 0
    · rw [if_pos c3]
      exact ⟨⟨h.ok.m, h.ok.w, h.ok.wl, h.ok.al, h.ok.aw⟩, h.wp, h.w60, h.h1, h.h2, fun q => (by cases q), h.sb, fun _ q => (by cases q)⟩
    rw [if_neg c3]
    have hns := h.ns hb
    by_cases hk : a.h.kind = 2
    · rw [if_pos hk]
      by_cases c4 : fdiff out (a.mine 0) = 0
      · rw [if_pos c4]; exact h
      rw [if_neg c4]
      have hol : out.length = a.w.length := by rw [hlen, if_neg (by omega)]
      have hml : (a.mine 0).length = out.length := by unfold RA.mine; rw [goO_len, if_neg (by omega), List.length_drop]; simp [hol]
      have hf := fdiff_lt hml.symm c3
      generalize hff : fdiff out (a.mine 0) = f at *
      have hg := SrG.new (n := f) h.h1 h.h2 (by omega) (by omega)
      have hne : rsNewE a.how f = 0 := by have := h.h1; have := h.h2; unfold rsNewE; rw [if_neg (by omega), if_neg (by omega)]
      have hnw : rsNew a.how f = ⟨a.how, 0, f, 1, false, 0⟩ := by unfold rsNew; rw [if_pos hne]
      refine ⟨⟨h.ok.m, h.ok.w.take _, by show (a.w.take (f + 1)).length ≤ 4096; rw [List.length_take]; omega, h.ok.al, h.ok.aw⟩, by show 0 < (a.w.take (f + 1)).length; rw [List.length_take]; omega, by show (a.w.take (f + 1)).length ≤ 60; rw [List.length_take]; omega, h.h1, h.h2, fun q => (by cases q), hg.b, fun _ _ => ⟨hg, ?_, fun hk1 => ?_, fun _ => ?_, ?_, fun u hu => ?_⟩⟩
      · show (rsNew a.how f).high + 1 ≤ ((out.take (f + 1) :: List.replicate f []).length : Nat)
        rw [hnw]; simp
      · have : a.h.kind = 1 := hk1; omega
      · show (out.take (f + 1) :: List.replicate f []).length = (a.w.take (f + 1)).length
        rw [List.length_take]; simp; omega
      · show ((out.take (f + 1) :: List.replicate f []).getD (rsNew a.how f).low.toNat []).length = if a.h.kind = 1 then 1 else (a.w.take (f + 1)).length - (rsNew a.how f).low.toNat
        rw [hnw, if_neg (by omega)]
        show (out.take (f + 1)).length = (a.w.take (f + 1)).length - 0
        rw [List.length_take, List.length_take]; omega
      · rcases List.mem_cons.mp hu with hu | hu
        · rw [hu, List.length_take]; omega
        · rw [(List.mem_replicate.mp hu).2]; simp
    · rw [if_neg hk]
      have hk1 : a.h.kind = 1 := by omega
      have hol : out.length = 1 := by rw [hlen, if_pos hk1]
      have hwp := h.wp
      have hg := SrG.new (n := a.w.length) h.h1 h.h2 (by omega) (by omega)
      have hne : rsNewE a.how a.w.length = 0 := by have := h.h1; have := h.h2; unfold rsNewE; rw [if_neg (by omega), if_neg (by omega)]
      have hnw : rsNew a.how a.w.length = ⟨a.how, 0, a.w.length, 1, false, 0⟩ := by unfold rsNew; rw [if_pos hne]
      refine ⟨⟨h.ok.m, h.ok.w, h.ok.wl, h.ok.al, h.ok.aw⟩, h.wp, h.w60, h.h1, h.h2, fun q => (by cases q), hg.b, fun _ _ => ⟨hg, ?_, fun _ => ?_, fun q => absurd q hk, ?_, fun u hu => ?_⟩⟩
      · show (rsNew a.how a.w.length).high + 1 ≤ ((out :: List.replicate a.w.length []).length : Nat)
        rw [hnw]; simp
      · show (out :: List.replicate a.w.length []).length = a.w.length + 1
        simp
      · show ((out :: List.replicate a.w.length []).getD (rsNew a.how a.w.length).low.toNat []).length = if a.h.kind = 1 then 1 else _
        rw [hnw, if_pos hk1]
        exact hol
      · rcases List.mem_cons.mp hu with hu | hu
        · rw [hu]; omega
        · rw [(List.mem_replicate.mp hu).2]; simp
end
theorem accE_all {h : Mach} : ∀ {acc : List (List Int)} {s : Nat}, accE h s acc = 0 → ∀ u ∈ acc, wordE u h.K = 0
  | [], _, _, u, hu => by cases hu
  | v :: acc, s, he, u, hu => by
    unfold accE at he
    split at he
    · rename_i h1; exact absurd he h1
    · rename_i h1
      split at he
      · cases he
      · rcases List.mem_cons.mp hu with rfl | hu
        · simpa using h1
        · exact accE_all he u hu
theorem RA.Iv.new {how : Int} {h : Mach} {acc : List (List Int)} {w : List Int} (he : rnewE how h acc w = 0) (hw : w.length ≤ 60) : (rnew how h acc w).Iv := by
  unfold rnew
  rw [if_pos he]
  unfold rnewE at he
  split at he
  · cases he
  rename_i h1
  split at he
  · rename_i h2; exact absurd he h2
  rename_i h2
  split at he
  · cases he
  rename_i h3
  split at he
  · rename_i h4; exact absurd he h4
  rename_i h4
  split at he
  · rename_i h5; exact absurd he h5
  rename_i h5
  split at he
  · cases he
  rename_i h6
  have h2' : machE h.kind h.K h.O h.N h.nx h.ot = 0 := by simpa using h2
  have h4' : accE h 0 acc = 0 := by simpa using h4
  have h5' : wordE w h.K = 0 := by simpa using h5
  obtain ⟨_, w1, w2⟩ := wordE_zero.mp h5'
  refine ⟨⟨machE_zero.mp h2', w1, w2, by show (acc.length : Int) = h.N; omega, fun u hu => ?_⟩, by show 0 < w.length; omega, hw, by show 1 ≤ how; omega, by show how ≤ 3; omega, fun _ => rfl, sr0_b, fun q => (by cases q)⟩
  obtain ⟨_, u1, u2⟩ := wordE_zero.mp (accE_all h4' u hu)
  exact ⟨u1, u2⟩
end Go.Proofs.Ytednmmcdjhfflaa.Vai

/- What the laws of analyses lend, and hold against one another. -/
namespace Go.Proofs.Ytednmmcdjhfflaa.Vai
open Go
set_option linter.unusedVariables false
set_option linter.unusedSimpArgs false
abbrev lentC (w : List Int) : List AV := ints (w ++ [-771, -772])
theorem frz_lent {S : AS} {b g lo n : Nat} {op : Bool} {w : List Int} (h : S.get b = some (.cells (lentC w) 1 g lo op false)) (hl : lo ≤ g) (hn : w.length = n) : frzF S 3 (.slice b g 0 n none 1) = some (rowI 0 w) := by
  subst hn
  rw [frzF_slice, h, frzS_cells, Nat.zero_mul, List.drop_zero, Nat.mul_one, Nat.mul_one]
  have : (lentC w).take w.length = ints w := by unfold lentC; rw [ints_take, List.take_left]
  rw [this, mapO_ints]
  simp only [Nat.zero_add, Nat.mul_one, ints_len, List.length_append, ble_dec, decide_eq_true hl, Nat.le_refl, decide_true, Bool.true_and, decide_eq_true (Nat.le_add_right _ _), Option.map_some, cond_true]
theorem slcS_ext {S : AS} {u g n j lo : Nat} {op : Bool} {c : List AV} {i : Int} (h : S.get u = some (.cells c 1 g lo op false)) (h1 : i = j) (h2 : n < j) (h3 : j ≤ c.length) : S.slc 1 (.slice u g 0 n none 1) none (some (.int .i64 i)) none = some (.slice u g 0 j none 1) := by
  subst h1
  have hk : S.known 1 u g 0 n none j = j := by
    unfold AS.known
    simp only [ble_dec, decide_eq_false (show ¬ j ≤ n by omega), cond_false, h, beq_dec, Nat.zero_add, Nat.mul_one, decide_eq_true h3, decide_true, Bool.and_self, cond_true]
    simp
  have ht : S.there 1 u g 0 j = true := by
    unfold AS.there
    simp only [h, beq_dec, ble_dec, Nat.zero_add, Nat.mul_one, decide_eq_true h3, decide_true, Bool.and_self]
  simp only [AS.slc, beq_dec, decide_true, Bool.not_true, cond_false, optN, asNat, hk, ht, ble_dec, Nat.zero_le, Nat.le_refl, decide_eq_true, Bool.and_false, Bool.false_and, Nat.add_zero, Nat.sub_zero, Bool.not_false]
set_option maxRecDepth 4000 in
theorem lent_all {L d : Nat} {S : AS} {w : List Int} {T : AV × AS → Prop} (hwf : Wf S) (hl : w.length ≤ 1000000)
    (k : ∀ S' u g lo op, S'.get u = some (.cells (lentC w) 1 g lo op false) → lo ≤ g → S.n ≤ u → u < S'.n → Kpt (fun _ => False) S S' → T (.slice u g 0 w.length none 1, S')) :
    AllK (callE G37 L (d + 1) (ctxE P kpN fun _ => none) 20 [rowI 1 w] S) T := by
  refine call_all (C := ctxE P kpN fun _ => none) (G := G37) (L := L) (d := d) (f := 20) (args := [rowI 1 w]) (S := S) (T := T) rfl fn20 rfl ?_
  have hw0 : Wf ⟨S.objs, S.n, S.n⟩ := fun u o h => hwf u o h
  simp (disch := omega) only [↓e20, a20, params, ↓e20_1, a20_1, Int.reduceNeg, ↓e20_2, a20_2, ↓WC_ret, endK_ret, resV, Option.map_some, Option.some.injEq, resOne, exists_eq_left', ↓WC_reg, ↓WO_cons, aop_mv, AX.ev, Fr.put, AllK_one, aop_bslice, fillL, AS.newRow, panK_slice, get_cons', nat_ne, ↓reduceIte, panK_nils, ↓WO_nil, ↓thenK_norm, panK_row, aop_app]
  refine AllK.clonex (S := ⟨S.objs, S.n, S.n⟩) (v := S.n) (hv := rfl) (hS := hw0) fun u b S1 gu hu hun iu => ?_
  simp (disch := omega) only [Int.reduceNeg, panK_slice, ↓WO_cons, get_cons', nat_ne, ↓reduceIte, aop_bslice, fillL, AX.ev, cells_int, List.length_cons, List.length_nil, Nat.zero_add, beq_dec, decide_true, Nat.reduceAdd, ble_dec, Nat.reduceLeDiff, Bool.and_true, setL, consS_eq, Nat.le_refl, cond_true, AS.newRow, Fr.put, AllK_one, aop_app]
  have hg : Gw S1 S.n 1 (.slice u 0 0 w.length none 1) w.length (ints w) := ⟨.inr ⟨u, 0, 0, b, rfl, gu, Nat.le_refl _, by simp [ints_len]⟩, fun v hv => by cases hv; exact hu⟩
  have hS1n := iu.n
  have hy : Rd (S1.push (.cells [.int .i64 (-771), .int .i64 (-772)] 1 0 0 false false)) 1 (.slice S1.n 0 0 2 none 1) 2 [.int .i64 (-771), .int .i64 (-772)] := (Ow.new (S := S1) _ 1 2 false rfl).rd
  obtain ⟨a', S2, q, gw, i2⟩ := (hg.push iu.wf (.cells [.int .i64 (-771), .int .i64 (-772)] 1 0 0 false false)).app (iu.wf.push _) (by simp only [AS.n_push]; omega) hy (bytes := 8) (by omega) (by unfold bound46; omega) (by unfold bound46; omega) rfl
  rcases gw.ow with ⟨_, h0, _⟩ | ⟨u2, g2, lo2, op2, rfl, h2, h3, h4⟩
  · omega
  have hlo := gw.lo u2 rfl
  have hlt := i2.wf u2 _ h2
  simp (disch := omega) only [Int.reduceNeg, q, ofO_some, AllK_one, panK_slice, ↓WO_cons, get_cons', nat_ne, ↓reduceIte, aop_mv, AX.ev, Fr.put, ↓WO_nil, ↓thenK_norm, panK_row, aop_len0, withS, lenA_row, panK_int, aop_slc, Option.map_none, Option.map_some, slcS_hi, Int.toNat_natCast]
  rw [finA_slice]
  exact k (finB S S2) u2 g2 lo2 op2 (by rw [finB_get, h2]; unfold lentC; rw [← ints_app]; rfl) h3 hlo (by rw [finB_n]; exact hlt) (kpt_finB (m := S.n) ⟨i2.n, fun v h1 _ => by (have h1' : v < S.n := h1); rw [i2.get v h1', AS.get_push, if_neg (by omega)]; exact iu.get v h1', fun _ => i2.wf⟩)
set_option maxRecDepth 4000 in
theorem kept_all {L d u g lo : Nat} {op : Bool} {S : AS} {w : List Int} {T : AV × AS → Prop} (h : S.get u = some (.cells (lentC w) 1 g lo op false)) (hlo : lo ≤ g) (hl : w.length ≤ 1000000) (k : T (.bool true, S)) :
    AllK (callE G37 L (d + 1 + 1) (ctxE P kpN fun _ => none) 28 [.slice u g 0 w.length none 1, rowI 1 w] S) T := by
  refine call_all (C := ctxE P kpN fun _ => none) (G := G37) (L := L) (d := d + 1) (f := 28) (args := [.slice u g 0 w.length none 1, rowI 1 w]) (S := S) (T := T) rfl fn28 rfl ?_
  have h' : (⟨S.objs, S.n, S.n⟩ : AS).get u = some (.cells (lentC w) 1 g lo op false) := h
  have hf := frz_lent h' hlo rfl
  have g1 : w.length ≤ 1000000000000 := by omega
  have e1 : (lentC w)[w.length]? = some (.int .i64 (-771)) := by unfold lentC; rw [ints, List.getElem?_map, List.getElem?_append_right (Nat.le_refl _), Nat.sub_self]; rfl
  have e2 : (lentC w)[((w.length : Int) + 1).toNat]? = some (.int .i64 (-772)) := by rw [show ((w.length : Int) + 1).toNat = w.length + 1 by omega]; unfold lentC; rw [ints, List.getElem?_map, List.getElem?_append_right (Nat.le_succ _), show w.length + 1 - w.length = 1 by omega]; rfl
  have e3 : (lentC w).length = w.length + 2 := by simp [lentC, ints_len]
  have hx : (⟨S.objs, S.n, S.n⟩ : AS).slc 1 (.slice u g 0 w.length none 1) none (some (.int .i64 (w.length + 2))) none = some (.slice u g 0 (w.length + 2) none 1) := slcS_ext h' (by omega) (by omega) (by omega)
  simp (disch := omega) only [↓e28, a28, params, Nat.zero_add, ↓e28_1, a28_1, ↓e28_2, a28_2, Int.reduceNeg, ↓WC_ret, endK_ret, resV, Option.map_some, Option.some.injEq, resOne, exists_eq_left', ↓WC_reg, ↓WO_cons, aop_mv, AX.ev, Fr.put, AllK_one, panK_bool, ↓WO_nil, ↓thenK_norm, get_cons', nat_ne, ↓reduceIte, panK_slice, aop_len0, withS, lenA_slice, panK_int, aop_bin, abin, isShift, kindBeq, aint, wrap64_id, cond_true, cond_false, aop_slc, Option.map_none, hx, panK_row, aop_call, AX.evs, call_giv G37_30, sameS, pureG_eq, AV.scalL, AV.scalar, scal_ints, Bool.and_true, sp2, de_R0, Option.bind_some, mapO_cons, hf, frz_row, mapO_nil, decide_true, gd_pos g1, spB_some, AV.inz, ↓WO_if, undefA, undK_bool, condK_true, aop_ixs, ixs_slice, Int.toNat_natCast, Nat.mul_one, panK_ptr, aop_ld1, ld1_ptr, h', ldO_cells, ble_dec, dect, Nat.le_refl, blt_dec, e1, beq_self_eq_true, aop_pick, e2]
  rw [show finA S (.bool true) (⟨S.objs, S.n, S.n⟩ : AS) = S from finA_sc rfl (Nat.le_refl _)]
  exact k
end Go.Proofs.Ytednmmcdjhfflaa.Vai
