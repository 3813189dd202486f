/- What is handed in, read as values that stay. -/
import Derived.Test.YtednmmcdjhfflaaB6
import Derived.Test.YtednmmcdjhfflaaChecked
import Derived.ProofKit
import Derived.ChangeArms
import Derived.ChangeSlices
import Derived.WideShapes
import Derived.SizedLaws
namespace Go.Proofs.Ytednmmcdjhfflaa.Vai
open Go Go.RowKit Go.ChangeShapes Go.WideShapes Go.ChangeAt
set_option linter.unusedVariables false
set_option linter.unusedSimpArgs false
def fzW (W : World) (k : Nat) : Option (Nat × Obj) := (W.heap[k]?).map fun o => (1, o)
theorem fzW_ok {W : World} : ∀ k z ob, fzW W k = some (z, ob) → W.heap[k]? = some ob := by
  intro k z ob h
  unfold fzW at h
  cases hh : W.heap[k]? with
  | none => rw [hh] at h; cases h
  | some o => rw [hh] at h; cases h; rfl
theorem cell_block {W : World} {a : Addr} {y : Value} (h : W.cell? a = some y) : a.spot = none ∧ ∃ ob, W.heap[a.block]? = some ob ∧ objCell ob a.off = some y := by
  unfold World.cell? at h
  split at h
  · rename_i c e f hb
    split at h
    · cases h
    · rename_i hs
      refine ⟨by cases hq : a.spot with | none => rfl | some s => rw [hq] at hs; simp at hs, _, hb, h⟩
  · cases h
theorem rel_cells {W : World} {N len cap : Nat} {a : Addr} {cs : List AV} (hl : len ≤ cap) (hc : cs.length = len) (h : ∀ i x, cs[i]? = some x → ∃ y, W.cell? (a.add i) = some y ∧ Rel (.fr (fzW W) N) x y) : Rel (.fr (fzW W) N) (.row 1 1 len cs) (.slice (some a) len cap) := by
  refine ⟨some a, cap, rfl, ⟨hl, fun e => by cases e⟩, by omega, ?_⟩
  by_cases h0 : len = 0
  · exact .inl h0
  right
  obtain ⟨y, hy, _⟩ := h 0 cs[0] (List.getElem?_eq_getElem (by omega))
  have e0 : a.add 0 = a := by simp [Addr.add]
  rw [e0] at hy
  obtain ⟨hs, ob, hb, _⟩ := cell_block hy
  refine ⟨a.block, a.off, ob, ?_, ⟨1, ?_, Nat.le_refl _⟩, RelC.mk fun j x hx => ?_⟩
  · obtain ⟨b, o, s⟩ := a; simp only at hs; rw [hs]
  · show fzW W a.block = some (1, ob); unfold fzW; rw [hb]; rfl
  · obtain ⟨y, hy, hr⟩ := h j x hx
    refine ⟨y, ?_, hr⟩
    obtain ⟨_, ob', hb', hcell⟩ := cell_block hy
    have eb : (a.add j).block = a.block := block_add a j
    have eo : (a.add j).off = a.off + j := by unfold Addr.add; split
                                              · omega
                                              · rfl
    rw [eb, hb] at hb'
    cases hb'
    rw [← eo]; exact hcell
section
variable {H : Type} {enc : TypeId × Value → H} {W : World}
theorem wf_in {n : Int} (h : (Lit.int .i64 n).wf = true) : -9223372036854775808 ≤ n ∧ n ≤ 9223372036854775807 := by
  simp only [Lit.wf, Bool.and_eq_true, decide_eq_true_eq] at h
  have h1 : IntKind.i64.min = -9223372036854775808 := by decide
  have h2 : IntKind.i64.max = 9223372036854775807 := by decide
  omega
theorem arg_row {n : Nat} {v : Value} {y : DataW H × List MemPlace} {N : Nat} (hf : DataW.trod enc Try.prog W 0 (fun _ => true) true n 29 [v] = some y) : ∃ l : List Int, Rel (.fr (fzW W) N) (rowI 1 l) v ∧ InR l ∧ l.length ≤ 9223372036854775807 := by
  rcases open_ints Try.underlying29 Try.underlying3 (by kernel_rfl) hf with ⟨hcs, _⟩ | ⟨a, len, cap, zs, hcs, _, hl, hm, hz, _, hcell, hwz⟩
  · simp at hcs
    subst hcs
    exact ⟨[], ⟨none, 0, rfl, ⟨Nat.le_refl _, fun _ => rfl⟩, rfl, .inl rfl⟩, (fun x hx => (by cases hx)), by simp⟩
  · simp at hcs
    subst hcs
    have hzl : len ≤ zs.length := by rw [hz]; simp; exact hl
    refine ⟨zs.take len, ?_, fun x hx => wf_in (hwz x (List.mem_of_mem_take hx)), by rw [List.length_take]; unfold maxLen at hm; omega⟩
    have e : (zs.take len).length = len := by rw [List.length_take]; omega
    show Rel _ (.row 1 1 (zs.take len).length (ints (zs.take len))) _
    rw [e]
    refine rel_cells hl (by rw [ints_len]; exact e) fun i x hx => ?_
    have hi : i < len := by
      have := (List.getElem?_eq_some_iff.1 hx).1
      rw [ints_len, e] at this; exact this
    refine ⟨_, hcell i (by omega), ?_⟩
    rw [ints_get (by omega)] at hx
    cases hx
    have : (zs.take len).getD i 0 = zs.getD i 0 := by
      rw [List.getD_eq_getElem?_getD, List.getD_eq_getElem?_getD, List.getElem?_take_of_lt hi]
    rw [this]; rfl
theorem arg_int {n : Nat} {v : Value} {y : DataW H × List MemPlace} (hf : DataW.trod enc Try.prog W 0 (fun _ => true) true n 3 [v] = some y) : ∃ m, v = .int .i64 m ∧ (-9223372036854775808 ≤ m ∧ m ≤ 9223372036854775807) := by
  obtain ⟨m, h, _, hw⟩ := DataW.trod_int Try.underlying3 hf
  simp at h
  exact ⟨m, h, wf_in hw⟩
theorem arg_rows {n : Nat} {v : Value} {y : DataW H × List MemPlace} {N : Nat} (hf : DataW.trod enc Try.prog W 0 (fun _ => true) true n 32 [v] = some y) : ∃ l : List (List Int), Rel (.fr (fzW W) N) (rowW 1 l) v ∧ (∀ u ∈ l, InR u ∧ u.length ≤ 9223372036854775807) ∧ l.length ≤ 9223372036854775807 := by
  rcases DataW.trod_slice Try.underlying32 hf with ⟨hcs, _⟩ | ⟨a, len, cap, elems, rest, k, _, hcs, _, _, hl, hm, hlen, hel, _, _⟩
  · simp at hcs
    subst hcs
    exact ⟨[], ⟨none, 0, rfl, ⟨Nat.le_refl _, fun _ => rfl⟩, rfl, .inl rfl⟩, (fun x hx => (by cases hx)), by simp⟩
  · simp at hcs
    subst hcs
    have hc1 : Try.prog.cellsOf 29 = 1 := by kernel_rfl
    have each : ∀ i, i < len → ∃ (u : List Int) (y : Value), W.cell? (a.add i) = some y ∧ Rel (.fr (fzW W) N) (rowI 1 u) y ∧ InR u ∧ u.length ≤ 9223372036854775807 := fun i hi => by
      have h1 := hel i hi
      rw [hc1, Nat.mul_one, List.getElem?_eq_getElem (by omega), Option.bind_eq_some_iff] at h1
      obtain ⟨c1, h2, h3⟩ := h1
      have h4 := (World.cells?_some h2)
      obtain ⟨c, rfl⟩ : ∃ c, c1 = [c] := by
        have := h4.2.1
        match c1, this with
        | [c], _ => exact ⟨c, rfl⟩
      obtain ⟨u, r1, r2, r3⟩ := arg_row (N := N) h3
      exact ⟨u, c, cell_of_cells?_one h2, r1, r2, r3⟩
    have all : ∀ k, k ≤ len → ∃ l : List (List Int), l.length = k ∧ ∀ i, i < k → ∃ y, W.cell? (a.add i) = some y ∧ Rel (.fr (fzW W) N) (rowI 1 (l.getD i [])) y ∧ InR (l.getD i []) ∧ (l.getD i []).length ≤ 9223372036854775807 := by
      intro k
      induction k with
      | zero => intro _; exact ⟨[], rfl, fun i hi => by omega⟩
      | succ k ih =>
        intro hk
        obtain ⟨l, h1, h2⟩ := ih (by omega)
        obtain ⟨u, y, r0, r1, r2, r3⟩ := each k (by omega)
        refine ⟨l ++ [u], by simp [h1], fun i hi => ?_⟩
        by_cases hik : i < k
        · have : (l ++ [u]).getD i [] = l.getD i [] := by rw [List.getD_eq_getElem?_getD, List.getD_eq_getElem?_getD, List.getElem?_append_left (by omega)]
          rw [this]; exact h2 i hik
        · obtain rfl : i = k := by omega
          have : (l ++ [u]).getD i [] = u := by rw [List.getD_eq_getElem?_getD, List.getElem?_append_right (by omega), h1, Nat.sub_self]; rfl
          rw [this]; exact ⟨y, r0, r1, r2, r3⟩
    obtain ⟨l, h1, h2⟩ := all len (Nat.le_refl _)
    refine ⟨l, ?_, fun u hu => ?_, by unfold maxLen at hm; omega⟩
    · show Rel _ (.row 1 1 l.length (rows 1 l)) _
      rw [h1]
      refine rel_cells hl (by rw [rows_len]; exact h1) fun i x hx => ?_
      have hi : i < l.length := by
        have := (List.getElem?_eq_some_iff.1 hx).1
        rw [rows_len] at this; exact this
      obtain ⟨y, q1, q2, _⟩ := h2 i (by omega)
      rw [rows_get hi] at hx
      cases hx
      exact ⟨y, q1, q2⟩
    · obtain ⟨i, hi, rfl⟩ := List.getElem_of_mem hu
      obtain ⟨y, _, _, q3, q4⟩ := h2 i (by omega)
      have : l.getD i [] = l[i] := by rw [List.getD_eq_getElem?_getD, List.getElem?_eq_getElem hi]; rfl
      rw [this] at q3 q4
      exact ⟨q3, q4⟩
theorem six {cs : Array Value} (h : cs.size = 6) : ∃ c0 c1 c2 c3 c4 c5, cs = #[c0, c1, c2, c3, c4, c5] := by
  obtain ⟨l⟩ := cs
  simp at h
  match l, h with
  | [c0, c1, c2, c3, c4, c5], _ => exact ⟨c0, c1, c2, c3, c4, c5, rfl⟩
set_option maxRecDepth 100000 in
theorem arg_mach {base N : Nat} {v : Value} {d : DataW H} {p : List MemPlace} (hv : Value.okWide Try.prog W .any base 31 v) (h : DataW.Trod enc Try.prog W 0 (fun _ => true) true 31 v d p) :
    ∃ m : Mach, Rel (.fr (fzW W) N) (machV 1 m) v ∧ InR m.nx ∧ InR m.ot := by
  obtain ⟨cs, rfl, hsz⟩ := okWide_struct Try.underlying31 hv
  obtain ⟨c0, c1, c2, c3, c4, c5, rfl⟩ := six (hsz.trans (by kernel_rfl))
  obtain ⟨fuel, hf⟩ := h
  obtain ⟨xs, m, _, _, _, hlen, hg⟩ := DataW.trod_struct Try.underlying31 hf
  have hl : xs.length = 6 := hlen
  have k3 : Try.prog.cellsOf 3 = 1 := by kernel_rfl
  have k22 : Try.prog.cellsOf 29 = 1 := by kernel_rfl
  have g0 := hg 0 _ rfl
  have g1 := hg 1 _ rfl
  have g2 := hg 2 _ rfl
  have g3 := hg 3 _ rfl
  have g4 := hg 4 _ rfl
  have g5 := hg 5 _ rfl
  rw [List.getElem?_eq_getElem (by omega)] at g0 g1 g2 g3 g4 g5
  simp only [Value.cells, k3, k22, List.drop_zero, List.drop_succ_cons, List.take_succ_cons, List.take_zero] at g0 g1 g2 g3 g4 g5
  obtain ⟨n0, rfl, w0⟩ := arg_int g0
  obtain ⟨n1, rfl, w1⟩ := arg_int g1
  obtain ⟨n2, rfl, w2⟩ := arg_int g2
  obtain ⟨n3, rfl, w3⟩ := arg_int g3
  obtain ⟨l4, r4, i4, _⟩ := arg_row (N := N) g4
  obtain ⟨l5, r5, i5, _⟩ := arg_row (N := N) g5
  exact ⟨⟨n0, n1, n2, n3, l4, l5⟩, ⟨_, ⟨_, _, rfl, rfl, _, _, rfl, rfl, _, _, rfl, rfl, _, _, rfl, rfl, _, _, rfl, r4, _, _, rfl, r5, rfl⟩, rfl⟩, i4, i5⟩
end
end Go.Proofs.Ytednmmcdjhfflaa.Vai
