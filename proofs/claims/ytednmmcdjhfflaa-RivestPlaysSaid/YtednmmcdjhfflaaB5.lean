/- Rows that are cloned; what is said of answers. -/
import Derived.Test.YtednmmcdjhfflaaB4
namespace Go.Proofs.Ytednmmcdjhfflaa.Vai
open Go
set_option linter.unusedVariables false
set_option linter.unusedSimpArgs false
theorem aeq_nils : aeq .sl .nils .nils = some true := rfl
theorem aeq_emp {b : Bool} : aeq .sl (AV.emp b) .nils = some false := rfl
theorem aeq_row {z s n : Nat} {c : List AV} (h : n ≠ 0) : aeq .sl (.row z s n c) .nils = some false := by
  show (bif Nat.beq n 0 then none else some false) = _
  rw [beq_dec, decide_eq_false h]; rfl
theorem app_emp0 {S : AS} {sz bytes v g q n z : Nat} {l : Option Nat} {b : Bool} : S.app sz bytes (.slice v g q n l z) (.emp b) = some (.slice v g q n l z, S) := rfl
theorem Frz.bo {z : Nat} {S : AS} {b b' : Bool} (h : b = b') : Frz z S (.bool b) (.bool b') := by subst h; exact Frz.scal rfl
theorem Frz.io {z : Nat} {S : AS} {k : IntKind} {b b' : Int} (h : b = b') : Frz z S (.int k b) (.int k b') := by subst h; exact Frz.scal rfl
noncomputable def cloneS := sp1 (cRo 0) fun xs => gd (xs.length ≤ 1000000000000) (rowI 1 xs)
theorem clone_ok : PureS P 90 cloneS := PureS.of1 fun xs r hr => by
  obtain ⟨hl, rfl⟩ := gd_say hr
  refine ⟨?_, inz_rowI1⟩
  by_cases h0 : xs = []
  · subst h0
    refine PureOk.split0 ?_ ?_
    · refine pure_run orders G6_fine (L := 1) (d := 1) fn90 rfl ?_
      simp (disch := omega) only [↓e90, a90, params, ↓e90_1, a90_1, ↓WC_seq, ↓WC_reg, ↓WO_cons, aop_bslice, fillL, AS.newRow, Fr.put, AllK_one, panK_slice, aop_mv, AX.ev, get_cons', nat_ne, ↓reduceIte, panK_nils, ↓WO_nil, ↓thenK_norm, aop_eq, aeq_nils, Bool.not_true, cond_false, panK_bool, ↓WC_cond, condK_true, ↓WC_ret, ↓thenK_ret, ↓endP_ret, resV, Option.map_some, Option.some.injEq, resOne, exists_eq_left']
      exact Frz.nils 1 1
    · refine pure_run orders G6_fine (L := 1) (d := 1) fn90 rfl ?_
      simp (disch := omega) only [↓e90, a90, params, ↓e90_1, a90_1, ↓WC_seq, ↓WC_reg, ↓WO_cons, aop_bslice, fillL, AS.newRow, Fr.put, AllK_one, panK_slice, aop_mv, AX.ev, get_cons', nat_ne, ↓reduceIte, panK_nils, ↓WO_nil, ↓thenK_norm, panK_emp, aop_eq, aeq_emp, Bool.not_false, cond_false, panK_bool, ↓WC_cond, condK_false, ↓WC_skip, E0_n, aop_app, app_emp0, ofO_some, ↓WC_ret, ↓endP_ret, resV, Option.map_some, Option.some.injEq, resOne, exists_eq_left']
      exact GwI.frz (GwI.nil true)
  · have hp : xs.length ≠ 0 := fun h => h0 (List.eq_nil_of_length_eq_zero h)
    refine pure_run orders G6_fine (L := 1) (d := 1) fn90 rfl ?_
    simp (disch := omega) only [↓e90, a90, params, en_R, ↓e90_1, a90_1, ↓WC_seq, ↓WC_reg, ↓WO_cons, aop_bslice, fillL, AS.newRow, Fr.put, AllK_one, panK_slice, aop_mv, AX.ev, get_cons', nat_ne, ↓reduceIte, panK_nils, ↓WO_nil, ↓thenK_norm, panK_row, aop_eq, aeq_row, Bool.not_false, cond_false, panK_bool, ↓WC_cond, condK_false, ↓WC_skip, E0_n, aop_app]
    refine AllK.clone fun a1 S1 g1 i1 => ?_
    simp (disch := omega) only [g1.pan, ↓WO_cons, get_cons', nat_ne, ↓reduceIte, aop_mv, AX.ev, Fr.put, AllK_one, ↓WO_nil, ↓thenK_norm, ↓WC_ret, ↓endP_ret, resV, Option.map_some, Option.some.injEq, resOne, exists_eq_left']
    exact GwI.frz g1
def cFp : Cod Int := ⟨fun | .fp _ [.int .i64 k] 0 => some k | _ => none, fun k => .fp 0 [.int .i64 k] 0, fun a x h => by
  split at h
  · cases h
    rintro ρ v ⟨k, off, ob, h1, ⟨z', h2, h3⟩, h4⟩
    exact ⟨k, off, ob, h1, ⟨z', h2, Nat.zero_le _⟩, h4⟩
  · cases h⟩
theorem de_Fp {z : Nat} {k : Int} : cFp.de (.fp z [.int .i64 k] 0) = some k := rfl
theorem en_Fp {k : Int} : cFp.en k = .fp 0 [.int .i64 k] 0 := rfl
def member1S := sp2 cIn cFp fun x k => some (.bool (decide (x < 0 ∨ x ≥ k)))
theorem member1_ok : PureS P 172 member1S := PureS.of2 fun x k r hr => by
  cases hr
  refine ⟨pure_run orders G6_fine (L := 1) (d := 1) fn172 rfl ?_, rfl⟩
  simp (disch := omega) only [↓e172, a172, params, en_I, Nat.zero_add, en_Fp, ↓e172_1, a172_1, ↓WC_ret, ↓endP_ret, resV, Option.map_some, Option.some.injEq, resOne, exists_eq_left', ↓WC_reg, ↓WO_cons, aop_mv, AX.ev, Fr.put, AllK_one, panK_bool, ↓WO_nil, ↓thenK_norm, get_cons', nat_ne, ↓reduceIte, panK_int, aop_bin, withS, abin, isShift, kindBeq, aint, cond_true, cond_false, ↓WO_unless, undefA, undK_bool]
  refine condK_dec ?_ ?_ <;> intro h <;> simp (disch := omega) only [↓WO_unless, h, decide_true, get_cons', nat_ne, ↓reduceIte, undefA, Fr.put, undK_bool, condK_true, ↓WO_cons, aop_pick, AX.ev, AllK_one, panK_bool, aop_mv, ↓WO_nil, ↓thenK_norm, decide_false, panK_int, condK_false, aop_ld1, withS, ld1_fp, List.getElem?_cons_zero, aop_bin, abin, isShift, kindBeq, aint, cond_true, cond_false]
  all_goals first | exact Frz.scal rfl | (simp only [true_or, false_or, decide_true]; exact Frz.scal rfl)
noncomputable def G7 : Giv := addG 172 (pureG member1S) (addG 90 (pureG cloneS) (G6))
theorem G7_fine : Fine P G7 := ((G6_fine).pure clone_ok).pure member1_ok
theorem G7_172 : G7 172 = some (pureG member1S) := rfl
def cCl (f : Nat) : Cod Int := ⟨fun | .fn (.func g) [] [c] => bif Nat.beq g f then cFp.de c else none | _ => none, fun k => .fn (.func f) [] [cFp.en k], fun a x h => by
  split at h
  · rename_i g c
    cases hb : Nat.beq g f with
    | false => rw [hb] at h; cases h
    | true =>
      rw [hb] at h
      have : g = f := by simpa using hb
      subst this
      rintro ρ v ⟨a', c', h1, h2, h3⟩
      exact ⟨a', c', h1, (show WkL [c] [cFp.en x] from ⟨cFp.wk _ _ h, trivial⟩).rel h2, h3⟩
  · cases h⟩
theorem en_Fn {f : Nat} {k : Int} : (cCl f).en k = .fn (.func f) [] [.fp 0 [.int .i64 k] 0] := rfl
theorem de_Fn {f z : Nat} {k : Int} : (cCl f).de (.fn (.func f) [] [.fp z [.int .i64 k] 0]) = some k := by
  show (bif Nat.beq f f then _ else _) = _
  rw [beq_dec, decide_eq_true rfl]; rfl
def fidx (xs : List Int) (k : Int) : Int := match xs.findIdx? (fun x => decide (x < 0 ∨ x ≥ k)) with
  | some i => i
  | none => -1
noncomputable def idxS := sp2 (cRo 0) (cCl 172) fun xs k => gd (xs.length ≤ 9223372036854775807) (.int .i64 (fidx xs k))
theorem findIdx_none {xs : List Int} {k : Int} {i : Nat} (h : InB (xs.take i) k) (hi : xs.length ≤ i) : xs.findIdx? (fun x => decide (x < 0 ∨ x ≥ k)) = none := by
  rw [List.findIdx?_eq_none_iff]
  intro x hx
  have := inB_all h hi x hx
  simp only [decide_eq_false_iff_not]
  omega
theorem findIdx_some {xs : List Int} {k : Int} {i : Nat} (h : InB (xs.take i) k) (hi : i < xs.length) (hx : xs.getD i 0 < 0 ∨ xs.getD i 0 ≥ k) : xs.findIdx? (fun x => decide (x < 0 ∨ x ≥ k)) = some i := by
  rw [List.findIdx?_eq_some_iff_getElem]
  have e : xs.getD i 0 = xs[i] := by rw [List.getD_eq_getElem?_getD, List.getElem?_eq_getElem hi]; rfl
  refine ⟨hi, by rw [← e]; exact decide_eq_true hx, fun j hj => ?_⟩
  have hm : xs[j] ∈ xs.take i := by
    rw [List.mem_take_iff_getElem]
    exact ⟨j, by omega, rfl⟩
  have := h _ hm
  simp only [decide_eq_true_eq]
  omega
theorem fidx_none {xs : List Int} {k : Int} {i : Nat} (h : InB (xs.take i) k) (hi : xs.length ≤ i) : fidx xs k = -1 := by unfold fidx; rw [findIdx_none h hi]
theorem fidx_some {xs : List Int} {k : Int} {i : Nat} (h : InB (xs.take i) k) (hi : i < xs.length) (hx : xs.getD i 0 < 0 ∨ xs.getD i 0 ≥ k) : fidx xs k = i := by unfold fidx; rw [findIdx_some h hi hx]
theorem indexf_ok : PureS P 180 idxS := PureS.of2 fun xs k r hr => by
  obtain ⟨hl, rfl⟩ := gd_say hr
  refine ⟨pure_run orders G7_fine (L := xs.length + 1) (d := 1) fn180 rfl ?_, rfl⟩
  simp (disch := omega) only [↓e180, a180, params, en_R, Nat.zero_add, en_Fn, ↓e180_1, a180_1, ↓WC_seq, ↓WC_reg, ↓WO_cons, Int.reduceNeg, aop_mv, AX.ev, Fr.put, AllK_one, panK_int, ↓WO_nil, ↓thenK_norm, ↓WC_ret, ↓endP_ret, resV, get_cons', ↓reduceIte, Option.map_some, Option.some.injEq, resOne, exists_eq_left', nat_ne, panK_row, aop_len0, withS, lenA_row, ↓e180_2, a180_2, ↓WC_block, ↓WC_loop, Fr.keep]
  refine loop_all (fun m F S => ∃ i : Nat, i + m = xs.length ∧ InB (xs.take i) k ∧ F.get 0 = rowI 0 xs ∧ F.get 1 = .fn (.func 172) [] [.fp 0 [.int .i64 k] 0] ∧ F.get 4 = .int .i64 0 ∧ F.get 7 = .int .i64 xs.length ∧ F.get 8 = .int .i64 i ∧ S = E0) ?_ ⟨0, Nat.zero_add _, (fun x hx => by cases hx), rfl, rfl, rfl, rfl, rfl, rfl⟩ (by omega)
  rintro m F S ⟨i, hi, he, f0, f1, f4, f7, f8, rfl⟩
  simp (disch := omega) only [↓e180_3, a180_3, ↓e180_4, a180_4, ↓e180_5, a180_5, ↓WC_reg, ↓WO_cons, aop_bin, withS, abin, AX.ev, isShift, kindBeq, aint, cond_false, ble_dec, Fr.keep, Int.reduceNeg, Fr.put, get_cons', ↓reduceIte, nat_ne, ↓WC_block, ↓WC_seq, aop_mv, AllK_one, ↓WC_cond, f8, f7, cond_true, panK_bool, ↓WO_nil, ↓thenK_norm]
  refine condK_dec ?_ ?_ <;> intro h4 <;> simp (disch := omega) only [↓WC_skip, ↓thenK_norm, dect, get_cons', nat_ne, ↓reduceIte, f8, Int.reduceNeg, panK_int, ↓WO_cons, aop_mv, AX.ev, Fr.put, AllK_one, ↓WO_nil, ↓e180_6, a180_6, ↓WC_cond, ↓WC_reg, f1, panK_fn, f0, panK_row, aop_ixs, withS, ixs_row, Int.toNat_natCast, Nat.mul_one, panK_fp, aop_ld1, ld1_fp, ints_get, aop_callv, AX.evs, List.nil_append, List.cons_append, call_giv1 G7_172, member1S, pureG_eq, AV.scalL, AV.scalar, Bool.and_true, sp2, de_I, de_Fp, Option.bind_some, spK_some, cond_true, panK_bool, ↓WC_exit, ↓thenK_exit, ↓blkK_exit]
  · refine condK_dec ?_ ?_ <;> intro h5 <;> simp (disch := omega) only [↓WC_seq, ↓WC_reg, ↓WO_cons, dect, aop_mv, AX.ev, get_cons', nat_ne, ↓reduceIte, Int.reduceNeg, Fr.put, AllK_one, panK_int, ↓WO_nil, ↓thenK_norm, ↓WC_ret, ↓blkK_ret, ↓thenK_ret, ↓endP_ret, resV, Option.map_some, Option.some.injEq, resOne, exists_eq_left', ↓WC_skip, ↓blkK_norm, decf, f8, wrap64_id, cond_true, f0, f1, f4, f7, and_true, true_and]
    · exact Frz.io (fidx_some he (by omega) h5).symm
    · exact ⟨m - 1, by omega, i + 1, by omega, inB_take_succ (by omega) he (by omega) (by omega), rfl⟩
  · exact Frz.io (fidx_none he (by omega)).symm
theorem fidx_ge {xs : List Int} {k : Int} : fidx xs k ≥ 0 ↔ ¬ InB xs k := by
  unfold fidx
  cases hf : xs.findIdx? (fun x => decide (x < 0 ∨ x ≥ k)) with
  | none =>
    rw [List.findIdx?_eq_none_iff] at hf
    have hb : InB xs k := fun x hx => by have := hf x hx; simp only [decide_eq_false_iff_not] at this; omega
    exact ⟨fun h => by simp at h, fun h => absurd hb h⟩
  | some i =>
    rw [List.findIdx?_eq_some_iff_getElem] at hf
    obtain ⟨h1, h2, _⟩ := hf
    refine ⟨fun _ hb => ?_, fun _ => by simp⟩
    have := hb _ (List.getElem_mem h1)
    simp only [decide_eq_true_eq] at h2
    omega
noncomputable def G8 : Giv := addG 180 (pureG idxS) (G7)
theorem G8_fine : Fine P G8 := (G7_fine).pure indexf_ok
theorem G8_180 : G8 180 = some (pureG idxS) := rfl
noncomputable def contS := sp2 (cRo 0) (cCl 172) fun xs k => gd (xs.length ≤ 9223372036854775807) (.bool (decide (¬ InB xs k)))
theorem containsf_ok : PureS P 171 contS := PureS.of2 fun xs k r hr => by
  obtain ⟨hl, rfl⟩ := gd_say hr
  refine ⟨pure_run orders G8_fine (L := 1) (d := 1) fn171 rfl ?_, rfl⟩
  simp (disch := omega) only [↓e171, a171, params, en_R, Nat.zero_add, en_Fn, ↓e171_1, a171_1, ↓WC_ret, ↓endP_ret, resV, Option.map_some, Option.some.injEq, resOne, exists_eq_left', ↓WC_reg, ↓WO_cons, aop_mv, AX.ev, Fr.put, AllK_one, panK_bool, ↓WO_nil, ↓thenK_norm, get_cons', nat_ne, ↓reduceIte, panK_row, panK_fn, aop_call, AX.evs, call_giv1 G8_180, idxS, pureG_eq, AV.scalL, AV.scalar, scal_ints, Bool.and_true, sp2, de_R0, de_Fn, Option.bind_some, gd_pos, spK_some, cond_true, panK_int, aop_bin, withS, abin, isShift, kindBeq, aint, cond_false]
  rw [decide_eq_decide.2 fidx_ge]
  exact Frz.scal rfl
section
variable {S : AS} {k v g o e z s n : Nat} {c l : List AV} {a : AV} {f : AV → Option AV}
theorem mapO_nil : mapO f [] = some [] := rfl
theorem mapO_cons : mapO f (a :: l) = (f a).bind fun b => (mapO f l).map (b :: ·) := by
  show (match f a, mapO f l with | some b, some m => some (b :: m) | _, _ => none) = _
  cases f a <;> cases mapO f l <;> rfl
theorem frzF_row : frzF S (k + 1) (.row z s n c) = bif AV.scalL c then some (.row z s n c) else none := rfl
theorem frzF_int {kd : IntKind} {i : Int} : frzF S (k + 1) (.int kd i) = some (.int kd i) := rfl
def fnF (h : Fn) : Option (List AV) → Option (List AV) → AV
  | some x, some y => .fn h x y
  | _, _ => .any
theorem fnF_some {h : Fn} {x y : List AV} : fnF h (some x) (some y) = .fn h x y := rfl
theorem frzF_fn {h : Fn} {x y : List AV} : frzF S (k + 1) (.fn h x y) = some (fnF h (mapO (frzF S k) x) (mapO (frzF S k) y)) := by
  show (match mapO (frzF S k) x, mapO (frzF S k) y with | some a', some c' => some (AV.fn h a' c') | _, _ => some .any) = _
  cases mapO (frzF S k) x <;> cases mapO (frzF S k) y <;> rfl
def ifcF (t : TypeId) : Option AV → AV
  | some y => .ifc t y
  | none => .any
theorem frzF_ifc {t : TypeId} {x : AV} : frzF S (k + 1) (.ifc t x) = some (ifcF t (frzF S k x)) := by
  show (match frzF S k x with | some y => some (AV.ifc t y) | none => some .any) = _
  cases frzF S k x <;> rfl
theorem frzF_0 {x : AV} : frzF S 0 x = bif x.scalar then some x else none := rfl
def frzP (S : AS) (k : Nat) (ob : Option AObj) (g o e : Nat) : Option AV := match ob with
  | some (.cells c _ gen lo _ false) => bif Nat.ble lo g && Nat.ble g gen then (mapO (frzF S k) (c.take e)).map (.fp 0 · o) else none
  | _ => none
theorem frzF_ptr : frzF S (k + 1) (.ptr v g o e) = frzP S k (S.get v) g o e := rfl
theorem frzP_cells {sz gen lo : Nat} {opn : Bool} : frzP S k (some (.cells c sz gen lo opn false)) g o e = bif Nat.ble lo g && Nat.ble g gen then (mapO (frzF S k) (c.take e)).map (.fp 0 · o) else none := rfl
theorem spB_some {r : AV} : spB (some r) S = bif r.inz 1 then .one (r, S) else .no := rfl
end
def fitE (k O : Int) (w out : List Int) : Int := if (k = 1 ∨ k = 2) ∧ out.length = (if k = 1 then 1 else w.length) ∧ InB out (if k = 1 then 2 else O) then 0 else 100
structure Qm where
  w : List Int
  m : Mach
abbrev qmV (z : Nat) (q : Qm) : AV := .agg [.int .i64 1, rowI z q.w, .int .i64 q.m.kind, .int .i64 q.m.K, .int .i64 q.m.O, .int .i64 q.m.N, rowI z q.m.nx, rowI z q.m.ot]
def deQm (z : Nat) : AV → Option Qm
  | .agg [.int .i64 1, u, .int .i64 k, .int .i64 K, .int .i64 o, .int .i64 n, x, y] => match (cRo z).de u, (cRo z).de x, (cRo z).de y with
    | some w, some a, some b => some ⟨w, k, K, o, n, a, b⟩
    | _, _, _ => none
  | _ => none
def cQm (z : Nat) : Cod Qm := ⟨deQm z, qmV z, fun a x h => by
  unfold deQm at h
  split at h
  · split at h
    · rename_i h0 h1 h2
      cases h
      exact Wk.agg ⟨Wk.refl _, (cRo z).wk _ _ h0, Wk.refl _, Wk.refl _, Wk.refl _, Wk.refl _, (cRo z).wk _ _ h1, (cRo z).wk _ _ h2, trivial⟩
    · cases h
  · cases h⟩
theorem en_Qm {z : Nat} {q : Qm} : (cQm z).en q = qmV z q := rfl
theorem de_Qm {z : Nat} {k K o m : Int} {u x y : AV} : (cQm z).de (.agg [.int .i64 1, u, .int .i64 k, .int .i64 K, .int .i64 o, .int .i64 m, x, y]) = ((cRo z).de u).bind fun w => ((cRo z).de x).bind fun a => ((cRo z).de y).map fun b => ⟨w, k, K, o, m, a, b⟩ := by
  show (match (cRo z).de u, (cRo z).de x, (cRo z).de y with
    | some w, some a, some b => some _
    | _, _, _ => none) = _
  cases (cRo z).de u <;> cases (cRo z).de x <;> cases (cRo z).de y <;> rfl
def cAn (z : Nat) : Cod (List Int) := ⟨fun | .agg [.int .i64 1, u, .nils] => (cRo z).de u | _ => none, fun xs => .agg [.int .i64 1, rowI z xs, .nils], fun a x h => by
  split at h
  · exact Wk.agg ⟨Wk.refl _, (cRo z).wk _ _ h, Wk.refl _, trivial⟩
  · cases h⟩
theorem en_An {z : Nat} {xs : List Int} : (cAn z).en xs = .agg [.int .i64 1, rowI z xs, .nils] := rfl
theorem de_An {z : Nat} {u : AV} : (cAn z).de (.agg [.int .i64 1, u, .nils]) = (cRo z).de u := rfl
noncomputable def memberS := sp2 (cQm 0) (cRo 0) fun q out => gd (out.length ≤ 9223372036854775807) (.bool (decide (fitE q.m.kind q.m.O q.w out = 0)))
theorem fitE_zero {k O : Int} {w out : List Int} : fitE k O w out = 0 ↔ (k = 1 ∨ k = 2) ∧ out.length = (if k = 1 then 1 else w.length) ∧ InB out (if k = 1 then 2 else O) := by
  unfold fitE
  by_cases h : (k = 1 ∨ k = 2) ∧ out.length = (if k = 1 then 1 else w.length) ∧ InB out (if k = 1 then 2 else O)
  · rw [if_pos h]; exact ⟨fun _ => h, fun _ => rfl⟩
  · rw [if_neg h]; exact ⟨fun e => by omega, fun e => absurd e h⟩
theorem fitE_1 {O : Int} {w out : List Int} : fitE 1 O w out = 0 ↔ out.length = 1 ∧ InB out 2 := by rw [fitE_zero]; simp
theorem fitE_2 {O : Int} {w out : List Int} : fitE 2 O w out = 0 ↔ out.length = w.length ∧ InB out O := by rw [fitE_zero]; simp
theorem fitE_no {k O : Int} {w out : List Int} (h1 : k ≠ 1) (h2 : k ≠ 2) : fitE k O w out = 100 := by unfold fitE; rw [if_neg (by omega)]
noncomputable def G9 : Giv := addG 171 (pureG contS) (G8)
theorem G9_fine : Fine P G9 := (G8_fine).pure containsf_ok
theorem G9_171 : G9 171 = some (pureG contS) := rfl
theorem member_ok : PureS P 148 memberS := PureS.of2 fun q out r hr => by
  obtain ⟨hl, rfl⟩ := gd_say hr
  obtain ⟨w, k, K, o, n, nx, ot⟩ := q
  refine ⟨pure_run orders G9_fine (L := 1) (d := 1) fn148 rfl ?_, rfl⟩
  simp (disch := omega) only [↓e148, a148, params, en_Qm, Nat.zero_add, en_R, ↓e148_1, a148_1, ↓e148_2, a148_2, ↓e148_5, a148_5, ↓WC_ret, ↓endP_ret, resV, Option.map_some, Option.some.injEq, resOne, exists_eq_left', ↓WC_reg, ↓WO_cons, aop_mv, AX.ev, Fr.put, AllK_one, ↓WC_seq, aop_fad, ↓WC_draw, ↓WD_cons, Fr.keep, get_cons', ↓reduceIte, sik, AOp.acts, AOp.reads, cond_false, List.all_nil, Nat.reduceAdd, aop_box, cells_agg, E0_n, List.length_cons, List.length_nil, AS.newRow, panK_ptr, panK_bool, ↓WO_nil, ↓thenK_norm, nat_ne, One_one, np_ptr, chkK_true, aop_ld1, withS, ld1_ptr, AS.get_push, ldO_cells, ble_dec, Nat.le_refl, decide_true, Bool.and_true, blt_dec, Nat.reduceLT, List.getElem?_cons_succ, List.getElem?_cons_zero, cond_true, List.all_cons, np_row, dchk_21, aop_len0, lenA_row, np_int, dchk_22, dchk_12, dchk_11, aop_alloc, AS.n_push, dchk_32, List.contains_nil, same_eq, isSame_one, AV.beq, kindBeq, intBeq_self, Bool.or_true, dchk_31, beq_dec, beqL_ints, dchk_13, aop_st, AS.st, cells_int, stl_get, stO_cells, one_int, setL, consS_eq, undefA, np_tup, dchk_33, List.contains_cons, Nat.reduceBEq, beq_self_eq_true, Bool.or_false, AS.get_put, ↓WD_nil, Nat.add_zero, panK_int, ↓e148_3, a148_3, ↓WC_block, aop_bin, abin, isShift, aint, ieq_dec, ↓e148_4, a148_4, ↓WC_cond]
  have fin : ∀ (b : Int) (n0 : Nat), (fitE k o w out = 0 ↔ out.length = n0 ∧ InB out b) → ∀ S : AS, ∀ Q : Prop, (out.length = n0 → Frz 1 S (.bool (decide (InB out b))) (.bool (decide (fitE k o w out = 0)))) ∧ (¬ out.length = n0 → Frz 1 S (.bool false) (.bool (decide (fitE k o w out = 0)))) := by
    intro b n0 he S Q
    refine ⟨fun h => Frz.bo ?_, fun h => Frz.bo ?_⟩
    · rw [decide_eq_decide, he]; simp [h]
    · symm; rw [decide_eq_false_iff_not, he]; exact fun h' => h h'.1
  refine condK_dec ?_ ?_ <;> intro h1 <;> simp (disch := omega) only [↓WC_reg, ↓WO_cons, dect, aop_mv, AX.ev, Fr.put, AllK_one, panK_int, aop_st, AS.st, get_cons', nat_ne, ↓reduceIte, cells_int, List.length_cons, List.length_nil, Nat.zero_add, beq_dec, decide_true, stl_get, AS.get_put, stO_cells, ble_dec, Nat.le_refl, Bool.and_true, List.all_cons, one_int, List.all_nil, setL, consS_eq, cond_true, Option.map_some, undefA, panK_tup, ↓WO_nil, ↓blkK_norm, ↓thenK_norm, panK_row, aop_len0, withS, lenA_row, aop_bin, abin, isShift, kindBeq, aint, ieq_dec, cond_false, panK_bool, ↓WO_if, undK_bool, ↓WC_seq, decf, ↓WC_cond]
  · subst h1
    refine condK_dec ?_ ?_ <;> intro h2 <;> simp (disch := omega) only [dect, decide_true, get_cons', nat_ne, ↓reduceIte, aop_mv, AX.ev, AllK_one, panK_row, ↓WO_if, undefA, Fr.put, undK_bool, condK_true, aop_mkfn, AX.evs, panK_fn, aop_call, call_giv1 G9_171, contS, pureG_eq, AV.scalL, AV.scalar, scal_ints, Bool.and_true, Bool.and_false, sp2, de_R0, Option.bind_some, gd_pos, mapO_cons, frzF_row, cond_true, frzF_fn, mapO_nil, frzF_ptr, AS.get_put, frzP_cells, ble_dec, Nat.le_refl, List.take_succ_cons, List.take_zero, frzF_int, Option.map_some, fnF_some, de_Fn, spB_some, AV.inz, cond_false, panK_bool, aop_un, withS, aun, ↓WO_cons, aop_pick, ↓WO_nil, ↓thenK_norm, decf, condK_false]
    · exact Frz.bo (by rw [← decide_not, decide_eq_decide, fitE_1, Decidable.not_not]; exact ⟨fun h => ⟨by omega, h⟩, fun h => h.2⟩)
    · exact Frz.bo (by symm; rw [decide_eq_false_iff_not, fitE_1]; omega)
  · refine condK_dec ?_ ?_ <;> intro h2 <;> simp (disch := omega) only [↓WC_skip, ↓blkK_norm, ↓thenK_norm, dect, decf, get_cons', nat_ne, ↓reduceIte, panK_row, ↓WO_cons, aop_len0, withS, AX.ev, lenA_row, Fr.put, AllK_one, panK_int, aop_mv, aop_bin, abin, isShift, kindBeq, aint, ieq_dec, cond_true, cond_false, panK_bool, ↓WO_if, undefA, undK_bool, ↓WC_seq, ↓WC_reg, ↓WO_nil, ↓WC_ret, ↓blkK_ret, ↓thenK_ret, ↓endP_ret, resV, Option.map_some, Option.some.injEq, resOne, exists_eq_left']
    · subst h2
      refine condK_dec ?_ ?_ <;> intro h3 <;> simp (disch := omega) only [dect, decide_true, Int.reduceEq, decide_false, get_cons', nat_ne, ↓reduceIte, aop_mv, AX.ev, AllK_one, panK_row, ↓WO_if, undefA, Fr.put, undK_bool, condK_true, aop_mkfn, AX.evs, panK_fn, aop_call, call_giv1 G9_171, contS, pureG_eq, AV.scalL, AV.scalar, scal_ints, Bool.and_true, Bool.and_false, sp2, de_R0, Option.bind_some, gd_pos, mapO_cons, frzF_row, cond_true, frzF_fn, mapO_nil, frzF_ptr, AS.get_put, frzP_cells, ble_dec, Nat.le_refl, List.take_succ_cons, List.take_zero, frzF_int, Option.map_some, fnF_some, de_Fn, spB_some, AV.inz, cond_false, panK_bool, aop_un, withS, aun, ↓WO_cons, aop_pick, ↓WO_nil, ↓thenK_norm, decf, condK_false]
      · exact Frz.bo (by rw [← decide_not, decide_eq_decide, fitE_2, Decidable.not_not]; exact ⟨fun h => ⟨by omega, h⟩, fun h => h.2⟩)
      · exact Frz.bo (by symm; rw [decide_eq_false_iff_not, fitE_2]; omega)
    · exact Frz.bo (by rw [fitE_no h1 h2]; rfl)
noncomputable def ofS := sp1 (cAn 0) fun out => some (.ifc 216 (.agg [rowI 0 out]))
theorem of_ok : PureS P 147 ofS := PureS.of1 fun out r hr => by
  cases hr
  refine ⟨pure_run orders G9_fine (L := 1) (d := 1) fn147 rfl ?_, by simp only [AV.inz, AV.inzL, inz_ints]; rfl⟩
  simp (disch := omega) only [↓e147, a147, params, en_An, ↓e147_1, a147_1, ↓WC_seq, ↓WC_reg, ↓WO_cons, aop_mv, AX.ev, Fr.put, AllK_one, panK_nili, ↓WO_nil, ↓thenK_norm, ↓WC_ret, ↓endP_ret, resV, get_cons', ↓reduceIte, Option.map_some, Option.some.injEq, resOne, exists_eq_left', aop_fad, Nat.add_zero, aop_box, cells_agg, E0_n, List.length_cons, List.length_nil, Nat.zero_add, Nat.reduceAdd, AS.newRow, panK_ptr, nat_ne, aop_ld1, withS, ld1_ptr, AS.get_push, ldO_cells, ble_dec, Nat.le_refl, decide_true, Bool.and_true, blt_dec, Nat.reduceLT, List.getElem?_cons_zero, cond_true, panK_int, ↓e147_2, a147_2, ↓WC_block, aop_bin, abin, isShift, kindBeq, aint, beq_self_eq_true, cond_false, panK_bool, ↓e147_3, a147_3, ↓WC_cond, condK_true, List.getElem?_cons_succ, panK_row, aop_build, fillL, cells_row, beq_dec, setL, consS_eq, panK_agg, aop_mkif, panK_ifc, ↓blkK_ret, ↓thenK_ret]
  exact Frz.scal (by simp only [AV.scalar, AV.scalL, scal_ints]; rfl)
noncomputable def G10 : Giv := addG 148 (pureG memberS) (addG 147 (pureG ofS) (G9))
theorem G10_fine : Fine P G10 := ((G9_fine).pure of_ok).pure member_ok
theorem G10_147 : G10 147 = some (pureG ofS) := rfl
theorem G10_148 : G10 148 = some (pureG memberS) := rfl
noncomputable def tcheckS := sp2 (cQm 0) (cAn 0) fun q out => gd (out.length ≤ 9223372036854775807) (.int .i64 (fitE q.m.kind q.m.O q.w out))
theorem fitE_or (k O : Int) (w out : List Int) : fitE k O w out = 0 ∨ fitE k O w out = 100 := by
  unfold fitE
  by_cases h : (k = 1 ∨ k = 2) ∧ out.length = (if k = 1 then 1 else w.length) ∧ InB out (if k = 1 then 2 else O)
  · rw [if_pos h]; exact .inl rfl
  · rw [if_neg h]; exact .inr rfl
theorem tcheck_ok : PureS P 91 tcheckS := PureS.of2 fun q out r hr => by
  obtain ⟨hl, rfl⟩ := gd_say hr
  obtain ⟨w, k, K, o, n, nx, ot⟩ := q
  refine ⟨pure_run orders G10_fine (L := 1) (d := 1) fn91 rfl ?_, rfl⟩
  simp (disch := omega) only [↓e91, a91, params, en_Qm, Nat.zero_add, en_An, ↓e91_1, a91_1, ↓e91_2, a91_2, ↓e91_3, a91_3, ↓e91_17, a91_17, ↓WC_seq, ↓WC_reg, ↓WO_cons, aop_mv, AX.ev, Fr.put, AllK_one, panK_int, ↓WO_nil, ↓thenK_norm, ↓WC_ret, ↓endP_ret, resV, get_cons', ↓reduceIte, Option.map_some, Option.some.injEq, resOne, exists_eq_left', aop_ldn, withS, panK_bool, nat_ne, aop_fad, Nat.add_zero, aop_box, cells_agg, E0_n, List.length_cons, List.length_nil, Nat.reduceAdd, AS.newRow, panK_ptr, AS.n_push, aop_ld1, ld1_ptr, AS.get_push, ldO_cells, ble_dec, Nat.le_refl, decide_true, Bool.and_true, blt_dec, Nat.reduceLT, List.getElem?_cons_zero, cond_true, aop_bin, abin, isShift, kindBeq, aint, ine_dec, Bool.not_true, cond_false, ↓WO_if, undefA, undK_bool, condK_false, aop_pick, ↓WC_cond, ↓WC_skip, ldn_ptr, ldlO_cells, List.drop_zero, List.take_succ_cons, List.take_zero, panK_agg, aop_call, AX.evs, call_giv1 G10_147, ofS, pureG_eq, AV.scalL, AV.scalar, scal_ints, sp1, de_An, de_R0, Option.bind_some, spK_some, panK_ifc, ↓e91_4, a91_4, ↓WC_block, aop_tas, beq_dec, panK_tup, aop_xt, List.getElem?_cons_succ, ↓e91_5, a91_5, condK_true, ↓e91_6, a91_6, ↓e91_7, a91_7, aop_alloc, aop_st, AS.st, stl_get, stO_cells, List.all_cons, one_row, List.all_nil, setL, consS_eq, AS.get_put, beq_self_eq_true, panK_nils, aop_len0, lenA_nils, panK_row, call_giv1 G10_148, memberS, sp2, de_Qm, gd_pos, ↓blkK_norm, aop_un, aun, condK_not]
  refine condK_dec ?_ ?_ <;> intro h1 <;> simp (disch := omega) only [↓WC_skip, ↓thenK_norm, ↓WC_seq, ↓WC_reg, ↓WO_cons, decf, Bool.not_false, get_cons', ↓reduceIte, aop_mv, AX.ev, Fr.put, AllK_one, panK_int, ↓WO_nil, ↓WC_ret, ↓thenK_ret, ↓endP_ret, resV, Option.map_some, Option.some.injEq, resOne, exists_eq_left']
  · exact Frz.io h1.symm
  · exact Frz.io (by have := fitE_or k o w out; simp only at *; omega)
theorem qcheck_ok : PureS P 121 tcheckS := PureS.of2 fun q out r hr => by
  obtain ⟨hl, rfl⟩ := gd_say hr
  obtain ⟨w, k, K, o, n, nx, ot⟩ := q
  refine ⟨pure_run orders G10_fine (L := out.length + 1) (d := 1) fn121 rfl ?_, rfl⟩
  by_cases hk : k = 1 ∨ k = 2
  rotate_left
  · simp (disch := omega) only [↓e121, a121, params, en_Qm, Nat.zero_add, en_An, ↓e121_1, a121_1, ↓e121_2, a121_2, ↓e121_6, a121_6, ↓e121_7, a121_7, ↓e121_8, a121_8, ↓e121_9, a121_9, ↓WC_seq, ↓WC_reg, ↓WO_cons, aop_mv, AX.ev, Fr.put, AllK_one, panK_int, ↓WO_nil, ↓thenK_norm, ↓WC_ret, ↓endP_ret, resV, get_cons', ↓reduceIte, Option.map_some, Option.some.injEq, resOne, exists_eq_left', ↓e121_10, a121_10, ↓WC_block, ↓WC_loop, Fr.keep, nat_ne, aop_fad, Nat.add_zero, ↓WC_draw, ↓WD_cons, sik, AOp.acts, AOp.reads, cond_false, List.all_nil, Nat.reduceAdd, aop_box, cells_agg, E0_n, List.length_cons, List.length_nil, AS.newRow, panK_ptr, AS.n_push, aop_ld1, withS, ld1_ptr, AS.get_push, ldO_cells, ble_dec, Nat.le_refl, decide_true, Bool.and_true, blt_dec, Nat.reduceLT, List.getElem?_cons_zero, cond_true, aop_bin, abin, isShift, kindBeq, aint, ine_dec, Bool.not_true, panK_bool, ↓WO_if, undefA, undK_bool, condK_false, aop_pick, ↓WC_cond, ↓WC_skip, ieq_dec, Int.reduceEq, decide_false, ↓e121_3, a121_3, One_one, np_ptr, chkK_true, List.getElem?_cons_succ, List.all_cons, np_row, dchk_21, aop_len0, lenA_row, np_int, dchk_22, dchk_12, dchk_11, ↓WD_nil, decf, ↓WO_unless, panK_nils, lenA_nils, Int.reduceGT, Bool.not_false, condK_true, ↓thenK_ret]
    exact Frz.io (fitE_no (by omega) (by omega)).symm
  have he : fitE k o w out = 0 ↔ out.length = (if k = 1 then 1 else w.length) ∧ InB out (if k = 1 then 2 else o) := by rw [fitE_zero]; exact ⟨fun h => h.2, fun h => ⟨hk, h⟩⟩
  have hor := fitE_or k o w out
  simp (disch := omega) only [↓e121, a121, params, en_Qm, Nat.zero_add, en_An, ↓e121_1, a121_1, ↓e121_2, a121_2, ↓e121_6, a121_6, ↓e121_7, a121_7, ↓e121_8, a121_8, ↓e121_9, a121_9, ↓WC_seq, ↓WC_reg, ↓WO_cons, aop_mv, AX.ev, Fr.put, AllK_one, panK_int, ↓WO_nil, ↓thenK_norm, ↓WC_ret, ↓endP_ret, resV, get_cons', ↓reduceIte, Option.map_some, Option.some.injEq, resOne, exists_eq_left', ↓e121_10, a121_10, ↓WC_block, ↓WC_loop, Fr.keep, nat_ne, aop_fad, Nat.add_zero, ↓WC_draw, ↓WD_cons, sik, AOp.acts, AOp.reads, cond_false, List.all_nil, Nat.reduceAdd, aop_box, cells_agg, E0_n, List.length_cons, List.length_nil, AS.newRow, panK_ptr, AS.n_push, aop_ld1, withS, ld1_ptr, AS.get_push, ldO_cells, ble_dec, Nat.le_refl, decide_true, Bool.and_true, blt_dec, Nat.reduceLT, List.getElem?_cons_zero, cond_true, aop_bin, abin, isShift, kindBeq, aint, ine_dec, Bool.not_true, panK_bool, ↓WO_if, undefA, undK_bool, condK_false, aop_pick, ↓WC_cond, ↓WC_skip, ieq_dec, Int.reduceEq, decide_false, ↓e121_3, a121_3, One_one, np_ptr, chkK_true, List.getElem?_cons_succ, List.all_cons, np_row, dchk_21, aop_len0, lenA_row, np_int, dchk_22, dchk_12, dchk_11, ↓WD_nil]
  refine condK_dec ?_ ?_ <;> intro h1 <;> simp (disch := omega) only [↓WC_reg, ↓WO_cons, dect, aop_mv, AX.ev, Fr.put, AllK_one, panK_int, ↓WO_nil, ↓thenK_norm, get_cons', nat_ne, ↓reduceIte, panK_ptr, aop_ld1, withS, ld1_ptr, AS.get_push, AS.n_push, E0_n, Nat.zero_add, ldO_cells, ble_dec, Nat.le_refl, decide_true, Bool.and_true, blt_dec, Nat.reduceLT, List.getElem?_cons_zero, cond_true, aop_bin, abin, isShift, kindBeq, aint, ine_dec, Bool.not_true, cond_false, panK_bool, ↓WO_unless, undefA, undK_bool, condK_false, aop_fad, List.getElem?_cons_succ, panK_nils, aop_len0, lenA_nils, Int.reduceGT, decide_false, aop_pick, Nat.add_zero, ↓WO_if, panK_row, lenA_row, ↓WC_cond, condK_not, ↓WC_skip, decf, Bool.not_false, condK_true]
  · rw [if_pos h1, if_pos h1] at he
    refine condK_dec ?_ ?_ <;> intro h2 <;> simp (disch := omega) only [↓WC_skip, ↓thenK_norm, dect, Bool.not_true, get_cons', nat_ne, ↓reduceIte, ↓WC_seq, ↓WC_reg, ↓WO_cons, decf, Bool.not_false, aop_mv, AX.ev, Fr.put, AllK_one, panK_int, ↓WO_nil, ↓WC_ret, ↓thenK_ret, ↓endP_ret, resV, Option.map_some, Option.some.injEq, resOne, exists_eq_left']
    rotate_left
    · exact Frz.io (by omega)
    refine loop_all (fun m F S => ∃ i : Nat, i + m = out.length ∧ InB (out.take i) 2 ∧ F.get 3 = .ptr 1 0 0 3 ∧ F.get 4 = .int .i64 0 ∧ F.get 8 = .int .i64 2 ∧ F.get 9 = .int .i64 i ∧ S.get 1 = some (.cells [.int .i64 1, rowI 0 out, .nils] 3 0 0 false false)) ?_ ⟨0, Nat.zero_add _, (fun x hx => by cases hx), rfl, rfl, rfl, rfl, by simp (disch := omega) only [AS.get_push, AS.n_push, E0_n, Nat.zero_add, ↓reduceIte]⟩ (by omega)
    rintro m F S ⟨i, hi, hb, f3, f4, f8, f9, g1⟩
    simp (disch := omega) only [↓e121_11, a121_11, ↓e121_12, a121_12, ↓WC_reg, ↓WO_cons, aop_mv, AX.ev, Fr.keep, Fr.put, AllK_one, get_cons', nat_ne, ↓reduceIte, ↓WC_block, ↓WC_seq, aop_fad, f9, panK_int, f3, Nat.zero_add, panK_ptr, aop_ld1, withS, ld1_ptr, g1, ldO_cells, ble_dec, Nat.le_refl, decide_true, Bool.and_true, blt_dec, Nat.reduceLT, List.getElem?_cons_succ, List.getElem?_cons_zero, cond_true, panK_row, aop_len0, lenA_row, aop_bin, abin, isShift, kindBeq, aint, cond_false, panK_bool, ↓WO_nil, ↓thenK_norm, ↓WC_cond]
    refine condK_dec ?_ ?_ <;> intro h4 <;> simp (disch := omega) only [↓WC_skip, ↓thenK_norm, dect, get_cons', nat_ne, ↓reduceIte, f3, Nat.zero_add, AllK_one, panK_ptr, ↓WO_cons, aop_ld1, withS, AX.ev, ld1_ptr, g1, ldO_cells, ble_dec, Nat.le_refl, decide_true, Bool.and_true, blt_dec, Nat.reduceLT, List.getElem?_cons_succ, List.getElem?_cons_zero, cond_true, Fr.put, panK_row, aop_mv, f9, panK_int, aop_ixs, ixs_row, Int.toNat_natCast, Nat.mul_one, panK_fp, ld1_fp, ints_get, aop_bin, abin, isShift, kindBeq, aint, cond_false, panK_bool, ↓WO_unless, undefA, undK_bool, ↓WC_exit, ↓thenK_exit, ↓blkK_exit]
    · refine condK_dec ?_ ?_ <;> intro h5 <;> simp (disch := omega) only [↓WO_unless, dect, get_cons', nat_ne, ↓reduceIte, undefA, Fr.put, undK_bool, condK_true, ↓WO_cons, aop_pick, AX.ev, AllK_one, panK_bool, ↓WO_nil, ↓thenK_norm, ↓WC_cond, ↓WC_seq, ↓WC_reg, aop_mv, panK_int, ↓WC_ret, ↓blkK_ret, ↓thenK_ret, ↓endP_ret, resV, Option.map_some, Option.some.injEq, resOne, exists_eq_left', decf, aop_fad, f3, Nat.zero_add, panK_ptr, condK_false, aop_ld1, withS, ld1_ptr, g1, ldO_cells, ble_dec, Nat.le_refl, decide_true, Bool.and_true, blt_dec, Nat.reduceLT, List.getElem?_cons_succ, List.getElem?_cons_zero, cond_true, panK_row, f9, aop_ixs, ixs_row, Int.toNat_natCast, Nat.mul_one, panK_fp, ld1_fp, ints_get, f8, aop_bin, abin, isShift, kindBeq, aint, cond_false]
      · have := not_inB (xs := out) (k := 2) (i := i) (by omega) (.inl h5)
        exact Frz.io (by rcases hor with h | h; exact absurd (he.1 h).2 this; exact h.symm)
      · refine condK_dec ?_ ?_ <;> intro h6 <;> simp (disch := omega) only [↓WC_seq, ↓WC_reg, ↓WO_cons, dect, decf, aop_mv, AX.ev, Fr.put, AllK_one, panK_int, ↓WO_nil, ↓thenK_norm, ↓WC_ret, ↓blkK_ret, ↓thenK_ret, ↓endP_ret, resV, get_cons', ↓reduceIte, Option.map_some, Option.some.injEq, resOne, exists_eq_left', ↓WC_skip, ↓blkK_norm, nat_ne, f9, aop_bin, withS, abin, isShift, kindBeq, aint, wrap64_id, cond_true, cond_false, f3, f4, f8, g1, and_true, true_and]
        · have := not_inB (xs := out) (k := 2) (i := i) (by omega) (.inr h6)
          exact Frz.io (by rcases hor with h | h; exact absurd (he.1 h).2 this; exact h.symm)
        · exact ⟨m - 1, by omega, i + 1, by omega, inB_take_succ (by omega) hb h5 h6, rfl⟩
    · exact Frz.io (he.2 ⟨by omega, inB_all hb (by omega)⟩).symm
  · rw [if_neg h1, if_neg h1] at he
    refine condK_dec ?_ ?_ <;> intro h2 <;> simp (disch := omega) only [↓WC_skip, ↓thenK_norm, dect, Bool.not_true, decf, get_cons', nat_ne, ↓reduceIte, ↓WC_seq, ↓WC_reg, ↓WO_cons, Bool.not_false, aop_mv, AX.ev, Fr.put, AllK_one, panK_int, ↓WO_nil, ↓WC_ret, ↓thenK_ret, ↓endP_ret, resV, Option.map_some, Option.some.injEq, resOne, exists_eq_left']
    rotate_left
    · exact Frz.io (by omega)
    refine loop_all (fun m F S => ∃ i : Nat, i + m = out.length ∧ InB (out.take i) o ∧ F.get 3 = .ptr 1 0 0 3 ∧ F.get 4 = .int .i64 0 ∧ F.get 8 = .int .i64 o ∧ F.get 9 = .int .i64 i ∧ S.get 1 = some (.cells [.int .i64 1, rowI 0 out, .nils] 3 0 0 false false)) ?_ ⟨0, Nat.zero_add _, (fun x hx => by cases hx), rfl, rfl, rfl, rfl, by simp (disch := omega) only [AS.get_push, AS.n_push, E0_n, Nat.zero_add, ↓reduceIte]⟩ (by omega)
    rintro m F S ⟨i, hi, hb, f3, f4, f8, f9, g1⟩
    simp (disch := omega) only [↓e121_11, a121_11, ↓e121_12, a121_12, ↓WC_reg, ↓WO_cons, aop_mv, AX.ev, Fr.keep, Fr.put, AllK_one, get_cons', nat_ne, ↓reduceIte, ↓WC_block, ↓WC_seq, aop_fad, f9, panK_int, f3, Nat.zero_add, panK_ptr, aop_ld1, withS, ld1_ptr, g1, ldO_cells, ble_dec, Nat.le_refl, decide_true, Bool.and_true, blt_dec, Nat.reduceLT, List.getElem?_cons_succ, List.getElem?_cons_zero, cond_true, panK_row, aop_len0, lenA_row, aop_bin, abin, isShift, kindBeq, aint, cond_false, panK_bool, ↓WO_nil, ↓thenK_norm, ↓WC_cond]
    refine condK_dec ?_ ?_ <;> intro h4 <;> simp (disch := omega) only [↓WC_skip, ↓thenK_norm, dect, get_cons', nat_ne, ↓reduceIte, f3, Nat.zero_add, AllK_one, panK_ptr, ↓WO_cons, aop_ld1, withS, AX.ev, ld1_ptr, g1, ldO_cells, ble_dec, Nat.le_refl, decide_true, Bool.and_true, blt_dec, Nat.reduceLT, List.getElem?_cons_succ, List.getElem?_cons_zero, cond_true, Fr.put, panK_row, aop_mv, f9, panK_int, aop_ixs, ixs_row, Int.toNat_natCast, Nat.mul_one, panK_fp, ld1_fp, ints_get, aop_bin, abin, isShift, kindBeq, aint, cond_false, panK_bool, ↓WO_unless, undefA, undK_bool, ↓WC_exit, ↓thenK_exit, ↓blkK_exit]
    · refine condK_dec ?_ ?_ <;> intro h5 <;> simp (disch := omega) only [↓WO_unless, dect, get_cons', nat_ne, ↓reduceIte, undefA, Fr.put, undK_bool, condK_true, ↓WO_cons, aop_pick, AX.ev, AllK_one, panK_bool, ↓WO_nil, ↓thenK_norm, ↓WC_cond, ↓WC_seq, ↓WC_reg, aop_mv, panK_int, ↓WC_ret, ↓blkK_ret, ↓thenK_ret, ↓endP_ret, resV, Option.map_some, Option.some.injEq, resOne, exists_eq_left', decf, aop_fad, f3, Nat.zero_add, panK_ptr, condK_false, aop_ld1, withS, ld1_ptr, g1, ldO_cells, ble_dec, Nat.le_refl, decide_true, Bool.and_true, blt_dec, Nat.reduceLT, List.getElem?_cons_succ, List.getElem?_cons_zero, cond_true, panK_row, f9, aop_ixs, ixs_row, Int.toNat_natCast, Nat.mul_one, panK_fp, ld1_fp, ints_get, f8, aop_bin, abin, isShift, kindBeq, aint, cond_false]
      · have := not_inB (xs := out) (k := o) (i := i) (by omega) (.inl h5)
        exact Frz.io (by rcases hor with h | h; exact absurd (he.1 h).2 this; exact h.symm)
      · refine condK_dec ?_ ?_ <;> intro h6 <;> simp (disch := omega) only [↓WC_seq, ↓WC_reg, ↓WO_cons, dect, decf, aop_mv, AX.ev, Fr.put, AllK_one, panK_int, ↓WO_nil, ↓thenK_norm, ↓WC_ret, ↓blkK_ret, ↓thenK_ret, ↓endP_ret, resV, get_cons', ↓reduceIte, Option.map_some, Option.some.injEq, resOne, exists_eq_left', ↓WC_skip, ↓blkK_norm, nat_ne, f9, aop_bin, withS, abin, isShift, kindBeq, aint, wrap64_id, cond_true, cond_false, f3, f4, f8, g1, and_true, true_and]
        · have := not_inB (xs := out) (k := o) (i := i) (by omega) (.inr h6)
          exact Frz.io (by rcases hor with h | h; exact absurd (he.1 h).2 this; exact h.symm)
        · exact ⟨m - 1, by omega, i + 1, by omega, inB_take_succ (by omega) hb h5 h6, rfl⟩
    · exact Frz.io (he.2 ⟨by omega, inB_all hb (by omega)⟩).symm
noncomputable def G11 : Giv := addG 121 (pureG tcheckS) (addG 91 (pureG tcheckS) (G10))
theorem G11_fine : Fine P G11 := ((G10_fine).pure tcheck_ok).pure qcheck_ok
end Go.Proofs.Ytednmmcdjhfflaa.Vai
