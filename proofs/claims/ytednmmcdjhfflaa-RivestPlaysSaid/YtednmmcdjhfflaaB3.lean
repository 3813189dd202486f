/- Where a word leads in a machine, what it says, as the reference goes. -/
import Derived.Test.YtednmmcdjhfflaaB2
namespace Go.Proofs.Ytednmmcdjhfflaa.Vai
open Go
set_option linter.unusedVariables false
set_option linter.unusedSimpArgs false
def stp (K : Int) (nx : List Int) (s x : Int) : Int := nx.getD (s * K + x).toNat 0
def goS (K : Int) (nx : List Int) (s : Int) (w : List Int) : Int := w.foldl (stp K nx) s
def goM (K : Int) (nx ot : List Int) : Int → List Int → List Int
  | _, [] => []
  | s, x :: w => ot.getD (s * K + x).toNat 0 :: goM K nx ot (stp K nx s x) w
def goO (k K : Int) (nx ot : List Int) (s : Int) (w : List Int) : List Int := if k = 1 then [ot.getD (goS K nx s w).toNat 0] else goM K nx ot s w
theorem goS_snoc (K : Int) (nx : List Int) (s : Int) (w : List Int) (x : Int) : goS K nx s (w ++ [x]) = stp K nx (goS K nx s w) x := by simp [goS]
theorem goM_snoc (K : Int) (nx ot : List Int) : ∀ (w : List Int) (s x : Int), goM K nx ot s (w ++ [x]) = goM K nx ot s w ++ [ot.getD (goS K nx s w * K + x).toNat 0]
  | [], s, x => rfl
  | y :: w, s, x => by
    show _ :: goM K nx ot (stp K nx s y) (w ++ [x]) = _
    rw [goM_snoc K nx ot w]
    rfl
theorem goM_len (K : Int) (nx ot : List Int) : ∀ (w : List Int) (s : Int), (goM K nx ot s w).length = w.length
  | [], s => rfl
  | y :: w, s => by show (goM K nx ot _ w).length + 1 = _; rw [goM_len K nx ot w]; rfl
structure Rm (k K o n : Int) (nx ot : List Int) : Prop where
  kk : k = 1 ∨ k = 2
  K1 : 1 ≤ K
  K2 : K ≤ 64
  o1 : 1 ≤ o
  o2 : o ≤ 64
  o3 : k = 1 → o = 2
  n1 : 1 ≤ n
  n2 : n ≤ 1024
  lnx : (nx.length : Int) = n * K
  lot : (ot.length : Int) = if k = 2 then n * K else n
  inx : InB nx n
  iot : InB ot o
theorem machE_zero {k K o n : Int} {nx ot : List Int} : machE k K o n nx ot = 0 ↔ Rm k K o n nx ot := by
  unfold machE
  constructor
  · intro h
    split at h
    · omega
    split at h
    · omega
    split at h
    · omega
    split at h
    · omega
    generalize hq : (if k = 2 then n * K else n) = q at h
    split at h
    · omega
    split at h
    · omega
    split at h
    · omega
    rename_i h1 h2 h3 h4 h5 h6 h7
    exact ⟨by omega, by omega, by omega, by omega, by omega, by omega, by omega, by omega, by omega, by rw [hq]; omega, Decidable.not_not.mp h6, Decidable.not_not.mp h7⟩
  · intro h
    obtain ⟨h1, h2, h3, h4, h5, h6, h7, h8, h9, h10, h11, h12⟩ := h
    generalize (if k = 2 then n * K else n) = q at *
    rw [if_neg (by omega), if_neg (by omega), if_neg (by omega), if_neg (by omega), if_neg (by omega), if_neg (fun h => h h11), if_neg (fun h => h h12)]
theorem getD_inB {xs : List Int} {k : Int} (h : InB xs k) {i : Nat} (hi : i < xs.length) : 0 ≤ xs.getD i 0 ∧ xs.getD i 0 < k := by
  rw [List.getD_eq_getElem?_getD, List.getElem?_eq_getElem hi]
  exact h _ (List.getElem_mem hi)
theorem Rm.place {k K o n : Int} {nx ot : List Int} (hm : Rm k K o n nx ot) {s x : Int} (h0 : 0 ≤ s) (h1 : s < n) (h2 : 0 ≤ x) (h3 : x < K) : 0 ≤ s * K ∧ 0 ≤ s * K + x ∧ s * K + x < nx.length ∧ nx.length ≤ 65536 ∧ (k = 2 → ot.length = nx.length) ∧ (k = 1 → (ot.length : Int) = n) := by
  have hK := hm.K1; have hK2 := hm.K2; have hn2 := hm.n2; have hn1 := hm.n1
  have hb := mul_bd (a := s) (b := K) (A := n - 1) (B := K) h0 (by omega) (by omega) (Int.le_refl _)
  have hb2 := mul_bd (a := n) (b := K) (A := 1024) (B := 64) (by omega) (by omega) (by omega) (by omega)
  have e : (n - 1) * K = n * K - K := by rw [Int.sub_mul, Int.one_mul]
  have hn := hm.lnx
  have ho := hm.lot
  refine ⟨hb.1, by omega, by omega, by omega, fun hk => ?_, fun hk => ?_⟩
  · rw [if_pos hk] at ho; omega
  · rw [if_neg (by omega)] at ho; omega
theorem stp_bd {k K o n : Int} {nx ot : List Int} (hm : Rm k K o n nx ot) {s x : Int} (h0 : 0 ≤ s) (h1 : s < n) (h2 : 0 ≤ x) (h3 : x < K) : 0 ≤ stp K nx s x ∧ stp K nx s x < n := by
  obtain ⟨_, p1, p2, _⟩ := hm.place h0 h1 h2 h3
  exact getD_inB hm.inx (by omega)
theorem goS_bd {k K o n : Int} {nx ot : List Int} (hm : Rm k K o n nx ot) : ∀ (w : List Int) (s : Int), 0 ≤ s → s < n → InB w K → 0 ≤ goS K nx s w ∧ goS K nx s w < n
  | [], s, h0, h1, _ => ⟨h0, h1⟩
  | x :: w, s, h0, h1, hw => by
    have hx := hw x List.mem_cons_self
    obtain ⟨q1, q2⟩ := stp_bd hm h0 h1 hx.1 hx.2
    exact goS_bd hm w _ q1 q2 fun y hy => hw y (List.mem_cons_of_mem _ hy)
theorem goO_len (k K : Int) (nx ot : List Int) (s : Int) (w : List Int) : (goO k K nx ot s w).length = if k = 1 then 1 else w.length := by
  unfold goO
  split
  · rfl
  · exact goM_len _ _ _ _ _
abbrev Mach.R (m : Mach) : Prop := Rm m.kind m.K m.O m.N m.nx m.ot
abbrev Mach.go (m : Mach) (s : Int) (w : List Int) : Int := goS m.K m.nx s w
abbrev Mach.out (m : Mach) (s : Int) (w : List Int) : List Int := goO m.kind m.K m.nx m.ot s w
theorem InB.take {xs : List Int} {k : Int} (h : InB xs k) (i : Nat) : InB (xs.take i) k := fun x hx => h x (List.mem_of_mem_take hx)
theorem InB.drop {xs : List Int} {k : Int} (h : InB xs k) (i : Nat) : InB (xs.drop i) k := fun x hx => h x (List.mem_of_mem_drop hx)
theorem InB.app {xs ys : List Int} {k : Int} (h : InB xs k) (g : InB ys k) : InB (xs ++ ys) k := fun x hx => (List.mem_append.1 hx).elim (h x) (g x)
theorem Frz.it {z : Nat} {S : AS} {a : AV} {k : IntKind} {e : Int} {r : AV} (h : Frz z S a r) : Frz z S (.tup [.int k e, a]) (.tup [.int k e, r]) := Frz.tup ⟨Frz.scal rfl, h, trivial⟩
theorem Frz.tb {z : Nat} {S : AS} {a : AV} {b : Bool} {r : AV} (h : Frz z S a r) : Frz z S (.tup [a, .bool b]) (.tup [r, .bool b]) := Frz.tup ⟨h, Frz.scal rfl, trivial⟩
theorem Frz.iti {z : Nat} {S : AS} {a : AV} {k k' : IntKind} {e e' : Int} {r : AV} (h : Frz z S a r) : Frz z S (.tup [.int k e, a, .int k' e']) (.tup [.int k e, r, .int k' e']) := Frz.tup ⟨Frz.scal rfl, h, Frz.scal rfl, trivial⟩
theorem scal_rowI {z : Nat} {xs : List Int} : AV.scalar (rowI z xs) = true := scal_ints
noncomputable def goSp := sp3 (cMa 0) cIn (cRo 0) fun m s w => gd (m.R ∧ InB w m.K ∧ 0 ≤ s ∧ s < m.N ∧ w.length ≤ 1000000000000) (.tup [.int .i64 (m.go s w), rowI 1 (m.out s w)])
set_option maxHeartbeats 4000000 in
theorem go_ok : PureS P 41 goSp := PureS.of3 fun mm s w r hr => by
  obtain ⟨⟨hm, hw, h0, h1, hl⟩, rfl⟩ := gd_say hr
  obtain ⟨k, K, o, n, nx, ot⟩ := mm
  refine ⟨pure_run orders G3_fine (L := w.length + 1) (d := 1) fn41 rfl ?_, ?_⟩
  rotate_left
  · simp only [AV.inz, AV.inzL, inz_ints, Bool.and_true, ble_dec]; rfl
  simp (disch := omega) only [↓e41, a41, params, en_M, Nat.zero_add, en_I, Nat.reduceAdd, en_R, ↓e41_1, a41_1, ↓e41_2, a41_2, ↓e41_9, a41_9, ↓WC_seq, ↓WC_reg, ↓WO_cons, aop_mv, AX.ev, Fr.put, AllK_one, aop_fad, Nat.add_zero, panK_int, ↓WO_nil, ↓thenK_norm, ↓e41_3, a41_3, ↓WC_block, ↓WC_loop, Fr.keep, get_cons', nat_ne, ↓reduceIte, panK_nils, aop_box, cells_agg, E0_n, List.length_cons, List.length_nil, AS.newRow, panK_ptr]
  change Rm k K o n nx ot at hm
  simp only at hw h1
  have hkk := hm.kk
  refine loop_all (fun m F S => ∃ (i : Nat) (out : AV), i + m = w.length ∧ F.get 1 = .int .i64 (goS K nx s (w.take i)) ∧ F.get 2 = rowI 0 w ∧ F.get 3 = .ptr 0 0 0 6 ∧ F.get 8 = out ∧ F.get 9 = .int .i64 i ∧ S.get 0 = some (.cells (mcells k K o n (rowI 0 nx) (rowI 0 ot)) 6 0 0 false false) ∧ GwI S 1 out (if k = 2 then goM K nx ot s (w.take i) else []) ∧ Wf S ∧ 1 ≤ S.n) ?_
    ⟨0, .nils, Nat.zero_add _, rfl, rfl, rfl, rfl, rfl, rfl, by split <;> exact Gw.nils, Wf.E0.push _, Nat.le_refl _⟩ (by omega)
  rintro m F S ⟨i, out, hi, f1, f2, f3, f8, f9, hbox, hout, hS, hn⟩
  simp (disch := omega) only [↓e41_4, a41_4, ↓e41_5, a41_5, ↓WC_reg, ↓WO_cons, aop_mv, AX.ev, Fr.keep, Fr.put, AllK_one, get_cons', nat_ne, ↓reduceIte, ↓WC_block, ↓WC_seq, aop_fad, Nat.add_zero, f9, panK_int, f2, panK_row, aop_len0, withS, lenA_row, aop_bin, abin, isShift, kindBeq, aint, cond_true, cond_false, panK_bool, ↓WO_nil, ↓thenK_norm, ↓WC_cond]
  refine condK_dec ?_ ?_ <;> intro h4 <;> simp (disch := omega) only [↓WC_skip, ↓thenK_norm, dect, get_cons', nat_ne, ↓reduceIte, f3, AllK_one, panK_ptr, ↓WO_cons, aop_ld1, withS, AX.ev, ld1_ptr, hbox, ldO_cells, ble_dec, Nat.le_refl, decide_true, Bool.and_true, blt_dec, Nat.reduceLT, List.getElem?_cons_zero, cond_true, Fr.put, panK_int, aop_bin, abin, isShift, kindBeq, aint, ieq_dec, cond_false, panK_bool, ↓WO_nil, ↓e41_6, a41_6, ↓e41_8, a41_8, ↓WC_draw, ↓WD_cons, Fr.keep, aop_fad, sik, AOp.acts, AOp.reads, List.all_nil, Nat.reduceAdd, ↓WC_cond, ↓WC_exit, ↓thenK_exit, ↓blkK_exit, decf, ↓e41_10, a41_10]
  · have hi2 : i < w.length := by omega
    obtain ⟨c1, c2⟩ := getD_inB hw hi2
    obtain ⟨q1, q2⟩ := goS_bd hm (w.take i) s h0 h1 (hw.take i)
    have eS : goS K nx s (w.take (i + 1)) = stp K nx (goS K nx s (w.take i)) (w.getD i 0) := by rw [take_snoc hi2, goS_snoc]
    have eM : goM K nx ot s (w.take (i + 1)) = goM K nx ot s (w.take i) ++ [ot.getD (goS K nx s (w.take i) * K + w.getD i 0).toNat 0] := by rw [take_snoc hi2, goM_snoc]
    have hlM : (goM K nx ot s (w.take i)).length ≤ 1000000000000 := by rw [goM_len, List.length_take]; omega
    generalize goS K nx s (w.take i) = sI at *
    generalize hxI : w.getD i 0 = xI at *
    obtain ⟨p0, p1, p2, p3, p4, p5⟩ := hm.place q1 q2 c1 c2
    refine condK_dec ?_ ?_ <;> intro h5
    · rw [if_pos h5] at hout
      have := p4 h5
      obtain ⟨out', S2, qa, oa, ka⟩ := GwI.app1 hout hS hn (ot.getD (sI * K + xI).toNat 0) hlM
      have hb2 : S2.get 0 = some (.cells (mcells k K o n (rowI 0 nx) (rowI 0 ot)) 6 0 0 false false) := by rw [ka.get 0 (by omega)]; exact hbox
      simp (disch := omega) only [↓e41_7, a41_7, dect, ↓WC_draw, ↓WD_cons, Fr.keep, get_cons', nat_ne, ↓reduceIte, f8, aop_mv, AX.ev, sik, AOp.acts, AOp.reads, cond_false, List.all_nil, Nat.reduceAdd, Fr.put, One_one, hout.np, chkK_true, f3, aop_fad, Nat.zero_add, List.all_cons, np_ptr, dchk_11, Bool.and_true, aop_ld1, withS, ld1_ptr, hbox, ldO_cells, ble_dec, Nat.le_refl, decide_true, blt_dec, Nat.reduceLT, List.getElem?_cons_succ, List.getElem?_cons_zero, cond_true, np_row, dchk_21, f1, np_int, dchk_12, dchk_22, aop_bin, abin, isShift, kindBeq, aint, wrap64_id, f2, f9, aop_ixs, ixs_row, Int.toNat_natCast, Nat.mul_one, np_fp, ld1_fp, ints_get, hxI, aop_bslice, fillL, cells_int, List.length_cons, List.length_nil, beq_dec, setL, consS_eq, AS.newRow, np_slice, dchk_32, List.contains_cons, beq_self_eq_true, Nat.reduceBEq, List.contains_nil, Bool.or_false, same_eq, isSame_one, AV.beq, intBeq_self, Bool.or_true, dchk_31, AS.get_push, beqL_ints, aop_app, qa, ofO_some, oa.np, dchk_33, hb2, dchk_13, ↓WD_nil, ↓thenK_norm, ↓blkK_norm, panK_int, ↓WO_cons, AllK_one, ↓WO_nil, true_and]
      exact ⟨m - 1, by omega, i + 1, _, by omega, by rw [eS]; rfl, rfl, rfl, by rw [if_pos h5, eM]; exact oa, ka.wf, ka.n⟩
    · simp (disch := omega) only [↓WC_skip, ↓thenK_norm, decf, get_cons', nat_ne, ↓reduceIte, f3, Nat.zero_add, One_one, np_ptr, chkK_true, ↓WD_cons, Fr.keep, aop_ld1, withS, AX.ev, ld1_ptr, hbox, ldO_cells, ble_dec, Nat.le_refl, decide_true, Bool.and_true, blt_dec, Nat.reduceLT, List.getElem?_cons_succ, List.getElem?_cons_zero, cond_true, sik, AOp.acts, AOp.reads, cond_false, List.all_cons, List.all_nil, Nat.reduceAdd, Fr.put, np_row, dchk_21, f1, aop_mv, np_int, dchk_12, dchk_11, aop_fad, dchk_22, aop_bin, abin, isShift, kindBeq, aint, wrap64_id, f2, f9, aop_ixs, ixs_row, Int.toNat_natCast, Nat.mul_one, np_fp, ld1_fp, ints_get, hxI, ↓WD_nil, ↓blkK_norm, panK_int, ↓WO_cons, AllK_one, ↓WO_nil, f8, true_and]
      exact ⟨m - 1, by omega, i + 1, _, by omega, by rw [eS]; rfl, rfl, rfl, by rw [if_neg h5] at hout ⊢; exact hout, hS, hn⟩
  · have e1 : i = w.length := by omega
    rw [e1, List.take_length] at hout
    obtain ⟨q1, q2⟩ := goS_bd hm w s h0 h1 hw
    rw [e1, List.take_length] at f1
    refine condK_dec ?_ ?_ <;> intro h5
    · have hol := hm.lot
      rw [if_neg (by omega)] at hol
      simp (disch := omega) only [↓WC_reg, ↓WO_cons, dect, aop_fad, AX.ev, get_cons', nat_ne, ↓reduceIte, f3, Nat.zero_add, Fr.put, AllK_one, panK_ptr, aop_ld1, withS, ld1_ptr, hbox, ldO_cells, ble_dec, Nat.le_refl, decide_true, Bool.and_true, blt_dec, Nat.reduceLT, List.getElem?_cons_succ, List.getElem?_cons_zero, cond_true, panK_row, aop_mv, f1, panK_int, aop_ixs, ixs_row, Nat.mul_one, panK_fp, ld1_fp, ints_get, aop_bslice, fillL, cells_int, List.length_cons, List.length_nil, beq_dec, setL, consS_eq, AS.newRow, panK_slice, ↓WO_nil, ↓thenK_norm, ↓WC_ret, ↓endP_ret, resV, Option.map_some, Option.some.injEq, resOne, exists_eq_left']
      have hg : GwI (S.push (.cells [.int .i64 (ot.getD (goS K nx s w).toNat 0)] 1 0 0 false false)) 1 (.slice S.n 0 0 1 none 1) (goO k K nx ot s w) := by
        unfold goO; rw [if_pos h5]; exact Gw.new hn _ 1 1 false rfl
      exact Frz.it hg.frz
    · simp (disch := omega) only [↓WC_skip, ↓thenK_norm, decf, get_cons', nat_ne, ↓reduceIte, f1, panK_int, ↓WO_cons, aop_mv, AX.ev, f8, Fr.put, AllK_one, hout.pan, ↓WO_nil, ↓WC_ret, ↓endP_ret, resV, Option.map_some, Option.some.injEq, resOne, exists_eq_left']
      rw [if_pos (by omega)] at hout
      have : goM K nx ot s w = goO k K nx ot s w := by unfold goO; rw [if_neg h5]
      rw [this] at hout
      exact Frz.it hout.frz
end Go.Proofs.Ytednmmcdjhfflaa.Vai
