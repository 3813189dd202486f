/- Machines, as the program goes through them. -/
import Derived.Test.YtednmmcdjhfflaaB6
namespace Go.Proofs.Ytednmmcdjhfflaa.Vai
open Go
set_option linter.unusedVariables false
set_option linter.unusedSimpArgs false
noncomputable def G13 : Giv := addG 150 (pureG headS) (G12)
theorem G13_fine : Fine P G13 := (G12_fine).pure head_ok
theorem G13_150 : G13 150 = some (pureG headS) := rfl
theorem G13_151 : G13 151 = some (pureG bynS) := rfl
noncomputable def pcheckS := sp1 (cMa 0) fun m => gd (InR m.nx ∧ InR m.ot) (.tup [.any, .int .i64 (machE m.kind m.K m.O m.N m.nx m.ot)])
theorem pcheck_ok : PureS P 109 pcheckS := PureS.of1 fun m r hr => by
  obtain ⟨⟨hx, ho⟩, rfl⟩ := gd_say hr
  obtain ⟨k, K, o, n, nx, ot⟩ := m
  refine ⟨pure_run orders G13_fine (L := 1) (d := 1) fn109 rfl ?_, rfl⟩
  simp only at hx ho
  simp (disch := omega) only [↓e109, a109, params, en_M, ↓e109_1, a109_1, ↓e109_3, a109_3, ↓e109_5, a109_5, ↓WC_seq, ↓WC_reg, ↓WO_cons, aop_mv, AX.ev, Fr.put, AllK_one, panK_int, ↓WO_nil, ↓thenK_norm, ↓WC_ret, ↓endP_ret, resV, get_cons', nat_ne, ↓reduceIte, Option.map_some, Option.some.injEq, resOne, machE_head, exists_eq_left', aop_fad, aop_ldn, withS, aop_box, cells_agg, E0_n, List.length_cons, List.length_nil, Nat.zero_add, Nat.reduceAdd, AS.newRow, panK_ptr, ldn_ptr, AS.get_push, ldlO_cells, ble_dec, Nat.le_refl, decide_true, Bool.and_true, List.drop_zero, List.take_succ_cons, List.take_zero, cond_true, panK_agg, aop_call, AX.evs, call_giv1 G13_150, headS, pureG_eq, AV.scalL, AV.scalar, scal_ints, sp1, de_Me, de_R0, Option.bind_some, spK_some, ↓e109_2, a109_2, ↓WC_cond, aop_bin, abin, isShift, kindBeq, aint, ine_dec, cond_false, panK_bool, condK_not]
  by_cases hh : headE k K o n nx ot = 0
  rotate_left
  · simp (disch := omega) only [hh, decide_false, condK_false, ↓WC_seq, ↓WC_reg, ↓WO_cons, Bool.not_false, aop_mv, AX.ev, get_cons', nat_ne, ↓reduceIte, Fr.put, AllK_one, panK_int, ↓WO_nil, ↓thenK_norm, ↓WC_ret, ↓thenK_ret, ↓endP_ret, resV, Option.map_some, Option.some.injEq, resOne, exists_eq_left']
    exact Frz.te (by rw [if_pos hh])
  · rw [if_neg (fun h => h hh)]
    have hb : 1 ≤ n ∧ n ≤ 1024 ∧ 1 ≤ K ∧ K ≤ 64 ∧ 1 ≤ o ∧ o ≤ 64 ∧ (nx.length : Int) = n * K ∧ (ot.length : Int) = (if k = 2 then n * K else n) := by
      unfold headE at hh
      split at hh
      · omega
      split at hh
      · omega
      split at hh
      · omega
      split at hh
      · omega
      split at hh
      · omega
      rename_i h1 h2 h3 h4 h5
      exact ⟨by omega, by omega, by omega, by omega, by omega, by omega, by omega, by omega⟩
    obtain ⟨b1, b2, b3, b4, b5, b6, b7, b8⟩ := hb
    have hm := mul_bd (a := n) (b := K) (A := 1024) (B := 64) (by omega) (by omega) (by omega) (by omega)
    have g1 : nx.length ≤ 1000000000000 ∧ InR nx ∧ 0 ≤ n ∧ n ≤ 9223372036854775807 := ⟨by omega, hx, by omega, by omega⟩
    have g2 : ot.length ≤ 1000000000000 ∧ InR ot ∧ 0 ≤ o ∧ o ≤ 9223372036854775807 := ⟨by split at b8 <;> omega, ho, by omega, by omega⟩
    simp (disch := omega) only [hh, decide_true, condK_true, ↓WC_skip, ↓thenK_norm, Bool.not_true, get_cons', nat_ne, ↓reduceIte, Nat.zero_add, AllK_one, panK_ptr, ↓WO_cons, aop_ld1, withS, AX.ev, ld1_ptr, AS.get_push, E0_n, ldO_cells, ble_dec, Nat.le_refl, Bool.and_true, blt_dec, Nat.reduceLT, List.getElem?_cons_succ, List.getElem?_cons_zero, cond_true, Fr.put, panK_row, aop_fad, panK_int, aop_call, AX.evs, call_giv1 G13_151, bynS, pureG_eq, AV.scalL, AV.scalar, scal_ints, sp2, de_R0, de_I, Option.bind_some, gd_pos g1, spK_some, aop_mv, ↓WO_nil, ↓e109_4, a109_4, ↓WC_cond, ↓WC_reg, aop_bin, abin, isShift, kindBeq, aint, cond_false, panK_bool]
    have e1 := fidx_ge (xs := nx) (k := n)
    have e2 := fidx_ge (xs := ot) (k := o)
    refine condK_dec ?_ ?_ <;> intro h1 <;> simp (disch := omega) only [↓WC_seq, ↓WC_reg, ↓WO_cons, dect, aop_mv, AX.ev, get_cons', nat_ne, ↓reduceIte, Fr.put, AllK_one, panK_int, ↓WO_nil, ↓thenK_norm, ↓WC_ret, ↓thenK_ret, ↓endP_ret, resV, Option.map_some, Option.some.injEq, resOne, exists_eq_left', ↓WC_skip, decf, Nat.zero_add, panK_ptr, aop_ld1, withS, ld1_ptr, AS.get_push, E0_n, ldO_cells, ble_dec, Nat.le_refl, decide_true, Bool.and_true, blt_dec, Nat.reduceLT, List.getElem?_cons_succ, List.getElem?_cons_zero, cond_true, panK_row, aop_fad, aop_call, AX.evs, call_giv1 G13_151, bynS, pureG_eq, AV.scalL, AV.scalar, scal_ints, sp2, de_R0, de_I, Option.bind_some, gd_pos g2, spK_some, ↓e109_6, a109_6, ↓WC_cond, aop_bin, abin, isShift, kindBeq, aint, cond_false, panK_bool]
    · exact Frz.te (by rw [if_pos (e1.1 h1)])
    · refine condK_dec ?_ ?_ <;> intro h2 <;> simp (disch := omega) only [↓WC_seq, ↓WC_reg, ↓WO_cons, dect, aop_mv, AX.ev, get_cons', nat_ne, ↓reduceIte, Fr.put, AllK_one, panK_int, ↓WO_nil, ↓thenK_norm, ↓WC_ret, ↓thenK_ret, ↓endP_ret, resV, Option.map_some, Option.some.injEq, resOne, exists_eq_left', ↓WC_skip]
      · exact Frz.te (by rw [if_neg (fun h => h1 (e1.2 h)), if_pos (e2.1 h2)])
      · exact Frz.te (by rw [if_neg (fun h => h1 (e1.2 h)), if_neg (fun h => h2 (e2.2 h))])
noncomputable def G14 : Giv := addG 109 (pureG pcheckS) (G13)
theorem G14_fine : Fine P G14 := (G13_fine).pure pcheck_ok
theorem G14_109 : G14 109 = some (pureG pcheckS) := rfl
theorem G14_89 : G14 89 = some (pureG wcheckS) := rfl
noncomputable def pfromS := sp3 (cMa 0) cIn (cRo 0) fun m s w => gd (InR m.nx ∧ InR m.ot ∧ machE m.kind m.K m.O m.N m.nx m.ot = 0 ∧ 0 ≤ s ∧ s < m.N) (if wordE w m.K = 0 then .tup [.int .i64 (m.go s w), rowI 1 (m.out s w), .int .i64 0] else .tup [.int .i64 0, rowI 1 [], .int .i64 (wordE w m.K)])
set_option maxHeartbeats 4000000 in
theorem pfrom_ok : PureS P 152 pfromS := PureS.of3 fun mm s w r hr => by
  obtain ⟨⟨hx, ho, hE, h0, h1⟩, rfl⟩ := gd_say hr
  obtain ⟨k, K, o, n, nx, ot⟩ := mm
  refine ⟨pure_run orders G14_fine (L := 5000) (d := 1) fn152 rfl ?_, ?_⟩
  rotate_left
  · split <;> simp only [AV.inz, AV.inzL, inz_ints, Bool.and_true, ble_dec] <;> rfl
  simp only at hx ho hE h0 h1
  have hm := machE_zero.mp hE
  have hkk := hm.kk
  have g1 : InR nx ∧ InR ot := ⟨hx, ho⟩
  simp (disch := omega) only [↓e152, a152, params, en_M, Nat.zero_add, en_I, Nat.reduceAdd, en_R, ↓e152_1, a152_1, ↓e152_4, a152_4, ↓e152_5, a152_5, ↓e152_8, a152_8, ↓e152_18, a152_18, ↓e152_20, a152_20, ↓WC_ret, ↓endP_ret, resV, Option.map_some, Option.some.injEq, resOne, exists_eq_left', ↓WC_reg, ↓WO_cons, aop_mv, AX.ev, Fr.put, AllK_one, ↓WC_seq, aop_fad, Nat.add_zero, aop_ldn, withS, aop_box, get_cons', ↓reduceIte, cells_agg, E0_n, List.length_cons, List.length_nil, AS.newRow, panK_ptr, panK_int, panK_nils, ↓WO_nil, ↓thenK_norm, nat_ne, ldn_ptr, AS.get_push, ldlO_cells, ble_dec, Nat.le_refl, decide_true, Bool.and_true, List.drop_zero, List.take_succ_cons, List.take_zero, cond_true, panK_agg, aop_call, AX.evs, call_giv1 G14_109, pcheckS, pureG_eq, AV.scalL, AV.scalar, scal_ints, sp1, de_Me, de_R0, Option.bind_some, hE, gd_pos g1, spK_some, panK_tup, aop_xt, List.getElem?_cons_zero, panK_any, List.getElem?_cons_succ, ↓e152_2, a152_2, ↓e152_3, a152_3, ↓WC_cond, aop_bin, abin, isShift, kindBeq, aint, ine_dec, Bool.not_true, cond_false, panK_bool, condK_false, ↓WC_skip, decf, ↓WO_unless, undefA, undK_bool, aop_ld1, ld1_ptr, ldO_cells, blt_dec, Nat.reduceLT, aop_pick, panK_row, call_giv1 G14_89, wcheckS, sp2, de_I, ↓e152_6, a152_6, ↓e152_7, a152_7, condK_not]
  by_cases hw0 : wordE w K = 0
  rotate_left
  · simp (disch := omega) only [hw0, decide_false, condK_false, ↓WC_seq, ↓WC_reg, ↓WO_cons, Bool.not_false, aop_mv, AX.ev, get_cons', nat_ne, ↓reduceIte, Fr.put, AllK_one, panK_int, panK_nils, ↓WO_nil, ↓thenK_norm, ↓WC_ret, ↓thenK_ret, ↓endP_ret, resV, Option.map_some, Option.some.injEq, resOne, exists_eq_left']
    exact Frz.iti (Frz.nils 1 1)
  rw [if_pos hw0]
  obtain ⟨_, hw, hl⟩ := wordE_zero.mp hw0
  simp (disch := omega) only [hw0, decide_true, condK_true, ↓WC_skip, ↓thenK_norm, Bool.not_true, get_cons', nat_ne, ↓reduceIte, panK_row, ↓WO_cons, aop_len0, withS, AX.ev, lenA_row, Fr.put, AllK_one, panK_int, aop_mv, ↓WO_nil, ↓e152_9, a152_9, ↓WC_block, ↓WC_loop, Fr.keep]
  refine loop_all (fun m F S => ∃ (i : Nat) (out : AV), i + m = w.length ∧ F.get 1 = .int .i64 (goS K nx s (w.take i)) ∧ F.get 3 = .ptr 0 0 0 6 ∧ F.get 7 = out ∧ F.get 42 = rowI 0 w ∧ F.get 43 = .int .i64 w.length ∧ F.get 44 = .int .i64 i ∧ S.get 0 = some (.cells (mcells k K o n (rowI 0 nx) (rowI 0 ot)) 6 0 0 false false) ∧ GwI S 1 out (if k = 2 then goM K nx ot s (w.take i) else []) ∧ Wf S ∧ 1 ≤ S.n) ?_
    ⟨0, .nils, Nat.zero_add _, rfl, rfl, rfl, rfl, rfl, rfl, by simp (disch := omega) only [AS.get_push, E0_n, ↓reduceIte], by split <;> exact Gw.nils, Wf.E0.push _, Nat.le_refl _⟩ (by omega)
  rintro m F S ⟨i, out, hi, f1, f3, f7, f42, f43, f44, hbox, hout, hS, hn⟩
  simp (disch := omega) only [↓e152_10, a152_10, ↓e152_11, a152_11, ↓e152_12, a152_12, ↓WC_reg, ↓WO_cons, aop_bin, withS, abin, AX.ev, isShift, kindBeq, aint, cond_false, ble_dec, Fr.keep, Fr.put, get_cons', nat_ne, ↓reduceIte, ↓WC_block, ↓WC_seq, aop_ixs, ↓WC_cond, f44, f43, cond_true, AllK_one, panK_bool, ↓WO_nil, ↓thenK_norm]
  refine condK_dec ?_ ?_ <;> intro h4
  · have hi2 : i < w.length := by omega
    obtain ⟨c1, c2⟩ := getD_inB hw hi2
    obtain ⟨q1, q2⟩ := goS_bd hm (w.take i) s h0 h1 (hw.take i)
    have eS : goS K nx s (w.take (i + 1)) = stp K nx (goS K nx s (w.take i)) (w.getD i 0) := by rw [take_snoc hi2, goS_snoc]
    have eM : goM K nx ot s (w.take (i + 1)) = goM K nx ot s (w.take i) ++ [ot.getD (goS K nx s (w.take i) * K + w.getD i 0).toNat 0] := by rw [take_snoc hi2, goM_snoc]
    have hlM : (goM K nx ot s (w.take i)).length ≤ 1000000000000 := by rw [goM_len, List.length_take]; omega
    generalize goS K nx s (w.take i) = sI at *
    generalize hxI : w.getD i 0 = xI at *
    obtain ⟨p0, p1, p2, p3, p4, p5⟩ := hm.place q1 q2 c1 c2
    simp (disch := omega) only [↓WC_skip, ↓thenK_norm, dect, get_cons', nat_ne, ↓reduceIte, f42, f44, ixs_row, Int.toNat_natCast, Nat.mul_one, AllK_one, panK_fp, ↓WO_cons, aop_ld1, withS, AX.ev, ld1_fp, ints_get, hxI, Fr.put, panK_int, aop_mv, ↓WO_nil, ↓e152_13, a152_13, ↓e152_14, a152_14, ↓e152_17, a152_17, ↓WC_reg, aop_fad, ↓WC_seq, Nat.add_zero, f1, f3, Nat.zero_add, panK_ptr, ld1_ptr, hbox, ldO_cells, ble_dec, Nat.le_refl, decide_true, Bool.and_true, blt_dec, Nat.reduceLT, List.getElem?_cons_succ, List.getElem?_cons_zero, cond_true, aop_bin, abin, isShift, kindBeq, aint, wrap64_id, cond_false, ieq_dec, panK_bool, ↓e152_15, a152_15, ↓WC_cond]
    refine condK_dec ?_ ?_ <;> intro h5
    · rw [if_pos h5] at hout
      have := p4 h5
      simp (disch := omega) only [↓e152_16, a152_16, dect, ↓WC_reg, ↓WO_cons, aop_mv, AX.ev, get_cons', nat_ne, ↓reduceIte, f7, Fr.put, AllK_one, hout.pan, aop_fad, f3, Nat.zero_add, panK_ptr, aop_ld1, withS, ld1_ptr, hbox, ldO_cells, ble_dec, Nat.le_refl, decide_true, Bool.and_true, blt_dec, Nat.reduceLT, List.getElem?_cons_succ, List.getElem?_cons_zero, cond_true, panK_row, panK_int, aop_ixs, ixs_row, Nat.mul_one, panK_fp, ld1_fp, ints_get, aop_bslice, fillL, cells_int, List.length_cons, List.length_nil, beq_dec, setL, consS_eq, AS.newRow, panK_slice, aop_app]
      refine AllK.app1 (lo := 1) (n := (goM K nx ot s (w.take i)).length) (cs := ints (goM K nx ot s (w.take i))) hout fun out' S2 oa ka => ?_
      have hb2 : S2.get 0 = some (.cells (mcells k K o n (rowI 0 nx) (rowI 0 ot)) 6 0 0 false false) := by rw [ka.get 0 (by omega)]; exact hbox
      simp (disch := omega) only [oa.pan, ↓WO_cons, aop_mv, AX.ev, get_cons', ↓reduceIte, Fr.put, AllK_one, ↓WO_nil, ↓thenK_norm, nat_ne, f3, Nat.zero_add, panK_ptr, aop_ld1, withS, ld1_ptr, hb2, ldO_cells, ble_dec, Nat.le_refl, decide_true, Bool.and_true, blt_dec, Nat.reduceLT, List.getElem?_cons_succ, List.getElem?_cons_zero, cond_true, panK_row, panK_int, aop_ixs, ixs_row, Nat.mul_one, panK_fp, ld1_fp, ints_get, ↓blkK_norm, f44, wrap64_id, f42, f43, true_and]
      refine ⟨m - 1, by omega, i + 1, _, by omega, by rw [eS]; rfl, rfl, rfl, ?_, ka.wf, ka.n⟩
      rw [if_pos h5, eM]
      show Gw S2 1 1 out' (goM K nx ot s (w.take i) ++ [_]).length (ints (goM K nx ot s (w.take i) ++ [_]))
      rw [List.length_append, ← ints_snoc]
      exact oa
    · simp (disch := omega) only [↓WC_skip, ↓thenK_norm, decf, get_cons', nat_ne, ↓reduceIte, f3, Nat.zero_add, AllK_one, panK_ptr, ↓WO_cons, aop_ld1, withS, AX.ev, ld1_ptr, hbox, ldO_cells, ble_dec, Nat.le_refl, decide_true, Bool.and_true, blt_dec, Nat.reduceLT, List.getElem?_cons_succ, List.getElem?_cons_zero, cond_true, Fr.put, panK_row, aop_mv, panK_int, aop_ixs, ixs_row, Nat.mul_one, panK_fp, ld1_fp, ints_get, ↓WO_nil, ↓blkK_norm, f44, wrap64_id, f7, f42, f43, true_and]
      exact ⟨m - 1, by omega, i + 1, _, by omega, by rw [eS]; rfl, rfl, rfl, by rw [if_neg h5] at hout ⊢; exact hout, hS, hn⟩
  · have e1 : i = w.length := by omega
    rw [e1, List.take_length] at hout f1
    obtain ⟨q1, q2⟩ := goS_bd hm w s h0 h1 hw
    simp (disch := omega) only [↓WC_exit, ↓thenK_exit, ↓blkK_exit, ↓reduceIte, ↓thenK_norm, decf, get_cons', nat_ne, f3, AllK_one, panK_ptr, ↓WO_cons, aop_ld1, withS, AX.ev, ld1_ptr, hbox, ldO_cells, ble_dec, Nat.le_refl, decide_true, Bool.and_true, blt_dec, Nat.reduceLT, List.getElem?_cons_zero, cond_true, Fr.put, panK_int, aop_bin, abin, isShift, kindBeq, aint, ieq_dec, cond_false, panK_bool, ↓WO_nil, ↓e152_19, a152_19, ↓WC_cond]
    refine condK_dec ?_ ?_ <;> intro h5
    · have hol := hm.lot
      rw [if_neg (by omega)] at hol
      simp (disch := omega) only [↓WC_reg, ↓WO_cons, dect, aop_fad, AX.ev, get_cons', nat_ne, ↓reduceIte, f3, Nat.zero_add, Fr.put, AllK_one, panK_ptr, aop_ld1, withS, ld1_ptr, hbox, ldO_cells, ble_dec, Nat.le_refl, decide_true, Bool.and_true, blt_dec, Nat.reduceLT, List.getElem?_cons_succ, List.getElem?_cons_zero, cond_true, panK_row, aop_mv, f1, panK_int, aop_ixs, ixs_row, Nat.mul_one, panK_fp, ld1_fp, ints_get, aop_bslice, fillL, cells_int, List.length_cons, List.length_nil, beq_dec, setL, consS_eq, AS.newRow, panK_slice, ↓WO_nil, ↓thenK_norm]
      have hg : GwI (S.push (.cells [.int .i64 (ot.getD (goS K nx s w).toNat 0)] 1 0 0 false false)) 1 (.slice S.n 0 0 1 none 1) (goO k K nx ot s w) := by
        unfold goO; rw [if_pos h5]; exact Gw.new hn _ 1 1 false rfl
      exact Frz.iti hg.frz
    · simp (disch := omega) only [↓WC_skip, ↓thenK_norm, decf, get_cons', nat_ne, ↓reduceIte, f1, panK_int, ↓WO_cons, aop_mv, AX.ev, f7, Fr.put, AllK_one, hout.pan, ↓WO_nil]
      rw [if_pos (by omega)] at hout
      have : goM K nx ot s w = goO k K nx ot s w := by unfold goO; rw [if_neg h5]
      rw [this] at hout
      exact Frz.iti hout.frz
noncomputable def G15 : Giv := addG 152 (pureG pfromS) (G14)
theorem G15_fine : Fine P G15 := (G14_fine).pure pfrom_ok
theorem G15_152 : G15 152 = some (pureG pfromS) := rfl
noncomputable def pstateS := sp2 (cMa 0) (cRo 0) fun m w => gd (InR m.nx ∧ InR m.ot ∧ machE m.kind m.K m.O m.N m.nx m.ot = 0) (.tup [.int .i64 (if wordE w m.K = 0 then m.go 0 w else 0), .int .i64 (wordE w m.K)])
theorem pstate_ok : PureS P 110 pstateS := PureS.of2 fun m w r hr => by
  obtain ⟨⟨hx, ho, hE⟩, rfl⟩ := gd_say hr
  obtain ⟨k, K, o, n, nx, ot⟩ := m
  refine ⟨pure_run orders G15_fine (L := 1) (d := 1) fn110 rfl ?_, rfl⟩
  simp only at hx ho hE
  have hm := machE_zero.mp hE
  have hn := hm.n1
  have g1 : InR nx ∧ InR ot ∧ machE k K o n nx ot = 0 ∧ (0 : Int) ≤ 0 ∧ 0 < n := ⟨hx, ho, hE, by omega, by omega⟩
  by_cases hw0 : wordE w K = 0
  · simp (disch := omega) only [↓e110, a110, params, en_M, Nat.zero_add, en_R, ↓e110_1, a110_1, ↓WC_seq, ↓WC_reg, ↓WO_cons, aop_mv, AX.ev, Fr.put, AllK_one, if_pos hw0, aop_ldn, withS, aop_box, get_cons', ↓reduceIte, cells_agg, E0_n, List.length_cons, List.length_nil, Nat.reduceAdd, AS.newRow, panK_ptr, panK_int, ↓WO_nil, ↓thenK_norm, nat_ne, ldn_ptr, AS.get_push, ldlO_cells, ble_dec, Nat.le_refl, decide_true, Bool.and_true, List.drop_zero, List.take_succ_cons, List.take_zero, cond_true, Option.map_some, panK_agg, panK_row, aop_call, AX.evs, call_giv1 G15_152, pfromS, pureG_eq, AV.scalL, AV.scalar, scal_ints, sp3, de_Me, de_R0, Option.bind_some, de_I, gd_pos g1, spK_some, panK_tup, aop_xt, List.getElem?_cons_zero, List.getElem?_cons_succ, ↓WC_ret, ↓endP_ret, resV, Option.some.injEq, resOne, exists_eq_left']
    rw [hw0]
    exact Frz.scal rfl
  · simp (disch := omega) only [↓e110, a110, params, en_M, Nat.zero_add, en_R, ↓e110_1, a110_1, ↓WC_seq, ↓WC_reg, ↓WO_cons, aop_mv, AX.ev, Fr.put, AllK_one, if_neg hw0, aop_ldn, withS, aop_box, get_cons', ↓reduceIte, cells_agg, E0_n, List.length_cons, List.length_nil, Nat.reduceAdd, AS.newRow, panK_ptr, panK_int, ↓WO_nil, ↓thenK_norm, nat_ne, ldn_ptr, AS.get_push, ldlO_cells, ble_dec, Nat.le_refl, decide_true, Bool.and_true, List.drop_zero, List.take_succ_cons, List.take_zero, cond_true, Option.map_some, panK_agg, panK_row, aop_call, AX.evs, call_giv1 G15_152, pfromS, pureG_eq, AV.scalL, AV.scalar, scal_ints, sp3, de_Me, de_R0, Option.bind_some, de_I, gd_pos g1, spK_some, panK_tup, aop_xt, List.getElem?_cons_zero, List.getElem?_cons_succ, ↓WC_ret, ↓endP_ret, resV, Option.some.injEq, resOne, exists_eq_left']
    exact Frz.scal rfl
end Go.Proofs.Ytednmmcdjhfflaa.Vai
