/- Texts of this claim, joined. -/
import Derived.Test.YtednmmcdjhfflaaR12
/- The program's analysis is told what is said of the word itself. -/
namespace Go.Proofs.Ytednmmcdjhfflaa.Vai
open Go
set_option linter.unusedVariables false
set_option linter.unusedSimpArgs false
theorem saidR_new {out : List Int} : ∀ n : Nat, SaidR (rowI 1 out :: List.replicate n .nils) (out :: List.replicate n []) := fun n => ⟨.inl rfl, by
  induction n with
  | zero => trivial
  | succ n ih => rw [List.replicate_succ, List.replicate_succ]; exact ⟨.inr ⟨rfl, rfl⟩, ih⟩⟩
set_option maxRecDepth 8000 in
set_option maxHeartbeats 4000000 in
theorem whole_mid {L d v n : Nat} {S S0 : AS} {F : Fr} {a : RA} {at0 tk : AV} {out : List Int} {T : AV × AS → Prop} (f0 : F.get 0 = .ptr v 0 0 14) (f1 : F.get 1 = rowI 1 out) (f7 : F.get 7 = .int .i64 n) (lv : v < S.n) (hwf : Wf S)
    (hg : S.get v = some (.cells (paGV a .nils .nilp at0 tk) 14 0 0 false false)) (n1 : 1 ≤ n) (n2 : n ≤ 4096) (h1 : 1 ≤ a.how) (h2 : a.how ≤ 3) (hol : out.length ≤ 1000000)
    (k : ∀ S' p e sb, S'.get v = some (anO (paGV a (.slice sb 0 0 (n + 1) none 1) (.ptr p 0 0 4) (atS ⟨wayOf a.how, 0, n, 0⟩) (placeV v))) → S'.get sb = some (.cells (rowI 1 out :: List.replicate n .nils) 1 0 0 false false) →
      SrchAt S' p e ⟨wayOf a.how, 0, n, 0⟩ → PaD v p e sb S' → (S.n ≤ p ∧ S.n ≤ e ∧ S.n ≤ sb) → Kpt (· = v) S S' → S'.mw ≤ v → T (.int .i64 0, finA S0 (.int .i64 0) S')) :
    WC (ctxE P kpN fun _ => none) (callE G37 L (d + 1 + 1) (ctxE P kpN fun _ => none)) L c111_12 F S (endK [.tmp 4] S0 T) := by
  have hb : (decide ((n + 1) * 24 ≤ bound46) && decide (n + 1 ≤ bound46)) = true := by
    rw [Bool.and_eq_true, decide_eq_true_eq, decide_eq_true_eq]; have : (4097 * 24 : Nat) ≤ bound46 := by decide
    omega
  have g1 : out.length ≤ 1000000000000 ∧ (0 : Int) ≤ out.length ∧ (out.length : Int) ≤ 1000000000000 := ⟨by omega, by omega, by omega⟩
  have hd : out.drop (out.length - out.length) = out := by rw [Nat.sub_self, List.drop_zero]
  simp (disch := omega) only [↓e111_12, a111_12, ↓e111_13, a111_13, ↓e111_14, a111_14, ↓e111_15, a111_15, ↓WC_seq, ↓WC_reg, ↓WO_cons, aop_mv, AX.ev, Fr.put, AllK_one, ↓WC_draw, ↓WD_cons, Fr.keep, get_cons', ↓reduceIte, sik, AOp.acts, AOp.reads, cond_false, List.all_nil, Nat.reduceAdd, One_one, f0, panK_ptr, nat_ne, f7, panK_int, aop_bin, withS, abin, isShift, kindBeq, aint, wrap64_id, cond_true, aop_mksl, asNat_succ, ble_dec, Nat.le_refl, decide_true, Bool.true_and, hb, AS.newRow, reps_nils, List.replicate_succ, panK_slice, aop_nck, aop_fad, Nat.zero_add, aop_st, AS.st, cells_slice, List.length_cons, List.length_nil, beq_dec, stl_get, AS.get_push, hg, stO_cells, Nat.reduceLeDiff, Bool.and_true, List.all_cons, one_slice, setL, consS_eq, Option.map_some, undefA, panK_tup, ↓WO_nil, ↓thenK_norm, np_ptr, chkK_true, dchk_11, aop_ld1, ld1_ptr, AS.get_put, ldO_cells, blt_dec, Nat.reduceLT, List.getElem?_cons_succ, List.getElem?_cons_zero, np_slice, dchk_21, f1, np_row, dchk_12, aop_len0, lenA_row, np_int, dchk_22, aop_call, AX.evs, call_giv G37_116, pendS, pureG_eq, AV.scalL, AV.scalar, scal_ints, sp2, de_R0, de_I, Option.bind_some, Int.toNat_natCast, hd, gd_pos g1, spK_some, dchk_32, List.contains_cons, Nat.reduceBEq, beq_self_eq_true, List.contains_nil, Bool.or_false, Bool.or_true, same_eq, isSame_one, AV.beq, intBeq_self, dchk_31, optBeq_nn, aop_ixs, ixs_slice, Int.toNat_zero, Nat.add_zero, Nat.mul_one, dchk_13, cells_row, one_row, np_tup, dchk_33, ↓WD_nil, call_giv G37_153]
  generalize hS2 : AS.put _ S.n _ = S2
  have q0 : S2.n = S.n + 1 := by rw [← hS2]; rfl
  have qg : ∀ u, u ≠ v → u < S.n → S2.get u = S.get u := fun u h1 h2 => by rw [← hS2]; simp (disch := omega) only [AS.get_put, nat_ne, ↓reduceIte, AS.get_push]
  have qv : S2.get v = some (.cells (paGV a (.slice S.n 0 0 (n + 1) none 1) .nilp at0 tk) 14 0 0 false false) := by rw [← hS2]; simp (disch := omega) only [AS.get_put, nat_ne, ↓reduceIte]
  have qs : S2.get S.n = some (.cells (rowI 1 out :: List.replicate n .nils) 1 0 0 false false) := by rw [← hS2, AS.get_put, if_pos rfl]
  have qw : Wf S2 := by rw [← hS2]; exact Wf.put (Wf.put (hwf.push _) (by rw [AS.n_push]; omega) _) (by rw [AS.n_put, AS.n_push]; omega) _
  clear hS2
  refine AllK.st (psnew_ex h1 h2 (by omega) (by omega)) ?_
  rintro r S' ⟨rfl, rfl⟩
  have ra := psn_at (S := S2) (n := n) h1 h2
  have rg : ∀ u, u < S2.n → (psnS a.how n S2).get u = S2.get u := fun u hu => psn_get hu
  have rn : (psnS a.how n S2).n = S2.n + 2 := psn_n
  have hpe : psnP a.how S2 < S2.n + 2 ∧ psnE a.how S2 < S2.n + 2 ∧ S2.n ≤ psnP a.how S2 ∧ S2.n ≤ psnE a.how S2 := by unfold psnP psnE; split <;> omega
  have rw3 : Wf (psnS a.how n S2) := by
    intro u o ho
    rw [rn]
    unfold psnS at ho
    split at ho
    · rw [AS.up_get, AS.get_push, AS.get_push] at ho
      split at ho
      · rename_i e; rw [e, AS.n_push]; omega
      · split at ho
        · omega
        · have := qw u o ho; omega
    · rw [AS.up_get, AS.get_push] at ho
      split at ho
      · omega
      · have := qw u o ho; omega
  generalize hP : psnP a.how S2 = p at *
  generalize hE : psnE a.how S2 = e at *
  generalize hS3 : psnS a.how n S2 = S3 at *
  have rv : S3.get v = some (.cells (paGV a (.slice S.n 0 0 (n + 1) none 1) .nilp at0 tk) 14 0 0 false false) := (rg v (by omega)).trans qv
  simp (disch := omega) only [panK_tup, ↓WO_cons, get_cons', nat_ne, ↓reduceIte, f0, aop_mv, AX.ev, Fr.put, AllK_one, aop_xt, withS, List.getElem?_cons_zero, panK_ptr, List.getElem?_cons_succ, panK_int, aop_nck, aop_fad, Nat.zero_add, aop_st, AS.st, cells_ptr, List.length_cons, List.length_nil, beq_dec, decide_true, stl_get, rv, stO_cells, Nat.reduceAdd, ble_dec, Nat.reduceLeDiff, Bool.and_true, List.all_cons, one_ptr, List.all_nil, setL, consS_eq, cond_true, Option.map_some, undefA, ↓WO_nil, ↓thenK_norm, aop_mkfn, AX.evs, panK_fn, cells_fn, AS.get_put, one_fn, aop_call]
  have hlt : v < S3.n := by omega
  refine next_all (a := a) (sd := .slice S.n 0 0 (n + 1) none 1) (at0 := at0) (tk := placeV v) (p := p) (e := e) (s := ⟨wayOf a.how, 0, n, 0⟩) (by simp only [AS.n_put]; omega) (by rw [AS.get_put, if_pos rfl]) ⟨?_, fun st no h => ?_, ra.ne⟩ ⟨⟨by show (0 : Int) ≤ 0; omega, by show (0 : Int) ≤ 1000000; omega, by show (0 : Int) ≤ n; omega, by show (n : Int) ≤ 1000000; omega⟩, ?_⟩ fun S4 k1 k2 k3 => ?_
  · simp (disch := omega) only [AS.get_put, nat_ne, ↓reduceIte]; exact ra.at_
  · simp (disch := omega) only [AS.get_put, nat_ne, ↓reduceIte]; exact ra.ex st no h
  · unfold wayOf
    split
    · trivial
    · split
      · trivial
      · show StB 1; exact ⟨by omega, by omega⟩
  simp (disch := omega) only [panK_tup, ↓WO_nil, ↓thenK_norm, ↓WC_seq, ↓WC_reg, ↓WO_cons, get_cons', nat_ne, ↓reduceIte, aop_mv, AX.ev, Fr.put, AllK_one, panK_int, ↓WC_ret, endK_ret, resV, Option.map_some, Option.some.injEq, resOne, exists_eq_left']
  have kn := k2.n
  simp only [AS.n_put] at kn
  have kg : ∀ u, u ≠ v → u < S3.n → S4.get u = S3.get u := fun u h1 h2 => by
    rw [k2.get u (by simp only [AS.n_put]; exact h2) h1]
    simp (disch := omega) only [AS.get_put, nat_ne, ↓reduceIte]
  refine k S4 p e S.n k1 ?_ ⟨?_, fun st no h => ?_, ra.ne⟩ ⟨by omega, by omega, by omega, by omega, by omega, by omega, by omega, Ne.symm ra.ne, by omega, by omega⟩ ⟨by omega, by omega, by omega⟩ ⟨by omega, fun u h1 h2 => ?_, fun _ => k2.wf (Wf.put (Wf.put rw3 hlt _) (by rw [AS.n_put]; exact hlt) _)⟩ k3
  · rw [kg S.n (by omega) (by omega), rg S.n (by omega)]; exact qs
  · rw [kg p (by omega) (by omega)]; exact ra.at_
  · rw [kg e (by omega) (by omega)]; exact ra.ex st no h
  · rw [kg u h2 (by omega), rg u (by omega), qg u h2 h1]
end Go.Proofs.Ytednmmcdjhfflaa.Vai

/- The program's analysis is told what is said of the word itself: whole. -/
namespace Go.Proofs.Ytednmmcdjhfflaa.Vai
open Go
set_option linter.unusedVariables false
set_option linter.unusedSimpArgs false
theorem finA_kept {S S' : AS} {i : Int} (h : S.n ≤ S'.mw) : finA S (.int .i64 i) S' = S := finA_sc rfl h
theorem kpt_finB {w : Nat → Prop} {S S' : AS} {m : Nat} (h : Kpt w ⟨S.objs, S.n, m⟩ S') : Kpt w S (finB S S') := ⟨h.n, fun u h1 h2 => h.get u h1 h2, fun q => h.wf q⟩
theorem mw_finB {S S' : AS} {v : Nat} (h : S'.mw ≤ v) : (finB S S').mw ≤ v := by
  show (bif Nat.blt S.mw S'.mw then S.mw else S'.mw) ≤ v
  rw [blt_dec]
  cases hd : decide (S.mw < S'.mw) with
  | true => have := of_decide_eq_true hd; simp only [cond_true]; omega
  | false => simp only [cond_false]; omega
theorem SrchAt.finB {S S' : AS} {p e : Nat} {s : PS} (h : SrchAt S' p e s) : SrchAt (finB S S') p e s := ⟨h.at_, h.ex, h.ne⟩
theorem PaD.finB {S S' : AS} {v p e sb : Nat} (h : PaD v p e sb S') : PaD v p e sb (finB S S') := ⟨h.lv, h.lp, h.le, h.ls, h.vp, h.ve, h.vs, h.pe, h.ps, h.es⟩
set_option maxRecDepth 8000 in
set_option maxHeartbeats 4000000 in
theorem whole_all {L d v : Nat} {S : AS} {a : RA} {out : List Int} {T : AV × AS → Prop} (hL : 5000 ≤ L) (lv : v < S.n) (hwf : Wf S) (hg : S.get v = some (anO (paGV a .nils .nilp (atV false false (-1)) (wholeV v)))) (ha : a.Ok) (h1 : 1 ≤ a.how) (h2 : a.how ≤ 3) (hwp : 0 < a.w.length) (hlen : out.length = if a.h.kind = 1 then 1 else a.w.length)
    (k1 : out = a.mine 0 → ∀ S', S'.get v = some (anO (paGV a .nils .nilp (atV true true 0) (wholeV v))) → Kpt (· = v) S S' → S'.mw ≤ v → T (.int .i64 0, S'))
    (k2 : out ≠ a.mine 0 → a.h.kind = 2 → fdiff out (a.mine 0) = 0 → T (.int .i64 111, S))
    (k3 : ∀ (w' out' : List Int) (n : Nat), out ≠ a.mine 0 → (a.h.kind = 2 → fdiff out (a.mine 0) ≠ 0 ∧ w' = a.w.take (fdiff out (a.mine 0) + 1) ∧ out' = out.take (fdiff out (a.mine 0) + 1) ∧ n = fdiff out (a.mine 0) ∧ n < a.w.length) → (a.h.kind ≠ 2 → w' = a.w ∧ out' = out ∧ n = a.w.length) → ∀ S' p e sb,
      S'.get v = some (anO (paGV { a with w := w' } (.slice sb 0 0 (n + 1) none 1) (.ptr p 0 0 4) (atS ⟨wayOf a.how, 0, n, 0⟩) (placeV v))) → S'.get sb = some (.cells (rowI 1 out' :: List.replicate n .nils) 1 0 0 false false) →
      SrchAt S' p e ⟨wayOf a.how, 0, n, 0⟩ → PaD v p e sb S' → (S.n ≤ p ∧ S.n ≤ e ∧ S.n ≤ sb) → Kpt (· = v) S S' → S'.mw ≤ v → T (.int .i64 0, S')) :
    AllK (callE G37 L (d + 1 + 1 + 1) (ctxE P kpN fun _ => none) 111 [.ptr v 0 0 14, rowI 1 out] S) T := by
  refine call_all (C := ctxE P kpN fun _ => none) (G := G37) (L := L) (d := d + 1 + 1) (f := 111) (args := [.ptr v 0 0 14, rowI 1 out]) (S := S) (T := T) rfl fn111 rfl ?_
  have hg' : (⟨S.objs, S.n, S.n⟩ : AS).get v = some (.cells (paGV a .nils .nilp (.ifc 167 (.agg [.int .i64 (-1)])) (wholeV v)) 14 0 0 false false) := hg
  obtain ⟨x, l1, l2⟩ := pa_lend (S := ⟨S.objs, S.n, S.n⟩) (sd := .nils) (se := .nilp) (ov := false) (sp := false) (pl := -1) (ws := []) hg rfl rfl rfl fun _ => rfl
  have g1 : (a.pa [] false false (-1)).ra.Ok ∧ (0 : Int) ≤ 0 ∧ (0 : Int) ≤ (a.pa [] false false (-1)).w.length := ⟨pa_ok ha, by omega, by show (0 : Int) ≤ a.w.length; omega⟩
  have hwl := ha.wl
  have hkk := ha.m.kk
  have hol : out.length ≤ 4096 := by rw [hlen]; split <;> omega
  have hml : a.h.kind = 2 → (a.mine 0).length = out.length := fun h => by
    unfold RA.mine; rw [goO_len, if_neg (by omega), List.length_drop, hlen, if_neg (by omega)]; simp
  have hml1 : (a.mine 0).length ≤ 1000000000000 := by
    unfold RA.mine; rw [goO_len]; split
    · omega
    · rw [List.length_drop]; omega
  have g3 : out.length ≤ 1000000000000 ∧ (a.mine 0).length ≤ 1000000000000 := ⟨by omega, hml1⟩
  have g4 : (a.pa [] false false (-1)).ra.mine 0 = a.mine 0 := rfl
  have hfin : ∀ S1 : AS, S1.mw < S.n → finA S (.int .i64 0) S1 = finB S S1 := fun S1 h => finA_low h
  simp (disch := omega) only [↓e111, a111, params, Nat.zero_add, ↓e111_1, a111_1, ↓e111_2, a111_2, ↓e111_3, a111_3, ↓e111_5, a111_5, ↓WC_seq, ↓WC_reg, ↓WO_cons, aop_mv, AX.ev, Fr.put, AllK_one, panK_int, ↓WO_nil, ↓thenK_norm, get_cons', nat_ne, ↓reduceIte, panK_ptr, aop_call, AX.evs, call_giv G37_112, pfrS, pureG_eq, AV.scalL, AV.scalar, Bool.and_true, sp2, de_I, Option.bind_some, mapO_cons, l1, frz_int, mapO_nil, Option.map_some, l2, Int.reduceNeg, g4, gd_pos g1, spB_some, AV.inz, AV.inzL, ble_dec, Nat.le_refl, decide_true, inz_ints, cond_true, cond_false, panK_tup, aop_xt, withS, List.getElem?_cons_zero, List.getElem?_cons_succ, panK_row, aop_nck, aop_fad, aop_ld1, ld1_ptr, hg', ldO_cells, blt_dec, Nat.reduceLT, aop_len0, lenA_row, call_giv G37_101, sameS, scal_ints, de_R0, gd_pos, spK_some, panK_bool, ↓e111_4, a111_4, ↓WC_cond]
  refine condK_dec ?_ ?_ <;> intro c1
  · simp (disch := omega) only [↓WC_seq, ↓WC_reg, ↓WO_cons, dect, Int.reduceNeg, aop_mv, AX.ev, get_cons', nat_ne, ↓reduceIte, Fr.put, AllK_one, panK_ptr, aop_build, withS, fillL, cells_bool, List.length_cons, List.length_nil, Nat.zero_add, beq_dec, decide_true, Nat.reduceAdd, ble_dec, Nat.reduceLeDiff, Bool.and_true, setL, consS_eq, cond_true, Option.map_some, panK_agg, aop_mkif, panK_ifc, aop_nck, aop_fad, aop_st, AS.st, cells_ifc, stl_get, hg', stO_cells, List.all_cons, one_ifc, List.all_nil, undefA, panK_tup, ↓WO_nil, ↓thenK_norm, panK_int, ↓WC_ret, ↓thenK_ret, endK_ret, resV, Option.some.injEq, resOne, exists_eq_left']
    have hS1 : ∀ S1 : AS, (∀ u, S1.get u = if u = v then some (anO (paGV a .nils .nilp (atV true true 0) (wholeV v))) else S.get u) → S1.n = S.n → S1.mw = v → T (.int .i64 0, finA S (.int .i64 0) S1) := fun S1 q1 q2 q3 => by
      rw [hfin S1 (by omega)]
      refine k1 c1 _ (by rw [finB_get, q1, if_pos rfl]) ⟨by rw [finB_n, q2]; exact Nat.le_refl _, fun u r1 r2 => by rw [finB_get, q1, if_neg r2], fun q u o ho => ?_⟩ ?_
      · rw [finB_n, q2]
        rw [finB_get, q1] at ho
        split at ho
        · rename_i e; subst e; exact lv
        · exact q u o ho
      · show (bif Nat.blt S.mw S1.mw then S.mw else S1.mw) ≤ v
        rw [blt_dec]
        cases hd : decide (S.mw < S1.mw) with
        | true => have := of_decide_eq_true hd; simp only [cond_true]; omega
        | false => simp only [cond_false]; omega
    exact hS1 _ (fun u => by rw [AS.get_put]; rfl) rfl (by simp only [AS.put, blt_dec, decide_eq_true lv, cond_true])
  simp (disch := omega) only [↓WC_skip, ↓thenK_norm, decf, Int.reduceNeg, get_cons', nat_ne, ↓reduceIte, panK_ptr, ↓WO_cons, aop_nck, AX.ev, Fr.put, AllK_one, aop_fad, Nat.zero_add, Nat.add_zero, aop_ld1, withS, ld1_ptr, hg', ldO_cells, ble_dec, Nat.le_refl, decide_true, Bool.and_true, blt_dec, Nat.reduceLT, List.getElem?_cons_succ, List.getElem?_cons_zero, cond_true, panK_int, aop_bin, abin, isShift, kindBeq, aint, ieq_dec, cond_false, panK_bool, ↓WO_nil, ↓e111_6, a111_6, ↓WC_cond]
  by_cases c2 : a.h.kind = 2
  rotate_left
  · simp (disch := omega) only [c2, decide_false, Int.reduceNeg, condK_false, ↓WC_skip, ↓thenK_norm]
    refine whole_mid (a := a) (n := a.w.length) (at0 := atV false false (-1)) (tk := wholeV v) (S := ⟨S.objs, S.n, S.n⟩) rfl rfl rfl lv (fun u o h => hwf u o h) hg hwp hwl h1 h2 (by omega) fun S' p e sb q1 q2 q3 q4 q7 q5 q6 => ?_
    rw [finA_low (by omega)]
    exact k3 a.w out a.w.length c1 (fun h => absurd h c2) (fun _ => ⟨rfl, rfl, rfl⟩) (finB S S') p e sb q1 q2 q3.finB q4.finB q7 (kpt_finB q5) (mw_finB q6)
  simp (disch := omega) only [c2, decide_true, Int.reduceNeg, condK_true, ↓e111_7, a111_7, ↓e111_8, a111_8, ↓e111_10, a111_10, ↓e111_11, a111_11, ↓WC_draw, ↓WD_cons, Fr.keep, aop_mv, AX.ev, get_cons', ↓reduceIte, sik, AOp.acts, AOp.reads, cond_false, List.all_nil, Nat.reduceAdd, Fr.put, One_one, ↓WC_seq, ↓WC_reg, ↓WO_cons, AllK_one, ↓WC_block, ↓WC_loop, panK_int, ↓WO_nil, ↓thenK_norm, nat_ne]
  have hml2 := hml c2
  have hlw : out.length = a.w.length := by rw [hlen, if_neg (by omega)]
  generalize hmi : a.mine 0 = mi at *
  refine loop_all (fun m F S1 => ∃ i : Nat, i + m = out.length ∧ i + fdiff (out.drop i) (mi.drop i) = fdiff out mi ∧ out.take i = mi.take i ∧ F.get 0 = .ptr v 0 0 14 ∧ F.get 1 = rowI 1 out ∧ F.get 6 = rowI 1 mi ∧ F.get 7 = .int .i64 a.w.length ∧ F.get 8 = .int .i64 i ∧ S1 = ⟨S.objs, S.n, S.n⟩) ?_ ⟨0, Nat.zero_add _, Nat.zero_add _, rfl, rfl, rfl, rfl, rfl, rfl, rfl⟩ (by omega)
  rintro m F S1 ⟨i, hi, he, ht, f0, f1, f6, f7, f8, rfl⟩
  have hil : i < out.length := by
    have : ¬ i = out.length := fun h => c1 (by rw [h, List.take_length, ← hml2, List.take_length] at ht; exact ht)
    omega
  rw [fdiff_go hil (by omega)] at he
  simp (disch := omega) only [↓e111_9, a111_9, ↓WC_block, ↓WC_reg, ↓WO_cons, aop_mv, AX.ev, Fr.keep, Fr.put, AllK_one, get_cons', ↓reduceIte, nat_ne, ↓WC_seq, ↓WC_draw, ↓WD_cons, f1, sik, AOp.acts, AOp.reads, cond_false, List.all_nil, Nat.reduceAdd, One_one, np_row, chkK_true, f8, List.all_cons, np_int, dchk_11, Bool.and_true, aop_ixs, withS, ixs_row, Int.toNat_natCast, Nat.mul_one, np_fp, aop_ld1, ld1_fp, ints_get, cond_true, dchk_21, f6, dchk_12, dchk_22, aop_bin, abin, isShift, kindBeq, aint, ieq_dec, np_bool, ↓WD_nil, ↓thenK_norm, ↓WC_cond]
  refine condK_dec ?_ ?_ <;> intro h3 <;> simp (disch := omega) only [↓WC_skip, ↓thenK_norm, dect, get_cons', nat_ne, ↓reduceIte, f8, panK_int, ↓WO_cons, aop_bin, withS, abin, AX.ev, isShift, kindBeq, aint, wrap64_id, cond_true, cond_false, Fr.put, AllK_one, aop_mv, ↓WO_nil, ↓blkK_norm, f0, f1, f6, f7, and_true, true_and, ↓WC_exit, ↓thenK_exit, ↓blkK_exit, decf, ieq_dec, panK_bool, ↓WC_cond]
  · rw [if_pos h3] at he
    exact ⟨m - 1, by omega, i + 1, by omega, he, (take_succ_iff hil (by omega) ht).mpr h3, rfl⟩
  rw [if_neg h3] at he
  refine condK_dec ?_ ?_ <;> intro h4 <;> simp (disch := omega) only [↓WC_seq, ↓WC_reg, ↓WO_cons, dect, decf, get_cons', nat_ne, ↓reduceIte, f8, aop_mv, AX.ev, Fr.put, AllK_one, panK_int, ↓WO_nil, ↓thenK_norm, ↓WC_ret, ↓thenK_ret, endK_ret, resV, Option.map_some, Option.some.injEq, resOne, exists_eq_left', ↓WC_skip, f0, np_ptr, chkK_true, ↓WD_cons, Fr.keep, sik, AOp.acts, AOp.reads, cond_false, List.all_cons, List.all_nil, Nat.reduceAdd, One_one, dchk_11, Bool.and_true, aop_nck, aop_fad, Nat.zero_add, aop_ld1, withS, ld1_ptr, hg', Int.reduceNeg, ldO_cells, ble_dec, Nat.le_refl, decide_true, blt_dec, Nat.reduceLT, List.getElem?_cons_succ, List.getElem?_cons_zero, cond_true, np_row, dchk_21, np_int, dchk_12, aop_bin, abin, isShift, kindBeq, aint, wrap64_id, aop_slc, Option.map_none, slcI_hi, dchk_22, f1, aop_st, AS.st, cells_row, List.length_cons, List.length_nil, beq_dec, stl_get, stO_cells, Nat.reduceLeDiff, one_row, setL, consS_eq, undefA, np_tup, dchk_31, dchk_32, List.contains_cons, Nat.reduceBEq, List.contains_nil, Bool.or_false, same_eq, isSame_one, AV.beq, beqL_ints, Bool.or_true, beq_self_eq_true, AS.get_put, Bool.true_and, Bool.true_or, dchk_13, ↓WD_nil]
  · rw [finA_kept (Nat.le_refl _)]
    exact k2 c1 c2 (by omega)
  have hi1 : ((i : Int) + 1).toNat = i + 1 := by omega
  rw [hi1]
  have hwi : i < a.w.length := by omega
  refine whole_mid (a := { a with w := a.w.take (i + 1) }) (out := out.take (i + 1)) (n := i) (at0 := atV false false (-1)) (tk := wholeV v) (v := v) f0 rfl rfl lv (Wf.put (fun u o h => hwf u o h) lv _) (by rw [AS.get_put, if_pos rfl]; rfl) (by omega) (by omega) h1 h2 (by rw [List.length_take]; omega) fun S' p e sb q1 q2 q3 q4 q7 q5 q6 => ?_
  rw [finA_low (by omega)]
  have hf : fdiff out mi = i := by omega
  refine k3 (a.w.take (i + 1)) (out.take (i + 1)) i c1 (fun _ => ⟨by omega, by rw [hf], by rw [hf], hf.symm, hwi⟩) (fun h => absurd c2 h) (finB S S') p e sb q1 q2 q3.finB q4.finB q7 (kpt_finB (m := S.n) (Kpt.trans (a := ⟨S.objs, S.n, S.n⟩) (Kpt.put (S := ⟨S.objs, S.n, S.n⟩) (w := (· = v)) (Kpt.refl _) rfl lv) q5)) (mw_finB q6)
end Go.Proofs.Ytednmmcdjhfflaa.Vai
