/- An analysis is begun by the program. -/
import Derived.Test.YtednmmcdjhfflaaR8
import Derived.Test.YtednmmcdjhfflaaVaiZX
namespace Go.Proofs.Ytednmmcdjhfflaa.Vai
open Go
set_option linter.unusedVariables false
set_option linter.unusedSimpArgs false
theorem mapO_congr {f g : AV → Option AV} : ∀ {l : List AV}, (∀ x ∈ l, f x = g x) → mapO f l = mapO g l
  | [], _ => rfl
  | x :: l, h => by
    rw [mapO_cons, mapO_cons, h x List.mem_cons_self, mapO_congr fun y hy => h y (List.mem_cons_of_mem _ hy)]
theorem lowL_mem {m : Nat} : ∀ {l : List AV} {x : AV}, AV.lowL m l = true → x ∈ l → x.low m = true
  | c :: l, x, h, hx => by
    simp only [AV.lowL, Bool.and_eq_true] at h
    rcases List.mem_cons.1 hx with rfl | hx
    · exact h.1
    · exact lowL_mem h.2 hx
def LowM (m : Nat) (S : AS) : Prop := ∀ v o, v < m → S.get v = some o → o.low m
theorem frzF_keep {S S1 : AS} {m : Nat} (hk : ∀ v, v < m → S1.get v = S.get v) (hL : LowM m S) : ∀ (f : Nat) (x : AV), x.low m = true → frzF S1 f x = frzF S f x := by
  intro f
  induction f with
  | zero => intro x _; rfl
  | succ f ih =>
    intro x hx
    cases x with
    | slice v g q n l sz =>
      have hv : v < m := by simpa [AV.low] using hx
      rw [frzF_slice, frzF_slice, hk v hv]
      cases ho : S.get v with
      | none => rfl
      | some o =>
        have hc := hL v o hv ho
        cases o with
        | cells c s1 gen lo opn ro =>
          cases ro with
          | true => rfl
          | false => rw [frzS_cells, frzS_cells, mapO_congr fun y hy => ih y (lowL_mem hc (List.mem_of_mem_drop (List.mem_of_mem_take hy)))]
        | _ => rfl
    | ptr v g o e =>
      have hv : v < m := by simpa [AV.low] using hx
      rw [frzF_ptr, frzF_ptr, hk v hv]
      cases ho : S.get v with
      | none => rfl
      | some ob =>
        have hc := hL v ob hv ho
        cases ob with
        | cells c s1 gen lo opn ro =>
          cases ro with
          | true => rfl
          | false => rw [frzP_cells, frzP_cells, mapO_congr fun y hy => ih y (lowL_mem hc (List.mem_of_mem_take hy))]
        | _ => rfl
    | agg l =>
      have hl : AV.lowL m l = true := by simpa [AV.low] using hx
      rw [frzF_agg, frzF_agg, mapO_congr fun y hy => ih y (lowL_mem hl hy)]
    | fn h a c =>
      have hl : AV.lowL m a = true ∧ AV.lowL m c = true := by simpa [AV.low] using hx
      rw [frzF_fn, frzF_fn, mapO_congr fun y hy => ih y (lowL_mem hl.1 hy), mapO_congr fun y hy => ih y (lowL_mem hl.2 hy)]
    | ifc t y =>
      have hy : y.low m = true := by simpa [AV.low] using hx
      rw [frzF_ifc, frzF_ifc, ih y hy]
    | _ => rfl
structure LowS (S : AS) : Prop where
  lt : ∀ v o, S.get v = some o → v < S.n
  low : LowM S.n S
def YW (S : AS) (y : AV) (w : List Int) : Prop := (cRo 1).de y = some w ∨ ((∃ b g0, y = .slice b g0 0 w.length none 1) ∧ y.low S.n = true ∧ frzF S 3 y = some (rowI 0 w))
theorem YW.uniq {S : AS} {y : AV} {w w' : List Int} (h : YW S y w) (h' : YW S y w') : w = w' := by
  rcases h with h | ⟨⟨b, g0, rfl⟩, _, h⟩
  · rcases h' with h' | ⟨⟨b', g1, rfl⟩, _, _⟩
    · rw [h] at h'; exact Option.some.inj h'
    · exact absurd h (by simp [cRo, deRow])
  · rcases h' with h' | ⟨_, _, h'⟩
    · exact absurd h' (by simp [cRo, deRow])
    · rw [h] at h'
      simp only [Option.some.injEq, AV.row.injEq, true_and] at h'
      have : ∀ {a b : List Int}, ints a = ints b → a = b := by
        intro a
        induction a with
        | nil => intro b hb; cases b with
          | nil => rfl
          | cons x xs => cases hb
        | cons x xs ih => intro b hb; cases b with
          | nil => cases hb
          | cons y ys =>
            rw [ints_cons, ints_cons] at hb
            simp only [List.cons.injEq, AV.int.injEq, true_and] at hb
            rw [hb.1, ih hb.2]
      exact this h'.2
noncomputable def chW (c : List Int → Prop) : Option (List Int) := open Classical in if h : ∃ w, c w then some h.choose else none
theorem chW_say {c : List Int → Prop} {w : List Int} (h : chW c = some w) : c w := by
  unfold chW at h
  split at h
  · rename_i hc; cases h; exact hc.choose_spec
  · cases h
theorem chW_pos {c : List Int → Prop} {w : List Int} (h : c w) (hu : ∀ w', c w' → w' = w) : chW c = some w := by
  unfold chW
  rw [dif_pos ⟨w, h⟩]
  exact congrArg some (hu _ (Exists.choose_spec (⟨w, h⟩ : ∃ w, c w)))
def paV (v : Nat) (how : Int) (h : Mach) (acc : List (List Int)) (w : List Int) : List AV := [.int .i64 how, .int .i64 h.kind, .int .i64 h.K, .int .i64 h.O, .int .i64 h.N, rowI 1 h.nx, rowI 1 h.ot, rowW 1 acc, rowI 1 w, .nils, .nilp, atV false false (-1), .fn (.func 111) [.ptr v 0 0 14] [], .int .i64 0]
def pnewO (how : Int) (h : Mach) (acc : List (List Int)) (w : List Int) (S : AS) : AV × AS :=
  if rnewE how h acc w = 0 then (.tup [.ptr (S.n + 1) 0 0 14, .int .i64 0], (⟨S.objs, S.n + 1, S.mw⟩ : AS).push (.cells (paV (S.n + 1) how h acc w) 14 0 0 false false))
  else (.tup [.nilp, .int .i64 (rnewE how h acc w)], S)
theorem inz_ae {e : Int} : AV.inzL 1 [.any, .int .i64 e] = true := rfl
theorem endG_ret {res : List ARes} {r : AV} {S' : AS} {F : Fr} {S1 : AS} : endG res r S' .ret F S1 = ∃ l, resV F S1 res = some l ∧ ∃ S2, Weak (params 0 [resOne l]) S1 (params 0 [r]) S2 ∧ CutM S2 S' ∧ r.low S'.n = true := id rfl
theorem Weak.refl {F : Fr} {S : AS} : Weak F S F S := fun w0 ρ w n tmps hS hF => ⟨ρ, Ext.refl _, hS, hF⟩
theorem cut_back {S S1 : AS} (hS : LowS S) (hk : ∀ v, v < S.n → S1.get v = S.get v) : CutM S1 S := fun v o hv => ⟨hS.lt v o hv, by rw [hk v (hS.lt v o hv)]; exact hv, hS.low v o (hS.lt v o hv) hv⟩
theorem pnew_end {S S1 : AS} {how : Int} {h : Mach} {acc : List (List Int)} {w : List Int} {y1 : AV} (hS : LowS S) (hk : ∀ v, v < S.n → S1.get v = S.get v) (ga : S1.get (S.n + 1) = some (.cells [.int .i64 how, .int .i64 h.kind, .int .i64 h.K, .int .i64 h.O, .int .i64 h.N, rowI 1 h.nx, rowI 1 h.ot, y1, rowI 1 w, .nils, .nilp, .ifc 167 (.agg [.int .i64 (-1)]), .fn (.func 111) [.ptr (S.n + 1) 0 0 14] [], .int .i64 0] 14 0 0 false false))
    (gw : Gw S1 (S.n + 2) 1 y1 acc.length (rows 1 acc)) (hn : S.n + 2 ≤ S1.n) :
    ∃ S2, Weak [(0, .tup [.ptr (S.n + 1) 0 0 14, .int .i64 0])] S1 [(0, .tup [.ptr (S.n + 1) 0 0 14, .int .i64 0])] S2 ∧ CutM S2 ((⟨S.objs, S.n + 1, S.mw⟩ : AS).push (.cells (paV (S.n + 1) how h acc w) 14 0 0 false false)) ∧ (AV.tup [.ptr (S.n + 1) 0 0 14, .int .i64 0]).low (S.n + 2) = true := by
  have hg : ∀ v, ((⟨S.objs, S.n + 1, S.mw⟩ : AS).push (.cells (paV (S.n + 1) how h acc w) 14 0 0 false false)).get v = if v = S.n + 1 then some (.cells (paV (S.n + 1) how h acc w) 14 0 0 false false) else S.get v := fun v => AS.get_push _ _ _
  refine ⟨⟨((⟨S.objs, S.n + 1, S.mw⟩ : AS).push (.cells (paV (S.n + 1) how h acc w) 14 0 0 false false)).objs, S1.n, S.mw⟩, Weak.mk rfl (fun v o' hv => ?_) (fun t => FrD.refl), fun v o hv => ⟨?_, hv, ?_⟩, ?_⟩
  · have hv' : (if v = S.n + 1 then some (.cells (paV (S.n + 1) how h acc w) 14 0 0 false false) else S.get v) = some o' := (hg v).symm.trans hv
    split at hv'
    · rename_i e
      subst e
      cases hv'
      refine ⟨_, ga, WkO.cells ?_⟩
      refine ⟨FrD.refl, FrD.refl, FrD.refl, FrD.refl, FrD.refl, FrD.refl, FrD.refl, ?_, FrD.refl, FrD.refl, FrD.refl, FrD.refl, FrD.refl, FrD.refl, trivial⟩
      refine FrD.gw gw (fun u hu => ?_) FrDL.refl
      have hlo := gw.lo u hu
      refine (hg u).trans ?_
      rw [if_neg (by omega)]
      cases hc : S.get u with
      | none => rfl
      | some o => have := hS.lt u o hc; omega
    · exact ⟨o', by rw [hk v (hS.lt v o' hv')]; exact hv', WkO.refl⟩
  · rw [hg v] at hv
    show v < S.n + 2
    split at hv
    · omega
    · have := hS.lt v o hv; omega
  · rw [hg v] at hv
    split at hv
    · cases hv
      show AV.lowL (S.n + 2) (paV (S.n + 1) how h acc w) = true
      simp only [paV, AV.lowL, AV.low, lowL_ints, lowL_rows, atV, Bool.and_true, Bool.true_and, Nat.blt_eq, Bool.and_self]
      omega
    · exact AObj.low_mono (show S.n ≤ S.n + 2 by omega) (hS.low v o (hS.lt v o hv) hv)
  · simp only [AV.low, AV.lowL, Bool.and_true, Nat.blt_eq]
    omega
set_option maxRecDepth 8000 in
set_option maxHeartbeats 4000000 in
theorem pnew_s {S : AS} {how : Int} {h : Mach} {acc : List (List Int)} {w : List Int} (hS : LowS S) (hal : acc.length ≤ 100000) (h1 : InR h.nx) (h2 : InR h.ot) (hwb : w.length ≤ 1000000000000) (b g0 : Nat) (hy : AV.low S.n (.slice b g0 0 w.length none 1) = true) (hfr : frzF S 3 (.slice b g0 0 w.length none 1) = some (rowI 0 w)) :
    WS P c46 (params 0 [.int .i64 how, (cMa 1).en h, rowW 1 acc, (.slice b g0 0 w.length none 1)]) ⟨S.objs, S.n, S.n⟩ (endG [.tmp 8, .tmp 9] (pnewO how h acc w S).1 (pnewO how h acc w S).2) := by
  refine WS.of_wc orders G30_fine (kp := kpN) (L := 100001) (d := 1) ?_
  obtain ⟨k, K, o, n, nx, ot⟩ := h
  have hO : ∀ e, rnewE how ⟨k, K, o, n, nx, ot⟩ acc w = e → e ≠ 0 → pnewO how ⟨k, K, o, n, nx, ot⟩ acc w S = (.tup [.nilp, .int .i64 e], S) := fun e he h0 => by unfold pnewO; rw [he, if_neg h0]
  have hbad : ∀ (S1 : AS) (e : Int), (∀ v, v < S.n → S1.get v = S.get v) → ∃ S2, Weak [(0, .tup [.nilp, .int .i64 e])] S1 [(0, .tup [.nilp, .int .i64 e])] S2 ∧ CutM S2 S ∧ (AV.tup [.nilp, .int .i64 e]).low S.n = true := fun S1 e hk => ⟨S1, Weak.refl, cut_back hS hk, rfl⟩
  have hk1 : ∀ ob v, v < S.n → ((⟨S.objs, S.n, S.n⟩ : AS).push ob).get v = S.get v := fun ob v hv => by
    rw [AS.get_push, if_neg (by show ¬ v = S.n; omega)]; rfl
  by_cases c1 : how < 1 ∨ how > 3
  · have he : rnewE how ⟨k, K, o, n, nx, ot⟩ acc w = 1 := by unfold rnewE; rw [if_pos c1]
    rw [hO _ he (by omega)]
    simp (disch := omega) only [↓e46, a46, params, Nat.zero_add, en_M, Nat.reduceAdd, ↓e46_1, a46_1, ↓e46_2, a46_2, ↓e46_4, a46_4, ↓e46_5, a46_5, Int.reduceNeg, ↓e46_6, a46_6, ↓e46_7, a46_7, ↓e46_16, a46_16, ↓e46_18, a46_18, ↓e46_19, a46_19, ↓WC_seq, ↓WC_reg, ↓WO_cons, aop_mv, AX.ev, Fr.put, AllK_one, ↓WC_draw, ↓WD_cons, Fr.keep, get_cons', ↓reduceIte, sik, AOp.acts, AOp.reads, cond_false, List.all_nil, One_one, aop_ldn, withS, aop_box, nat_ne, cells_agg, List.length_cons, List.length_nil, AS.newRow, panK_ptr, panK_nilp, panK_int, ↓WO_nil, ↓thenK_norm, aop_bin, abin, isShift, kindBeq, aint, cond_true, panK_bool, ↓WO_unless, undefA, undK_bool]
    repeat' (first | (exfalso; omega) | (refine condK_dec ?_ ?_ <;> intro h <;> simp (disch := omega) only [↓WO_unless, dect, get_cons', nat_ne, ↓reduceIte, undefA, Fr.put, Int.reduceNeg, undK_bool, condK_true, ↓WO_cons, aop_pick, AX.ev, AllK_one, panK_bool, ↓WO_nil, ↓thenK_norm, ↓WC_cond, ↓WC_seq, ↓WC_reg, aop_mv, panK_nilp, panK_int, ↓WC_ret, ↓thenK_ret, endG_ret, resV, Option.map_some, Option.some.injEq, params, resOne, exists_eq_left', decf, condK_false, aop_bin, withS, abin, isShift, kindBeq, aint, cond_true, cond_false]))
    all_goals exact hbad _ _ (hk1 _)
  by_cases c2 : machE k K o n nx ot = 0
  rotate_left
  · have he : rnewE how ⟨k, K, o, n, nx, ot⟩ acc w = machE k K o n nx ot := by unfold rnewE; rw [if_neg c1, if_pos c2]
    rw [hO _ he c2]
    have g1 : InR nx ∧ InR ot := ⟨h1, h2⟩
    simp (disch := omega) only [↓e46, a46, params, Nat.zero_add, en_M, Nat.reduceAdd, ↓e46_1, a46_1, ↓e46_2, a46_2, ↓e46_4, a46_4, ↓e46_5, a46_5, Int.reduceNeg, ↓e46_6, a46_6, ↓e46_7, a46_7, ↓e46_16, a46_16, ↓e46_18, a46_18, ↓e46_19, a46_19, ↓WC_seq, ↓WC_reg, ↓WO_cons, aop_mv, AX.ev, Fr.put, AllK_one, ↓WC_draw, ↓WD_cons, Fr.keep, get_cons', ↓reduceIte, sik, AOp.acts, AOp.reads, cond_false, List.all_nil, One_one, aop_ldn, withS, aop_box, nat_ne, cells_agg, List.length_cons, List.length_nil, AS.newRow, panK_ptr, panK_nilp, panK_int, ↓WO_nil, ↓thenK_norm, aop_bin, abin, isShift, kindBeq, aint, decf, cond_true, panK_bool, ↓WO_unless, undefA, undK_bool, condK_false, aop_pick, ↓WC_cond, ↓WC_skip, ldn_ptr, AS.get_push, ldlO_cells, ble_dec, Nat.le_refl, decide_true, Bool.and_true, List.drop_zero, List.take_succ_cons, List.take_zero, Option.map_some, panK_agg, aop_call, AX.evs, call_giv1 G30_109, pcheckS, pureG_eq, AV.scalL, AV.scalar, scal_ints, sp1, de_Me, de_R0, Option.bind_some, gd_pos g1, spK_some, panK_tup, aop_xt, List.getElem?_cons_zero, panK_any, List.getElem?_cons_succ, ↓e46_3, a46_3, ine_dec, c2, decide_false, Bool.not_false, condK_true, ↓WC_ret, ↓thenK_ret, endG_ret, resV, Option.some.injEq, resOne, exists_eq_left']
    exact hbad _ _ (hk1 _)
  have hm := machE_zero.mp c2
  have hn1 := hm.n1
  have g1 : InR nx ∧ InR ot := ⟨h1, h2⟩
  by_cases c3 : (acc.length : Int) ≠ n ∨ (acc.getD 0 []).length > 0
  · have he : rnewE how ⟨k, K, o, n, nx, ot⟩ acc w = 31 := by unfold rnewE; rw [if_neg c1, if_neg (fun h => h c2), if_pos c3]
    rw [hO _ he (by omega)]
    simp (disch := omega) only [↓e46, a46, params, Nat.zero_add, en_M, Nat.reduceAdd, ↓e46_1, a46_1, ↓e46_2, a46_2, ↓e46_4, a46_4, ↓e46_5, a46_5, Int.reduceNeg, ↓e46_6, a46_6, ↓e46_7, a46_7, ↓e46_16, a46_16, ↓e46_18, a46_18, ↓e46_19, a46_19, ↓WC_seq, ↓WC_reg, ↓WO_cons, aop_mv, AX.ev, Fr.put, AllK_one, ↓WC_draw, ↓WD_cons, Fr.keep, get_cons', ↓reduceIte, sik, AOp.acts, AOp.reads, cond_false, List.all_nil, One_one, aop_ldn, withS, aop_box, nat_ne, cells_agg, List.length_cons, List.length_nil, AS.newRow, panK_ptr, panK_nilp, panK_int, ↓WO_nil, ↓thenK_norm, aop_bin, abin, isShift, kindBeq, aint, decf, cond_true, panK_bool, ↓WO_unless, undefA, undK_bool, condK_false, aop_pick, ↓WC_cond, ↓WC_skip, ldn_ptr, AS.get_push, ldlO_cells, ble_dec, Nat.le_refl, decide_true, Bool.and_true, List.drop_zero, List.take_succ_cons, List.take_zero, Option.map_some, panK_agg, aop_call, AX.evs, call_giv1 G30_109, pcheckS, pureG_eq, AV.scalL, AV.scalar, scal_ints, sp1, de_Me, de_R0, Option.bind_some, c2, gd_pos g1, spK_some, panK_tup, aop_xt, List.getElem?_cons_zero, panK_any, List.getElem?_cons_succ, ↓e46_3, a46_3, ine_dec, Bool.not_true, panK_row, aop_len0, lenA_row, aop_fad, aop_ld1, ld1_ptr, ldO_cells, blt_dec, Nat.reduceLT, condK_not]
    repeat' (first | (exfalso; omega) | (refine condK_dec ?_ ?_ <;> intro h <;> simp (disch := omega) only [dect, Bool.not_true, get_cons', nat_ne, ↓reduceIte, aop_mv, AX.ev, Int.reduceNeg, AllK_one, panK_row, ↓WO_unless, undefA, Fr.put, undK_bool, condK_false, aop_ixs, withS, ixs_row, Int.toNat_zero, Nat.mul_one, panK_fp, aop_ld1, ld1_fp, rows_get, aop_len0, lenA_row, panK_int, aop_bin, abin, isShift, kindBeq, aint, ine_dec, decf, Bool.not_false, cond_true, cond_false, panK_bool, ↓WO_cons, aop_pick, ↓WO_nil, ↓thenK_norm, ↓WC_cond, condK_true, ↓WC_seq, ↓WC_reg, panK_nilp, ↓WC_ret, ↓thenK_ret, endG_ret, resV, Option.map_some, Option.some.injEq, params, resOne, exists_eq_left']))
    all_goals exact hbad _ _ (hk1 _)
  have c3' : (acc.length : Int) = n ∧ (acc.getD 0 []).length = 0 := by omega
  have hbx : nx.length ≤ 1000000000000 ∧ ot.length ≤ 1000000000000 := by
    have e1 := hm.lnx; have e2 := hm.lot
    have := mul_bd (a := n) (b := K) (A := 1024) (B := 64) (by omega) (by have := hm.K1; omega) hm.n2 hm.K2
    have := hm.n2
    split at e2 <;> omega
  have hf2 : frzF ((⟨S.objs, S.n, S.n⟩ : AS).push (.cells (mcells k K o n (rowI 1 nx) (rowI 1 ot)) 6 0 0 false false)) 3 (.slice b g0 0 w.length none 1) = some (rowI 0 w) := by rw [frzF_keep (hk1 _) hS.low 3 _ hy, hfr]
  have hysc : AV.scalar (.slice b g0 0 w.length none 1) = false := rfl
  simp (disch := omega) only [↓e46, a46, params, Nat.zero_add, en_M, Nat.reduceAdd, ↓e46_1, a46_1, ↓e46_2, a46_2, ↓e46_4, a46_4, ↓e46_5, a46_5, Int.reduceNeg, ↓e46_6, a46_6, ↓e46_7, a46_7, ↓e46_16, a46_16, ↓e46_18, a46_18, ↓e46_19, a46_19, ↓WC_seq, ↓WC_reg, ↓WO_cons, aop_mv, AX.ev, Fr.put, AllK_one, ↓WC_draw, ↓WD_cons, Fr.keep, get_cons', ↓reduceIte, sik, AOp.acts, AOp.reads, cond_false, List.all_nil, One_one, aop_ldn, withS, aop_box, nat_ne, cells_agg, List.length_cons, List.length_nil, AS.newRow, panK_ptr, panK_nilp, panK_int, ↓WO_nil, ↓thenK_norm, aop_bin, abin, isShift, kindBeq, aint, decf, cond_true, panK_bool, ↓WO_unless, undefA, undK_bool, condK_false, aop_pick, ↓WC_cond, ↓WC_skip, ldn_ptr, AS.get_push, ldlO_cells, ble_dec, Nat.le_refl, decide_true, Bool.and_true, List.drop_zero, List.take_succ_cons, List.take_zero, Option.map_some, panK_agg, aop_call, AX.evs, call_giv1 G30_109, pcheckS, pureG_eq, AV.scalL, AV.scalar, scal_ints, sp1, de_Me, de_R0, Option.bind_some, c2, gd_pos g1, spK_some, mapO_cons, mapO_nil, panK_tup, aop_xt, List.getElem?_cons_zero, panK_any, List.getElem?_cons_succ, ↓e46_3, a46_3, ine_dec, Bool.not_true, panK_row, aop_len0, lenA_row, aop_fad, aop_ld1, ld1_ptr, ldO_cells, blt_dec, Nat.reduceLT, dect, aop_ixs, ixs_row, Int.toNat_zero, Nat.mul_one, panK_fp, ld1_fp, rows_get, np_int, chkK_true, List.all_cons, np_agg, dchk_21, np_slice, dchk_12, dchk_11, call_giv1 G30_90, cloneS, hf2, gd_pos hwb, spB_some, AV.inz, inz_ints, np_row, dchk_31, dchk_32, List.contains_cons, Nat.reduceBEq, List.contains_nil, Bool.or_false, same_eq, isSame_one, AV.beq, AV.beqL, intBeq_self, beq_dec, beqL_ints, Bool.or_true, aop_build, fillL, cells_int, setL, consS_eq, dchk_13, aop_mkif, np_ifc, Nat.reduceLeDiff, cells_row, cells_ifc, AS.n_push, np_ptr, dchk_33, beq_self_eq_true, ↓WD_nil, gd_pos hbx.1, dchk_23, dchk_22, gd_pos hbx.2, aop_nck, aop_st, AS.st, stl_get, stO_cells, one_row, np_tup, AS.get_put, ↓e46_8, a46_8, ↓WC_block, ↓WC_loop]
  refine loop_all (fun m F S1 => ∃ (i : Nat) (y1 : AV), i + m = acc.length ∧ accE ⟨k, K, o, n, nx, ot⟩ 0 acc = accE ⟨k, K, o, n, nx, ot⟩ i (acc.drop i) ∧ F.get 2 = rowW 1 acc ∧ F.get 3 = (.slice b g0 0 w.length none 1) ∧ F.get 5 = .ptr S.n 0 0 6 ∧ F.get 12 = .ptr (S.n + 1) 0 0 14 ∧ F.get 67 = rowW 1 acc ∧ F.get 68 = .int .i64 acc.length ∧ F.get 69 = .int .i64 i ∧
    (∀ v, v < S.n → S1.get v = S.get v) ∧ S1.get S.n = some (.cells (mcells k K o n (rowI 1 nx) (rowI 1 ot)) 6 0 0 false false) ∧ S1.get (S.n + 1) = some (.cells [.int .i64 how, .int .i64 k, .int .i64 K, .int .i64 o, .int .i64 n, rowI 1 nx, rowI 1 ot, y1, rowI 1 w, .nils, .nilp, .ifc 167 (.agg [.int .i64 (-1)]), .nilf, .int .i64 0] 14 0 0 false false) ∧ Gw S1 (S.n + 2) 1 y1 i (rows 1 (acc.take i)) ∧ Wf S1 ∧ S.n + 2 ≤ S1.n) ?_ ?_ (m := acc.length) (by omega)
  rotate_left
  · refine ⟨0, .nils, Nat.zero_add _, rfl, rfl, rfl, rfl, rfl, rfl, rfl, rfl, fun v hv => ?_, ?_, ?_, Gw.nils, ?_, ?_⟩
    · simp (disch := omega) only [AS.get_put, nat_ne, ↓reduceIte, AS.get_push, AS.n_push]; rfl
    · simp (disch := omega) only [AS.get_put, nat_ne, ↓reduceIte, AS.get_push, AS.n_push]
    · simp (disch := omega) only [AS.get_put, ↓reduceIte]
    · exact Wf.put (Wf.put (Wf.push (Wf.push (fun v o hv => hS.lt v o hv) _) _) (by simp only [AS.n_push]; omega) _) (by simp only [AS.n_push, AS.n_put]; omega) _
    · simp only [AS.n_push, AS.n_put]; omega
  rintro m F S1 ⟨i, y1, hi, hacc, f2, f3, f5, f12, f67, f68, f69, hold, gh, ga, gw, wf, hn2⟩
  simp (disch := omega) only [↓e46_9, a46_9, ↓e46_10, a46_10, ↓e46_11, a46_11, ↓WC_reg, ↓WO_cons, aop_bin, withS, abin, AX.ev, isShift, kindBeq, aint, cond_false, ble_dec, Fr.keep, Int.reduceNeg, Fr.put, get_cons', nat_ne, ↓reduceIte, ↓WC_block, ↓WC_seq, aop_mv, AllK_one, ↓WC_cond, f69, f68, cond_true, panK_bool, ↓WO_nil, ↓thenK_norm]
  refine condK_dec ?_ ?_ <;> intro h4
  · have hst := accE_step (h := ⟨k, K, o, n, nx, ot⟩) (acc := acc) (i := i) (by omega)
    have g3 : InR nx ∧ InR ot ∧ machE k K o n nx ot = 0 := ⟨h1, h2, c2⟩
    by_cases c4 : wordE (acc.getD i []) K = 0
    rotate_left
    · simp (disch := omega) only [↓WC_skip, ↓thenK_norm, dect, get_cons', nat_ne, ↓reduceIte, f69, Int.reduceNeg, panK_int, ↓WO_cons, aop_ixs, withS, AX.ev, f67, ixs_row, Int.toNat_natCast, Nat.mul_one, Fr.put, AllK_one, panK_fp, aop_ld1, ld1_fp, rows_get, panK_row, aop_mv, ↓WO_nil, ↓e46_12, a46_12, ↓e46_13, a46_13, ↓e46_14, a46_14, ↓e46_15, a46_15, ↓WC_draw, ↓WD_cons, Fr.keep, sik, AOp.acts, AOp.reads, cond_false, List.all_nil, Nat.reduceAdd, One_one, ↓WC_seq, ↓WC_reg, aop_ldn, f5, ldn_ptr, gh, ldlO_cells, ble_dec, Nat.le_refl, decide_true, Bool.and_true, Nat.zero_add, List.drop_zero, List.take_succ_cons, List.take_zero, cond_true, Option.map_some, panK_agg, aop_call, AX.evs, call_giv1 G30_110, pstateS, pureG_eq, AV.scalL, AV.scalar, scal_ints, sp2, de_Me, de_R0, Option.bind_some, c4, gd_pos g3, spK_some, panK_tup, aop_xt, List.getElem?_cons_zero, List.getElem?_cons_succ, aop_bin, abin, isShift, kindBeq, aint, ine_dec, decide_false, Bool.not_false, panK_bool, ↓WC_cond, condK_true, panK_nilp, ↓WC_ret, ↓thenK_ret, ↓blkK_ret, endG_ret, resV, Option.some.injEq, params, resOne, exists_eq_left']
      rw [hst, if_pos c4] at hacc
      have he : rnewE how ⟨k, K, o, n, nx, ot⟩ acc w = wordE (acc.getD i []) K := by unfold rnewE; rw [if_neg c1, if_neg (fun h => h c2), if_neg c3, if_pos (by rw [hacc]; exact c4), hacc]
      rw [hO _ he c4]
      exact hbad _ _ hold
    obtain ⟨_, hw5, hl5⟩ := wordE_zero.mp c4
    rw [if_neg (fun h => h c4)] at hst
    have gcl : (acc.getD i []).length ≤ 1000000000000 := by omega
    have hbq : y1.beq y1 = true := by
      rcases gw.ow with ⟨rfl, _⟩ | ⟨v, g, gn, op, rfl, _⟩
      · rfl
      · simp [AV.beq]; rfl
    simp (disch := omega) only [↓WC_skip, ↓thenK_norm, dect, get_cons', nat_ne, ↓reduceIte, f69, Int.reduceNeg, panK_int, ↓WO_cons, aop_ixs, withS, AX.ev, f67, ixs_row, Int.toNat_natCast, Nat.mul_one, Fr.put, AllK_one, panK_fp, aop_ld1, ld1_fp, rows_get, panK_row, aop_mv, ↓WO_nil, ↓e46_12, a46_12, ↓e46_13, a46_13, ↓e46_14, a46_14, ↓e46_15, a46_15, ↓WC_draw, ↓WD_cons, Fr.keep, sik, AOp.acts, AOp.reads, cond_false, List.all_nil, Nat.reduceAdd, One_one, ↓WC_seq, ↓WC_reg, aop_ldn, f5, ldn_ptr, gh, ldlO_cells, ble_dec, Nat.le_refl, decide_true, Bool.and_true, Nat.zero_add, List.drop_zero, List.take_succ_cons, List.take_zero, cond_true, Option.map_some, panK_agg, aop_call, AX.evs, call_giv1 G30_110, pstateS, pureG_eq, AV.scalL, AV.scalar, scal_ints, sp2, de_Me, de_R0, Option.bind_some, c4, gd_pos g3, spK_some, panK_tup, aop_xt, List.getElem?_cons_zero, List.getElem?_cons_succ, aop_bin, abin, isShift, kindBeq, aint, ine_dec, Bool.not_true, panK_bool, ↓WC_cond, condK_false, condK_not]
    refine condK_dec ?_ ?_ <;> intro c5 <;> simp (disch := omega) only [↓WC_skip, ↓thenK_norm, dect, Bool.not_true, get_cons', ↓reduceIte, nat_ne, f12, np_ptr, Int.reduceNeg, chkK_true, ↓WD_cons, Fr.keep, aop_mv, AX.ev, sik, AOp.acts, AOp.reads, cond_false, List.all_cons, List.all_nil, Nat.reduceAdd, Fr.put, One_one, dchk_11, Bool.and_true, aop_nck, aop_fad, Nat.zero_add, aop_ld1, withS, ld1_ptr, ga, ldO_cells, ble_dec, Nat.le_refl, decide_true, blt_dec, Nat.reduceLT, List.getElem?_cons_succ, List.getElem?_cons_zero, cond_true, gw.np, dchk_21, np_row, dchk_12, aop_call, AX.evs, call_giv1 G30_90, cloneS, pureG_eq, AV.scalL, AV.scalar, scal_ints, sp1, de_R0, Option.bind_some, gd_pos gcl, spK_some, dchk_31, dchk_32, List.contains_cons, Nat.reduceBEq, List.contains_nil, Bool.or_false, same_eq, isSame_one, hbq, Bool.or_true, aop_bslice, fillL, cells_row, List.length_cons, List.length_nil, beq_dec, setL, consS_eq, AS.newRow, np_slice, dchk_33, beq_self_eq_true, AS.get_push, aop_app, ↓WC_seq, ↓WC_reg, ↓WO_cons, decf, Bool.not_false, AllK_one, panK_nilp, panK_int, ↓WO_nil, ↓WC_ret, ↓thenK_ret, ↓blkK_ret, endG_ret, resV, Option.map_some, Option.some.injEq, params, resOne, exists_eq_left']
    · have hil : i < acc.length := by omega
      obtain ⟨a', S', q, gw', iu⟩ := gw.app1 wf hn2 [.row 1 1 (acc.getD i []).length (ints (acc.getD i []))] rfl (bytes := 24) (by omega) (by unfold bound46; omega) (by unfold bound46; omega) rfl
      have ga' : S'.get (S.n + 1) = _ := (iu.get (S.n + 1) (by omega)).trans ga
      simp (disch := omega) only [q, ofO_some, Int.reduceNeg, One_one, gw'.np, chkK_true, dect, Bool.not_true, get_cons', ↓reduceIte, nat_ne, f12, dchk_33, List.contains_cons, Nat.reduceBEq, beq_self_eq_true, List.contains_nil, Bool.or_false, Bool.or_true, dchk_31, dchk_32, same_eq, aop_ld1, withS, AX.ev, ld1_ptr, ga', ldO_cells, ble_dec, Nat.le_refl, decide_true, Bool.and_true, blt_dec, Nat.reduceLT, List.getElem?_cons_succ, List.getElem?_cons_zero, cond_true, isSame_one, Bool.true_or, ↓WD_cons, Fr.keep, aop_nck, sik, AOp.acts, AOp.reads, cond_false, List.all_cons, List.all_nil, Nat.reduceAdd, Fr.put, np_ptr, dchk_13, dchk_11, dchk_12, aop_fad, Nat.zero_add, aop_st, AS.st, gw'.cells, List.length_cons, List.length_nil, beq_dec, stl_get, stO_cells, Nat.reduceLeDiff, gw'.one, setL, consS_eq, Option.map_some, undefA, np_tup, AS.get_put, ↓WD_nil, ↓blkK_norm, ↓thenK_norm, f69, wrap64_id, AllK_one, panK_int, ↓WO_cons, aop_mv, ↓WO_nil, f2, f3, f5, f67, f68, Option.some.injEq, AS.n_put, true_and]
      have hrow : rows 1 (acc.take (i + 1)) = rows 1 (acc.take i) ++ [.row 1 1 (acc.getD i []).length (ints (acc.getD i []))] := by
        rw [rows_snoc, List.take_add_one, List.getElem?_eq_getElem hil, List.getD_eq_getElem?_getD, List.getElem?_eq_getElem hil]; rfl
      refine ⟨m - 1, by omega, i + 1, a', by omega, by rw [hacc, hst, if_neg (fun h => h c5)], rfl, fun v hv => by rw [if_neg (by omega)]; exact (iu.get v (by omega)).trans (hold v hv), (iu.get S.n (by omega)).trans gh, rfl, by rw [hrow]; exact gw'.put _ (by omega), ?_, ?_⟩
      · exact iu.wf.put (by have := iu.n; omega) _
      · exact iu.n
    · rw [hst, if_pos c5] at hacc
      have he : rnewE how ⟨k, K, o, n, nx, ot⟩ acc w = 32 := by unfold rnewE; rw [if_neg c1, if_neg (fun h => h c2), if_neg c3, if_pos (by rw [hacc]; omega), hacc]
      rw [hO _ he (by omega)]
      exact hbad _ _ hold
  have hacc0 : accE ⟨k, K, o, n, nx, ot⟩ 0 acc = 0 := by rw [hacc, List.drop_of_length_le (by omega)]; rfl
  have hf3 : frzF S1 3 (.slice b g0 0 w.length none 1) = some (rowI 0 w) := by rw [frzF_keep hold hS.low 3 _ hy, hfr]
  by_cases c6 : wordE w K = 0
  rotate_left
  · simp (disch := omega) only [↓WC_exit, ↓thenK_exit, ↓blkK_exit, ↓reduceIte, ↓thenK_norm, decf, get_cons', nat_ne, f3, panK_slice, ↓WO_cons, aop_fad, AX.ev, f5, Nat.zero_add, Fr.put, AllK_one, panK_ptr, aop_ld1, withS, ld1_ptr, gh, ldO_cells, ble_dec, Nat.le_refl, decide_true, Bool.and_true, blt_dec, Nat.reduceLT, List.getElem?_cons_succ, List.getElem?_cons_zero, cond_true, panK_int, aop_call, AX.evs, call_giv1 G30_89, wcheckS, pureG_eq, AV.scalL, AV.scalar, sp2, de_I, Option.bind_some, mapO_cons, hf3, frzF_int, mapO_nil, Option.map_some, de_R0, spB_some, AV.inz, inz_ae, cond_false, panK_tup, aop_mv, aop_xt, panK_any, ↓WO_nil, ↓e46_17, a46_17, ↓WC_cond, ↓WC_reg, aop_bin, abin, isShift, kindBeq, aint, ine_dec, c6, decide_false, Bool.not_false, panK_bool, condK_true, ↓WC_seq, panK_nilp, ↓WC_ret, ↓thenK_ret, endG_ret, resV, Option.some.injEq, params, resOne, exists_eq_left']
    have he : rnewE how ⟨k, K, o, n, nx, ot⟩ acc w = wordE w K := by unfold rnewE; rw [if_neg c1, if_neg (fun h => h c2), if_neg c3, if_neg (fun h => h hacc0), if_pos c6]
    rw [hO _ he c6]
    exact hbad _ _ hold
  by_cases hwn : w.length = 0
  · have he : rnewE how ⟨k, K, o, n, nx, ot⟩ acc w = 1 := by unfold rnewE; rw [if_neg c1, if_neg (fun h => h c2), if_neg c3, if_neg (fun h => h hacc0), if_neg (fun h => h c6), if_pos hwn]
    rw [hO _ he (by omega)]
    simp (disch := omega) only [↓WC_exit, ↓thenK_exit, ↓blkK_exit, ↓reduceIte, ↓thenK_norm, decf, get_cons', nat_ne, f3, panK_slice, ↓WO_cons, aop_fad, AX.ev, f5, Nat.zero_add, Fr.put, AllK_one, panK_ptr, aop_ld1, withS, ld1_ptr, gh, ldO_cells, ble_dec, Nat.le_refl, decide_true, Bool.and_true, blt_dec, Nat.reduceLT, List.getElem?_cons_succ, List.getElem?_cons_zero, cond_true, panK_int, aop_call, AX.evs, call_giv1 G30_89, wcheckS, pureG_eq, AV.scalL, AV.scalar, sp2, de_I, Option.bind_some, mapO_cons, hf3, frzF_int, mapO_nil, Option.map_some, de_R0, c6, spB_some, AV.inz, inz_ae, cond_false, panK_tup, aop_mv, aop_xt, panK_any, ↓WO_nil, ↓e46_17, a46_17, ↓WC_cond, ↓WC_reg, aop_bin, abin, isShift, kindBeq, aint, ine_dec, Bool.not_true, panK_bool, condK_false, ↓WC_skip, aop_len0, lenA_slice, ieq_dec, dect, condK_true, ↓WC_seq, panK_nilp, ↓WC_ret, ↓thenK_ret, endG_ret, resV, Option.some.injEq, params, resOne, exists_eq_left']
    exact hbad _ _ hold
  have he : rnewE how ⟨k, K, o, n, nx, ot⟩ acc w = 0 := by unfold rnewE; rw [if_neg c1, if_neg (fun h => h c2), if_neg c3, if_neg (fun h => h hacc0), if_neg (fun h => h c6), if_neg hwn]
  have hO0 : pnewO how ⟨k, K, o, n, nx, ot⟩ acc w S = (.tup [.ptr (S.n + 1) 0 0 14, .int .i64 0], (⟨S.objs, S.n + 1, S.mw⟩ : AS).push (.cells (paV (S.n + 1) how ⟨k, K, o, n, nx, ot⟩ acc w) 14 0 0 false false)) := by unfold pnewO; rw [if_pos he]
  rw [hO0]
  have hil : i = acc.length := by omega
  subst hil
  rw [List.take_length] at gw
  simp (disch := omega) only [↓WC_exit, ↓thenK_exit, ↓blkK_exit, ↓reduceIte, ↓thenK_norm, decf, get_cons', nat_ne, f3, panK_slice, ↓WO_cons, aop_fad, AX.ev, f5, Nat.zero_add, Fr.put, AllK_one, panK_ptr, aop_ld1, withS, ld1_ptr, gh, ldO_cells, ble_dec, Nat.le_refl, decide_true, Bool.and_true, blt_dec, Nat.reduceLT, List.getElem?_cons_succ, List.getElem?_cons_zero, cond_true, panK_int, aop_call, AX.evs, call_giv1 G30_89, wcheckS, pureG_eq, AV.scalL, AV.scalar, sp2, de_I, Option.bind_some, mapO_cons, hf3, frzF_int, mapO_nil, Option.map_some, de_R0, c6, spB_some, AV.inz, inz_ae, cond_false, panK_tup, aop_mv, aop_xt, panK_any, ↓WO_nil, ↓e46_17, a46_17, ↓WC_cond, ↓WC_reg, aop_bin, abin, isShift, kindBeq, aint, ine_dec, Bool.not_true, panK_bool, condK_false, ↓WC_skip, aop_len0, lenA_slice, ieq_dec, f12, aop_mkfn, panK_fn, aop_nck, aop_st, AS.st, cells_fn, List.length_cons, List.length_nil, beq_dec, stl_get, ga, Int.reduceNeg, stO_cells, Nat.reduceAdd, Nat.reduceLeDiff, List.all_cons, one_fn, List.all_nil, setL, consS_eq, undefA, ↓WC_ret, endG_ret, resV, Option.some.injEq, params, resOne, AS.n_push, exists_eq_left']
  exact pnew_end hS (fun v hv => by rw [AS.get_put, if_neg (by omega)]; exact hold v hv) (by rw [AS.get_put, if_pos rfl]) (gw.put _ (by omega)) hn2
set_option maxRecDepth 8000 in
set_option maxHeartbeats 4000000 in
theorem pnew_r {S : AS} {how : Int} {h : Mach} {acc : List (List Int)} {w : List Int} (hS : LowS S) (hal : acc.length ≤ 100000) (h1 : InR h.nx) (h2 : InR h.ot) (hwb : w.length ≤ 1000000000000)  :
    WS P c46 (params 0 [.int .i64 how, (cMa 1).en h, rowW 1 acc, (.row 1 1 w.length (ints w))]) ⟨S.objs, S.n, S.n⟩ (endG [.tmp 8, .tmp 9] (pnewO how h acc w S).1 (pnewO how h acc w S).2) := by
  refine WS.of_wc orders G30_fine (kp := kpN) (L := 100001) (d := 1) ?_
  obtain ⟨k, K, o, n, nx, ot⟩ := h
  have hO : ∀ e, rnewE how ⟨k, K, o, n, nx, ot⟩ acc w = e → e ≠ 0 → pnewO how ⟨k, K, o, n, nx, ot⟩ acc w S = (.tup [.nilp, .int .i64 e], S) := fun e he h0 => by unfold pnewO; rw [he, if_neg h0]
  have hbad : ∀ (S1 : AS) (e : Int), (∀ v, v < S.n → S1.get v = S.get v) → ∃ S2, Weak [(0, .tup [.nilp, .int .i64 e])] S1 [(0, .tup [.nilp, .int .i64 e])] S2 ∧ CutM S2 S ∧ (AV.tup [.nilp, .int .i64 e]).low S.n = true := fun S1 e hk => ⟨S1, Weak.refl, cut_back hS hk, rfl⟩
  have hk1 : ∀ ob v, v < S.n → ((⟨S.objs, S.n, S.n⟩ : AS).push ob).get v = S.get v := fun ob v hv => by
    rw [AS.get_push, if_neg (by show ¬ v = S.n; omega)]; rfl
  by_cases c1 : how < 1 ∨ how > 3
  · have he : rnewE how ⟨k, K, o, n, nx, ot⟩ acc w = 1 := by unfold rnewE; rw [if_pos c1]
    rw [hO _ he (by omega)]
    simp (disch := omega) only [↓e46, a46, params, Nat.zero_add, en_M, Nat.reduceAdd, ↓e46_1, a46_1, ↓e46_2, a46_2, ↓e46_4, a46_4, ↓e46_5, a46_5, Int.reduceNeg, ↓e46_6, a46_6, ↓e46_7, a46_7, ↓e46_16, a46_16, ↓e46_18, a46_18, ↓e46_19, a46_19, ↓WC_seq, ↓WC_reg, ↓WO_cons, aop_mv, AX.ev, Fr.put, AllK_one, ↓WC_draw, ↓WD_cons, Fr.keep, get_cons', ↓reduceIte, sik, AOp.acts, AOp.reads, cond_false, List.all_nil, One_one, aop_ldn, withS, aop_box, nat_ne, cells_agg, List.length_cons, List.length_nil, AS.newRow, panK_ptr, panK_nilp, panK_int, ↓WO_nil, ↓thenK_norm, aop_bin, abin, isShift, kindBeq, aint, cond_true, panK_bool, ↓WO_unless, undefA, undK_bool]
    repeat' (first | (exfalso; omega) | (refine condK_dec ?_ ?_ <;> intro h <;> simp (disch := omega) only [↓WO_unless, dect, get_cons', nat_ne, ↓reduceIte, undefA, Fr.put, Int.reduceNeg, undK_bool, condK_true, ↓WO_cons, aop_pick, AX.ev, AllK_one, panK_bool, ↓WO_nil, ↓thenK_norm, ↓WC_cond, ↓WC_seq, ↓WC_reg, aop_mv, panK_nilp, panK_int, ↓WC_ret, ↓thenK_ret, endG_ret, resV, Option.map_some, Option.some.injEq, params, resOne, exists_eq_left', decf, condK_false, aop_bin, withS, abin, isShift, kindBeq, aint, cond_true, cond_false]))
    all_goals exact hbad _ _ (hk1 _)
  by_cases c2 : machE k K o n nx ot = 0
  rotate_left
  · have he : rnewE how ⟨k, K, o, n, nx, ot⟩ acc w = machE k K o n nx ot := by unfold rnewE; rw [if_neg c1, if_pos c2]
    rw [hO _ he c2]
    have g1 : InR nx ∧ InR ot := ⟨h1, h2⟩
    simp (disch := omega) only [↓e46, a46, params, Nat.zero_add, en_M, Nat.reduceAdd, ↓e46_1, a46_1, ↓e46_2, a46_2, ↓e46_4, a46_4, ↓e46_5, a46_5, Int.reduceNeg, ↓e46_6, a46_6, ↓e46_7, a46_7, ↓e46_16, a46_16, ↓e46_18, a46_18, ↓e46_19, a46_19, ↓WC_seq, ↓WC_reg, ↓WO_cons, aop_mv, AX.ev, Fr.put, AllK_one, ↓WC_draw, ↓WD_cons, Fr.keep, get_cons', ↓reduceIte, sik, AOp.acts, AOp.reads, cond_false, List.all_nil, One_one, aop_ldn, withS, aop_box, nat_ne, cells_agg, List.length_cons, List.length_nil, AS.newRow, panK_ptr, panK_nilp, panK_int, ↓WO_nil, ↓thenK_norm, aop_bin, abin, isShift, kindBeq, aint, decf, cond_true, panK_bool, ↓WO_unless, undefA, undK_bool, condK_false, aop_pick, ↓WC_cond, ↓WC_skip, ldn_ptr, AS.get_push, ldlO_cells, ble_dec, Nat.le_refl, decide_true, Bool.and_true, List.drop_zero, List.take_succ_cons, List.take_zero, Option.map_some, panK_agg, aop_call, AX.evs, call_giv1 G30_109, pcheckS, pureG_eq, AV.scalL, AV.scalar, scal_ints, sp1, de_Me, de_R0, Option.bind_some, gd_pos g1, spK_some, panK_tup, aop_xt, List.getElem?_cons_zero, panK_any, List.getElem?_cons_succ, ↓e46_3, a46_3, ine_dec, c2, decide_false, Bool.not_false, condK_true, ↓WC_ret, ↓thenK_ret, endG_ret, resV, Option.some.injEq, resOne, exists_eq_left']
    exact hbad _ _ (hk1 _)
  have hm := machE_zero.mp c2
  have hn1 := hm.n1
  have g1 : InR nx ∧ InR ot := ⟨h1, h2⟩
  by_cases c3 : (acc.length : Int) ≠ n ∨ (acc.getD 0 []).length > 0
  · have he : rnewE how ⟨k, K, o, n, nx, ot⟩ acc w = 31 := by unfold rnewE; rw [if_neg c1, if_neg (fun h => h c2), if_pos c3]
    rw [hO _ he (by omega)]
    simp (disch := omega) only [↓e46, a46, params, Nat.zero_add, en_M, Nat.reduceAdd, ↓e46_1, a46_1, ↓e46_2, a46_2, ↓e46_4, a46_4, ↓e46_5, a46_5, Int.reduceNeg, ↓e46_6, a46_6, ↓e46_7, a46_7, ↓e46_16, a46_16, ↓e46_18, a46_18, ↓e46_19, a46_19, ↓WC_seq, ↓WC_reg, ↓WO_cons, aop_mv, AX.ev, Fr.put, AllK_one, ↓WC_draw, ↓WD_cons, Fr.keep, get_cons', ↓reduceIte, sik, AOp.acts, AOp.reads, cond_false, List.all_nil, One_one, aop_ldn, withS, aop_box, nat_ne, cells_agg, List.length_cons, List.length_nil, AS.newRow, panK_ptr, panK_nilp, panK_int, ↓WO_nil, ↓thenK_norm, aop_bin, abin, isShift, kindBeq, aint, decf, cond_true, panK_bool, ↓WO_unless, undefA, undK_bool, condK_false, aop_pick, ↓WC_cond, ↓WC_skip, ldn_ptr, AS.get_push, ldlO_cells, ble_dec, Nat.le_refl, decide_true, Bool.and_true, List.drop_zero, List.take_succ_cons, List.take_zero, Option.map_some, panK_agg, aop_call, AX.evs, call_giv1 G30_109, pcheckS, pureG_eq, AV.scalL, AV.scalar, scal_ints, sp1, de_Me, de_R0, Option.bind_some, c2, gd_pos g1, spK_some, panK_tup, aop_xt, List.getElem?_cons_zero, panK_any, List.getElem?_cons_succ, ↓e46_3, a46_3, ine_dec, Bool.not_true, panK_row, aop_len0, lenA_row, aop_fad, aop_ld1, ld1_ptr, ldO_cells, blt_dec, Nat.reduceLT, condK_not]
    repeat' (first | (exfalso; omega) | (refine condK_dec ?_ ?_ <;> intro h <;> simp (disch := omega) only [dect, Bool.not_true, get_cons', nat_ne, ↓reduceIte, aop_mv, AX.ev, Int.reduceNeg, AllK_one, panK_row, ↓WO_unless, undefA, Fr.put, undK_bool, condK_false, aop_ixs, withS, ixs_row, Int.toNat_zero, Nat.mul_one, panK_fp, aop_ld1, ld1_fp, rows_get, aop_len0, lenA_row, panK_int, aop_bin, abin, isShift, kindBeq, aint, ine_dec, decf, Bool.not_false, cond_true, cond_false, panK_bool, ↓WO_cons, aop_pick, ↓WO_nil, ↓thenK_norm, ↓WC_cond, condK_true, ↓WC_seq, ↓WC_reg, panK_nilp, ↓WC_ret, ↓thenK_ret, endG_ret, resV, Option.map_some, Option.some.injEq, params, resOne, exists_eq_left']))
    all_goals exact hbad _ _ (hk1 _)
  have c3' : (acc.length : Int) = n ∧ (acc.getD 0 []).length = 0 := by omega
  have hbx : nx.length ≤ 1000000000000 ∧ ot.length ≤ 1000000000000 := by
    have e1 := hm.lnx; have e2 := hm.lot
    have := mul_bd (a := n) (b := K) (A := 1024) (B := 64) (by omega) (by have := hm.K1; omega) hm.n2 hm.K2
    have := hm.n2
    split at e2 <;> omega
  have hf2 : frzF ((⟨S.objs, S.n, S.n⟩ : AS).push (.cells (mcells k K o n (rowI 1 nx) (rowI 1 ot)) 6 0 0 false false)) 3 (.row 1 1 w.length (ints w)) = some (rowI 1 w) := by rw [frzF_row, scal_ints]; rfl
  have hysc : AV.scalar (.row 1 1 w.length (ints w)) = true := scal_ints
  simp (disch := omega) only [↓e46, a46, params, Nat.zero_add, en_M, Nat.reduceAdd, ↓e46_1, a46_1, ↓e46_2, a46_2, ↓e46_4, a46_4, ↓e46_5, a46_5, Int.reduceNeg, ↓e46_6, a46_6, ↓e46_7, a46_7, ↓e46_16, a46_16, ↓e46_18, a46_18, ↓e46_19, a46_19, ↓WC_seq, ↓WC_reg, ↓WO_cons, aop_mv, AX.ev, Fr.put, AllK_one, ↓WC_draw, ↓WD_cons, Fr.keep, get_cons', ↓reduceIte, sik, AOp.acts, AOp.reads, cond_false, List.all_nil, One_one, aop_ldn, withS, aop_box, nat_ne, cells_agg, List.length_cons, List.length_nil, AS.newRow, panK_ptr, panK_nilp, panK_int, ↓WO_nil, ↓thenK_norm, aop_bin, abin, isShift, kindBeq, aint, decf, cond_true, panK_bool, ↓WO_unless, undefA, undK_bool, condK_false, aop_pick, ↓WC_cond, ↓WC_skip, ldn_ptr, AS.get_push, ldlO_cells, ble_dec, Nat.le_refl, decide_true, Bool.and_true, List.drop_zero, List.take_succ_cons, List.take_zero, Option.map_some, panK_agg, aop_call, AX.evs, call_giv1 G30_109, pcheckS, pureG_eq, AV.scalL, AV.scalar, scal_ints, sp1, de_Me, de_R0, Option.bind_some, c2, gd_pos g1, spK_some, mapO_cons, mapO_nil, panK_tup, aop_xt, List.getElem?_cons_zero, panK_any, List.getElem?_cons_succ, ↓e46_3, a46_3, ine_dec, Bool.not_true, panK_row, aop_len0, lenA_row, aop_fad, aop_ld1, ld1_ptr, ldO_cells, blt_dec, Nat.reduceLT, dect, aop_ixs, ixs_row, Int.toNat_zero, Nat.mul_one, panK_fp, ld1_fp, rows_get, np_int, chkK_true, List.all_cons, np_agg, dchk_21, np_row, dchk_12, dchk_11, call_giv1 G30_90, cloneS, gd_pos hwb, hf2, spB_some, AV.inz, inz_ints, dchk_31, dchk_32, List.contains_cons, Nat.reduceBEq, List.contains_nil, Bool.or_false, same_eq, isSame_one, AV.beq, AV.beqL, intBeq_self, beq_dec, beqL_ints, Bool.or_true, aop_build, fillL, cells_int, setL, consS_eq, dchk_13, aop_mkif, np_ifc, Nat.reduceLeDiff, cells_row, cells_ifc, AS.n_push, np_ptr, dchk_33, beq_self_eq_true, ↓WD_nil, gd_pos hbx.1, dchk_23, dchk_22, gd_pos hbx.2, aop_nck, aop_st, AS.st, stl_get, stO_cells, one_row, np_tup, AS.get_put, ↓e46_8, a46_8, ↓WC_block, ↓WC_loop]
  refine loop_all (fun m F S1 => ∃ (i : Nat) (y1 : AV), i + m = acc.length ∧ accE ⟨k, K, o, n, nx, ot⟩ 0 acc = accE ⟨k, K, o, n, nx, ot⟩ i (acc.drop i) ∧ F.get 2 = rowW 1 acc ∧ F.get 3 = (.row 1 1 w.length (ints w)) ∧ F.get 5 = .ptr S.n 0 0 6 ∧ F.get 12 = .ptr (S.n + 1) 0 0 14 ∧ F.get 67 = rowW 1 acc ∧ F.get 68 = .int .i64 acc.length ∧ F.get 69 = .int .i64 i ∧
    (∀ v, v < S.n → S1.get v = S.get v) ∧ S1.get S.n = some (.cells (mcells k K o n (rowI 1 nx) (rowI 1 ot)) 6 0 0 false false) ∧ S1.get (S.n + 1) = some (.cells [.int .i64 how, .int .i64 k, .int .i64 K, .int .i64 o, .int .i64 n, rowI 1 nx, rowI 1 ot, y1, rowI 1 w, .nils, .nilp, .ifc 167 (.agg [.int .i64 (-1)]), .nilf, .int .i64 0] 14 0 0 false false) ∧ Gw S1 (S.n + 2) 1 y1 i (rows 1 (acc.take i)) ∧ Wf S1 ∧ S.n + 2 ≤ S1.n) ?_ ?_ (m := acc.length) (by omega)
  rotate_left
  · refine ⟨0, .nils, Nat.zero_add _, rfl, rfl, rfl, rfl, rfl, rfl, rfl, rfl, fun v hv => ?_, ?_, ?_, Gw.nils, ?_, ?_⟩
    · simp (disch := omega) only [AS.get_put, nat_ne, ↓reduceIte, AS.get_push, AS.n_push]; rfl
    · simp (disch := omega) only [AS.get_put, nat_ne, ↓reduceIte, AS.get_push, AS.n_push]
    · simp (disch := omega) only [AS.get_put, ↓reduceIte]
    · exact Wf.put (Wf.put (Wf.push (Wf.push (fun v o hv => hS.lt v o hv) _) _) (by simp only [AS.n_push]; omega) _) (by simp only [AS.n_push, AS.n_put]; omega) _
    · simp only [AS.n_push, AS.n_put]; omega
  rintro m F S1 ⟨i, y1, hi, hacc, f2, f3, f5, f12, f67, f68, f69, hold, gh, ga, gw, wf, hn2⟩
  simp (disch := omega) only [↓e46_9, a46_9, ↓e46_10, a46_10, ↓e46_11, a46_11, ↓WC_reg, ↓WO_cons, aop_bin, withS, abin, AX.ev, isShift, kindBeq, aint, cond_false, ble_dec, Fr.keep, Int.reduceNeg, Fr.put, get_cons', nat_ne, ↓reduceIte, ↓WC_block, ↓WC_seq, aop_mv, AllK_one, ↓WC_cond, f69, f68, cond_true, panK_bool, ↓WO_nil, ↓thenK_norm]
  refine condK_dec ?_ ?_ <;> intro h4
  · have hst := accE_step (h := ⟨k, K, o, n, nx, ot⟩) (acc := acc) (i := i) (by omega)
    have g3 : InR nx ∧ InR ot ∧ machE k K o n nx ot = 0 := ⟨h1, h2, c2⟩
    by_cases c4 : wordE (acc.getD i []) K = 0
    rotate_left
    · simp (disch := omega) only [↓WC_skip, ↓thenK_norm, dect, get_cons', nat_ne, ↓reduceIte, f69, Int.reduceNeg, panK_int, ↓WO_cons, aop_ixs, withS, AX.ev, f67, ixs_row, Int.toNat_natCast, Nat.mul_one, Fr.put, AllK_one, panK_fp, aop_ld1, ld1_fp, rows_get, panK_row, aop_mv, ↓WO_nil, ↓e46_12, a46_12, ↓e46_13, a46_13, ↓e46_14, a46_14, ↓e46_15, a46_15, ↓WC_draw, ↓WD_cons, Fr.keep, sik, AOp.acts, AOp.reads, cond_false, List.all_nil, Nat.reduceAdd, One_one, ↓WC_seq, ↓WC_reg, aop_ldn, f5, ldn_ptr, gh, ldlO_cells, ble_dec, Nat.le_refl, decide_true, Bool.and_true, Nat.zero_add, List.drop_zero, List.take_succ_cons, List.take_zero, cond_true, Option.map_some, panK_agg, aop_call, AX.evs, call_giv1 G30_110, pstateS, pureG_eq, AV.scalL, AV.scalar, scal_ints, sp2, de_Me, de_R0, Option.bind_some, c4, gd_pos g3, spK_some, panK_tup, aop_xt, List.getElem?_cons_zero, List.getElem?_cons_succ, aop_bin, abin, isShift, kindBeq, aint, ine_dec, decide_false, Bool.not_false, panK_bool, ↓WC_cond, condK_true, panK_nilp, ↓WC_ret, ↓thenK_ret, ↓blkK_ret, endG_ret, resV, Option.some.injEq, params, resOne, exists_eq_left']
      rw [hst, if_pos c4] at hacc
      have he : rnewE how ⟨k, K, o, n, nx, ot⟩ acc w = wordE (acc.getD i []) K := by unfold rnewE; rw [if_neg c1, if_neg (fun h => h c2), if_neg c3, if_pos (by rw [hacc]; exact c4), hacc]
      rw [hO _ he c4]
      exact hbad _ _ hold
    obtain ⟨_, hw5, hl5⟩ := wordE_zero.mp c4
    rw [if_neg (fun h => h c4)] at hst
    have gcl : (acc.getD i []).length ≤ 1000000000000 := by omega
    have hbq : y1.beq y1 = true := by
      rcases gw.ow with ⟨rfl, _⟩ | ⟨v, g, gn, op, rfl, _⟩
      · rfl
      · simp [AV.beq]; rfl
    simp (disch := omega) only [↓WC_skip, ↓thenK_norm, dect, get_cons', nat_ne, ↓reduceIte, f69, Int.reduceNeg, panK_int, ↓WO_cons, aop_ixs, withS, AX.ev, f67, ixs_row, Int.toNat_natCast, Nat.mul_one, Fr.put, AllK_one, panK_fp, aop_ld1, ld1_fp, rows_get, panK_row, aop_mv, ↓WO_nil, ↓e46_12, a46_12, ↓e46_13, a46_13, ↓e46_14, a46_14, ↓e46_15, a46_15, ↓WC_draw, ↓WD_cons, Fr.keep, sik, AOp.acts, AOp.reads, cond_false, List.all_nil, Nat.reduceAdd, One_one, ↓WC_seq, ↓WC_reg, aop_ldn, f5, ldn_ptr, gh, ldlO_cells, ble_dec, Nat.le_refl, decide_true, Bool.and_true, Nat.zero_add, List.drop_zero, List.take_succ_cons, List.take_zero, cond_true, Option.map_some, panK_agg, aop_call, AX.evs, call_giv1 G30_110, pstateS, pureG_eq, AV.scalL, AV.scalar, scal_ints, sp2, de_Me, de_R0, Option.bind_some, c4, gd_pos g3, spK_some, panK_tup, aop_xt, List.getElem?_cons_zero, List.getElem?_cons_succ, aop_bin, abin, isShift, kindBeq, aint, ine_dec, Bool.not_true, panK_bool, ↓WC_cond, condK_false, condK_not]
    refine condK_dec ?_ ?_ <;> intro c5 <;> simp (disch := omega) only [↓WC_skip, ↓thenK_norm, dect, Bool.not_true, get_cons', ↓reduceIte, nat_ne, f12, np_ptr, Int.reduceNeg, chkK_true, ↓WD_cons, Fr.keep, aop_mv, AX.ev, sik, AOp.acts, AOp.reads, cond_false, List.all_cons, List.all_nil, Nat.reduceAdd, Fr.put, One_one, dchk_11, Bool.and_true, aop_nck, aop_fad, Nat.zero_add, aop_ld1, withS, ld1_ptr, ga, ldO_cells, ble_dec, Nat.le_refl, decide_true, blt_dec, Nat.reduceLT, List.getElem?_cons_succ, List.getElem?_cons_zero, cond_true, gw.np, dchk_21, np_row, dchk_12, aop_call, AX.evs, call_giv1 G30_90, cloneS, pureG_eq, AV.scalL, AV.scalar, scal_ints, sp1, de_R0, Option.bind_some, gd_pos gcl, spK_some, dchk_31, dchk_32, List.contains_cons, Nat.reduceBEq, List.contains_nil, Bool.or_false, same_eq, isSame_one, hbq, Bool.or_true, aop_bslice, fillL, cells_row, List.length_cons, List.length_nil, beq_dec, setL, consS_eq, AS.newRow, np_slice, dchk_33, beq_self_eq_true, AS.get_push, aop_app, ↓WC_seq, ↓WC_reg, ↓WO_cons, decf, Bool.not_false, AllK_one, panK_nilp, panK_int, ↓WO_nil, ↓WC_ret, ↓thenK_ret, ↓blkK_ret, endG_ret, resV, Option.map_some, Option.some.injEq, params, resOne, exists_eq_left']
    · have hil : i < acc.length := by omega
      obtain ⟨a', S', q, gw', iu⟩ := gw.app1 wf hn2 [.row 1 1 (acc.getD i []).length (ints (acc.getD i []))] rfl (bytes := 24) (by omega) (by unfold bound46; omega) (by unfold bound46; omega) rfl
      have ga' : S'.get (S.n + 1) = _ := (iu.get (S.n + 1) (by omega)).trans ga
      simp (disch := omega) only [q, ofO_some, Int.reduceNeg, One_one, gw'.np, chkK_true, dect, Bool.not_true, get_cons', ↓reduceIte, nat_ne, f12, dchk_33, List.contains_cons, Nat.reduceBEq, beq_self_eq_true, List.contains_nil, Bool.or_false, Bool.or_true, dchk_31, dchk_32, same_eq, aop_ld1, withS, AX.ev, ld1_ptr, ga', ldO_cells, ble_dec, Nat.le_refl, decide_true, Bool.and_true, blt_dec, Nat.reduceLT, List.getElem?_cons_succ, List.getElem?_cons_zero, cond_true, isSame_one, Bool.true_or, ↓WD_cons, Fr.keep, aop_nck, sik, AOp.acts, AOp.reads, cond_false, List.all_cons, List.all_nil, Nat.reduceAdd, Fr.put, np_ptr, dchk_13, dchk_11, dchk_12, aop_fad, Nat.zero_add, aop_st, AS.st, gw'.cells, List.length_cons, List.length_nil, beq_dec, stl_get, stO_cells, Nat.reduceLeDiff, gw'.one, setL, consS_eq, Option.map_some, undefA, np_tup, AS.get_put, ↓WD_nil, ↓blkK_norm, ↓thenK_norm, f69, wrap64_id, AllK_one, panK_int, ↓WO_cons, aop_mv, ↓WO_nil, f2, f3, f5, f67, f68, Option.some.injEq, AS.n_put, true_and]
      have hrow : rows 1 (acc.take (i + 1)) = rows 1 (acc.take i) ++ [.row 1 1 (acc.getD i []).length (ints (acc.getD i []))] := by
        rw [rows_snoc, List.take_add_one, List.getElem?_eq_getElem hil, List.getD_eq_getElem?_getD, List.getElem?_eq_getElem hil]; rfl
      refine ⟨m - 1, by omega, i + 1, a', by omega, by rw [hacc, hst, if_neg (fun h => h c5)], rfl, fun v hv => by rw [if_neg (by omega)]; exact (iu.get v (by omega)).trans (hold v hv), (iu.get S.n (by omega)).trans gh, rfl, by rw [hrow]; exact gw'.put _ (by omega), ?_, ?_⟩
      · exact iu.wf.put (by have := iu.n; omega) _
      · exact iu.n
    · rw [hst, if_pos c5] at hacc
      have he : rnewE how ⟨k, K, o, n, nx, ot⟩ acc w = 32 := by unfold rnewE; rw [if_neg c1, if_neg (fun h => h c2), if_neg c3, if_pos (by rw [hacc]; omega), hacc]
      rw [hO _ he (by omega)]
      exact hbad _ _ hold
  have hacc0 : accE ⟨k, K, o, n, nx, ot⟩ 0 acc = 0 := by rw [hacc, List.drop_of_length_le (by omega)]; rfl
  have hf3 : frzF S1 3 (.row 1 1 w.length (ints w)) = some (rowI 1 w) := by rw [frzF_row, scal_ints]; rfl
  by_cases c6 : wordE w K = 0
  rotate_left
  · simp (disch := omega) only [↓WC_exit, ↓thenK_exit, ↓blkK_exit, ↓reduceIte, ↓thenK_norm, decf, get_cons', nat_ne, f3, panK_row, ↓WO_cons, aop_fad, AX.ev, f5, Nat.zero_add, Fr.put, AllK_one, panK_ptr, aop_ld1, withS, ld1_ptr, gh, ldO_cells, ble_dec, Nat.le_refl, decide_true, Bool.and_true, blt_dec, Nat.reduceLT, List.getElem?_cons_succ, List.getElem?_cons_zero, cond_true, panK_int, aop_call, AX.evs, call_giv1 G30_89, wcheckS, pureG_eq, AV.scalL, AV.scalar, scal_ints, sp2, de_R0, de_I, Option.bind_some, spK_some, mapO_cons, hf3, frzF_int, mapO_nil, Option.map_some, spB_some, AV.inz, inz_ae, panK_tup, aop_mv, aop_xt, panK_any, ↓WO_nil, ↓e46_17, a46_17, ↓WC_cond, ↓WC_reg, aop_bin, abin, isShift, kindBeq, aint, ine_dec, c6, decide_false, Bool.not_false, cond_false, panK_bool, condK_true, ↓WC_seq, panK_nilp, ↓WC_ret, ↓thenK_ret, endG_ret, resV, Option.some.injEq, params, resOne, exists_eq_left']
    have he : rnewE how ⟨k, K, o, n, nx, ot⟩ acc w = wordE w K := by unfold rnewE; rw [if_neg c1, if_neg (fun h => h c2), if_neg c3, if_neg (fun h => h hacc0), if_pos c6]
    rw [hO _ he c6]
    exact hbad _ _ hold
  by_cases hwn : w.length = 0
  · have he : rnewE how ⟨k, K, o, n, nx, ot⟩ acc w = 1 := by unfold rnewE; rw [if_neg c1, if_neg (fun h => h c2), if_neg c3, if_neg (fun h => h hacc0), if_neg (fun h => h c6), if_pos hwn]
    rw [hO _ he (by omega)]
    simp (disch := omega) only [↓WC_exit, ↓thenK_exit, ↓blkK_exit, ↓reduceIte, ↓thenK_norm, decf, get_cons', nat_ne, f3, panK_row, ↓WO_cons, aop_fad, AX.ev, f5, Nat.zero_add, Fr.put, AllK_one, panK_ptr, aop_ld1, withS, ld1_ptr, gh, ldO_cells, ble_dec, Nat.le_refl, decide_true, Bool.and_true, blt_dec, Nat.reduceLT, List.getElem?_cons_succ, List.getElem?_cons_zero, cond_true, panK_int, aop_call, AX.evs, call_giv1 G30_89, wcheckS, pureG_eq, AV.scalL, AV.scalar, scal_ints, sp2, de_R0, de_I, Option.bind_some, c6, spK_some, mapO_cons, hf3, frzF_int, mapO_nil, Option.map_some, spB_some, AV.inz, inz_ae, panK_tup, aop_mv, aop_xt, panK_any, ↓WO_nil, ↓e46_17, a46_17, ↓WC_cond, ↓WC_reg, aop_bin, abin, isShift, kindBeq, aint, ine_dec, Bool.not_true, cond_false, panK_bool, condK_false, ↓WC_skip, aop_len0, lenA_row, ieq_dec, dect, condK_true, ↓WC_seq, panK_nilp, ↓WC_ret, ↓thenK_ret, endG_ret, resV, Option.some.injEq, params, resOne, exists_eq_left']
    exact hbad _ _ hold
  have he : rnewE how ⟨k, K, o, n, nx, ot⟩ acc w = 0 := by unfold rnewE; rw [if_neg c1, if_neg (fun h => h c2), if_neg c3, if_neg (fun h => h hacc0), if_neg (fun h => h c6), if_neg hwn]
  have hO0 : pnewO how ⟨k, K, o, n, nx, ot⟩ acc w S = (.tup [.ptr (S.n + 1) 0 0 14, .int .i64 0], (⟨S.objs, S.n + 1, S.mw⟩ : AS).push (.cells (paV (S.n + 1) how ⟨k, K, o, n, nx, ot⟩ acc w) 14 0 0 false false)) := by unfold pnewO; rw [if_pos he]
  rw [hO0]
  have hil : i = acc.length := by omega
  subst hil
  rw [List.take_length] at gw
  simp (disch := omega) only [↓WC_exit, ↓thenK_exit, ↓blkK_exit, ↓reduceIte, ↓thenK_norm, decf, get_cons', nat_ne, f3, panK_row, ↓WO_cons, aop_fad, AX.ev, f5, Nat.zero_add, Fr.put, AllK_one, panK_ptr, aop_ld1, withS, ld1_ptr, gh, ldO_cells, ble_dec, Nat.le_refl, decide_true, Bool.and_true, blt_dec, Nat.reduceLT, List.getElem?_cons_succ, List.getElem?_cons_zero, cond_true, panK_int, aop_call, AX.evs, call_giv1 G30_89, wcheckS, pureG_eq, AV.scalL, AV.scalar, scal_ints, sp2, de_R0, de_I, Option.bind_some, c6, spK_some, mapO_cons, hf3, frzF_int, mapO_nil, Option.map_some, spB_some, AV.inz, inz_ae, panK_tup, aop_mv, aop_xt, panK_any, ↓WO_nil, ↓e46_17, a46_17, ↓WC_cond, ↓WC_reg, aop_bin, abin, isShift, kindBeq, aint, ine_dec, Bool.not_true, cond_false, panK_bool, condK_false, ↓WC_skip, aop_len0, lenA_row, ieq_dec, f12, aop_mkfn, panK_fn, aop_nck, aop_st, AS.st, cells_fn, List.length_cons, List.length_nil, beq_dec, stl_get, ga, Int.reduceNeg, stO_cells, Nat.reduceAdd, Nat.reduceLeDiff, List.all_cons, one_fn, List.all_nil, setL, consS_eq, undefA, ↓WC_ret, endG_ret, resV, Option.some.injEq, params, resOne, AS.n_push, exists_eq_left']
  exact pnew_end hS (fun v hv => by rw [AS.get_put, if_neg (by omega)]; exact hold v hv) (by rw [AS.get_put, if_pos rfl]) (gw.put _ (by omega)) hn2
open Classical in
noncomputable def pnewG (args : List AV) (S : AS) : Option (AV × AS) := match args with
  | [.int .i64 how, h, ac, y] => match (cMa 1).de h, (cWo 1).de ac, chW (YW S y) with
    | some h, some ac, some w => if LowS S ∧ ac.length ≤ 100000 ∧ InR h.nx ∧ InR h.ot ∧ w.length ≤ 1000000000000 then some (pnewO how h ac w S) else none
    | _, _, _ => none
  | _ => none
theorem pnewG_pos {S : AS} {how : Int} {h ac y : AV} {m : Mach} {acc : List (List Int)} {w : List Int} (e1 : (cMa 1).de h = some m) (e2 : (cWo 1).de ac = some acc) (e3 : YW S y w) (hS : LowS S) (hal : acc.length ≤ 100000) (h1 : InR m.nx) (h2 : InR m.ot) (hw : w.length ≤ 1000000000000) :
    pnewG [.int .i64 how, h, ac, y] S = some (pnewO how m acc w S) := by
  simp only [pnewG, e1, e2, chW_pos e3 fun w' h' => h'.uniq e3]
  rw [if_pos ⟨hS, hal, h1, h2, hw⟩]
theorem pnewO_fro {how : Int} {h : Mach} {acc : List (List Int)} {w : List Int} {S : AS} : Fro S (pnewO how h acc w S).2 ∧ S.n ≤ (pnewO how h acc w S).2.n := by
  unfold pnewO
  split
  · have hg : ∀ v, v < S.n → ((⟨S.objs, S.n + 1, S.mw⟩ : AS).push (.cells (paV (S.n + 1) how h acc w) 14 0 0 false false)).get v = S.get v := fun v hv => by
      rw [AS.get_push, if_neg (show ¬ v = S.n + 1 by omega)]; rfl
    exact ⟨⟨show S.n ≤ S.n + 2 by omega, Nat.le_refl _, fun v h1 _ => hg v h1, fun v h1 h2 => (hg v h1).trans h2⟩, show S.n ≤ S.n + 2 by omega⟩
  · exact ⟨Fro.refl _, Nat.le_refl _⟩
theorem pnew_ok : GivS P 46 pnewG := by
  intro args S r S' hg
  unfold pnewG at hg
  split at hg
  case h_2 => cases hg
  rename_i how h ac y
  split at hg
  case h_2 => cases hg
  rename_i m acc w e1 e2 e3
  split at hg
  case isFalse => cases hg
  rename_i hc
  obtain ⟨hS, hal, h1, h2, hw⟩ := hc
  have hgo := Option.some.inj hg
  have hr : (pnewO how m acc w S).1 = r := by rw [hgo]
  have hs : (pnewO how m acc w S).2 = S' := by rw [hgo]
  subst hr; subst hs
  refine ⟨pnewO_fro.1, fun w0 ρ W cargs hRS hRL => ?_⟩
  rcases chW_say e3 with e3 | ⟨⟨b, g0, rfl⟩, hy, hfr⟩
  · exact giv_runS fn46 rfl pnewO_fro.2 (pnew_r hS hal h1 h2 hw) w0 ρ W cargs hRS ((show WkL [.int .i64 how, h, ac, y] [.int .i64 how, (cMa 1).en m, rowW 1 acc, rowI 1 w] from ⟨Wk.refl _, (cMa 1).wk _ _ e1, (cWo 1).wk _ _ e2, (cRo 1).wk _ _ e3, trivial⟩).rel hRL)
  · exact giv_runS fn46 rfl pnewO_fro.2 (pnew_s hS hal h1 h2 hw b g0 hy hfr) w0 ρ W cargs hRS ((show WkL [.int .i64 how, h, ac, .slice b g0 0 w.length none 1] [.int .i64 how, (cMa 1).en m, rowW 1 acc, .slice b g0 0 w.length none 1] from ⟨Wk.refl _, (cMa 1).wk _ _ e1, (cWo 1).wk _ _ e2, Wk.refl _, trivial⟩).rel hRL)
noncomputable def G31 : Giv := addG 46 (stG pnewG) (G30)
theorem G31_fine : Fine P G31 := (G30_fine).state pnew_ok
end Go.Proofs.Ytednmmcdjhfflaa.Vai
