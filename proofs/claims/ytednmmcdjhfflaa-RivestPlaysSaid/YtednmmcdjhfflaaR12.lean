/- The program's analysis, where it lies: its next place. -/
import Derived.Test.YtednmmcdjhfflaaR11b
namespace Go.Proofs.Ytednmmcdjhfflaa.Vai
open Go
set_option linter.unusedVariables false
set_option linter.unusedSimpArgs false
abbrev paGV (a : RA) (sd se at_ tk : AV) : List AV := [.int .i64 a.how, .int .i64 a.h.kind, .int .i64 a.h.K, .int .i64 a.h.O, .int .i64 a.h.N, rowI 1 a.h.nx, rowI 1 a.h.ot, rowW 1 a.acc, rowI 1 a.w, sd, se, at_, tk, .int .i64 a.asked]
abbrev anO (c : List AV) : AObj := .cells c 14 0 0 false false
abbrev wholeV (v : Nat) : AV := .fn (.func 111) [.ptr v 0 0 14] []
abbrev placeV (v : Nat) : AV := .fn (.func 154) [.ptr v 0 0 14] []
def atS (s : PS) : AV := if s.ask.2 = true then atV false false s.ask.1 else atV true false s.low
structure Kpt (w : Nat → Prop) (S S' : AS) : Prop where
  n : S.n ≤ S'.n
  get : ∀ u, u < S.n → ¬ w u → S'.get u = S.get u
  wf : Wf S → Wf S'
theorem Kpt.trans {w : Nat → Prop} {a b c : AS} (h : Kpt w a b) (k : Kpt w b c) : Kpt w a c := ⟨Nat.le_trans h.n k.n, fun u h1 h2 => by rw [k.get u (Nat.lt_of_lt_of_le h1 h.n) h2, h.get u h1 h2], fun q => k.wf (h.wf q)⟩
theorem Kpt.mono {w w' : Nat → Prop} {a b : AS} (h : Kpt w a b) (k : ∀ u, w u → w' u) : Kpt w' a b := ⟨h.n, fun u h1 h2 => h.get u h1 fun q => h2 (k u q), h.wf⟩
theorem Kpt.refl {w : Nat → Prop} (a : AS) : Kpt w a a := ⟨Nat.le_refl _, fun _ _ _ => rfl, id⟩
theorem PS.ask_f {s : PS} (h : s.ask.2 = false) : s.high = s.low + 1 := by
  unfold PS.ask at h
  by_cases hc : s.high = s.low + 1
  · exact hc
  · rw [if_neg hc] at h; cases h
theorem Kpt.put {w : Nat → Prop} {S S' : AS} (h : Kpt w S S') {v : Nat} {o : AObj} (hv : w v) (hlt : v < S.n) : Kpt w S (S'.put v o) := ⟨h.n, fun u h1 h2 => by rw [AS.get_put, if_neg (by rintro rfl; exact h2 hv)]; exact h.get u h1 h2, fun q => (h.wf q).put (Nat.lt_of_lt_of_le hlt h.n) _⟩
theorem Kpt.same {w : Nat → Prop} {S S' : AS} (h : Kpt w S S') {S'' : AS} (hg : ∀ u, S''.get u = S'.get u) (hn : S''.n = S'.n) : Kpt w S S'' := ⟨by rw [hn]; exact h.n, fun u h1 h2 => by rw [hg]; exact h.get u h1 h2, fun q u o ho => by rw [hn]; exact h.wf q u o (by rw [← hg]; exact ho)⟩
theorem Kpt.mw {w : Nat → Prop} {S : AS} {m : Nat} : Kpt w S ⟨S.objs, S.n, m⟩ := (Kpt.refl S).same (fun _ => rfl) rfl
theorem finA_low {S S' : AS} {v : AV} (h : S'.mw < S.n) : finA S v S' = finB S S' := by
  rcases finA_or S v S' with ⟨h1, h2⟩ | h1
  · rw [finA_if h2, if_neg (by omega)]
  · exact h1
set_option maxRecDepth 4000 in
theorem next_all {L d v p e : Nat} {S : AS} {a : RA} {sd at0 tk : AV} {s : PS} {T : AV × AS → Prop} (hv : v < S.n) (hg : S.get v = some (anO (paGV a sd (.ptr p 0 0 4) at0 tk))) (hs : SrchAt S p e s) (hb : s.B)
    (k : ∀ S', S'.get v = some (anO (paGV a sd (.ptr p 0 0 4) (atS s) tk)) → Kpt (· = v) S S' → S'.mw ≤ v → T (.tup [], S')) : AllK (callE G37 L (d + 1 + 1) (ctxE P kpN fun _ => none) 155 [.ptr v 0 0 14] S) T := by
  refine call_all (C := ctxE P kpN fun _ => none) (G := G37) (L := L) (d := d + 1) (f := 155) (args := [.ptr v 0 0 14]) (S := S) (T := T) rfl fn155 rfl ?_
  have hg' : (⟨S.objs, S.n, S.n⟩ : AS).get v = some (.cells (paGV a sd (.ptr p 0 0 4) at0 tk) 14 0 0 false false) := hg
  obtain ⟨x, l1, l2⟩ := (hs.mw (m := S.n)).lend
  have kk : ∀ S1 : AS, (∀ u, S1.get u = if u = v then some (anO (paGV a sd (.ptr p 0 0 4) (atS s) tk)) else S.get u) → S1.n = S.n → S1.mw = v → T (.tup [], finA S (.tup []) S1) := fun S1 h1 h2 h3 => by
    rw [finA_low (by omega)]
    refine k _ (by rw [finB_get, h1, if_pos rfl]) ⟨by rw [finB_n, h2]; exact Nat.le_refl _, fun u q1 q2 => by rw [finB_get, h1, if_neg q2], fun q u o ho => ?_⟩ ?_
    · rw [finB_n, h2]
      rw [finB_get, h1] at ho
      split at ho
      · rename_i e; subst e; exact hv
      · exact q u o ho
    · show (bif Nat.blt S.mw S1.mw then S.mw else S1.mw) ≤ v
      rw [blt_dec]
      cases hd : decide (S.mw < S1.mw) with
      | true => have := of_decide_eq_true hd; simp only [cond_true]; omega
      | false => simp only [cond_false]; omega
  obtain ⟨⟨i, m⟩, hA⟩ : ∃ A, s.ask = A := ⟨_, rfl⟩
  cases m with
  | true =>
    have hat : atS s = .ifc 167 (.agg [.int .i64 i]) := by unfold atS; rw [hA]; rfl
    simp (disch := omega) only [↓e155, a155, params, ↓e155_3, a155_3, ↓e155_4, a155_4, ↓WC_reg, ↓WO_cons, aop_mv, AX.ev, Fr.put, AllK_one, ↓WC_seq, get_cons', ↓reduceIte, panK_ptr, aop_nck, aop_fad, Nat.zero_add, aop_ld1, withS, ld1_ptr, hg', ldO_cells, ble_dec, Nat.le_refl, decide_true, Bool.and_true, blt_dec, Nat.reduceLT, List.getElem?_cons_succ, List.getElem?_cons_zero, cond_true, aop_call, AX.evs, call_giv G37_175, psaskS, pureG_eq, AV.scalL, AV.scalar, sp1, mapO_cons, l1, mapO_nil, Option.map_some, Option.bind_some, l2, hA, gd_pos hb, spB_some, AV.inz, AV.inzL, cond_false, panK_tup, aop_xt, panK_int, nat_ne, panK_bool, ↓WO_nil, ↓thenK_norm, ↓e155_1, a155_1, ↓e155_2, a155_2, ↓WC_cond, condK_true, aop_build, fillL, cells_int, List.length_cons, List.length_nil, beq_dec, setL, consS_eq, panK_agg, aop_mkif, panK_ifc, aop_st, AS.st, cells_ifc, stl_get, stO_cells, Nat.reduceAdd, Nat.reduceLeDiff, List.all_cons, one_ifc, List.all_nil, undefA, ↓WC_ret, ↓thenK_ret, endK_ret, resV, Option.some.injEq, resOne, exists_eq_left']
    exact kk _ (fun u => by rw [AS.get_put, hat]; rfl) rfl (by simp only [AS.put, blt_dec, decide_eq_true hv, cond_true])
  | false =>
    have hlo := PS.ask_f (s := s) (by rw [hA])
    have hat : atS s = .ifc 180 (.agg [.bool false, .int .i64 s.low]) := by unfold atS; rw [hA]; rfl
    simp (disch := omega) only [↓e155, a155, params, ↓e155_3, a155_3, ↓e155_4, a155_4, ↓WC_reg, ↓WO_cons, aop_mv, AX.ev, Fr.put, AllK_one, ↓WC_seq, get_cons', ↓reduceIte, panK_ptr, aop_nck, aop_fad, Nat.zero_add, aop_ld1, withS, ld1_ptr, hg', ldO_cells, ble_dec, Nat.le_refl, decide_true, Bool.and_true, blt_dec, Nat.reduceLT, List.getElem?_cons_succ, List.getElem?_cons_zero, cond_true, aop_call, AX.evs, call_giv G37_175, psaskS, pureG_eq, AV.scalL, AV.scalar, sp1, mapO_cons, l1, mapO_nil, Option.map_some, Option.bind_some, l2, hA, gd_pos hb, spB_some, AV.inz, AV.inzL, cond_false, panK_tup, aop_xt, panK_int, nat_ne, panK_bool, ↓WO_nil, ↓thenK_norm, ↓e155_1, a155_1, ↓e155_2, a155_2, ↓WC_cond, condK_false, ↓WC_skip, call_giv G37_176, psfoundS, hlo, aop_build, fillL, cells_int, List.length_cons, List.length_nil, beq_dec, Nat.reduceAdd, setL, consS_eq, panK_agg, aop_mkif, panK_ifc, aop_st, AS.st, cells_ifc, stl_get, stO_cells, Nat.reduceLeDiff, List.all_cons, one_ifc, List.all_nil, undefA, endK_norm, resV, Option.some.injEq, resOne, exists_eq_left']
    exact kk _ (fun u => by rw [AS.get_put, hat]; rfl) rfl (by simp only [AS.put, blt_dec, decide_eq_true hv, cond_true])
abbrev RA.pa (a : RA) (said : List (List Int)) (ov sp : Bool) (pl : Int) : PA := ⟨a.how, a.h, a.acc, a.w, said, ov, sp, pl, a.asked⟩
theorem frz_int {S : AS} {k : Nat} {i : Int} : frzF S k (.int .i64 i) = some (.int .i64 i) := by cases k <;> rfl
theorem frz_row {S : AS} {k z n : Nat} {xs : List Int} : frzF S k (.row z 1 n (ints xs)) = some (.row z 1 n (ints xs)) := by
  cases k with
  | zero => rw [frzF_0]; simp only [AV.scalar, scal_ints, cond_true]
  | succ k => rw [frzF_row, scal_ints]; rfl
theorem frz_rows {S : AS} {k z n : Nat} {l : List (List Int)} : frzF S k (.row z 1 n (rows z l)) = some (.row z 1 n (rows z l)) := by
  cases k with
  | zero => rw [frzF_0]; simp only [AV.scalar, scal_rows, cond_true]
  | succ k => rw [frzF_row, scal_rows]; rfl
def SaidR : List AV → List (List Int) → Prop
  | [], [] => True
  | c :: cs, w :: ws => (c = rowI 1 w ∨ (c = .nils ∧ w = [])) ∧ SaidR cs ws
  | _, _ => False
theorem SaidR.len : ∀ {cs : List AV} {ws : List (List Int)}, SaidR cs ws → cs.length = ws.length
  | [], [], _ => rfl
  | _ :: _, _ :: _, h => congrArg (· + 1) (SaidR.len h.2)
  | [], _ :: _, h => h.elim
  | _ :: _, [], h => h.elim
theorem SaidR.lend {S : AS} {k : Nat} : ∀ {cs : List AV} {ws : List (List Int)}, SaidR cs ws → mapO (frzF S k) cs = some cs ∧ mapQ (cRo 0).de cs = some ws
  | [], [], _ => ⟨rfl, rfl⟩
  | c :: cs, w :: ws, h => by
    obtain ⟨h1, h2⟩ := SaidR.lend (S := S) (k := k) h.2
    rcases h.1 with rfl | ⟨rfl, rfl⟩
    · rw [mapO_cons, frz_row, h1]
      refine ⟨rfl, ?_⟩
      simp only [mapQ, h2, de_R (Nat.zero_le 1)]
    · have : frzF S k .nils = some .nils := by cases k <;> rfl
      rw [mapO_cons, this, h1]
      refine ⟨rfl, ?_⟩
      simp only [mapQ, h2, de_Rn]
  | [], _ :: _, h => h.elim
  | _ :: _, [], h => h.elim
theorem SaidR.set {w : List Int} : ∀ {cs : List AV} {ws : List (List Int)} {i : Nat}, SaidR cs ws → SaidR (setL cs i [rowI 1 w]) (ws.set i w)
  | [], [], i, _ => by cases i <;> trivial
  | c :: cs, u :: ws, 0, h => by
    simp only [setL, consS_eq, setL_nil, List.set_cons_zero]
    exact ⟨.inl rfl, h.2⟩
  | c :: cs, u :: ws, i + 1, h => by
    simp only [setL, consS_eq, List.set_cons_succ]
    exact ⟨h.1, SaidR.set h.2⟩
  | [], _ :: _, _, h => h.elim
  | _ :: _, [], _, h => h.elim
theorem setL_at {x : AV} {cs : List AV} {i : Nat} (h : i < cs.length) : (setL cs i [x])[i]? = some x := by
  rw [setL_get cs i [x] i (by simp only [List.length_cons, List.length_nil]; omega), if_pos ⟨Nat.le_refl _, by simp⟩, Nat.sub_self]; rfl
theorem setL_len {x : AV} : ∀ {cs : List AV} {i : Nat}, (setL cs i [x]).length = cs.length
  | [], i => by cases i <;> rfl
  | c :: cs, 0 => by simp only [setL, consS_eq, setL_nil, List.length_cons]
  | c :: cs, i + 1 => by simp only [setL, consS_eq, List.length_cons, setL_len]
theorem optBeq_nn : optBeq none none = true := rfl
structure PaD (v p e sb : Nat) (S : AS) : Prop where
  lv : v < S.n
  lp : p < S.n
  le : e < S.n
  ls : sb < S.n
  vp : v < p
  ve : v < e
  vs : v < sb
  pe : p ≠ e
  ps : p ≠ sb
  es : e ≠ sb
theorem PaD.mono {v p e sb : Nat} {S S' : AS} (h : PaD v p e sb S) (hn : S.n ≤ S'.n) : PaD v p e sb S' := ⟨Nat.lt_of_lt_of_le h.lv hn, Nat.lt_of_lt_of_le h.lp hn, Nat.lt_of_lt_of_le h.le hn, Nat.lt_of_lt_of_le h.ls hn, h.vp, h.ve, h.vs, h.pe, h.ps, h.es⟩
theorem frz_at {S : AS} {ov sp : Bool} {pl : Int} : frzF S 2 (atV ov sp pl) = some (atV ov sp pl) := by cases ov <;> rfl
theorem pa_lend {S : AS} {v g : Nat} {a : RA} {sd se x y : AV} {ov sp : Bool} {pl : Int} {ws : List (List Int)} (hg : S.get v = some (anO (paGV a sd se (atV ov sp pl) (.fn (.func g) [.ptr v 0 0 14] []))))
    (h1 : frzF S 2 sd = some x) (h2 : (cWo 0).de x = some ws) (h3 : frzF S 2 se = some y) (h4 : ov = false → sp = false) : ∃ x, frzF S 3 (.ptr v 0 0 14) = some x ∧ cPA.de x = some (a.pa ws ov sp pl) := by
  refine ⟨.fp 0 [.int .i64 a.how, .int .i64 a.h.kind, .int .i64 a.h.K, .int .i64 a.h.O, .int .i64 a.h.N, rowI 1 a.h.nx, rowI 1 a.h.ot, rowW 1 a.acc, rowI 1 a.w, x, y, atV ov sp pl, fnF (.func g) (mapO (frzF S 1) [.ptr v 0 0 14]) (mapO (frzF S 1) []), .int .i64 a.asked] 0, ?_, ?_⟩
  · rw [frzF_ptr, hg]
    simp only [anO, frzP_cells, List.take_succ_cons, List.take_zero, mapO_cons, mapO_nil, frz_int, frz_row, frz_rows, h1, h3, frz_at, frzF_fn, Option.bind_some, Option.map_some, Nat.ble_eq_true_of_le, Nat.le_refl, Bool.and_self, cond_true]
  · have ha : deAt (atV ov sp pl) = some (ov, sp, pl) := by
      cases ov with
      | true => rfl
      | false => rw [h4 rfl]; rfl
    rw [de_PA, de_R (Nat.zero_le 1), de_R (Nat.zero_le 1), de_W (Nat.zero_le 1), de_R (Nat.zero_le 1), h2, ha]
    rfl
theorem frz_said {S : AS} {sb n : Nat} {cs : List AV} {ws : List (List Int)} (h : S.get sb = some (.cells cs 1 0 0 false false)) (hn : cs.length = n) (hs : SaidR cs ws) : frzF S 2 (.slice sb 0 0 n none 1) = some (.row 0 1 n cs) ∧ (cWo 0).de (.row 0 1 n cs) = some ws := by
  obtain ⟨h1, h2⟩ := hs.lend (S := S) (k := 1)
  refine ⟨?_, h2⟩
  subst hn
  rw [frzF_slice, h, frzS_cells, Nat.zero_mul, List.drop_zero, Nat.mul_one, Nat.mul_one, List.take_length, h1]
  simp only [Nat.zero_add, Nat.mul_one, Nat.ble_eq_true_of_le, Nat.le_refl, Bool.and_self, cond_true, Option.map_some]
theorem frz_srch {S : AS} {p e : Nat} {s : PS} (h : SrchAt S p e s) : ∃ y, frzF S 2 (.ptr p 0 0 4) = some y := by
  obtain ⟨w, l, hi, a⟩ := s
  have h1 := h.at_
  cases w with
  | lin => exact ⟨_, by rw [frzF_ptr, h1]; rfl⟩
  | bin => exact ⟨_, by rw [frzF_ptr, h1]; rfl⟩
  | exp st no => exact ⟨_, by rw [frzF_ptr, h1]; rfl⟩
theorem pa_ok {a : RA} {ws : List (List Int)} {ov sp : Bool} {pl : Int} (h : a.Ok) : (a.pa ws ov sp pl).ra.Ok := ⟨h.m, h.w, h.wl, h.al, h.aw⟩
theorem pa_mine {a : RA} {ws : List (List Int)} {ov sp : Bool} {pl i : Int} : (a.pa ws ov sp pl).ra.mine i = a.mine i := rfl
set_option maxRecDepth 8000 in
set_option maxHeartbeats 4000000 in
theorem place_all {L d v p e sb n g : Nat} {S : AS} {a : RA} {s : PS} {i : Int} {cs : List AV} {ws : List (List Int)} {out : List Int} {T : AV × AS → Prop} (hD : PaD v p e sb S) (hwf : Wf S)
    (hg : S.get v = some (anO (paGV a (.slice sb 0 0 n none 1) (.ptr p 0 0 4) (.ifc 167 (.agg [.int .i64 i])) (.fn (.func g) [.ptr v 0 0 14] [])))) (hsb : S.get sb = some (.cells cs 1 0 0 false false)) (hcs : cs.length = n) (hsd : SaidR cs ws) (hs : SrchAt S p e s) (hb : s.B) (hb2 : ∀ b, (s.tell b).B) (hA : s.ask = (i, true)) (hi0 : 0 ≤ i) (hin : i < n)
    (ha : a.Ok) (hiw : i ≤ a.w.length) (hol : out.length ≤ 1000000000000) (hfit : a.h.kind = 1 → out.length = 1) (k : ∀ S', S'.get v = some (anO (paGV a (.slice sb 0 0 n none 1) (.ptr p 0 0 4) (atS (s.tell (decide (endO a.h.kind out (a.w.length - i.toNat) = a.mine i)))) (.fn (.func g) [.ptr v 0 0 14] []))) → S'.get sb = some (.cells (setL cs i.toNat [rowI 1 (endO a.h.kind out (a.w.length - i.toNat))]) 1 0 0 false false) →
      SrchAt S' p e (s.tell (decide (endO a.h.kind out (a.w.length - i.toNat) = a.mine i))) → Kpt (fun u => u = v ∨ u = p ∨ u = e ∨ u = sb) S S' → S'.mw ≤ v → T (.int .i64 0, S')) :
    AllK (callE G37 L (d + 1 + 1 + 1) (ctxE P kpN fun _ => none) 154 [.ptr v 0 0 14, rowI 1 out] S) T := by
  refine call_all (C := ctxE P kpN fun _ => none) (G := G37) (L := L) (d := d + 1 + 1) (f := 154) (args := [.ptr v 0 0 14, rowI 1 out]) (S := S) (T := T) rfl fn154 rfl ?_
  have hg' : (⟨S.objs, S.n, S.n⟩ : AS).get v = some (.cells (paGV a (.slice sb 0 0 n none 1) (.ptr p 0 0 4) (.ifc 167 (.agg [.int .i64 i])) (.fn (.func g) [.ptr v 0 0 14] [])) 14 0 0 false false) := hg
  obtain ⟨y, hy⟩ := frz_srch (hs.mw (m := S.n))
  obtain ⟨f1, f2⟩ := frz_said (S := ⟨S.objs, S.n, S.n⟩) hsb hcs hsd
  obtain ⟨x, l1, l2⟩ := pa_lend (S := ⟨S.objs, S.n, S.n⟩) (ov := false) (sp := false) (pl := i) hg' f1 f2 hy fun _ => rfl
  have g1 : (a.pa ws false false i).ra.Ok ∧ 0 ≤ i ∧ i ≤ (a.pa ws false false i).w.length := ⟨pa_ok ha, hi0, hiw⟩
  obtain ⟨m, hm⟩ : ∃ m : Int, m = if a.h.kind = 1 then 1 else a.w.length - i := ⟨_, rfl⟩
  have hwl := ha.wl
  have hmb : 0 ≤ m ∧ m ≤ 1000000000000 := by rw [hm]; split <;> omega
  have hmo : out.drop (out.length - m.toNat) = endO a.h.kind out (a.w.length - i.toNat) := by
    unfold endO
    rw [hm]
    by_cases hk1 : a.h.kind = 1
    · rw [if_pos hk1, if_pos hk1, hfit hk1]; rfl
    · rw [if_neg hk1, if_neg hk1, show ((a.w.length : Int) - i).toNat = a.w.length - i.toNat by omega]
  have g2 : out.length ≤ 1000000000000 ∧ 0 ≤ m ∧ m ≤ 1000000000000 := ⟨hol, hmb⟩
  obtain ⟨lv, lp, le, ls, vp0, ve0, vs0, pe, ps, es⟩ := id hD
  have vp : v ≠ p := by omega
  have ve : v ≠ e := by omega
  have vs : v ≠ sb := by omega
  have hsb' : (⟨S.objs, S.n, S.n⟩ : AS).get sb = some (.cells cs 1 0 0 false false) := hsb
  have hat1 : ∀ x : AV, (setL cs i.toNat [x])[i.toNat]? = some x := fun x => setL_at (by omega)
  have hol1 : (endO a.h.kind out (a.w.length - i.toNat)).length ≤ 1000000000000 := by rw [← hmo, List.length_drop]; omega
  have hml : (a.mine i).length ≤ 1000000000000 := by
    unfold RA.mine; rw [goO_len]; split
    · omega
    · rw [List.length_drop]; omega
  have g3 : (endO a.h.kind out (a.w.length - i.toNat)).length ≤ 1000000000000 ∧ (a.mine i).length ≤ 1000000000000 := ⟨hol1, hml⟩
  have hlen1 : ∀ x : AV, (setL cs i.toNat [x]).length = n := fun x => setL_len.trans hcs
  simp (disch := omega) only [↓e154, a154, params, Nat.zero_add, ↓e154_1, a154_1, ↓e154_2, a154_2, ↓e154_3, a154_3, ↓e154_4, a154_4, ↓WC_seq, ↓WC_reg, ↓WO_cons, aop_mv, AX.ev, Fr.put, AllK_one, ↓WC_draw, ↓WD_cons, Fr.keep, get_cons', ↓reduceIte, sik, AOp.acts, AOp.reads, cond_false, List.all_nil, Nat.reduceAdd, One_one, panK_int, ↓WO_nil, ↓thenK_norm, nat_ne, panK_ptr, aop_nck, aop_fad, aop_ld1, withS, ld1_ptr, hg', ldO_cells, ble_dec, Nat.le_refl, decide_true, Bool.and_true, blt_dec, Nat.reduceLT, List.getElem?_cons_succ, List.getElem?_cons_zero, cond_true, panK_ifc, aop_tas, beq_dec, panK_agg, aop_fld, aop_call, AX.evs, call_giv G37_112, pfrS, pureG_eq, AV.scalL, AV.scalar, sp2, de_I, Option.bind_some, mapO_cons, l1, frz_int, mapO_nil, Option.map_some, l2, gd_pos g1, spB_some, AV.inz, AV.inzL, inz_ints, panK_tup, aop_xt, panK_row, np_ptr, chkK_true, List.all_cons, dchk_11, np_slice, dchk_21, np_int, dchk_12, np_row, dchk_22, aop_len0, lenA_row, aop_bin, abin, isShift, kindBeq, aint, wrap64_id, call_giv G37_117, psizeS, ← hm, dchk_31, dchk_32, List.contains_cons, Nat.reduceBEq, beq_self_eq_true, List.contains_nil, Bool.or_false, Bool.or_true, same_eq, isSame_one, AV.beq, intBeq_self, beqL_ints, optBeq_nn, call_giv G37_116, pendS, scal_ints, de_R0, hmo, gd_pos g2, spK_some, dchk_33, aop_ixs, ixs_slice, Nat.mul_one, dchk_13, aop_st, AS.st, cells_row, List.length_cons, List.length_nil, stl_get, hsb', stO_cells, one_row, undefA, np_tup, AS.get_put, ↓WD_nil, dect, hat1, call_giv G37_101, sameS, gd_pos, np_bool, call_giv G37_174]
  generalize hS2 : AS.put _ sb _ = S2
  have q0 : S2.n = S.n := by rw [← hS2]; rfl
  have qg : ∀ u, u ≠ sb → S2.get u = S.get u := fun u hu => by rw [← hS2, AS.get_put, if_neg hu]; rfl
  have qs : S2.get sb = some (.cells (setL cs i.toNat [rowI 1 (endO a.h.kind out (a.w.length - i.toNat))]) 1 0 0 false false) := by rw [← hS2, AS.get_put, if_pos rfl]
  have qw : Wf S2 := by rw [← hS2]; exact Wf.put (fun u o h => hwf u o h) ls _
  have qm : S2.mw = sb := by rw [← hS2]; simp only [AS.put, blt_dec, decide_eq_true ls, cond_true]
  have qa : SrchAt S2 p e s := ⟨by rw [qg p ps]; exact hs.at_, fun st no h => by rw [qg e es]; exact hs.ex st no h, hs.ne⟩
  rw [pa_mine]
  generalize hb' : decide (endO a.h.kind out (a.w.length - i.toNat) = a.mine i) = b at *
  refine One.st (pstell_ex (v := b) qw qa hb (by rw [hA]) (by omega) (by omega)) ?_
  rintro r S' ⟨rfl, rfl⟩
  simp (disch := omega) only [np_int, chkK_true, get_cons', nat_ne, ↓reduceIte, dchk_33, List.contains_cons, Nat.reduceBEq, beq_self_eq_true, List.contains_nil, Bool.or_false, Bool.or_true, dchk_31, dchk_32, same_eq, aop_ld1, withS, AX.ev, ld1_ptr, Bool.true_or, Bool.and_true, ↓WD_nil, ↓thenK_norm, panK_ptr, ↓WO_cons, aop_call, AX.evs, Fr.put]
  have hat := psT_at (S := S2) (s := s.tell b) hs.ne
  refine next_all (a := a) (sd := .slice sb 0 0 n none 1) (at0 := .ifc 167 (.agg [.int .i64 i])) (tk := .fn (.func g) [.ptr v 0 0 14] []) (p := p) (e := e) (s := s.tell b) (by rw [AS.up_n]; omega) (by rw [AS.up_get, psT_get vp ve, qg v vs]; exact hg) ⟨hat.at_, hat.ex, hat.ne⟩ (hb2 b) fun S3 k1 k2 k3 => ?_
  have hn3 := k2.n
  rw [AS.up_n] at hn3
  simp (disch := omega) only [panK_tup, ↓WO_nil, ↓thenK_norm, ↓WC_seq, ↓WC_reg, ↓WO_cons, get_cons', nat_ne, ↓reduceIte, aop_mv, AX.ev, Fr.put, AllK_one, panK_int, ↓WC_ret, endK_ret, resV, Option.map_some, Option.some.injEq, resOne, exists_eq_left']
  rw [finA_low (by omega)]
  have kg : ∀ u, u ≠ v → u ≠ p → u ≠ e → u < S2.n + 1 → S3.get u = S2.get u := fun u h1 h2 h3 h4 => by rw [k2.get u (by rw [AS.up_n]; exact h4) h1, AS.up_get, psT_get h2 h3]
  refine k _ (by rw [finB_get]; exact k1) (by rw [finB_get, kg sb (Ne.symm vs) (Ne.symm ps) (Ne.symm es) (by omega)]; exact qs) ⟨?_, fun st no h => ?_, hs.ne⟩ ⟨by rw [finB_n]; omega, fun u h1 h2 => ?_, fun _ => ?_⟩ ?_
  · rw [finB_get, k2.get p (by rw [AS.up_n]; omega) (Ne.symm vp), AS.up_get]; exact hat.at_
  · rw [finB_get, k2.get e (by rw [AS.up_n]; omega) (Ne.symm ve), AS.up_get]; exact hat.ex st no h
  · simp only [not_or] at h2
    rw [finB_get, kg u h2.1 h2.2.1 h2.2.2.1 (by omega), qg u h2.2.2.2]
  · refine fun u o ho => ?_
    rw [finB_n]
    rw [finB_get] at ho
    exact k2.wf (fun u o ho => by
      rw [AS.up_get] at ho
      rw [AS.up_n]
      by_cases h1 : u = p
      · omega
      · by_cases h2 : u = e
        · omega
        · rw [psT_get h1 h2] at ho
          have := qw u o ho
          omega) u o ho
  · show (bif Nat.blt S.mw S3.mw then S.mw else S3.mw) ≤ v
    rw [blt_dec]
    cases hd : decide (S.mw < S3.mw) with
    | true => have := of_decide_eq_true hd; simp only [cond_true]; omega
    | false => simp only [cond_false]; omega
end Go.Proofs.Ytednmmcdjhfflaa.Vai
