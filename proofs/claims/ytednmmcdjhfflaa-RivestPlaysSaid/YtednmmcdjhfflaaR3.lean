/- An analysis is told something, as the reference does. -/
import Derived.Test.YtednmmcdjhfflaaR2
import Derived.Test.YtednmmcdjhfflaaVaiZW
namespace Go.Proofs.Ytednmmcdjhfflaa.Vai
open Go
set_option linter.unusedVariables false
set_option linter.unusedSimpArgs false
section
variable {S S' : AS} {u g q n sz k v : Nat} {l : Option Nat} {f : AV → Option AV}
theorem finA_slice : finA S (.slice u g q n l sz) S' = finB S S' := rfl
theorem finB_get {w : Nat} : (finB S S').get w = S'.get w := rfl
theorem finB_n : (finB S S').n = S'.n := rfl
theorem mapO_ints {xs : List Int} : mapO (frzF S (k + 1)) (ints xs) = some (ints xs) := by
  induction xs with
  | nil => rfl
  | cons x xs ih => rw [ints_cons, mapO_cons, ih]; rfl
def frzS (S : AS) (k : Nat) (ob : Option AObj) (g q len sz : Nat) : Option AV := match ob with
  | some (.cells c _ gen lo _ false) => bif Nat.ble lo g && Nat.ble g gen && Nat.ble ((q + len) * sz) c.length then (mapO (frzF S k) ((c.drop (q * sz)).take (len * sz))).map (.row 0 sz len) else none
  | _ => none
theorem frzF_slice : frzF S (k + 1) (.slice v g q n l sz) = frzS S k (S.get v) g q n sz := rfl
theorem frzS_cells {c : List AV} {z gen lo : Nat} {opn : Bool} : frzS S k (some (.cells c z gen lo opn false)) g q n sz = bif Nat.ble lo g && Nat.ble g gen && Nat.ble ((q + n) * sz) c.length then (mapO (frzF S k) ((c.drop (q * sz)).take (n * sz))).map (.row 0 sz n) else none := rfl
theorem slcS_hi {j : Int} (h0 : 0 ≤ j) (h1 : j ≤ n) : S.slc sz (.slice u g q n none sz) none (some (.int .i64 j)) none = some (.slice u g q j.toNat none sz) := by
  obtain ⟨j, rfl⟩ : ∃ k : Nat, j = k := ⟨j.toNat, by omega⟩
  have hj : j ≤ n := by omega
  simp only [AS.slc, beq_dec, decide_true, Bool.not_true, cond_false, optN, asNat, AS.known, ble_dec, decide_eq_true hj, cond_true, decide_eq_true (Nat.zero_le j), Bool.not_false, Bool.and_false, Bool.false_and, Nat.add_zero, Nat.sub_zero, Int.toNat_natCast]
theorem slcS_lo {i : Int} (h0 : 0 ≤ i) (h1 : i < n) : S.slc sz (.slice u g q n none sz) (some (.int .i64 i)) none none = some (.slice u g (q + i.toNat) (n - i.toNat) none sz) := by
  obtain ⟨i, rfl⟩ : ∃ k : Nat, i = k := ⟨i.toNat, by omega⟩
  have hi : i ≤ n := by omega
  have hne : ¬ n = i := by omega
  simp only [AS.slc, beq_dec, decide_true, Bool.not_true, cond_false, optN, asNat, AS.known, ble_dec, decide_eq_true hi, Nat.le_refl, cond_true, Bool.not_false, Bool.and_false, Bool.false_and, decide_eq_false hne, Int.toNat_natCast]
end
theorem frzF_agg {S : AS} {k : Nat} {l : List AV} : frzF S (k + 1) (.agg l) = (mapO (frzF S k) l).map .agg := rfl
theorem reps_nils : ∀ n : Nat, reps [AV.nils] n = List.replicate n .nils
  | 0 => rfl
  | n + 1 => by show AV.nils :: reps [AV.nils] n = _; rw [reps_nils n]; rfl
abbrev zra : List AV := [.int .i64 0, .int .i64 0, .int .i64 0, .int .i64 0, .int .i64 0, .nils, .nils, .nils, .nils, .nils, .int .i64 0, .int .i64 0, .int .i64 0, .int .i64 0, .bool false, .int .i64 0, .bool false, .bool false, .int .i64 0]
theorem setL_one : ∀ (cs : List AV) (j : Nat) (x : AV), setL cs j [x] = cs.set j x
  | [], j, x => by cases j <;> rfl
  | c :: cs, 0, x => by simp only [setL, consS_eq, setL_nil, List.set_cons_zero]
  | c :: cs, j + 1, x => by simp only [setL, consS_eq, setL_one cs j x, List.set_cons_succ]
theorem setL_rows {z j : Nat} {l : List (List Int)} {w : List Int} : setL (rows z l) j [.row z 1 w.length (ints w)] = rows z (l.set j w) := by
  rw [setL_one]; unfold rows; rw [List.map_set]
theorem wf_mk2 {a b : AObj} {N : Nat} (h : 2 ≤ N) : Wf (mkS [(0, a), (1, b)] N) := by
  intro v o ho
  rw [mkS_cons, mkS_cons, mkS_nil] at ho
  show v < N
  split at ho
  · omega
  · split at ho
    · omega
    · cases ho
def endO (k : Int) (out : List Int) (rest : Nat) : List Int := if k = 1 then out else out.drop (out.length - rest)
def fdiff : List Int → List Int → Nat
  | x :: xs, y :: ys => if x = y then fdiff xs ys + 1 else 0
  | _, _ => 0
theorem fdiff_go : ∀ {xs ys : List Int} {i : Nat}, i < xs.length → i < ys.length → i + fdiff (xs.drop i) (ys.drop i) = if xs.getD i 0 = ys.getD i 0 then i + 1 + fdiff (xs.drop (i + 1)) (ys.drop (i + 1)) else i := by
  intro xs ys i h1 h2
  rw [List.drop_eq_getElem_cons h1, List.drop_eq_getElem_cons h2, List.getD_eq_getElem?_getD, List.getD_eq_getElem?_getD, List.getElem?_eq_getElem h1, List.getElem?_eq_getElem h2]
  simp only [fdiff, Option.getD_some]
  split <;> omega
def RA.tell (a : RA) (out : List Int) : RA × Int :=
  if a.ask.2 = false then (a, 7) else if fitE a.h.kind a.h.O a.ask.1 out ≠ 0 then (a, fitE a.h.kind a.h.O a.ask.1 out) else
  if a.begun = true then
    ({ a with said := a.said.set (srAsk a.s).1.toNat (endO a.h.kind out (a.w.length - (srAsk a.s).1.toNat)), s := srTell a.s (decide (endO a.h.kind out (a.w.length - (srAsk a.s).1.toNat) = a.mine (srAsk a.s).1)), asked := IntKind.wrap .i64 (a.asked + 1) }, 0)
  else if out = a.mine 0 then ({ a with begun := true, spur := true, asked := IntKind.wrap .i64 (a.asked + 1) }, 0)
  else if a.h.kind = 2 then
    if fdiff out (a.mine 0) = 0 then (a, 111)
    else ({ a with w := a.w.take (fdiff out (a.mine 0) + 1), begun := true, said := out.take (fdiff out (a.mine 0) + 1) :: List.replicate (fdiff out (a.mine 0)) [], s := rsNew a.how (fdiff out (a.mine 0)), asked := IntKind.wrap .i64 (a.asked + 1) }, 0)
  else ({ a with begun := true, said := out :: List.replicate a.w.length [], s := rsNew a.how a.w.length, asked := IntKind.wrap .i64 (a.asked + 1) }, 0)
structure RA.Ok3 (a : RA) : Prop where
  ok2 : a.Ok2
  sd : a.begun = true → a.spur = false → a.said.length = a.w.length + 1 ∨ a.said.length = a.w.length
  sd2 : a.begun = true → a.spur = false → (srAsk a.s).2 = true → (srAsk a.s).1 < a.said.length
  wp : 0 < a.w.length
theorem RA.ask_len {a : RA} (h : a.Ok) : a.ask.1.length ≤ 8192 := by
  unfold RA.ask
  have hw := h.wl
  obtain ⟨q1, q2⟩ := h.at (srAsk a.s).1
  obtain ⟨p1, p2⟩ := h.acc q1 q2
  split
  · show a.w.length ≤ _; omega
  · split
    · show 0 ≤ _; omega
    · split
      · show 0 ≤ _; omega
      · show (a.word (srAsk a.s).1).length ≤ _
        unfold RA.word; rw [List.length_append, List.length_drop]; omega
noncomputable def rtellS := sp2 (cRA 1) (cRo 0) fun a out => gd (a.Ok3 ∧ out.length ≤ 9223372036854775807) (.tup [.agg (raC 1 (a.tell out).1), .int .i64 (a.tell out).2])
theorem Frz.raC {S : AS} {a : RA} {z : Nat} : Frz z S (.agg (Vai.raC 1 a)) (.agg (Vai.raC 1 a)) := Frz.scal scal_raC
theorem Frz.raE {S : AS} {a : RA} {x : AV} {e e' : Int} (h : x = .agg (Vai.raC 1 a)) (he : e = e') : Frz 1 S (.tup [x, .int .i64 e]) (.tup [.agg (Vai.raC 1 a), .int .i64 e']) := by subst h; subst he; exact Frz.tup ⟨Frz.raC, Frz.scal rfl, trivial⟩
theorem fitE_len {k O : Int} {w out : List Int} (h : fitE k O w out = 0) : out.length = if k = 1 then 1 else w.length := (fitE_zero.1 h).2.1
noncomputable def G21 : Giv := addG 47 (pureG rnewS) (G20)
theorem G21_fine : Fine P G21 := (G20_fine).pure rnew_ok
theorem inz_rowI0 {xs : List Int} : (rowI 1 xs).inz 0 = true := inz_rowI (by omega)
noncomputable def rendS := sp3 (cRA 1) (cRo 1) cIn fun a out rest => gd (0 ≤ rest ∧ out.length ≤ 1000000000000 ∧ (a.h.kind = 1 ∨ rest ≤ out.length)) (rowI 1 (endO a.h.kind out rest.toNat))
theorem rend_ok : PureS P 119 rendS := PureS.of3 fun a out rest r hr => by
  obtain ⟨⟨h0, hl, h1⟩, rfl⟩ := gd_say hr
  obtain ⟨how, ⟨k, K, o, n, nx, ot⟩, acc, w, said, s, b1, b2, ak⟩ := a
  refine ⟨pure_run orders G21_fine (L := 1) (d := 1) fn119 rfl ?_, inz_rowI0⟩
  simp only at h1
  unfold endO
  simp (disch := omega) only [↓e119, a119, params, en_RA, Nat.zero_add, en_R, Nat.reduceAdd, en_I, ↓e119_1, a119_1, ↓e119_2, a119_2, ↓WC_ret, ↓endP_ret, resV, Option.map_some, Option.some.injEq, resOne, exists_eq_left', ↓WC_reg, ↓WO_cons, aop_mv, AX.ev, Fr.put, AllK_one, ↓WC_seq, aop_fad, aop_box, get_cons', ↓reduceIte, cells_agg, E0_n, List.length_cons, List.length_nil, AS.newRow, panK_ptr, panK_nils, ↓WO_nil, ↓thenK_norm, nat_ne, Nat.add_zero, aop_ld1, withS, ld1_ptr, AS.get_push, ldO_cells, ble_dec, Nat.le_refl, decide_true, Bool.and_true, blt_dec, Nat.reduceLT, List.getElem?_cons_succ, List.getElem?_cons_zero, cond_true, panK_int, aop_bin, abin, isShift, kindBeq, aint, ieq_dec, cond_false, panK_bool, ↓WC_cond]
  refine condK_dec ?_ ?_ <;> intro h2 <;> simp (disch := omega) only [↓WC_seq, ↓WC_reg, ↓WO_cons, dect, aop_mv, AX.ev, get_cons', nat_ne, ↓reduceIte, Fr.put, AllK_one, panK_row, ↓WO_nil, ↓thenK_norm, ↓WC_ret, ↓thenK_ret, ↓endP_ret, resV, Option.map_some, Option.some.injEq, resOne, exists_eq_left', ↓WC_skip, decf, aop_len0, withS, lenA_row, panK_int, aop_bin, abin, isShift, kindBeq, aint, wrap64_id, cond_true, cond_false, aop_slc]
  · rw [if_pos h2]; exact Frz.rowI
  · rw [if_neg h2]
    simp (disch := omega) only [Option.map_none, slcI_lo, AllK_one, panK_row, ↓WO_cons, decf, get_cons', nat_ne, ↓reduceIte, aop_mv, AX.ev, Fr.put, ↓WO_nil, ↓thenK_norm]
    have e : ((out.length : Int) - rest).toNat = out.length - rest.toNat := by omega
    rw [e]
    exact Frz.rowI
noncomputable def G22 : Giv := addG 119 (pureG rendS) (G21)
theorem G22_fine : Fine P G22 := (G21_fine).pure rend_ok
theorem G22_119 : G22 119 = some (pureG rendS) := rfl
theorem G22_51 : G22 51 = some (pureG raskS) := rfl
theorem G22_118 : G22 118 = some (pureG rmineS) := rfl
theorem G22_122 : G22 122 = some (pureG rsTellS) := rfl
theorem G22_123 : G22 123 = some (pureG rsNewS) := rfl
theorem G22_114 : G22 114 = some (pureG rsAskS) := rfl
theorem G22_121 : G22 121 = some (pureG tcheckS) := rfl
theorem G22_30 : G22 30 = some (pureG sameS) := rfl
theorem FrzL.nilsr {S : AS} : ∀ n : Nat, FrzL 1 S (List.replicate n .nils) (rows 1 (List.replicate n []))
  | 0 => trivial
  | n + 1 => ⟨Frz.nils 1 1, FrzL.nilsr n⟩
theorem asNat_succ (n : Nat) : asNat (.int .i64 ((n:Int)+1)) = some (n+1) := rfl
set_option maxHeartbeats 4000000 in
theorem rtell_ok : PureS P 59 rtellS := PureS.of2 fun a out r hr => by
  obtain ⟨⟨hk, hol⟩, rfl⟩ := gd_say hr
  clear hr
  refine ⟨pure_runS (kp := kpN) fn59 rfl ?_, inz_ra⟩
  have hok2 := hk.ok2
  obtain ⟨how, ⟨k, K, o, n, nx, ot⟩, acc, w, said, ⟨s1, s2, s3, s4, s5, s6⟩, b1, b2, ak⟩ := a
  generalize ha : (RA.mk how ⟨k, K, o, n, nx, ot⟩ acc w said ⟨s1, s2, s3, s4, s5, s6⟩ b1 b2 ak) = a at *
  by_cases c1 : a.ask.2 = false
  · have : a.tell out = (a, 7) := by unfold RA.tell; rw [if_pos c1]
    rw [this]
    subst ha
    refine WS.of_wc orders G22_fine (kp := kpN) (L := 1) (d := 1) ?_
    simp (disch := omega) only [↓e59, a59, params, en_RA, Nat.zero_add, en_R, ↓e59_1, a59_1, ↓e59_2, a59_2, ↓e59_3, a59_3, ↓e59_4, a59_4, ↓e59_6, a59_6, ↓e59_7, a59_7, ↓e59_16, a59_16, ↓e59_17, a59_17, ↓e59_21, a59_21, ↓e59_22, a59_22, ↓e59_30, a59_30, ↓e59_31, a59_31, ↓e59_32, a59_32, ↓e59_33, a59_33, ↓e59_34, a59_34, ↓WC_seq, ↓WC_reg, ↓WO_cons, aop_ldn, withS, AX.ev, Fr.put, aop_fad, Nat.add_zero, aop_mv, AllK_one, aop_bslice, fillL, AS.newRow, panK_slice, get_cons', nat_ne, ↓reduceIte, aop_box, cells_agg, E0_n, List.length_cons, List.length_nil, Nat.reduceAdd, panK_ptr, aop_alloc, AS.n_push, panK_int, ↓WO_nil, ↓thenK_norm, ldn_ptr, AS.get_push, ldlO_cells, ble_dec, Nat.le_refl, decide_true, Bool.and_true, List.drop_zero, List.take_succ_cons, List.take_zero, cond_true, Option.map_some, panK_agg, aop_call, AX.evs, call_giv1 G22_51, raskS, pureG_eq, AV.scalL, AV.scalar, scal_ints, scal_rows, sp1, de_RA, de_R1, de_W, Option.bind_some, c1, gd_pos hok2, spK_some, panK_tup, aop_xt, List.getElem?_cons_zero, panK_row, List.getElem?_cons_succ, panK_bool, aop_un, aun, Bool.not_false, ↓WC_cond, condK_true, aop_st, AS.st, beq_dec, stl_get, stO_cells, List.all_cons, one_int, one_row, one_bool, List.all_nil, setL, consS_eq, undefA, ↓WC_ret, ↓thenK_ret, ↓endP_ret, resV, AS.get_put, Option.some.injEq, resOne, exists_eq_left']
    exact Frz.raE rfl rfl
  have c1' : a.ask.2 = true := by simpa using c1
  by_cases c2 : fitE a.h.kind a.h.O a.ask.1 out = 0
  rotate_left
  · have : a.tell out = (a, fitE a.h.kind a.h.O a.ask.1 out) := by unfold RA.tell; rw [if_neg c1, if_pos c2]
    rw [this]
    subst ha
    simp only at c2
    refine WS.of_wc orders G22_fine (kp := kpN) (L := 1) (d := 1) ?_
    simp (disch := omega) only [↓e59, a59, params, en_RA, Nat.zero_add, en_R, ↓e59_1, a59_1, ↓e59_2, a59_2, ↓e59_3, a59_3, ↓e59_4, a59_4, ↓e59_6, a59_6, ↓e59_7, a59_7, ↓e59_16, a59_16, ↓e59_17, a59_17, ↓e59_21, a59_21, ↓e59_22, a59_22, ↓e59_30, a59_30, ↓e59_31, a59_31, ↓e59_32, a59_32, ↓e59_33, a59_33, ↓e59_34, a59_34, ↓WC_seq, ↓WC_reg, ↓WO_cons, aop_ldn, withS, AX.ev, Fr.put, aop_fad, Nat.add_zero, aop_mv, AllK_one, aop_bslice, fillL, AS.newRow, panK_slice, get_cons', nat_ne, ↓reduceIte, aop_box, cells_agg, E0_n, List.length_cons, List.length_nil, Nat.reduceAdd, panK_ptr, aop_alloc, AS.n_push, panK_int, ↓WO_nil, ↓thenK_norm, ldn_ptr, AS.get_push, ldlO_cells, ble_dec, Nat.le_refl, decide_true, Bool.and_true, List.drop_zero, List.take_succ_cons, List.take_zero, cond_true, Option.map_some, panK_agg, aop_call, AX.evs, call_giv1 G22_51, raskS, pureG_eq, AV.scalL, AV.scalar, scal_ints, scal_rows, sp1, de_RA, de_R1, de_W, Option.bind_some, c1', gd_pos hok2, spK_some, panK_tup, aop_xt, List.getElem?_cons_zero, panK_row, List.getElem?_cons_succ, panK_bool, aop_un, aun, Bool.not_true, ↓WC_cond, condK_false, ↓WC_skip, Nat.reduceLeDiff, List.drop_succ_cons, aop_build, cells_int, beq_dec, cells_row, setL, consS_eq, call_giv1 G22_121, tcheckS, sp2, de_Qm, de_R0, de_An, gd_pos hol, aop_bin, abin, isShift, kindBeq, aint, ine_dec, c2, decide_false, Bool.not_false, cond_false, ↓e59_5, a59_5, condK_true, aop_st, AS.st, stl_get, stO_cells, List.all_cons, one_int, one_row, one_bool, List.all_nil, undefA, ↓WC_ret, ↓thenK_ret, ↓endP_ret, resV, AS.get_put, Option.some.injEq, resOne, exists_eq_left']
    exact Frz.raE rfl rfl
  have hlen := fitE_len c2
  have hol2 : out.length ≤ 1000000 := by have := RA.ask_len hok2.ok; rw [hlen]; split <;> omega
  have hl : out.length ≤ 1000000000000 := by omega
  have hcopy : ∀ Q : AE → Fr → AS → Prop, (∀ N, 2 ≤ N → WS P c59_7 [(1, rowI 1 out), (2, .ptr 0 0 0 19), (4, .ptr 1 0 0 19)] (mkS [(0, .cells (raC 1 a) 19 0 0 false false), (1, .cells zra 19 0 0 false false)] N) Q) → WS P c59 (params 0 [(cRA 1).en a, (cRo 0).en out]) E0 Q := by
    intro Q hQ
    subst ha
    simp only at c2
    refine WS.step orders G22_fine (kp := kpN) (L := 1) (d := 1) ?_
    simp (disch := omega) only [a59, params, en_RA, Nat.zero_add, en_R, ↓WC_reg, ↓WO_cons, aop_box, AX.ev, get_cons', ↓reduceIte, cells_agg, E0_n, List.length_cons, List.length_nil, Nat.reduceAdd, AS.newRow, Fr.put, AllK_one, panK_ptr, aop_alloc, AS.n_push, aop_mv, panK_int, ↓WO_nil, ↓thenK_norm]
    refine WS.step orders G22_fine (kp := kpN) (L := 1) (d := 1) ?_
    simp (disch := omega) only [a59_1, ↓WC_reg, ↓WO_cons, aop_ldn, withS, AX.ev, get_cons', nat_ne, ↓reduceIte, ldn_ptr, AS.get_push, AS.n_push, E0_n, Nat.zero_add, ldlO_cells, ble_dec, Nat.le_refl, decide_true, Bool.and_true, List.drop_zero, List.take_succ_cons, List.take_zero, cond_true, Option.map_some, Fr.put, AllK_one, panK_agg, aop_call, AX.evs, call_giv1 G22_51, raskS, pureG_eq, AV.scalL, AV.scalar, scal_ints, scal_rows, sp1, de_RA, de_R1, de_W, Option.bind_some, c1', gd_pos hok2, spK_some, panK_tup, aop_mv, aop_xt, List.getElem?_cons_zero, panK_row, List.getElem?_cons_succ, panK_bool, ↓WO_nil, ↓thenK_norm]
    refine WS.step orders G22_fine (kp := kpN) (L := 1) (d := 1) ?_
    simp (disch := omega) only [a59_2, ↓WC_seq, ↓WC_reg, ↓WO_cons, aop_mv, AX.ev, get_cons', ↓reduceIte, Fr.put, AllK_one, panK_bool, aop_un, withS, aun, Bool.not_true, ↓WO_nil, ↓thenK_norm, ↓WC_cond, condK_false, ↓WC_skip]
    refine WS.step orders G22_fine (kp := kpN) (L := 1) (d := 1) ?_
    simp (disch := omega) only [a59_3, ↓WC_reg, ↓WO_cons, aop_mv, AX.ev, get_cons', nat_ne, ↓reduceIte, Fr.put, AllK_one, panK_row, aop_fad, Nat.zero_add, panK_ptr, aop_ldn, withS, ldn_ptr, AS.get_push, AS.n_push, E0_n, ldlO_cells, ble_dec, Nat.le_refl, decide_true, Bool.and_true, Nat.reduceAdd, Nat.reduceLeDiff, List.drop_succ_cons, List.drop_zero, List.take_succ_cons, List.take_zero, cond_true, Option.map_some, panK_agg, aop_build, fillL, cells_int, List.length_cons, List.length_nil, beq_dec, cells_row, setL, consS_eq, cells_agg, aop_call, AX.evs, call_giv1 G22_121, tcheckS, pureG_eq, AV.scalL, AV.scalar, scal_ints, sp2, de_Qm, de_R0, Option.bind_some, de_An, gd_pos hol, c2, spK_some, panK_int, ↓WO_nil, ↓thenK_norm]
    refine WS.step orders G22_fine (kp := kpN) (L := 1) (d := 1) ?_
    simp (disch := omega) only [a59_4, ↓WC_seq, ↓WC_reg, ↓WO_cons, aop_mv, AX.ev, get_cons', ↓reduceIte, Fr.put, AllK_one, panK_int, aop_bin, withS, abin, isShift, kindBeq, aint, ine_dec, decide_true, Bool.not_true, cond_true, cond_false, panK_bool, ↓WO_nil, ↓thenK_norm, ↓e59_5, a59_5, ↓WC_cond, condK_false, ↓WC_skip]
    refine WS.step orders G22_fine (kp := kpN) (L := 1) (d := 1) ?_
    simp (disch := omega) only [a59_6, ↓WC_reg, ↓WO_cons, aop_bslice, fillL, AS.n_push, E0_n, Nat.zero_add, Nat.reduceAdd, AS.newRow, Fr.put, AllK_one, panK_slice, aop_mv, AX.ev, get_cons', nat_ne, ↓reduceIte, panK_row, aop_app]
    refine AllK.clonex fun u b S1 gu hu hun iu => ?_
    simp (disch := omega) only [panK_slice, ↓WO_cons, aop_mv, AX.ev, get_cons', ↓reduceIte, Fr.put, AllK_one, ↓WO_nil, ↓thenK_norm]
    have hm0 : MkL S1 (mkS [(0, .cells (raC 1 ⟨how, ⟨k, K, o, n, nx, ot⟩, acc, w, said, ⟨s1, s2, s3, s4, s5, s6⟩, b1, b2, ak⟩) 19 0 0 false false), (1, .cells zra 19 0 0 false false)] S1.n) [(0, .cells (raC 1 ⟨how, ⟨k, K, o, n, nx, ot⟩, acc, w, said, ⟨s1, s2, s3, s4, s5, s6⟩, b1, b2, ak⟩) 19 0 0 false false), (1, .cells zra 19 0 0 false false)] :=
      ⟨⟨_, by rw [iu.get 0 (by omega)]; simp (disch := omega) only [AS.get_push, AS.n_push, E0_n, Nat.zero_add, nat_ne, ↓reduceIte], WkO.refl⟩, ⟨_, by rw [iu.get 1 (by omega)]; simp (disch := omega) only [AS.get_push, AS.n_push, E0_n, Nat.zero_add, ↓reduceIte], WkO.refl⟩, trivial⟩
    refine WS.weak (Weak.to [(1, rowI 1 out), (2, .ptr 0 0 0 19), (4, .ptr 1 0 0 19)] _ ⟨?_, FrD.refl, FrD.refl, trivial⟩ hm0) (hQ _ iu.n)
    exact FrD.lies gu (by simp only [mkS_cons, mkS_nil]; rw [if_neg (by omega), if_neg (by omega)]) (Nat.le_refl _) (Nat.le_refl _) (by simp [ints_len]) FrDL.refl
  refine hcopy _ fun N hN => ?_
  have hOk := hok2.ok
  have hkk := hOk.m.kk
  have hwl := hOk.wl
  by_cases c3 : a.begun = true
  · obtain ⟨p1, p2, p3, p4⟩ : 0 ≤ a.s.low ∧ a.s.low < a.s.high ∧ a.s.high ≤ a.w.length ∧ ((srAsk a.s).2 = true → a.s.low < (srAsk a.s).1 ∧ (srAsk a.s).1 < a.s.high) := by
      refine hok2.pl c3 ?_
      cases hs : a.spur with
      | false => rfl
      | true => simp [RA.ask, c3, hs] at c1
    have hs : a.spur = false := by
      cases hs : a.spur with
      | false => rfl
      | true => simp [RA.ask, c3, hs] at c1
    have hm : (srAsk a.s).2 = true := by
      cases hm : (srAsk a.s).2 with
      | true => rfl
      | false => simp [RA.ask, c3, hs, hm] at c1
    have hask : a.ask.1 = a.word (srAsk a.s).1 := by simp [RA.ask, c3, hs, hm]
    obtain ⟨q1, q2⟩ := p4 hm
    have hsd := hk.sd c3 hs
    have hsd2 := hk.sd2 c3 hs hm
    have hsb := hok2.sb
    have htell : a.tell out = ({ a with said := a.said.set (srAsk a.s).1.toNat (endO a.h.kind out (a.w.length - (srAsk a.s).1.toNat)), s := srTell a.s (decide (endO a.h.kind out (a.w.length - (srAsk a.s).1.toNat) = a.mine (srAsk a.s).1)), asked := IntKind.wrap .i64 (a.asked + 1) }, 0) := by
      unfold RA.tell; rw [if_neg c1, if_neg (fun h => h c2), if_pos c3]
    rw [htell]
    have gm : a.Ok ∧ 0 ≤ (srAsk a.s).1 ∧ (srAsk a.s).1 ≤ a.w.length := ⟨hOk, by omega, by omega⟩
    have hwlen : a.ask.1.length ≥ a.w.length - (srAsk a.s).1.toNat := by
      rw [hask]; unfold RA.word; rw [List.length_append, List.length_drop]; omega
    have ge : (0 : Int) ≤ a.w.length - (srAsk a.s).1 ∧ out.length ≤ 1000000000000 ∧ (a.h.kind = 1 ∨ (a.w.length : Int) - (srAsk a.s).1 ≤ out.length) := by
      refine ⟨by omega, hl, ?_⟩
      rcases hkk with h | h
      · exact .inl h
      · right; rw [if_neg (by omega)] at hlen; omega
    have eend : ((a.w.length : Int) - (srAsk a.s).1).toNat = a.w.length - (srAsk a.s).1.toNat := by omega
    have hmine : (a.mine (srAsk a.s).1).length ≤ 1000000000000 := by
      unfold RA.mine; rw [goO_len]; split
      · omega
      · rw [List.length_drop]; omega
    have hel : (endO a.h.kind out (a.w.length - (srAsk a.s).1.toNat)).length ≤ 1000000000000 := by unfold endO; split; omega; rw [List.length_drop]; omega
    have hsl : a.said.length ≤ 5000 := by omega
    have hst : ∀ Q : AE → Fr → AS → Prop, (∀ N, 2 ≤ N → WS P c59_13 [(2, .ptr 0 0 0 19), (4, .ptr 1 0 0 19), (9, .int .i64 (srAsk a.s).1), (11, rowI 1 (endO a.h.kind out (a.w.length - (srAsk a.s).1.toNat))), (12, rowW 1 (a.said.set (srAsk a.s).1.toNat (endO a.h.kind out (a.w.length - (srAsk a.s).1.toNat))))] (mkS [(0, .cells (raC 1 a) 19 0 0 false false), (1, .cells zra 19 0 0 false false)] N) Q) → WS P a59_7 [(1, rowI 1 out), (2, .ptr 0 0 0 19), (4, .ptr 1 0 0 19)] (mkS [(0, .cells (raC 1 a) 19 0 0 false false), (1, .cells zra 19 0 0 false false)] N) Q := by
      intro Q hQ
      subst ha
      simp only at c3 hs hm hsb p1 p2 p3 q1 q2 hsd hsd2 ge eend hsl
      subst c3; subst hs
      refine WS.step orders G22_fine (kp := kpN) (L := 1) (d := 1) ?_
      simp (disch := omega) only [↓WC_reg, ↓WO_cons, aop_fad, AX.ev, get_cons', nat_ne, ↓reduceIte, Nat.zero_add, Fr.put, AllK_one, panK_ptr, aop_ld1, withS, ld1_ptr, mkS_cons, ldO_cells, ble_dec, Nat.le_refl, decide_true, Bool.and_true, blt_dec, Nat.reduceLT, List.getElem?_cons_succ, List.getElem?_cons_zero, cond_true, panK_bool, ↓WO_nil, ↓thenK_norm]
      refine WS.cond ?_
      simp (disch := omega) only [AX.ev, get_cons', ↓reduceIte, condK_true]
      refine WS.step orders G22_fine (kp := kpN) (L := 1) (d := 1) ?_
      simp (disch := omega) only [a59_9, ↓WC_reg, ↓WO_cons, aop_fad, AX.ev, get_cons', nat_ne, ↓reduceIte, Nat.zero_add, Fr.put, AllK_one, panK_ptr, aop_ldn, withS, ldn_ptr, mkS_cons, ldlO_cells, ble_dec, Nat.le_refl, decide_true, Bool.and_true, Nat.reduceAdd, Nat.reduceLeDiff, List.drop_succ_cons, List.drop_zero, List.take_succ_cons, List.take_zero, cond_true, Option.map_some, panK_agg, aop_call, AX.evs, call_giv1 G22_114, rsAskS, pureG_eq, AV.scalL, AV.scalar, sp1, de_Sr, Option.bind_some, hm, gd_pos hsb, spK_some, panK_tup, aop_mv, aop_xt, List.getElem?_cons_zero, panK_int, List.getElem?_cons_succ, panK_bool, ↓WO_nil, ↓thenK_norm]
      refine WS.step orders G22_fine (kp := kpN) (L := 1) (d := 1) ?_
      simp (disch := omega) only [a59_10, ↓WC_reg, ↓WO_cons, aop_ldn, withS, AX.ev, get_cons', nat_ne, ↓reduceIte, ldn_ptr, mkS_cons, ldlO_cells, ble_dec, Nat.le_refl, decide_true, Bool.and_true, Nat.zero_add, List.drop_zero, List.take_succ_cons, List.take_zero, cond_true, Option.map_some, Fr.put, AllK_one, panK_agg, aop_mv, panK_row, aop_fad, panK_ptr, aop_ld1, ld1_ptr, ldO_cells, blt_dec, Nat.reduceLT, List.getElem?_cons_succ, List.getElem?_cons_zero, aop_len0, lenA_row, panK_int, aop_bin, abin, isShift, kindBeq, aint, wrap64_id, cond_false, aop_call, AX.evs, call_giv1 G22_119, rendS, pureG_eq, AV.scalL, AV.scalar, scal_ints, scal_rows, sp3, de_RA, de_R1, de_W, Option.bind_some, de_I, eend, gd_pos ge, spK_some, ↓WO_nil, ↓thenK_norm]
      refine WS.step orders G22_fine (kp := kpN) (L := 1) (d := 1) ?_
      simp (disch := omega) only [a59_11, ↓WC_reg, ↓WO_cons, aop_bslice, fillL, mkS_n, AS.newRow, Fr.put, AllK_one, panK_slice, aop_fad, AX.ev, get_cons', nat_ne, ↓reduceIte, Nat.zero_add, panK_ptr, aop_ld1, withS, ld1_ptr, AS.get_push, mkS_cons, ldO_cells, ble_dec, Nat.le_refl, decide_true, Bool.and_true, blt_dec, Nat.reduceLT, List.getElem?_cons_succ, List.getElem?_cons_zero, cond_true, panK_row, aop_app]
      refine AllK.clonex (hS := wf_mk2 hN) fun u b S1 gu hu hun iu => ?_
      have hn1 := iu.n
      simp (disch := omega) only [panK_slice, ↓WO_cons, aop_mv, AX.ev, get_cons', ↓reduceIte, Fr.put, AllK_one, ↓WO_nil, ↓thenK_norm]
      refine WS.step orders G22_fine (kp := kpN) (L := 1) (d := 1) ?_
      simp (disch := omega) only [a59_12, ↓WC_reg, ↓WO_cons, aop_mv, AX.ev, get_cons', ↓reduceIte, Fr.put, AllK_one, panK_slice, nat_ne, panK_int, panK_row, aop_ixs, withS, ixs_slice, Nat.zero_add, Nat.mul_one, panK_ptr, aop_st, AS.st, cells_row, List.length_cons, List.length_nil, beq_dec, decide_true, stl_get, gu, stO_cells, ble_dec, Nat.le_refl, Bool.and_true, List.all_cons, one_row, List.all_nil, cond_true, Option.map_some, undefA, panK_tup, ↓WO_nil, ↓thenK_norm]
      rw [setL_rows]
      have hm0 : ∀ ob, MkL (S1.put u ob) (mkS [(0, .cells (raC 1 ⟨how, ⟨k, K, o, n, nx, ot⟩, acc, w, said, ⟨s1, s2, s3, s4, s5, s6⟩, true, false, ak⟩) 19 0 0 false false), (1, .cells zra 19 0 0 false false)] S1.n) [(0, .cells (raC 1 ⟨how, ⟨k, K, o, n, nx, ot⟩, acc, w, said, ⟨s1, s2, s3, s4, s5, s6⟩, true, false, ak⟩) 19 0 0 false false), (1, .cells zra 19 0 0 false false)] := fun ob =>
        ⟨⟨_, by rw [AS.get_put, if_neg (by omega), iu.get 0 (by omega)]; simp only [mkS_cons]; rfl, WkO.refl⟩, ⟨_, by rw [AS.get_put, if_neg (by omega), iu.get 1 (by omega)]; simp only [mkS_cons]; rfl, WkO.refl⟩, trivial⟩
      refine WS.weak ?_ (hQ S1.n (by omega))
      refine Weak.to (S := S1.put u _) _ _ ⟨FrD.refl, FrD.refl, FrD.refl, FrD.refl, ?_, trivial⟩ (hm0 _)
      show FrD _ _ (.slice u 0 0 said.length none 1) (.row 1 1 (said.set _ _).length _)
      rw [List.length_set]
      exact FrD.lies (by rw [AS.get_put, if_pos rfl]) (by simp only [mkS_cons, mkS_nil]; rw [if_neg (by omega), if_neg (by omega)]) (Nat.le_refl _) (Nat.le_refl _) (by simp [rows_len]) FrDL.refl
    have gm' : ({ a with said := a.said.set (srAsk a.s).1.toNat (endO a.h.kind out (a.w.length - (srAsk a.s).1.toNat)) } : RA).Ok ∧ 0 ≤ (srAsk a.s).1 ∧ (srAsk a.s).1 ≤ a.w.length := ⟨⟨hOk.m, hOk.w, hOk.wl, hOk.al, hOk.aw⟩, gm.2⟩
    refine WS.seq ?_
    refine hst _ fun N hN => ?_
    subst ha
    simp only at c3 hs hm hsb p1 p2 p3 q1 q2 hsd hsd2 ge eend hsl
    subst c3; subst hs
    refine WS.of_wc orders G22_fine (kp := kpN) (L := 1) (d := 1) ?_
    simp (disch := omega) only [↓e59_13, a59_13, ↓e59_14, a59_14, ↓e59_15, a59_15, ↓WC_seq, ↓WC_reg, ↓WO_cons, aop_ldn, withS, AX.ev, Fr.put, aop_fad, ↓WC_draw, ↓WD_cons, Fr.keep, get_cons', ↓reduceIte, sik, AOp.acts, AOp.reads, cond_false, List.all_nil, Nat.reduceAdd, aop_mv, nat_ne, AllK_one, panK_row, Nat.zero_add, panK_ptr, aop_st, AS.st, cells_row, List.length_cons, List.length_nil, beq_dec, decide_true, stl_get, mkS_cons, stO_cells, ble_dec, Nat.reduceLeDiff, Bool.and_true, List.all_cons, one_row, setL, consS_eq, cond_true, Option.map_some, undefA, panK_tup, ↓WO_nil, ↓thenK_norm, One_one, np_ptr, chkK_true, ldn_ptr, AS.get_put, ldlO_cells, Nat.le_refl, List.drop_succ_cons, List.drop_zero, List.take_succ_cons, List.take_zero, np_agg, dchk_21, np_row, dchk_12, dchk_11, dchk_22, np_int, aop_call, AX.evs, call_giv1 G22_118, rmineS, pureG_eq, AV.scalL, AV.scalar, scal_ints, scal_rows, sp2, de_RA, de_R0, de_W, Option.bind_some, de_I, gd_pos gm', spK_some, dchk_31, dchk_32, List.contains_cons, beq_self_eq_true, Nat.reduceBEq, List.contains_nil, Bool.or_false, same_eq, isSame_one, AV.beq, AV.beqL, kindBeq, intBeq_self, beqL_ints, beqL_rows, Bool.or_true, call_giv1 G22_30, sameS, gd_pos hel, np_bool, dchk_33, call_giv1 G22_122, rsTellS, de_Sr, de_B, gd_pos hsb, np_tup, dchk_13, aop_xt, List.getElem?_cons_zero, List.getElem?_cons_succ, cells_agg, one_int, one_bool, Bool.true_and, Bool.true_or, ↓WD_nil, aop_ld1, ld1_ptr, ldO_cells, blt_dec, Nat.reduceLT, panK_int, aop_bin, abin, isShift, aint, cells_int, panK_agg, ↓WC_ret, ↓thenK_ret, ↓endP_ret, resV, Option.some.injEq, resOne, exists_eq_left']
    exact Frz.raE rfl rfl
  have c3' : a.begun = false := by simpa using c3
  have hask : a.ask.1 = a.w := by simp [RA.ask, c3']
  have gm : a.Ok ∧ (0 : Int) ≤ 0 ∧ (0 : Int) ≤ a.w.length := ⟨hOk, by omega, by omega⟩
  have hwp := hk.wp
  have step := fun {b1 b2 : AC} {F : Fr} {S : AS} {Q : AE → Fr → AS → Prop} => WS.step (a := b1) (b := b2) (F := F) (S := S) (Q := Q) orders G22_fine (kp := kpN) (L := 5000) (d := 1)
  have ofwc := fun {c : AC} {F : Fr} {S : AS} {Q : AE → Fr → AS → Prop} => WS.of_wc (c := c) (F := F) (S := S) (Q := Q) orders G22_fine (kp := kpN) (L := 5000) (d := 1)
  have hfin : ∀ (N : Nat) (w' out' : List Int) (n' : Nat), 2 ≤ N → n' ≤ 4096 → WS P c59_30 [(1, rowI 1 out'), (2, .ptr 0 0 0 19), (4, .ptr 1 0 0 19), (14, .int .i64 n')] (mkS [(0, .cells (raC 1 { a with w := w' }) 19 0 0 false false), (1, .cells zra 19 0 0 false false)] N)
      (endP [ARes.cell 4 (some 19), ARes.tmp 5] (.tup [.agg (raC 1 { a with w := w', begun := true, said := out' :: List.replicate n' [], s := rsNew a.how n', asked := IntKind.wrap .i64 (a.asked + 1) }), .int .i64 0])) := by
    intro N w' out' n' hN hn'
    subst ha
    have hb : (decide ((n' + 1) * 24 ≤ bound46) && decide (n' + 1 ≤ bound46)) = true := by
      rw [Bool.and_eq_true, decide_eq_true_eq, decide_eq_true_eq]; have : (4097 * 24 : Nat) ≤ bound46 := by decide
      omega
    refine ofwc ?_
    simp (disch := omega) only [↓e59_30, a59_30, ↓e59_31, a59_31, ↓e59_32, a59_32, ↓e59_33, a59_33, ↓e59_34, a59_34, ↓WC_seq, ↓WC_reg, ↓WO_cons, aop_ldn, withS, AX.ev, Fr.put, aop_fad, Nat.add_zero, aop_mv, AllK_one, get_cons', nat_ne, ↓reduceIte, Nat.zero_add, panK_ptr, aop_st, AS.st, cells_bool, List.length_cons, List.length_nil, beq_dec, decide_true, stl_get, mkS_cons, stO_cells, Nat.reduceAdd, ble_dec, Nat.reduceLeDiff, Bool.and_true, List.all_cons, one_bool, List.all_nil, setL, consS_eq, cond_true, Option.map_some, undefA, panK_tup, ↓WO_nil, ↓thenK_norm, panK_int, aop_bin, abin, isShift, kindBeq, aint, wrap64_id, cond_false, aop_mksl, asNat_succ, Nat.le_refl, Bool.true_and, hb, AS.n_put, mkS_n, AS.newRow, reps_nils, List.replicate_succ, panK_slice, cells_slice, AS.get_push, AS.get_put, one_slice, aop_ld1, ld1_ptr, ldO_cells, blt_dec, Nat.reduceLT, List.getElem?_cons_succ, List.getElem?_cons_zero, panK_row, aop_ixs, ixs_slice, Int.toNat_zero, Nat.mul_one, cells_row, one_row, aop_call, AX.evs, call_giv1 G22_123, rsNewS, pureG_eq, AV.scalL, AV.scalar, sp2, de_I, Option.bind_some, spK_some, aop_xt, panK_agg, cells_agg, one_int, cells_int, ldn_ptr, ldlO_cells, List.drop_zero, List.take_succ_cons, List.take_zero, ↓WC_ret, ↓endP_ret, resV, Option.some.injEq, resOne, exists_eq_left']
    refine Frz.tup ⟨Frz.agg ⟨.scal rfl, .scal rfl, .scal rfl, .scal rfl, .scal rfl, Frz.rowI, Frz.rowI, Frz.scal (by simp only [AV.scalar, scal_rows]), Frz.rowI, ?_, .scal rfl, .scal rfl, .scal rfl, .scal rfl, .scal rfl, .scal rfl, .scal rfl, .scal rfl, .scal rfl, trivial⟩, Frz.scal rfl, trivial⟩
    show Frz 1 _ _ (.row 1 1 (out' :: List.replicate n' []).length (rows 1 (out' :: List.replicate n' [])))
    rw [show (out' :: List.replicate n' ([] : List Int)).length = n' + 1 by simp]
    refine Frz.lies (n := n' + 1) (sz := 1) (z0 := 1) (gen := 0) (lo := 0) (b := false) (cs := AV.row 1 1 out'.length (ints out') :: List.replicate n' AV.nils) ?_ (Nat.le_refl _) (Nat.le_refl _) ?_ ⟨Frz.rowI, FrzL.nilsr n'⟩
    · simp (disch := omega) only [AS.get_put, nat_ne, ↓reduceIte]
    · simp
  have hmine : (a.mine 0).length ≤ 1000000000000 := by
    unfold RA.mine; rw [goO_len]; split
    · omega
    · rw [List.length_drop]; omega
  have hml : a.h.kind = 2 → (a.mine 0).length = out.length := fun h => by
    unfold RA.mine; rw [goO_len, if_neg (by omega), List.length_drop, hlen, if_neg (by omega), hask]; simp
  have ht1 : out = a.mine 0 → a.tell out = ({ a with begun := true, spur := true, asked := IntKind.wrap .i64 (a.asked + 1) }, 0) := fun h => by
    unfold RA.tell; rw [if_neg c1, if_neg (fun h => h c2), if_neg c3, if_pos h]
  have ht2 : out ≠ a.mine 0 → a.h.kind = 2 → fdiff out (a.mine 0) = 0 → a.tell out = (a, 111) := fun h h' h2 => by
    unfold RA.tell; rw [if_neg c1, if_neg (fun h => h c2), if_neg c3, if_neg h, if_pos h', if_pos h2]
  have ht3 : out ≠ a.mine 0 → a.h.kind = 2 → fdiff out (a.mine 0) ≠ 0 → a.tell out = ({ a with w := a.w.take (fdiff out (a.mine 0) + 1), begun := true, said := out.take (fdiff out (a.mine 0) + 1) :: List.replicate (fdiff out (a.mine 0)) [], s := rsNew a.how (fdiff out (a.mine 0)), asked := IntKind.wrap .i64 (a.asked + 1) }, 0) := fun h h' h2 => by
    unfold RA.tell; rw [if_neg c1, if_neg (fun h => h c2), if_neg c3, if_neg h, if_pos h', if_neg h2]
  have ht4 : out ≠ a.mine 0 → a.h.kind ≠ 2 → a.tell out = ({ a with begun := true, said := out :: List.replicate a.w.length [], s := rsNew a.how a.w.length, asked := IntKind.wrap .i64 (a.asked + 1) }, 0) := fun h h' => by
    unfold RA.tell; rw [if_neg c1, if_neg (fun h => h c2), if_neg c3, if_neg h, if_neg h']
  have hlw : a.h.kind = 2 → out.length = a.w.length := fun h => by rw [hlen, if_neg (by omega), hask]
  generalize hmi : a.mine 0 = mi at *
  subst ha
  simp only at c3' hml ht1 ht2 ht3 ht4 hlw
  subst c3'
  refine step ?_
  simp (disch := omega) only [a59_7, ↓WC_seq, ↓WC_reg, ↓WO_cons, aop_fad, AX.ev, get_cons', nat_ne, ↓reduceIte, Nat.zero_add, Fr.put, AllK_one, panK_ptr, aop_ld1, withS, ld1_ptr, mkS_cons, ldO_cells, ble_dec, Nat.le_refl, decide_true, Bool.and_true, blt_dec, Nat.reduceLT, List.getElem?_cons_succ, List.getElem?_cons_zero, cond_true, panK_bool, ↓WO_nil, ↓thenK_norm, ↓e59_8, a59_8, ↓WC_cond, condK_false, ↓WC_skip]
  refine step ?_
  simp (disch := omega) only [a59_16, ↓WC_reg, ↓WO_cons, aop_ldn, withS, AX.ev, get_cons', nat_ne, ↓reduceIte, ldn_ptr, mkS_cons, ldlO_cells, ble_dec, Nat.le_refl, decide_true, Bool.and_true, Nat.zero_add, List.drop_zero, List.take_succ_cons, List.take_zero, cond_true, Option.map_some, Fr.put, AllK_one, panK_agg, aop_call, AX.evs, call_giv1 G22_118, rmineS, pureG_eq, AV.scalL, AV.scalar, scal_ints, scal_rows, sp2, de_RA, de_R0, de_W, Option.bind_some, de_I, hmi, gd_pos gm, spK_some, panK_row, aop_mv, ↓WO_nil, ↓thenK_norm]
  refine step ?_
  simp (disch := omega) only [a59_17, ↓WC_seq, ↓WC_reg, ↓WO_cons, aop_mv, AX.ev, get_cons', nat_ne, ↓reduceIte, Fr.put, AllK_one, panK_row, aop_call, AX.evs, call_giv1 G22_30, sameS, pureG_eq, AV.scalL, AV.scalar, scal_ints, Bool.and_true, sp2, de_R0, Option.bind_some, gd_pos hl, spK_some, cond_true, panK_bool, ↓WO_nil, ↓thenK_norm, ↓e59_18, a59_18, ↓WC_cond]
  refine condK_dec ?_ ?_ <;> intro h1
  · simp (disch := omega) only [↓e59_19, a59_19, dect, ↓e59_20, a59_20, ↓WC_seq, ↓WC_reg, ↓WO_cons, aop_ldn, withS, AX.ev, Fr.put, aop_fad, get_cons', nat_ne, ↓reduceIte, Nat.zero_add, AllK_one, panK_ptr, aop_st, AS.st, cells_bool, List.length_cons, List.length_nil, beq_dec, decide_true, stl_get, mkS_cons, stO_cells, Nat.reduceAdd, ble_dec, Nat.reduceLeDiff, Bool.and_true, List.all_cons, one_bool, List.all_nil, setL, consS_eq, cond_true, Option.map_some, undefA, panK_tup, AS.get_put, ↓WO_nil, ↓thenK_norm, aop_ld1, ld1_ptr, ldO_cells, Nat.le_refl, blt_dec, Nat.reduceLT, List.getElem?_cons_succ, List.getElem?_cons_zero, panK_int, aop_bin, abin, isShift, kindBeq, aint, cond_false, cells_int, one_int, ldn_ptr, ldlO_cells, List.drop_zero, List.take_succ_cons, List.take_zero, panK_agg, cells_agg, one_row, aop_mv, ↓WC_ret, ↓thenK_ret, ↓endP_ret, resV, Option.some.injEq, resOne, exists_eq_left']
    rw [ht1 h1]
    exact Frz.raE rfl rfl
  simp (disch := omega) only [↓WC_skip, ↓thenK_norm, decf]
  refine step ?_
  simp (disch := omega) only [a59_21, ↓WC_reg, ↓WO_cons, aop_fad, AX.ev, get_cons', nat_ne, ↓reduceIte, Nat.zero_add, Fr.put, AllK_one, panK_ptr, aop_ld1, withS, ld1_ptr, mkS_cons, ldO_cells, ble_dec, Nat.le_refl, decide_true, Bool.and_true, blt_dec, Nat.reduceLT, List.getElem?_cons_succ, List.getElem?_cons_zero, cond_true, panK_row, aop_len0, lenA_row, panK_int, aop_mv, ↓WO_nil, ↓thenK_norm]
  by_cases h2 : k = 2
  rotate_left
  · rw [ht4 h1 h2]
    refine step ?_
    simp (disch := omega) only [a59_22, ↓WC_seq, ↓WC_reg, ↓WO_cons, aop_fad, AX.ev, get_cons', nat_ne, ↓reduceIte, Nat.zero_add, Fr.put, AllK_one, panK_ptr, Nat.add_zero, aop_ld1, withS, ld1_ptr, mkS_cons, ldO_cells, ble_dec, Nat.le_refl, decide_true, Bool.and_true, blt_dec, Nat.reduceLT, List.getElem?_cons_succ, List.getElem?_cons_zero, cond_true, panK_int, aop_bin, abin, isShift, kindBeq, aint, ieq_dec, decf, cond_false, panK_bool, ↓WO_nil, ↓thenK_norm, ↓e59_23, a59_23, ↓WC_cond, condK_false, ↓WC_skip]
    refine WS.weak (Weak.to [(1, rowI 1 out), (2, .ptr 0 0 0 19), (4, .ptr 1 0 0 19), (14, .int .i64 w.length)] _ ⟨FrD.refl, FrD.refl, FrD.refl, FrD.refl, trivial⟩ ?_) (hfin _ w out w.length hN (by omega))
    exact ⟨⟨_, rfl, WkO.refl⟩, ⟨_, rfl, WkO.refl⟩, trivial⟩
  have hml' := hml h2
  refine step ?_
  simp (disch := omega) only [a59_22, ↓WC_seq, ↓WC_reg, ↓WO_cons, aop_fad, AX.ev, get_cons', nat_ne, ↓reduceIte, Nat.zero_add, Fr.put, AllK_one, panK_ptr, Nat.add_zero, aop_ld1, withS, ld1_ptr, mkS_cons, ldO_cells, ble_dec, Nat.le_refl, decide_true, Bool.and_true, blt_dec, Nat.reduceLT, List.getElem?_cons_succ, List.getElem?_cons_zero, cond_true, panK_int, aop_bin, abin, isShift, kindBeq, aint, ieq_dec, dect, cond_false, panK_bool, ↓WO_nil, ↓thenK_norm, ↓e59_23, a59_23, ↓WC_cond, condK_true, ↓e59_24, a59_24, ↓e59_25, a59_25, ↓e59_27, a59_27, ↓e59_28, a59_28, ↓e59_29, a59_29, aop_mv, ↓WC_block, ↓WC_loop, Fr.keep]
  have hwl' : w.length ≤ 4096 := hwl
  generalize hS0 : mkS _ _ = S0
  refine loop_all (fun m F S => ∃ i : Nat, i + m = out.length ∧ i + fdiff (out.drop i) (mi.drop i) = fdiff out mi ∧ out.take i = mi.take i ∧ F.get 1 = rowI 1 out ∧ F.get 2 = .ptr 0 0 0 19 ∧ F.get 4 = .ptr 1 0 0 19 ∧ F.get 13 = rowI 1 mi ∧ F.get 14 = .int .i64 w.length ∧ F.get 15 = .int .i64 i ∧ S = S0) ?_ ⟨0, Nat.zero_add _, Nat.zero_add _, rfl, rfl, rfl, rfl, rfl, rfl, rfl, rfl⟩ (by omega)
  rintro m F S ⟨i, hi, he, ht, f1, f2, f4, f13, f14, f15, rfl⟩
  have hil : i < out.length := by
    have : ¬ i = out.length := fun h => h1 (by rw [h, List.take_length, ← hml', List.take_length] at ht; exact ht)
    omega
  rw [fdiff_go hil (by omega)] at he
  simp (disch := omega) only [↓e59_26, a59_26, ↓WC_block, ↓WC_reg, ↓WO_cons, aop_mv, AX.ev, Fr.keep, Fr.put, AllK_one, get_cons', nat_ne, ↓reduceIte, ↓WC_seq, ↓WC_draw, ↓WD_cons, f1, sik, AOp.acts, AOp.reads, cond_false, List.all_nil, Nat.reduceAdd, One_one, np_row, chkK_true, f15, List.all_cons, np_int, dchk_11, Bool.and_true, aop_ixs, withS, ixs_row, Int.toNat_natCast, Nat.mul_one, np_fp, aop_ld1, ld1_fp, ints_get, cond_true, dchk_21, f13, dchk_12, dchk_22, aop_bin, abin, isShift, kindBeq, aint, ieq_dec, np_bool, ↓WD_nil, ↓thenK_norm, ↓WC_cond]
  refine condK_dec ?_ ?_ <;> intro h3 <;> simp (disch := omega) only [↓WC_skip, ↓thenK_norm, dect, get_cons', nat_ne, ↓reduceIte, f15, panK_int, ↓WO_cons, aop_bin, withS, abin, AX.ev, isShift, kindBeq, aint, wrap64_id, cond_true, cond_false, Fr.put, AllK_one, aop_mv, ↓WO_nil, ↓blkK_norm, f1, f2, f4, f13, f14, and_true, true_and, ↓WC_exit, ↓thenK_exit, ↓blkK_exit, decf, ieq_dec, panK_bool, ↓WC_cond]
  · rw [if_pos h3] at he
    exact ⟨m - 1, by omega, i + 1, by omega, he, (take_succ_iff hil (by omega) ht).mpr h3, rfl⟩
  rw [if_neg h3] at he
  subst hS0
  have hlw' := hlw h2
  have hiw : i < w.length := by omega
  refine condK_dec ?_ ?_ <;> intro h4 <;> simp (disch := omega) only [↓WC_seq, ↓WC_reg, ↓WO_cons, dect, decf, get_cons', nat_ne, ↓reduceIte, f15, aop_ldn, withS, AX.ev, f2, ldn_ptr, mkS_cons, ldlO_cells, ble_dec, Nat.le_refl, decide_true, Bool.and_true, Nat.zero_add, List.drop_zero, List.take_succ_cons, List.take_zero, cond_true, Option.map_some, Fr.put, AllK_one, panK_agg, aop_st, AS.st, f4, cells_agg, List.length_cons, List.length_nil, Nat.reduceAdd, beq_dec, stl_get, stO_cells, List.all_cons, one_int, one_row, one_bool, List.all_nil, setL, consS_eq, undefA, panK_tup, aop_mv, panK_int, ↓WO_nil, ↓thenK_norm, ↓WC_ret, ↓thenK_ret, ↓endP_ret, resV, AS.get_put, Option.some.injEq, resOne, exists_eq_left', ↓WC_skip, panK_ptr, aop_ld1, ld1_ptr, ldO_cells, blt_dec, Nat.reduceLT, List.getElem?_cons_succ, List.getElem?_cons_zero, panK_row, aop_bin, abin, isShift, kindBeq, aint, wrap64_id, cond_false, aop_slc]
  · rw [ht2 h1 h2 (by omega)]
    exact Frz.raE rfl rfl
  rw [ht3 h1 h2 (by omega)]
  simp (disch := omega) only [Option.map_none, slcI_hi, AllK_one, panK_row, ↓WO_cons, decf, get_cons', nat_ne, ↓reduceIte, f15, aop_fad, AX.ev, f2, Nat.zero_add, Fr.put, panK_ptr, aop_st, AS.st, cells_row, List.length_cons, List.length_nil, beq_dec, decide_true, stl_get, mkS_cons, stO_cells, Nat.reduceAdd, ble_dec, Nat.reduceLeDiff, Bool.and_true, List.all_cons, one_row, List.all_nil, setL, consS_eq, cond_true, Option.map_some, undefA, panK_tup, ↓WO_nil, ↓thenK_norm, f1, aop_mv, panK_int, aop_bin, withS, abin, isShift, kindBeq, aint, wrap64_id, cond_false, aop_slc]
  rw [show fdiff out mi = i by omega, show ((i : Int) + 1).toNat = i + 1 by omega]
  refine WS.weak (Weak.to [(1, rowI 1 (out.take (i + 1))), (2, .ptr 0 0 0 19), (4, .ptr 1 0 0 19), (14, .int .i64 i)] _ ⟨FrD.refl, ?_, ?_, FrD.refl, trivial⟩ ?_) (hfin _ (w.take (i + 1)) (out.take (i + 1)) i hN (by omega))
  · show FrD _ _ (F.get 2) _
    rw [f2]; exact FrD.refl
  · show FrD _ _ (F.get 4) _
    rw [f4]; exact FrD.refl
  · exact ⟨⟨_, by rw [AS.get_put, if_pos rfl], WkO.refl⟩, ⟨_, by rw [AS.get_put, if_neg (by decide)]; rfl, WkO.refl⟩, trivial⟩
noncomputable def G23 : Giv := addG 59 (pureG rtellS) (G22)
theorem G23_fine : Fine P G23 := (G22_fine).pure rtell_ok
theorem G23_119 : G23 119 = some (pureG rendS) := rfl
theorem G23_51 : G23 51 = some (pureG raskS) := rfl
theorem G23_118 : G23 118 = some (pureG rmineS) := rfl
theorem G23_41 : G23 41 = some (pureG goSp) := rfl
theorem G23_97 : G23 97 = some (pureG joinS) := rfl
end Go.Proofs.Ytednmmcdjhfflaa.Vai
