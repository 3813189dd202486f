/-
  A verified abstract interpreter, part W: the words by which 'simp' goes through code of which all, or much, is known: what is behind a piece is not looked at before the piece is done.
-/
import Derived.Test.YtednmmcdjhfflaaVaiV
namespace Go.Proofs.Ytednmmcdjhfflaa.Vai
open Go Go.RowKit
section
variable {α : Type} {C : Ctx} {call : CallF} {L : Nat} {F F' : Fr} {S : AS} {Q : AE → Fr → AS → Prop} {A B N : Prop} {P : AV → Prop}
theorem One_one {a : α} {Q : α → Prop} : One (.one a) Q = Q a := propext ⟨fun ⟨_, h, k⟩ => by cases h; exact k, fun h => ⟨a, rfl, h⟩⟩
theorem AllK_one {a : α} {Q : α → Prop} : AllK (.one a) Q = Q a := id rfl
theorem undK_tup : undK (.tup []) A B = A := id rfl
theorem undK_bool {b : Bool} : undK (.bool b) A B = B := id rfl
theorem condK_true : condK (.bool true) A B = A := id rfl
theorem condK_false : condK (.bool false) A B = B := id rfl
theorem condK_dec {p : Prop} [Decidable p] (h1 : p → A) (h2 : ¬ p → B) : condK (.bool (decide p)) A B := by
  by_cases h : p
  · rw [decide_eq_true h]; exact h1 h
  · rw [decide_eq_false h]; exact h2 h
theorem condK_not {b : Bool} : condK (.bool (!b)) A B = condK (.bool b) B A := by cases b <;> exact id rfl
theorem chkK_true : chkK true N = N := propext ⟨fun h => h.2, fun h => ⟨rfl, h⟩⟩
theorem WO_nil : WO C call [] F S Q = Q .norm F S := id rfl
theorem WO_cons {d : Option Nat} {op : AOp} {os : List AOper} : WO C call (⟨d, none, op⟩ :: os) F S Q = AllK (aop C call F S op) fun r => panK r.1 (fun x => Q (.pan x) F r.2) (WO C call os (F.put d r.1) r.2 Q) := id rfl
theorem WO_if {d : Option Nat} {t : Nat} {op : AOp} {os : List AOper} : WO C call (⟨d, some (t, true), op⟩ :: os) F S Q = undK (F.get t) (WO C call os (F.put d undefA) S Q) (condK (F.get t) (AllK (aop C call F S op) fun r => panK r.1 (fun x => Q (.pan x) F r.2) (WO C call os (F.put d r.1) r.2 Q)) (WO C call os (F.put d undefA) S Q)) := id rfl
theorem WO_unless {d : Option Nat} {t : Nat} {op : AOp} {os : List AOper} : WO C call (⟨d, some (t, false), op⟩ :: os) F S Q = undK (F.get t) (WO C call os (F.put d undefA) S Q) (condK (F.get t) (WO C call os (F.put d undefA) S Q) (AllK (aop C call F S op) fun r => panK r.1 (fun x => Q (.pan x) F r.2) (WO C call os (F.put d r.1) r.2 Q))) := id rfl
theorem WC_skip : WC C call L .skip F S Q = Q .norm F S := id rfl
theorem WC_reg {ops : List AOper} : WC C call L (.reg ops) F S Q = WO C call ops F S Q := id rfl
theorem WC_draw {ops : List (AOper × List Nat × List Nat)} : WC C call L (.draw ops) F S Q = WD C call ops 0 F S [] fun F S => Q .norm F S := id rfl
theorem WC_seq {a b : AC} : WC C call L (.seq a b) F S Q = WC C call L a F S (thenK (fun F S => WC C call L b F S Q) Q) := id rfl
theorem WC_cond {x : AX} {a b : AC} : WC C call L (.cond x a b) F S Q = condK (x.ev F) (WC C call L a F S Q) (WC C call L b F S Q) := id rfl
theorem WC_block {i : Nat} {a : AC} : WC C call L (.block i a) F S Q = WC C call L a F S (blkK i Q) := id rfl
theorem WC_loop {kp : List Nat} {a : AC} : WC C call L (.loop kp a) F S Q = AllK (iter kp (runC C call L a) L (F.keep kp) S) fun r => Q r.1 r.2.1 r.2.2 := id rfl
theorem WC_exit {i : Nat} : WC C call L (.exit i) F S Q = Q (.exit i) F S := id rfl
theorem WC_ret : WC C call L .ret F S Q = Q .ret F S := id rfl
theorem WD_nil {i : Nat} {acc : List SI} {K : Fr → AS → Prop} : WD C call [] i F S acc K = K F S := id rfl
theorem WD_cons {d : Option Nat} {op : AOp} {pr us : List Nat} {os : List (AOper × List Nat × List Nat)} {i : Nat} {acc : List SI} {K : Fr → AS → Prop} : WD C call ((⟨d, none, op⟩, pr, us) :: os) i F S acc K =
    One (aop C call (F.keep us) S op) fun r => chkK r.1.np (chkK (acc.all (dchk C pr ⟨i, sik op, op, F.keep us, S, r.1⟩ r.2)) (WD C call os (i + 1) (F.put d r.1) (bif op.acts then r.2 else S) (⟨i, sik op, op, F.keep us, S, r.1⟩ :: acc) K)) := id rfl
theorem WD_unless {d : Option Nat} {t : Nat} {op : AOp} {pr us : List Nat} {os : List (AOper × List Nat × List Nat)} {i : Nat} {acc : List SI} {K : Fr → AS → Prop} : WD C call ((⟨d, some (t, false), op⟩, pr, us) :: os) i F S acc K =
    undK ((F.keep us).get t) (WD C call os (i + 1) (F.put d undefA) S (⟨i, 0, op, F.keep us, S, undefA⟩ :: acc) K) (condK ((F.keep us).get t) (WD C call os (i + 1) (F.put d undefA) S (⟨i, 0, op, F.keep us, S, undefA⟩ :: acc) K)
      (One (aop C call (F.keep us) S op) fun r => chkK r.1.np (chkK (acc.all (dchk C pr ⟨i, sik op, op, F.keep us, S, r.1⟩ r.2)) (WD C call os (i + 1) (F.put d r.1) (bif op.acts then r.2 else S) (⟨i, sik op, op, F.keep us, S, r.1⟩ :: acc) K)))) := id rfl
theorem dchk_10 {pr : List Nat} {i j : Nat} {op op' : AOp} {F0 F1 : Fr} {S0 S1 S' : AS} {v v' : AV} : dchk C pr ⟨i, 1, op, F0, S0, v⟩ S' ⟨j, 0, op', F1, S1, v'⟩ = true := id rfl
theorem dchk_11 {pr : List Nat} {i j : Nat} {op op' : AOp} {F0 F1 : Fr} {S0 S1 S' : AS} {v v' : AV} : dchk C pr ⟨i, 1, op, F0, S0, v⟩ S' ⟨j, 1, op', F1, S1, v'⟩ = true := id rfl
theorem dchk_12 {pr : List Nat} {i j : Nat} {op op' : AOp} {F0 F1 : Fr} {S0 S1 S' : AS} {v v' : AV} : dchk C pr ⟨i, 1, op, F0, S0, v⟩ S' ⟨j, 2, op', F1, S1, v'⟩ = true := id rfl
theorem dchk_13 {pr : List Nat} {i j : Nat} {op op' : AOp} {F0 F1 : Fr} {S0 S1 S' : AS} {v v' : AV} : dchk C pr ⟨i, 1, op, F0, S0, v⟩ S' ⟨j, 3, op', F1, S1, v'⟩ = true := id rfl
theorem dchk_21 {pr : List Nat} {i j : Nat} {op op' : AOp} {F0 F1 : Fr} {S0 S1 S' : AS} {v v' : AV} : dchk C pr ⟨i, 2, op, F0, S0, v⟩ S' ⟨j, 1, op', F1, S1, v'⟩ = true := id rfl
theorem dchk_22 {pr : List Nat} {i j : Nat} {op op' : AOp} {F0 F1 : Fr} {S0 S1 S' : AS} {v v' : AV} : dchk C pr ⟨i, 2, op, F0, S0, v⟩ S' ⟨j, 2, op', F1, S1, v'⟩ = true := id rfl
theorem dchk_31 {pr : List Nat} {i j : Nat} {op op' : AOp} {F0 F1 : Fr} {S0 S1 S' : AS} {v v' : AV} : dchk C pr ⟨i, 3, op, F0, S0, v⟩ S' ⟨j, 1, op', F1, S1, v'⟩ = true := id rfl
theorem dchk_33 {pr : List Nat} {i j : Nat} {op op' : AOp} {F0 F1 : Fr} {S0 S1 S' : AS} {v v' : AV} : dchk C pr ⟨i, 3, op, F0, S0, v⟩ S' ⟨j, 3, op', F1, S1, v'⟩ = pr.contains j := id rfl
theorem dchk_32 {pr : List Nat} {i j : Nat} {op op' : AOp} {F0 F1 : Fr} {S0 S1 S' : AS} {v v' : AV} : dchk C pr ⟨i, 3, op, F0, S0, v⟩ S' ⟨j, 2, op', F1, S1, v'⟩ = (pr.contains j || readsSame C S' ⟨j, 2, op', F1, S1, v'⟩) := id rfl
theorem dchk_23 {pr : List Nat} {i j : Nat} {op op' : AOp} {F0 F1 : Fr} {S0 S1 S' : AS} {v v' : AV} : dchk C pr ⟨i, 2, op, F0, S0, v⟩ S' ⟨j, 3, op', F1, S1, v'⟩ = (pr.contains j || readsSame C S1 ⟨i, 2, op, F0, S0, v⟩) := id rfl
def isSame (v : AV) (r : R (AV × AS)) : Bool := match r with
  | .one r => AV.beq r.1 v
  | _ => false
theorem isSame_one {v x : AV} {S' : AS} : isSame v (.one (x, S')) = AV.beq x v := id rfl
theorem same_eq {i k : Nat} {op : AOp} {F0 : Fr} {S0 S' : AS} {v : AV} : readsSame C S' ⟨i, k, op, F0, S0, v⟩ = isSame v (aop C (fun _ _ _ => .no) F0 S' op) := by
  unfold readsSame isSame
  rfl
theorem thenK_norm {k : Fr → AS → Prop} : thenK k Q .norm F S = k F S := id rfl
theorem thenK_ret {k : Fr → AS → Prop} : thenK k Q .ret F S = Q .ret F S := id rfl
theorem thenK_exit {k : Fr → AS → Prop} {i : Nat} : thenK k Q (.exit i) F S = Q (.exit i) F S := id rfl
theorem blkK_norm {i : Nat} : blkK i Q .norm F S = Q .norm F S := id rfl
theorem blkK_ret {i : Nat} : blkK i Q .ret F S = Q .ret F S := id rfl
theorem blkK_exit {i j : Nat} : blkK i Q (.exit j) F S = if j = i then Q .norm F S else Q (.exit j) F S := id rfl
theorem endK_norm {res : List ARes} {T : AV × AS → Prop} {S0 : AS} : endK res S0 T .norm F S = ∃ l, resV F S res = some l ∧ T (resOne l, finA S0 (resOne l) S) := id rfl
theorem endK_ret {res : List ARes} {T : AV × AS → Prop} {S0 : AS} : endK res S0 T .ret F S = ∃ l, resV F S res = some l ∧ T (resOne l, finA S0 (resOne l) S) := id rfl
end
theorem panK_any  {P : AV → Prop} {N : Prop} : panK (.any ) P N = N := id rfl
theorem np_any  : AV.np (.any ) = true := rfl
theorem panK_bool (b : Bool) {P : AV → Prop} {N : Prop} : panK (.bool b) P N = N := id rfl
theorem np_bool (b : Bool) : AV.np (.bool b) = true := rfl
theorem panK_int (k : IntKind) (n : Int) {P : AV → Prop} {N : Prop} : panK (.int k n) P N = N := id rfl
theorem np_int (k : IntKind) (n : Int) : AV.np (.int k n) = true := rfl
theorem panK_nilp  {P : AV → Prop} {N : Prop} : panK (.nilp ) P N = N := id rfl
theorem panK_ptr (v g o e : Nat) {P : AV → Prop} {N : Prop} : panK (.ptr v g o e) P N = N := id rfl
theorem np_ptr (v g o e : Nat) : AV.np (.ptr v g o e) = true := rfl
theorem panK_nils  {P : AV → Prop} {N : Prop} : panK (.nils ) P N = N := id rfl
theorem panK_slice (v g q len : Nat) (lim : Option Nat) (sz : Nat) {P : AV → Prop} {N : Prop} : panK (.slice v g q len lim sz) P N = N := id rfl
theorem np_slice (v g q len : Nat) (lim : Option Nat) (sz : Nat) : AV.np (.slice v g q len lim sz) = true := rfl
theorem panK_emp (z : Bool) {P : AV → Prop} {N : Prop} : panK (.emp z) P N = N := id rfl
theorem panK_fn (f : Fn) (a c : List AV) {P : AV → Prop} {N : Prop} : panK (.fn f a c) P N = N := id rfl
theorem panK_nili  {P : AV → Prop} {N : Prop} : panK (.nili ) P N = N := id rfl
theorem panK_ifc (t : TypeId) (x : AV) {P : AV → Prop} {N : Prop} : panK (.ifc t x) P N = N := id rfl
theorem np_ifc (t : TypeId) (x : AV) : AV.np (.ifc t x) = true := rfl
theorem panK_agg (l : List AV) {P : AV → Prop} {N : Prop} : panK (.agg l) P N = N := id rfl
theorem np_agg (l : List AV) : AV.np (.agg l) = true := rfl
theorem panK_tup (l : List AV) {P : AV → Prop} {N : Prop} : panK (.tup l) P N = N := id rfl
theorem np_tup (l : List AV) : AV.np (.tup l) = true := rfl
theorem panK_row (z s n : Nat) (c : List AV) {P : AV → Prop} {N : Prop} : panK (.row z s n c) P N = N := id rfl
theorem np_row (z s n : Nat) (c : List AV) : AV.np (.row z s n c) = true := rfl
theorem panK_fp (z o : Nat) (c : List AV) {P : AV → Prop} {N : Prop} : panK (.fp z c o) P N = N := id rfl
theorem np_fp (z o : Nat) (c : List AV) : AV.np (.fp z c o) = true := rfl
theorem ieq_dec (a b : Int) : (a == b) = decide (a = b) := id rfl
theorem ine_dec (a b : Int) : (a != b) = !decide (a = b) := id rfl
theorem dect {p : Prop} [Decidable p] (h : p) : decide p = true := decide_eq_true h
theorem decf {p : Prop} [Decidable p] (h : ¬ p) : decide p = false := decide_eq_false h
theorem nat_ne {a b : Nat} (h : a ≠ b) : (a = b) = False := eq_false h
section
variable {C : Ctx} {call : CallF} {F : Fr} {S : AS}
theorem aop_mv (x : AX) : aop C call F S (.mv x) = (.one (x.ev F, S)) := id rfl
theorem aop_pick (c : AX) (a : AX) (b : AX) : aop C call F S (.pick c a b) = (match c.ev F with
    | .bool true => .one (a.ev F, S)
    | .bool false => .one (b.ev F, S)
    | _ => .no) := id rfl
theorem aop_alloc (z : List AV) : aop C call F S (.alloc z) = (.one (.ptr S.n 0 0 z.length, S.newRow z z.length false)) := id rfl
theorem aop_box (x : AX) : aop C call F S (.box x) = (match (x.ev F).cellsOf with
    | some c => .one (.ptr S.n 0 0 c.length, S.newRow c c.length false)
    | none => .no) := id rfl
theorem aop_build (z : List AV) (ps : List (Nat × Nat × AX)) : aop C call F S (.build z ps) = (withS S ((fillL F z ps).map .agg)) := id rfl
theorem aop_bslice (sz : Nat) (len : Nat) (z : List AV) (ps : List (Nat × Nat × AX)) : aop C call F S (.bslice sz len z ps) = (match fillL F z ps with
    | some c => .one (.slice S.n 0 0 len none sz, S.newRow c sz false)
    | none => .no) := id rfl
theorem aop_ld1 (x : AX) : aop C call F S (.ld1 x) = (withS S (S.ld1 (x.ev F))) := id rfl
theorem aop_ldn (n : Nat) (x : AX) : aop C call F S (.ldn n x) = (withS S (S.ldn n (x.ev F))) := id rfl
theorem aop_st (n : Nat) (a : AX) (x : AX) : aop C call F S (.st n a x) = (match S.st n (a.ev F) (x.ev F) with
    | some S' => .one (undefA, S')
    | none => .no) := id rfl
theorem aop_nck (x : AX) : aop C call F S (.nck x) = (match x.ev F with
    | .ptr v g o e => .one (.ptr v g o e, S)
    | .fp z cs o => .one (.fp z cs o, S)
    | .fn (.func f) a c => .one (.fn (.func f) a c, S)
    | .ifc t y => .one (.ifc t y, S)
    | _ => .no) := id rfl
theorem aop_bin (op : BinOp) (x : AX) (y : AX) : aop C call F S (.bin op x y) = (withS S (abin op (x.ev F) (y.ev F))) := id rfl
theorem aop_eq (neg : Bool) (k : EK) (x : AX) (y : AX) : aop C call F S (.eq neg k x y) = (match aeq k (x.ev F) (y.ev F) with
    | some b => .one (.bool (bif neg then !b else b), S)
    | none => .no) := id rfl
theorem aop_un (op : UnOp) (x : AX) : aop C call F S (.un op x) = (withS S (aun op (x.ev F))) := id rfl
theorem aop_cvi (k : IntKind) (x : AX) : aop C call F S (.cvi k x) = (match x.ev F with
    | .int _ n => .one (.int k (k.wrap n), S)
    | _ => .no) := id rfl
theorem aop_mkif (t : TypeId) (x : AX) : aop C call F S (.mkif t x) = (.one (.ifc t (x.ev F), S)) := id rfl
theorem aop_mkfn (f : Fn) (a : List AX) (c : List AX) : aop C call F S (.mkfn f a c) = (.one (.fn f (AX.evs F a) (AX.evs F c), S)) := id rfl
theorem aop_mksl (sz : Nat) (bytes : Nat) (z : List AV) (l : AX) (c : AX) : aop C call F S (.mksl sz bytes z l c) = (match asNat (l.ev F), asNat (c.ev F) with
    | some l, some c => bif Nat.ble l c && Nat.ble (c * bytes) bound46 && Nat.ble c bound46 then .one (.slice S.n 0 0 l none sz, S.newRow (reps z c) sz false) else .no
    | _, _ => .no) := id rfl
theorem aop_slc (sz : Nat) (x : AX) (lo : Option AX) (hi : Option AX) (mx : Option AX) : aop C call F S (.slc sz x lo hi mx) = (withS S (S.slc sz (x.ev F) (lo.map (AX.ev F)) (hi.map (AX.ev F)) (mx.map (AX.ev F)))) := id rfl
theorem aop_fad (off : Nat) (x : AX) : aop C call F S (.fad off x) = (match x.ev F with
    | .ptr v g o e => .one (.ptr v g (o + off) e, S)
    | .fp z cs o => .one (.fp z cs (o + off), S)
    | _ => .no) := id rfl
theorem aop_fld (off : Nat) (n : Option Nat) (x : AX) : aop C call F S (.fld off n x) = (match x.ev F with
    | .agg l => match n with
      | none => withS S l[off]?
      | some n => bif Nat.ble (off + n) l.length then .one (.agg ((l.drop off).take n), S) else .no
    | _ => .no) := id rfl
theorem aop_ixa (n : Nat) (sz : Nat) (x : AX) (i : AX) : aop C call F S (.ixa n sz x i) = (match x.ev F with
    | .ptr v g o e => match aidx n (i.ev F) with
      | some i => .one (.ptr v g (o + i * sz) e, S)
      | none => .no
    | _ => .no) := id rfl
theorem aop_tas (t : TypeId) (z : AV) (ok : Bool) (x : AX) : aop C call F S (.tas t z ok x) = (match x.ev F with
    | .nili => bif ok then .one (.tup [z, .bool false], S) else .no
    | .ifc t' y => bif Nat.beq t' t then .one (bif ok then .tup [y, .bool true] else y, S) else bif ok then .one (.tup [z, .bool false], S) else .no
    | _ => .no) := id rfl
theorem aop_xt (i : Nat) (x : AX) : aop C call F S (.xt i x) = (match x.ev F with
    | .tup l => withS S l[i]?
    | _ => .no) := id rfl
theorem aop_call (f : Nat) (a : List AX) : aop C call F S (.call f a) = (call f (AX.evs F a) S) := id rfl
theorem aop_callv (f : AX) (a : List AX) : aop C call F S (.callv f a) = (match f.ev F with
    | .fn (.func f) first cap => call f (first ++ AX.evs F a ++ cap) S
    | .yld v => match C.env v with
      | some rd => rd (AX.evs F a) S
      | none => .no
    | _ => .no) := id rfl
theorem aop_inv (name : String) (r : AX) (a : List AX) : aop C call F S (.inv name r a) = (match r.ev F with
    | .ifc t y => match C.meth t name with
      | some f => call f (y :: AX.evs F a) S
      | none => .no
    | _ => .no) := id rfl
theorem aop_cap (x : AX) : aop C call F S (.cap x) = (match x.ev F with
    | .nils => .one (.int .i64 0, S)
    | _ => .no) := id rfl
theorem aop_app (sz : Nat) (bytes : Nat) (x : AX) (y : AX) : aop C call F S (.app sz bytes x y) = (R.ofO (S.app sz bytes (x.ev F) (y.ev F))) := id rfl
theorem aop_appz (sz : Nat) (bytes : Nat) (z : List AV) (x : AX) (n : AX) : aop C call F S (.appz sz bytes z x n) = (match asNat (n.ev F) with
    | some (n + 1) => bif Nat.ble ((n + 1) * bytes) bound46 && !(Nat.beq sz 0) then R.ofO (S.appN sz bytes (x.ev F) (n + 1) (reps z (n + 1))) else .no
    | _ => .no) := id rfl
theorem aop_mx (x : AX) (l : List AX) : aop C call F S (.mx x l) = (withS S (bif isInt (x.ev F) then foldMn true (x.ev F) (AX.evs F l) else none)) := id rfl
end
def ldO (ob : Option AObj) (g o e : Nat) : Option AV := match ob with
  | some (.cells c _ gen lo _ _) => bif Nat.ble lo g && Nat.ble g gen && Nat.blt o e then c[o]? else none
  | _ => none
def ldlO (ob : Option AObj) (g o e n : Nat) : Option (List AV) := match ob with
  | some (.cells c _ gen lo _ _) => bif Nat.ble lo g && Nat.ble g gen && Nat.ble (o + n) e then some ((c.drop o).take n) else none
  | _ => none
def stO (ob : Option AObj) (g o e : Nat) (xs : List AV) : Option AObj := match ob with
  | some (.cells c sz gen _ opn false) => bif Nat.beq g gen && Nat.ble (o + xs.length) e && xs.all AV.one then some (.cells (setL c o xs) sz gen gen opn false) else none
  | _ => none
section
variable {S : AS} {v g o e n m : Nat}
theorem ld1_ptr : S.ld1 (.ptr v g o e) = ldO (S.get v) g o e := rfl
theorem ld1_fp {z : Nat} {cs : List AV} : S.ld1 (.fp z cs o) = cs[o]? := rfl
theorem ldn_fp {z : Nat} {cs : List AV} : S.ldn n (.fp z cs o) = bif Nat.ble (o + n) cs.length then some (.agg ((cs.drop o).take n)) else none := rfl
theorem ldn_ptr : S.ldn n (.ptr v g o e) = (ldlO (S.get v) g o e n).map .agg := rfl
theorem stl_get {xs : List AV} : S.stl v g o e xs = (stO (S.get v) g o e xs).map (S.put v) := by
  unfold AS.stl stO
  cases S.get v with
  | none => rfl
  | some ob =>
    cases ob with
    | cells c sz gen lo opn ro =>
      cases ro with
      | true => rfl
      | false =>
        dsimp only
        cases (Nat.beq g gen && Nat.ble (o + xs.length) e && xs.all AV.one) <;> rfl
    | map _ _ => rfl
    | iter _ _ _ _ _ => rfl
    | raw _ => rfl
theorem ldO_cells {c : List AV} {z gen lo : Nat} {opn ro : Bool} : ldO (some (.cells c z gen lo opn ro)) g o e = bif Nat.ble lo g && Nat.ble g gen && Nat.blt o e then c[o]? else none := rfl
theorem ldlO_cells {c : List AV} {z gen lo : Nat} {opn ro : Bool} : ldlO (some (.cells c z gen lo opn ro)) g o e n = bif Nat.ble lo g && Nat.ble g gen && Nat.ble (o + n) e then some ((c.drop o).take n) else none := rfl
theorem stO_cells {c xs : List AV} {z gen lo : Nat} {opn : Bool} : stO (some (.cells c z gen lo opn false)) g o e xs = bif Nat.beq g gen && Nat.ble (o + xs.length) e && xs.all AV.one then some (.cells (setL c o xs) z gen gen opn false) else none := rfl
theorem get_reset : AS.get ⟨S.objs, n, m⟩ v = S.get v := rfl
end
theorem get_cons' (k : Nat) (v : AV) (r : Fr) (n : Nat) : Fr.get ((k, v) :: r) n = if k = n then v else Fr.get r n := Fr.get_cons k v r n
theorem ble_dec (a b : Nat) : Nat.ble a b = decide (a ≤ b) := by
  cases h : Nat.ble a b with
  | true => exact (decide_eq_true (by simpa using h)).symm
  | false => exact (decide_eq_false fun k => by rw [show Nat.ble a b = true by simpa using k] at h; cases h).symm
theorem blt_dec (a b : Nat) : Nat.blt a b = decide (a < b) := ble_dec (a + 1) b
theorem beq_dec (a b : Nat) : Nat.beq a b = decide (a = b) := by
  cases h : Nat.beq a b with
  | true => exact (decide_eq_true (by simpa using h)).symm
  | false => exact (decide_eq_false fun k => by rw [show Nat.beq a b = true by simpa using k] at h; cases h).symm
end Go.Proofs.Ytednmmcdjhfflaa.Vai
