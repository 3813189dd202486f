/-
  A verified abstract interpreter, part W: the words by which 'simp' goes through code of which all, or much, is known: what is behind a piece is not looked at before the piece is done.
-/
import Derived.Test.YtacndjnjikdcoaaGreatVaiV
namespace Go.Proofs.YtacndjnjikdcoaaGreat.Vai
open Go Go.RowKit

section
variable {α : Type} {C : Ctx} {call : CallF} {L : Nat} {F F' : Fr} {S : AS} {Q : AE → Fr → AS → Prop} {A B N : Prop} {P : AV → Prop}
theorem One_one {a : α} {Q : α → Prop} : One (.one a) Q = Q a := propext ⟨fun ⟨_, h, k⟩ => by cases h; exact k, fun h => ⟨a, rfl, h⟩⟩
theorem condK_true : condK (.bool true) A B = A := id rfl
theorem condK_false : condK (.bool false) A B = B := id rfl
theorem condK_dec {p : Prop} [Decidable p] (h1 : p → A) (h2 : ¬ p → B) : condK (.bool (decide p)) A B := by
  by_cases h : p
  · rw [decide_eq_true h]; exact h1 h
  · rw [decide_eq_false h]; exact h2 h
theorem condK_bool {b : Bool} (h1 : b = true → A) (h2 : b = false → B) : condK (.bool b) A B := by
  cases b
  · exact h2 rfl
  · exact h1 rfl
theorem chkK_true : chkK true N = N := propext ⟨fun h => h.2, fun h => ⟨rfl, h⟩⟩
theorem WO_nil : WO C call [] F S Q = Q .norm F S := id rfl
theorem WO_cons {d : Option Nat} {op : AOp} {os : List AOper} : WO C call (⟨d, none, op⟩ :: os) F S Q = One (aop C call F S op) fun r => panK r.1 (fun x => Q (.pan x) F r.2) (WO C call os (F.put d r.1) r.2 Q) := id rfl
theorem WO_if {d : Option Nat} {t : Nat} {op : AOp} {os : List AOper} : WO C call (⟨d, some (t, true), op⟩ :: os) F S Q = condK (F.get t) (One (aop C call F S op) fun r => panK r.1 (fun x => Q (.pan x) F r.2) (WO C call os (F.put d r.1) r.2 Q)) (WO C call os (F.put d undefA) S Q) := id rfl
theorem WO_unless {d : Option Nat} {t : Nat} {op : AOp} {os : List AOper} : WO C call (⟨d, some (t, false), op⟩ :: os) F S Q = condK (F.get t) (WO C call os (F.put d undefA) S Q) (One (aop C call F S op) fun r => panK r.1 (fun x => Q (.pan x) F r.2) (WO C call os (F.put d r.1) r.2 Q)) := id rfl
theorem WC_skip : WC C call L .skip F S Q = Q .norm F S := id rfl
theorem WC_reg {ops : List AOper} : WC C call L (.reg ops) F S Q = WO C call ops F S Q := id rfl
theorem WC_draw {ops : List (AOper × List Nat × List Nat)} : WC C call L (.draw ops) F S Q = WD C call ops 0 F S [] fun F S => Q .norm F S := id rfl
theorem WC_seq {a b : AC} : WC C call L (.seq a b) F S Q = WC C call L a F S (thenK (fun F S => WC C call L b F S Q) Q) := id rfl
theorem WC_cond {x : AX} {a b : AC} : WC C call L (.cond x a b) F S Q = condK (x.ev F) (WC C call L a F S Q) (WC C call L b F S Q) := id rfl
theorem WC_block {i : Nat} {a : AC} : WC C call L (.block i a) F S Q = WC C call L a F S (blkK i Q) := id rfl
theorem WC_loop {kp : List Nat} {a : AC} : WC C call L (.loop kp a) F S Q = One (iter kp (runC C call L a) L (F.keep kp) S) fun r => Q r.1 r.2.1 r.2.2 := id rfl
theorem WC_exit {i : Nat} : WC C call L (.exit i) F S Q = Q (.exit i) F S := id rfl
theorem WC_scope {a : AC} : WC C call L (.scope a) F S Q = WC C call L a F S Q := id rfl
theorem WC_label : WC C call L .label F S Q = Q .norm F S := id rfl
theorem WC_ret : WC C call L .ret F S Q = Q .ret F S := id rfl
theorem WD_nil {i : Nat} {acc : List SI} {K : Fr → AS → Prop} : WD C call [] i F S acc K = K F S := id rfl
theorem WD_cons {d : Option Nat} {op : AOp} {pr us : List Nat} {os : List (AOper × List Nat × List Nat)} {i : Nat} {acc : List SI} {K : Fr → AS → Prop} : WD C call ((⟨d, none, op⟩, pr, us) :: os) i F S acc K =
    One (aop C call (F.keep us) S op) fun r => chkK r.1.np (chkK (acc.all (dchk C pr ⟨i, sik op, op, F.keep us, S, r.1⟩ r.2)) (WD C call os (i + 1) (F.put d r.1) (bif op.acts then r.2 else S) (⟨i, sik op, op, F.keep us, S, r.1⟩ :: acc) K)) := id rfl
theorem WD_if {d : Option Nat} {t : Nat} {op : AOp} {pr us : List Nat} {os : List (AOper × List Nat × List Nat)} {i : Nat} {acc : List SI} {K : Fr → AS → Prop} : WD C call ((⟨d, some (t, true), op⟩, pr, us) :: os) i F S acc K =
    condK ((F.keep us).get t) (One (aop C call (F.keep us) S op) fun r => chkK r.1.np (chkK (acc.all (dchk C pr ⟨i, sik op, op, F.keep us, S, r.1⟩ r.2)) (WD C call os (i + 1) (F.put d r.1) (bif op.acts then r.2 else S) (⟨i, sik op, op, F.keep us, S, r.1⟩ :: acc) K)))
      (WD C call os (i + 1) (F.put d undefA) S (⟨i, 0, op, F.keep us, S, undefA⟩ :: acc) K) := id rfl
theorem WD_unless {d : Option Nat} {t : Nat} {op : AOp} {pr us : List Nat} {os : List (AOper × List Nat × List Nat)} {i : Nat} {acc : List SI} {K : Fr → AS → Prop} : WD C call ((⟨d, some (t, false), op⟩, pr, us) :: os) i F S acc K =
    condK ((F.keep us).get t) (WD C call os (i + 1) (F.put d undefA) S (⟨i, 0, op, F.keep us, S, undefA⟩ :: acc) K)
      (One (aop C call (F.keep us) S op) fun r => chkK r.1.np (chkK (acc.all (dchk C pr ⟨i, sik op, op, F.keep us, S, r.1⟩ r.2)) (WD C call os (i + 1) (F.put d r.1) (bif op.acts then r.2 else S) (⟨i, sik op, op, F.keep us, S, r.1⟩ :: acc) K))) := id rfl
theorem dchk_00 {pr : List Nat} {i j : Nat} {op op' : AOp} {F0 F1 : Fr} {S0 S1 S' : AS} {v v' : AV} : dchk C pr ⟨i, 0, op, F0, S0, v⟩ S' ⟨j, 0, op', F1, S1, v'⟩ = true := id rfl
theorem dchk_01 {pr : List Nat} {i j : Nat} {op op' : AOp} {F0 F1 : Fr} {S0 S1 S' : AS} {v v' : AV} : dchk C pr ⟨i, 0, op, F0, S0, v⟩ S' ⟨j, 1, op', F1, S1, v'⟩ = true := id rfl
theorem dchk_02 {pr : List Nat} {i j : Nat} {op op' : AOp} {F0 F1 : Fr} {S0 S1 S' : AS} {v v' : AV} : dchk C pr ⟨i, 0, op, F0, S0, v⟩ S' ⟨j, 2, op', F1, S1, v'⟩ = true := id rfl
theorem dchk_03 {pr : List Nat} {i j : Nat} {op op' : AOp} {F0 F1 : Fr} {S0 S1 S' : AS} {v v' : AV} : dchk C pr ⟨i, 0, op, F0, S0, v⟩ S' ⟨j, 3, op', F1, S1, v'⟩ = true := id rfl
theorem dchk_10 {pr : List Nat} {i j : Nat} {op op' : AOp} {F0 F1 : Fr} {S0 S1 S' : AS} {v v' : AV} : dchk C pr ⟨i, 1, op, F0, S0, v⟩ S' ⟨j, 0, op', F1, S1, v'⟩ = true := id rfl
theorem dchk_11 {pr : List Nat} {i j : Nat} {op op' : AOp} {F0 F1 : Fr} {S0 S1 S' : AS} {v v' : AV} : dchk C pr ⟨i, 1, op, F0, S0, v⟩ S' ⟨j, 1, op', F1, S1, v'⟩ = true := id rfl
theorem dchk_12 {pr : List Nat} {i j : Nat} {op op' : AOp} {F0 F1 : Fr} {S0 S1 S' : AS} {v v' : AV} : dchk C pr ⟨i, 1, op, F0, S0, v⟩ S' ⟨j, 2, op', F1, S1, v'⟩ = true := id rfl
theorem dchk_13 {pr : List Nat} {i j : Nat} {op op' : AOp} {F0 F1 : Fr} {S0 S1 S' : AS} {v v' : AV} : dchk C pr ⟨i, 1, op, F0, S0, v⟩ S' ⟨j, 3, op', F1, S1, v'⟩ = true := id rfl
theorem dchk_20 {pr : List Nat} {i j : Nat} {op op' : AOp} {F0 F1 : Fr} {S0 S1 S' : AS} {v v' : AV} : dchk C pr ⟨i, 2, op, F0, S0, v⟩ S' ⟨j, 0, op', F1, S1, v'⟩ = true := id rfl
theorem dchk_21 {pr : List Nat} {i j : Nat} {op op' : AOp} {F0 F1 : Fr} {S0 S1 S' : AS} {v v' : AV} : dchk C pr ⟨i, 2, op, F0, S0, v⟩ S' ⟨j, 1, op', F1, S1, v'⟩ = true := id rfl
theorem dchk_22 {pr : List Nat} {i j : Nat} {op op' : AOp} {F0 F1 : Fr} {S0 S1 S' : AS} {v v' : AV} : dchk C pr ⟨i, 2, op, F0, S0, v⟩ S' ⟨j, 2, op', F1, S1, v'⟩ = true := id rfl
theorem dchk_30 {pr : List Nat} {i j : Nat} {op op' : AOp} {F0 F1 : Fr} {S0 S1 S' : AS} {v v' : AV} : dchk C pr ⟨i, 3, op, F0, S0, v⟩ S' ⟨j, 0, op', F1, S1, v'⟩ = true := id rfl
theorem dchk_31 {pr : List Nat} {i j : Nat} {op op' : AOp} {F0 F1 : Fr} {S0 S1 S' : AS} {v v' : AV} : dchk C pr ⟨i, 3, op, F0, S0, v⟩ S' ⟨j, 1, op', F1, S1, v'⟩ = true := id rfl
theorem dchk_33 {pr : List Nat} {i j : Nat} {op op' : AOp} {F0 F1 : Fr} {S0 S1 S' : AS} {v v' : AV} : dchk C pr ⟨i, 3, op, F0, S0, v⟩ S' ⟨j, 3, op', F1, S1, v'⟩ = pr.contains j := id rfl
theorem dchk_32 {pr : List Nat} {i j : Nat} {op op' : AOp} {F0 F1 : Fr} {S0 S1 S' : AS} {v v' : AV} : dchk C pr ⟨i, 3, op, F0, S0, v⟩ S' ⟨j, 2, op', F1, S1, v'⟩ = (pr.contains j || readsSame C S' ⟨j, 2, op', F1, S1, v'⟩) := id rfl
theorem dchk_23 {pr : List Nat} {i j : Nat} {op op' : AOp} {F0 F1 : Fr} {S0 S1 S' : AS} {v v' : AV} : dchk C pr ⟨i, 2, op, F0, S0, v⟩ S' ⟨j, 3, op', F1, S1, v'⟩ = (pr.contains j || readsSame C S1 ⟨i, 2, op, F0, S0, v⟩) := id rfl
def isSame (v : AV) (r : R (AV × AS)) : Bool := match r with
  | .one r => AV.beq r.1 v
  | _ => false
theorem isSame_one {v x : AV} {S' : AS} : isSame v (.one (x, S')) = AV.beq x v := id rfl
theorem same_eq {i k : Nat} {op : AOp} {F0 : Fr} {S0 S' : AS} {v : AV} : readsSame C S' ⟨i, k, op, F0, S0, v⟩ = isSame v (aop C (fun _ _ _ => .no) F0 S' op) := by
  unfold readsSame isSame
  rfl
theorem thenK_norm {k : Fr → AS → Prop} : thenK k Q .norm F S = k F S := id rfl
theorem thenK_ret {k : Fr → AS → Prop} : thenK k Q .ret F S = Q .ret F S := id rfl
theorem thenK_exit {k : Fr → AS → Prop} {i : Nat} : thenK k Q (.exit i) F S = Q (.exit i) F S := id rfl
theorem thenK_pan {k : Fr → AS → Prop} {x : AV} : thenK k Q (.pan x) F S = Q (.pan x) F S := id rfl
theorem blkK_norm {i : Nat} : blkK i Q .norm F S = Q .norm F S := id rfl
theorem blkK_ret {i : Nat} : blkK i Q .ret F S = Q .ret F S := id rfl
theorem blkK_exit {i j : Nat} : blkK i Q (.exit j) F S = if j = i then Q .norm F S else Q (.exit j) F S := id rfl
theorem blkK_pan {i : Nat} {x : AV} : blkK i Q (.pan x) F S = Q (.pan x) F S := id rfl
theorem endK_norm {res : List ARes} {T : AV × AS → Prop} {S0 : AS} : endK res S0 T .norm F S = ∃ l, resV F S res = some l ∧ T (resOne l, finA S0 (resOne l) S) := id rfl
theorem endK_ret {res : List ARes} {T : AV × AS → Prop} {S0 : AS} : endK res S0 T .ret F S = ∃ l, resV F S res = some l ∧ T (resOne l, finA S0 (resOne l) S) := id rfl
end
theorem panK_any  {P : AV → Prop} {N : Prop} : panK (.any ) P N = N := id rfl
theorem np_any  : AV.np (.any ) = true := rfl
theorem panK_cst (c : Value) {P : AV → Prop} {N : Prop} : panK (.cst c) P N = N := id rfl
theorem np_cst (c : Value) : AV.np (.cst c) = true := rfl
theorem panK_bool (b : Bool) {P : AV → Prop} {N : Prop} : panK (.bool b) P N = N := id rfl
theorem np_bool (b : Bool) : AV.np (.bool b) = true := rfl
theorem panK_int (k : IntKind) (n : Int) {P : AV → Prop} {N : Prop} : panK (.int k n) P N = N := id rfl
theorem np_int (k : IntKind) (n : Int) : AV.np (.int k n) = true := rfl
theorem panK_str (s : List UInt8) {P : AV → Prop} {N : Prop} : panK (.str s) P N = N := id rfl
theorem np_str (s : List UInt8) : AV.np (.str s) = true := rfl
theorem panK_nilp  {P : AV → Prop} {N : Prop} : panK (.nilp ) P N = N := id rfl
theorem np_nilp  : AV.np (.nilp ) = true := rfl
theorem panK_ptr (v g o e : Nat) {P : AV → Prop} {N : Prop} : panK (.ptr v g o e) P N = N := id rfl
theorem np_ptr (v g o e : Nat) : AV.np (.ptr v g o e) = true := rfl
theorem panK_nils  {P : AV → Prop} {N : Prop} : panK (.nils ) P N = N := id rfl
theorem np_nils  : AV.np (.nils ) = true := rfl
theorem panK_slice (v g q len : Nat) (lim : Option Nat) (sz : Nat) {P : AV → Prop} {N : Prop} : panK (.slice v g q len lim sz) P N = N := id rfl
theorem np_slice (v g q len : Nat) (lim : Option Nat) (sz : Nat) : AV.np (.slice v g q len lim sz) = true := rfl
theorem panK_emp (z : Bool) {P : AV → Prop} {N : Prop} : panK (.emp z) P N = N := id rfl
theorem np_emp (z : Bool) : AV.np (.emp z) = true := rfl
theorem panK_nilm  {P : AV → Prop} {N : Prop} : panK (.nilm ) P N = N := id rfl
theorem np_nilm  : AV.np (.nilm ) = true := rfl
theorem panK_map (m : Nat) {P : AV → Prop} {N : Prop} : panK (.map m) P N = N := id rfl
theorem np_map (m : Nat) : AV.np (.map m) = true := rfl
theorem panK_nilf  {P : AV → Prop} {N : Prop} : panK (.nilf ) P N = N := id rfl
theorem np_nilf  : AV.np (.nilf ) = true := rfl
theorem panK_fn (f : Fn) (a c : List AV) {P : AV → Prop} {N : Prop} : panK (.fn f a c) P N = N := id rfl
theorem np_fn (f : Fn) (a c : List AV) : AV.np (.fn f a c) = true := rfl
theorem panK_nili  {P : AV → Prop} {N : Prop} : panK (.nili ) P N = N := id rfl
theorem np_nili  : AV.np (.nili ) = true := rfl
theorem panK_ifc (t : TypeId) (x : AV) {P : AV → Prop} {N : Prop} : panK (.ifc t x) P N = N := id rfl
theorem np_ifc (t : TypeId) (x : AV) : AV.np (.ifc t x) = true := rfl
theorem panK_agg (l : List AV) {P : AV → Prop} {N : Prop} : panK (.agg l) P N = N := id rfl
theorem np_agg (l : List AV) : AV.np (.agg l) = true := rfl
theorem panK_tup (l : List AV) {P : AV → Prop} {N : Prop} : panK (.tup l) P N = N := id rfl
theorem np_tup (l : List AV) : AV.np (.tup l) = true := rfl
theorem panK_yld (v : Nat) {P : AV → Prop} {N : Prop} : panK (.yld v) P N = N := id rfl
theorem np_yld (v : Nat) : AV.np (.yld v) = true := rfl
theorem panK_pan (x : AV) {P : AV → Prop} {N : Prop} : panK (.pan x) P N = P x := id rfl
theorem mw_push (S : AS) (o : AObj) : (S.push o).mw = S.mw := rfl
theorem get_cons' (k : Nat) (v : AV) (r : Fr) (n : Nat) : Fr.get ((k, v) :: r) n = if k = n then v else Fr.get r n := Fr.get_cons k v r n
theorem ble_dec (a b : Nat) : Nat.ble a b = decide (a ≤ b) := by
  cases h : Nat.ble a b with
  | true => exact (decide_eq_true (by simpa using h)).symm
  | false => exact (decide_eq_false fun k => by rw [show Nat.ble a b = true by simpa using k] at h; cases h).symm
theorem blt_dec (a b : Nat) : Nat.blt a b = decide (a < b) := ble_dec (a + 1) b
theorem beq_dec (a b : Nat) : Nat.beq a b = decide (a = b) := by
  cases h : Nat.beq a b with
  | true => exact (decide_eq_true (by simpa using h)).symm
  | false => exact (decide_eq_false fun k => by rw [show Nat.beq a b = true by simpa using k] at h; cases h).symm

end Go.Proofs.YtacndjnjikdcoaaGreat.Vai
