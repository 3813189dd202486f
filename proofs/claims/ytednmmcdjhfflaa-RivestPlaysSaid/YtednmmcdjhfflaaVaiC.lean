/-
  A verified abstract interpreter, part C: the intermediate code and its interpreter. Plain definitions.
-/
import Derived.Test.YtednmmcdjhfflaaVaiB
namespace Go.Proofs.Ytednmmcdjhfflaa.Vai
open Go
inductive R (α : Type) where
  | no
  | one (a : α)
  | many (l : List α)
def R.ls {α : Type} : R α → List α
  | .no => []
  | .one a => [a]
  | .many l => l
def R.join {α : Type} : R α → R α → R α
  | .no, _ => .no
  | _, .no => .no
  | x, y => .many (x.ls ++ y.ls)
def R.binds {α β : Type} (f : α → R β) : List α → R β
  | [] => .many []
  | a :: l => R.join (f a) (R.binds f l)
def R.bind {α β : Type} (r : R α) (f : α → R β) : R β :=
  match r with
  | .no => .no
  | .one a => f a
  | .many l => R.binds f l
def R.ofO {α : Type} : Option α → R α
  | none => .no
  | some a => .one a
@[simp] theorem R.bind_no {α β : Type} (f : α → R β) : (R.no : R α).bind f = .no := rfl
def R.All {α : Type} (Q : α → Prop) : R α → Prop
  | .no => False
  | .one a => Q a
  | .many l => ∀ a ∈ l, Q a
theorem R.All.mono {α : Type} {Q Q' : α → Prop} {r : R α} (h : r.All Q) (k : ∀ a, Q a → Q' a) : r.All Q' := by
  cases r with
  | no => exact h
  | one a => exact k _ h
  | many l => exact fun a ha => k _ (h a ha)
theorem R.All.join {α : Type} {Q : α → Prop} {x y : R α} (h : (R.join x y).All Q) : x.All Q ∧ y.All Q := by
  cases x <;> cases y <;> simp_all [R.join, R.All, R.ls]
theorem R.All.binds {α β : Type} {Q : β → Prop} {f : α → R β} : ∀ {l : List α}, (R.binds f l).All Q → ∀ a ∈ l, (f a).All Q
  | [], _, a, ha => by cases ha
  | b :: l, h, a, ha => by
    have h' := R.All.join h
    rcases List.mem_cons.1 ha with rfl | ha
    · exact h'.1
    · exact R.All.binds h'.2 a ha
theorem R.All.bind {α β : Type} {Q : β → Prop} {r : R α} {f : α → R β} (h : (r.bind f).All Q) : r.All fun a => (f a).All Q := by
  cases r with
  | no => exact h
  | one a => exact h
  | many l => exact R.All.binds h
def AV.ofV1 : Value → AV
  | .bool b => .bool b
  | .int k n => .int k n
  | .string s => .str s.data.toList
  | .pointer none => .nilp
  | .slice none 0 0 => .nils
  | .map none => .nilm
  | .nilFunc => .nilf
  | .nilIface => .nili
  | v => .cst v
def AV.ofV : Value → AV
  | .agg cs => .agg (cs.toList.map AV.ofV1)
  | v => AV.ofV1 v
def AV.one : AV → Bool
  | .agg _ | .tup _ | .any => false
  | .cst c => c.oneCell'
  | _ => true
def AV.cellsOf : AV → Option (List AV)
  | .agg l => some l
  | .tup _ | .any => none
  | .cst c => bif c.oneCell' then some [.cst c] else none
  | v => some [v]
mutual
def AV.scalar : AV → Bool
  | .any => true
  | .bool _ | .int _ _ | .str _ | .nilp | .nils | .nilm | .nilf | .nili => true
  | .tup l => AV.scalL l
  | .agg l => AV.scalL l
  | .row _ _ _ l => AV.scalL l
  | .fp _ l _ => AV.scalL l
  | .ifc _ x => AV.scalar x
  | .fn _ a c => AV.scalL a && AV.scalL c
  | _ => false
def AV.scalL : List AV → Bool
  | [] => true
  | a :: l => AV.scalar a && AV.scalL l
end
def optBeq (a b : Option Nat) : Bool := match a, b with
  | none, none => true
  | some x, some y => Nat.beq x y
  | _, _ => false
def kindBeq : IntKind → IntKind → Bool
  | .i8, .i8 | .i16, .i16 | .i32, .i32 | .i64, .i64 | .u8, .u8 | .u16, .u16 | .u32, .u32 | .u64, .u64 => true
  | _, _ => false
theorem kindBeq_eq {a b : IntKind} (h : kindBeq a b = true) : a = b := by cases a <;> cases b <;> first | rfl | cases h
def intBeq : Int → Int → Bool
  | .ofNat a, .ofNat b => Nat.beq a b
  | .negSucc a, .negSucc b => Nat.beq a b
  | _, _ => false
theorem intBeq_eq {a b : Int} (h : intBeq a b = true) : a = b := by
  cases a <;> cases b <;> simp_all [intBeq]
theorem intBeq_self (a : Int) : intBeq a a = true := by cases a <;> simp [intBeq]
mutual
def AV.beq : AV → AV → Bool
  | .bool a, .bool b => a == b
  | .int k a, .int k' b => kindBeq k k' && intBeq a b
  | .str a, .str b => a == b
  | .nilp, .nilp | .nils, .nils | .nilm, .nilm | .nilf, .nilf | .nili, .nili | .any, .any => true
  | .ptr v g o e, .ptr v' g' o' e' => Nat.beq v v' && Nat.beq g g' && Nat.beq o o' && Nat.beq e e'
  | .slice v g q n l z, .slice v' g' q' n' l' z' => Nat.beq v v' && Nat.beq g g' && Nat.beq q q' && Nat.beq n n' && optBeq l l' && Nat.beq z z'
  | .emp a, .emp b => a == b
  | .map a, .map b => Nat.beq a b
  | .fn (.func f) a c, .fn (.func f') a' c' => Nat.beq f f' && AV.beqL a a' && AV.beqL c c'
  | .ifc t x, .ifc t' x' => Nat.beq t t' && AV.beq x x'
  | .agg a, .agg b => AV.beqL a b
  | .tup a, .tup b => AV.beqL a b
  | .pan a, .pan b => AV.beq a b
  | .yld a, .yld b => Nat.beq a b
  | .row z s n l, .row z' s' n' l' => Nat.beq z z' && Nat.beq s s' && Nat.beq n n' && AV.beqL l l'
  | .fp z l o, .fp z' l' o' => Nat.beq z z' && AV.beqL l l' && Nat.beq o o'
  | _, _ => false
def AV.beqL : List AV → List AV → Bool
  | [], [] => true
  | a :: as, b :: bs => AV.beq a b && AV.beqL as bs
  | _, _ => false
end
inductive AX where
  | t (n : Nat)
  | c (v : AV)
inductive EK where
  | bool | ptr | ifc (lit : Bool) | sl | mp | fu | pair
inductive AOp where
  | bad
  | mv (x : AX)
  | pick (c a b : AX)
  | alloc (z : List AV)
  | box (x : AX)
  | build (z : List AV) (ps : List (Nat × Nat × AX))
  | bslice (sz len : Nat) (z : List AV) (ps : List (Nat × Nat × AX))
  | ld1 (x : AX)
  | ldn (n : Nat) (x : AX)
  | st (n : Nat) (a x : AX)
  | nck (x : AX)
  | bin (op : BinOp) (x y : AX)
  | eq (neg : Bool) (k : EK) (x y : AX)
  | un (op : UnOp) (x : AX)
  | cvi (k : IntKind) (x : AX)
  | cvs (x : AX)
  | mkif (t : TypeId) (x : AX)
  | mkfn (f : Fn) (first cap : List AX)
  | mkmap
  | mksl (sz bytes : Nat) (z : List AV) (l c : AX)
  | slc (sz : Nat) (x : AX) (lo hi mx : Option AX)
  | sls (x : AX) (lo hi : Option AX)
  | fad (off : Nat) (x : AX)
  | fld (off : Nat) (n : Option Nat) (x : AX)
  | ixs (sz : Nat) (x i : AX)
  | ixa (n sz : Nat) (x i : AX)
  | look (kk : Nat) (z : AV) (ok : Bool) (m k : AX)
  | mup (kk : Nat) (m k x : AX)
  | rng (x : AX)
  | nxt (x : AX)
  | ent (x : AX)
  | tas (t : TypeId) (z : AV) (ok : Bool) (x : AX)
  | xt (i : Nat) (x : AX)
  | call (f : Nat) (args : List AX)
  | callv (f : AX) (args : List AX)
  | inv (name : String) (r : AX) (args : List AX)
  | len (k : Nat) (x : AX)
  | cap (x : AX)
  | app (sz bytes : Nat) (x y : AX)
  | appz (sz bytes : Nat) (z : List AV) (x n : AX)
  | cpy (sz : Nat) (x y : AX)
  | mn (x : AX) (l : List AX)
  | mx (x : AX) (l : List AX)
  | pnc (x : AX)
  | xst (x i : AX)
  | clr (sz : Nat) (z : List AV) (x : AX)
structure AOper where
  dst : Option Nat
  gd : Option (Nat × Bool)
  op : AOp
inductive AC where
  | bad
  | skip
  | reg (ops : List AOper)
  | draw (ops : List (AOper × List Nat × List Nat))
  | seq (a b : AC)
  | cond (x : AX) (a b : AC)
  | block (id : Nat) (a : AC)
  | loop (kp : List Nat) (a : AC)
  | exit (id : Nat)
  | scope (a : AC)
  | label
  | ret
inductive ARes where
  | tmp (t : Nat)
  | cell (t : Nat) (n : Option Nat)
inductive MC where
  | c (a : AC)
  | seq (a b : MC)
  | cond (x : AX) (a b : MC)
  | block (id : Nat) (a : MC)
  | loop (kp : List Nat) (a : MC)
  | rf (x : AX) (ps : List Nat) (asg body : AC)
inductive AK where
  | plain
  | rcv (dst : Option Nat)
  | dfr (pre : AC) (mk : List AOper) (t : Nat)
  | rng (m : MC)
structure AFn where
  ntmps : Nat
  res : List ARes
  code : AC
  kind : AK
abbrev Env := Nat → Option (List AV → AS → R (AV × AS))
structure Ctx where
  fn : Nat → Option AFn
  meth : Nat → String → Option Nat
  env : Env
abbrev Fr := List (Nat × AV)
def Fr.get : Fr → Nat → AV
  | [], _ => .any
  | (k, v) :: r, n => bif Nat.beq k n then v else Fr.get r n
def Fr.put (F : Fr) (d : Option Nat) (v : AV) : Fr :=
  match d with
  | none => F
  | some d => (d, v) :: F
def Fr.keep (F : Fr) : List Nat → Fr
  | [] => []
  | t :: ts => (t, Fr.get F t) :: Fr.keep F ts
def AX.ev (F : Fr) : AX → AV
  | .t n => F.get n
  | .c v => v
def AX.evs (F : Fr) : List AX → List AV
  | [] => []
  | x :: xs => x.ev F :: AX.evs F xs
def consS {α : Type} (a : α) : List α → List α
  | [] => [a]
  | b :: l => a :: b :: l
theorem consS_eq {α : Type} (a : α) (l : List α) : consS a l = a :: l := by cases l <;> rfl
def setL : List AV → Nat → List AV → List AV
  | c, _, [] => c
  | [], _, _ => []
  | _ :: cs, 0, x :: xs => consS x (setL cs 0 xs)
  | c :: cs, o + 1, xs => consS c (setL cs o xs)
def AS.ld1 (S : AS) : AV → Option AV
  | .ptr v g o e => match S.get v with
    | some (.cells c _ gen lo _ _) => bif Nat.ble lo g && Nat.ble g gen && Nat.blt o e then c[o]? else none
    | _ => none
  | .fp _ cs o => cs[o]?
  | _ => none
def AS.ldl (S : AS) (v g o e n : Nat) : Option (List AV) :=
  match S.get v with
  | some (.cells c _ gen lo _ _) => bif Nat.ble lo g && Nat.ble g gen && Nat.ble (o + n) e then some ((c.drop o).take n) else none
  | _ => none
def AS.ldn (S : AS) (n : Nat) : AV → Option AV
  | .ptr v g o e => (S.ldl v g o e n).map .agg
  | .fp _ cs o => bif Nat.ble (o + n) cs.length then some (.agg ((cs.drop o).take n)) else none
  | _ => none
def AS.stl (S : AS) (v g o e : Nat) (xs : List AV) : Option AS :=
  match S.get v with
  | some (.cells c sz gen _ opn false) => bif Nat.beq g gen && Nat.ble (o + xs.length) e && xs.all AV.one then some (S.put v (.cells (setL c o xs) sz gen gen opn false)) else none
  | _ => none
def AS.st (S : AS) (n : Nat) (a x : AV) : Option AS :=
  match a, x.cellsOf with
  | .ptr v g o e, some xs => bif Nat.beq xs.length n then S.stl v g o e xs else none
  | _, _ => none
def AS.newRow (S : AS) (c : List AV) (sz : Nat) (opn : Bool) : AS := S.push (.cells c sz 0 0 opn false)
def AS.src (S : AS) (sz : Nat) : AV → Option (Nat × List AV)
  | .nils => some (0, [])
  | .emp _ => some (0, [])
  | .str s => bif Nat.beq sz 1 then some (s.length, s.map fun b => .int .u8 b.toNat) else none
  | .slice v g q len _ z => bif Nat.beq z sz then (S.ldl v g (q * sz) ((q + len) * sz) (len * sz)).map fun l => (len, l) else none
  | .row _ z n cs => bif Nat.beq z sz then some (n, cs) else none
  | _ => none
def bound46 : Nat := 70368744177664
def aroom (lim : Option Nat) (vz sz q len n known : Nat) : Bool :=
  match lim with
  | some l => Nat.ble (len + n) l
  | none => Nat.beq vz sz && Nat.ble ((q + len + n) * sz) known
def agrows (lim : Option Nat) (vz sz q len n known : Nat) (shut : Bool) : Bool :=
  match lim with
  | some l => Nat.blt l (len + n)
  | none => Nat.beq vz sz && shut && Nat.blt known ((q + len + n) * sz)
def AS.appN (S : AS) (sz bytes : Nat) (x : AV) (n : Nat) (ys : List AV) : Option (AV × AS) :=
  match x with
  | .nils | .emp true => bif Nat.ble (n * bytes) bound46 && Nat.ble n bound46 then some (.slice S.n 0 0 n none sz, S.newRow ys sz true) else none
  | .slice v g q len lim z =>
    bif !(Nat.beq z sz && Nat.ble ((len + n) * bytes) bound46 && Nat.ble (len + n) bound46) then none else
    match S.get v with
    | some (.cells c vz gen lo opn ro) =>
      bif aroom lim vz sz q len n c.length && Nat.beq g gen && !ro && Nat.ble ((q + len + n) * sz) c.length then
        match S.stl v g ((q + len) * sz) c.length ys with
        | some S' => some (.slice v g q (len + n) lim sz, S')
        | none => none
      else bif agrows lim vz sz q len n c.length (!opn && Nat.beq g gen) && Nat.ble lo g && Nat.ble g gen then
        some (.slice S.n 0 0 (len + n) none sz, S.newRow ((c.drop (q * sz)).take (len * sz) ++ ys) sz true)
      else bif opn && !ro && Nat.beq vz sz && Nat.beq q 0 && Nat.beq g gen && Nat.beq (len * sz) c.length && lim.isNone && ys.all AV.one then
        some (.slice v (gen + 1) 0 (len + n) none sz, S.put v (.cells (c ++ ys) sz (gen + 1) lo true false))
      else none
    | _ => none
  | _ => none
def AS.app (S : AS) (sz bytes : Nat) (x y : AV) : Option (AV × AS) :=
  match S.src sz y with
  | some (0, _) => match x with
    | .nils | .emp _ | .slice .. | .row .. => some (x, S)
    | _ => none
  | some (n + 1, ys) => bif Nat.beq sz 0 then none else S.appN sz bytes x (n + 1) ys
  | none => none
def reps (z : List AV) : Nat → List AV
  | 0 => []
  | n + 1 => z ++ reps z n
def asNat : AV → Option Nat
  | .int .i64 (.ofNat n) => some n
  | _ => none
def AS.known (S : AS) (sz v g q len : Nat) (lim : Option Nat) (h : Nat) : Nat :=
  match lim with
  | some m => m
  | none => bif Nat.ble h len then len else match S.get v with
    | some (.cells c vz gen _ _ _) => bif Nat.beq vz sz && Nat.beq g gen && !(Nat.beq sz 0) && Nat.ble ((q + h) * sz) c.length then h else len
    | _ => len
def AS.there (S : AS) (sz v g q h : Nat) : Bool :=
  match S.get v with
  | some (.cells c _ gen _ _ _) => Nat.beq g gen && Nat.ble ((q + h) * sz) c.length
  | _ => false
def optN (d : Nat) (o : Option AV) : Option Nat := match o with
  | none => some d
  | some v => asNat v
def AS.slc (S : AS) (sz : Nat) (x : AV) (lo hi mx : Option AV) : Option AV :=
  match x with
  | .nils => match optN 0 lo, optN 0 hi, optN 0 mx with
    | some 0, some 0, some 0 => some .nils
    | _, _, _ => none
  | .emp _ => match optN 0 lo, optN 0 hi, mx with
    | some 0, some 0, none => some x
    | some 0, some 0, some v => match asNat v with
      | some 0 => some (.emp true)
      | _ => none
    | _, _, _ => none
  | .slice v g q len lim z =>
    bif !(Nat.beq z sz) then none else
    match optN 0 lo, optN len hi with
    | some l, some h =>
      bif !(Nat.ble l h) then none else
      bif !(Nat.ble h (S.known sz v g q len lim h)) then none else
      bif !(Nat.ble h len) && !(S.there sz v g q h) then none else
      match mx with
      | none => match lim with
        | none => bif Nat.beq h l && !(Nat.beq l 0) then some (.emp false) else some (.slice v g (q + l) (h - l) none sz)
        | some m => bif Nat.beq m l && !(Nat.beq l 0) then some (.emp true) else some (.slice v g (q + l) (h - l) (some (m - l)) sz)
      | some mv => match asNat mv with
        | some m => bif Nat.ble h m && Nat.ble m (S.known sz v g q len lim h) then
            bif Nat.beq m l && !(Nat.beq l 0) then some (.emp true) else some (.slice v g (q + l) (h - l) (some (m - l)) sz)
          else none
        | none => none
    | _, _ => none
  | .row zo z n cs => bif !(Nat.beq z sz) then none else
    match optN 0 lo, optN n hi, mx with
    | some l, some h, none => bif Nat.ble l h && Nat.ble h n then some (.row zo sz (h - l) ((cs.drop (l * sz)).take ((h - l) * sz))) else none
    | some 0, some 0, some v => match asNat v with
      | some 0 => bif Nat.beq n 0 then none else some (.emp true)
      | _ => none
    | _, _, _ => none
  | _ => none
def asls (x : AV) (lo hi : Option AV) : Option AV :=
  match x with
  | .str s => match optN 0 lo, optN s.length hi with
    | some l, some h => bif Nat.ble l h && Nat.ble h s.length then some (.str ((s.drop l).take (h - l))) else none
    | _, _ => none
  | _ => none
def aint (op : BinOp) (k : IntKind) (a b : Int) : Option AV :=
  match op with
  | .add => some (.int k (k.wrap (a + b)))
  | .sub => some (.int k (k.wrap (a - b)))
  | .mul => some (.int k (k.wrap (a * b)))
  | .quo => if b = 0 then none else some (.int k (k.wrap (a.tdiv b)))
  | .rem => if b = 0 then none else some (.int k (a.tmod b))
  | .and => some (.int k (k.wrap (BitVec.ofInt k.bits a &&& BitVec.ofInt k.bits b).toNat))
  | .or => some (.int k (k.wrap (BitVec.ofInt k.bits a ||| BitVec.ofInt k.bits b).toNat))
  | .xor => some (.int k (k.wrap (BitVec.ofInt k.bits a ^^^ BitVec.ofInt k.bits b).toNat))
  | .andNot => some (.int k (k.wrap (BitVec.ofInt k.bits a &&& ~~~ BitVec.ofInt k.bits b).toNat))
  | .eql => some (.bool (a == b))
  | .neq => some (.bool (a != b))
  | .lss => some (.bool (decide (a < b)))
  | .leq => some (.bool (decide (a ≤ b)))
  | .gtr => some (.bool (decide (a > b)))
  | .geq => some (.bool (decide (a ≥ b)))
  | _ => none
def ashift (op : BinOp) (k : IntKind) (a b : Int) : Option AV :=
  if b < 0 then none else
  match op with
  | .shl => some (.int k (k.wrap (a * 2 ^ (min b.toNat k.bits))))
  | .shr => some (.int k (a.fdiv (2 ^ (min b.toNat k.bits))))
  | _ => none
def isShift : BinOp → Bool
  | .shl | .shr => true
  | _ => false
def abin (op : BinOp) (x y : AV) : Option AV :=
  match x, y with
  | .int k a, .int k' b => bif isShift op then ashift op k a b else bif kindBeq k k' then aint op k a b else none
  | .str a, .str b => match op with
    | .eql => some (.bool (a == b))
    | .neq => some (.bool (!(a == b)))
    | .add => bif Nat.ble (a.length + b.length) bound46 then some (.str (a ++ b)) else none
    | _ => none
  | _, _ => none
def aeq (k : EK) (x y : AV) : Option Bool :=
  match k, x, y with
  | .bool, .bool a, .bool b => some (a == b)
  | .ptr, .nilp, .nilp => some true
  | .ptr, .nilp, .ptr .. => some false
  | .ptr, .ptr .., .nilp => some false
  | .ifc lit, .nili, .nili => bif lit then some true else none
  | .ifc _, .nili, .ifc .. => some false
  | .ifc _, .ifc .., .nili => some false
  | .sl, .nils, .nils => some true
  | .sl, .nils, .slice .. => some false
  | .sl, .slice .., .nils => some false
  | .sl, .nils, .emp _ => some false
  | .sl, .emp _, .nils => some false
  | .mp, .nilm, .nilm => some true
  | .mp, .nilm, .map _ => some false
  | .mp, .map _, .nilm => some false
  | .fu, .nilf, .nilf => some true
  | .fu, .nilf, .fn .. => some false
  | .fu, .fn .., .nilf => some false
  | .pair, .agg [.int k a, .int k' b], .agg [.int j c, .int j' d] => bif kindBeq k j && kindBeq k' j' then some (intBeq a c && intBeq b d) else none
  | .sl, .nils, .row _ _ n _ => bif Nat.beq n 0 then none else some false
  | .sl, .row _ _ n _, .nils => bif Nat.beq n 0 then none else some false
  | .ptr, .nilp, .fp .. => some false
  | .ptr, .fp .., .nilp => some false
  | _, _, _ => none
def aun (op : UnOp) (x : AV) : Option AV :=
  match op, x with
  | .not, .bool b => some (.bool !b)
  | .neg, .int k n => some (.int k (k.wrap (0 - n)))
  | _, _ => none
def u8s : List AV → Option (List UInt8)
  | [] => some []
  | .int .u8 n :: l => (u8s l).map (UInt8.ofNat n.toNat :: ·)
  | _ => none
def AS.cvs (S : AS) : AV → Option AV
  | .nils => some (.str [])
  | .emp _ => some (.str [])
  | .slice v g q len _ sz => bif Nat.beq sz 1 then (S.ldl v g q (q + len) len).bind fun l => (u8s l).map .str else none
  | _ => none
def fillL (F : Fr) : List AV → List (Nat × Nat × AX) → Option (List AV)
  | z, [] => some z
  | z, (o, n, x) :: ps => match (x.ev F).cellsOf with
    | some xs => bif Nat.beq xs.length n && Nat.ble (o + n) z.length then fillL F (setL z o xs) ps else none
    | none => none
def keyEq : Nat → AV → AV → Option Bool
  | 0, .int k a, .int k' b => bif kindBeq k k' then some (intBeq a b) else none
  | 1, .str a, .str b => some (a == b)
  | 2, .bool a, .bool b => some (a == b)
  | 3, .agg [.int k a, .int k' b], .agg [.int j c, .int j' d] => bif kindBeq k j && kindBeq k' j' then some (intBeq a c && intBeq b d) else none
  | _, _, _ => none
def findK (kk : Nat) (k : AV) : List (AV × AV × Nat) → Nat → Option (Option (Nat × AV))
  | [], _ => some none
  | (k', x, _) :: es, i => match keyEq kk k k' with
    | some true => some (some (i, x))
    | some false => findK kk k es (i + 1)
    | none => none
def lookE (b : Nat) : List (AV × AV × Nat) → Option (AV × AV)
  | [] => none
  | (k, x, n) :: es => bif Nat.beq n b then some (k, x) else lookE b es
def setE (i : Nat) (x : AV) : List (AV × AV × Nat) → List (AV × AV × Nat)
  | [] => []
  | (k, y, n) :: es => match i with
    | 0 => (k, x, n) :: es
    | i + 1 => consS (k, y, n) (setE i x es)
def bornsE : List (AV × AV × Nat) → List Nat
  | [] => []
  | (_, _, n) :: es => n :: bornsE es
def natsBeq : List Nat → List Nat → Bool
  | [], [] => true
  | a :: as, b :: bs => Nat.beq a b && natsBeq as bs
  | _, _ => false
def incr : List Nat → Bool
  | a :: b :: l => Nat.blt a b && incr (b :: l)
  | _ => true
def isKey : Nat → AV → Bool
  | 0, .int _ _ => true
  | 1, .str _ => true
  | 2, .bool _ => true
  | 3, .agg [.int _ _, .int _ _] => true
  | _, _ => false
def AS.look (S : AS) (kk : Nat) (z : AV) (ok : Bool) (m k : AV) : Option AV :=
  let fin (r : AV × Bool) : AV := bif ok then .tup [r.1, .bool r.2] else r.1
  bif !(isKey kk k) then none else
  match m with
  | .nilm => some (fin (z, false))
  | .map v => match S.get v with
    | some (.map es _) => match findK kk k es 0 with
      | some (some (_, x)) => some (fin (x, true))
      | some none => some (fin (z, false))
      | none => none
    | _ => none
  | _ => none
def AS.mup (S : AS) (kk : Nat) (m k x : AV) : Option AS :=
  match m with
  | .map v => match S.get v with
    | some (.map es clock) => bif !(isKey kk k) then none else match findK kk k es 0 with
      | some (some (i, _)) => some (S.put v (.map (setE i x es) clock))
      | some none => some (S.put v (.map (es ++ [(k, x, clock)]) (clock + 1)))
      | none => none
    | _ => none
  | _ => none
def AS.rng (S : AS) (m : AV) : Option (AV × AS) :=
  match m with
  | .nilm => some (.ptr S.n 0 0 0, S.push (.iter none [] 0 [] none))
  | .map v => match S.get v with
    | some (.map es clock) => bif (bornsE es).all (fun b => Nat.blt b clock) then some (.ptr S.n 0 0 0, S.push (.iter (some v) (bornsE es) clock (bornsE es) none)) else none
    | _ => none
  | _ => none
def AS.nxtL (S : AS) (i m : Nat) (bs : List Nat) (clock : Nat) (all : List Nat) (es : List (AV × AV × Nat)) : List Nat → Option (List (AV × AS))
  | [] => some []
  | b :: l => match lookE b es, AS.nxtL S i m bs clock all es l with
    | some (k, x), some r => some ((.tup [.bool true, k, x], S.put i (.iter (some m) bs clock (all.filter fun c => !(Nat.beq c b)) (some b))) :: r)
    | _, _ => none
def AS.nxt (S : AS) (x : AV) : R (AV × AS) :=
  match x with
  | .ptr i _ 0 _ => match S.get i with
    | some (.iter none _ _ _ _) => .one (.tup [.bool false], S)
    | some (.iter (some m) bs clock rem _) => match S.get m with
      | some (.map es clock') =>
        bif !(Nat.beq clock clock' && natsBeq bs (bornsE es) && bs.all (fun b => Nat.blt b clock) && incr bs) then .no else
        match rem with
        | [] => .one (.tup [.bool false], S.put i (.iter (some m) bs clock [] none))
        | [b] => match lookE b es with
          | some (k, x) => .one (.tup [.bool true, k, x], S.put i (.iter (some m) bs clock [] (some b)))
          | none => .no
        | _ => match AS.nxtL S i m bs clock rem es rem with
          | some l => .many l
          | none => .no
      | _ => .no
    | _ => .no
  | _ => .no
def AS.ent (S : AS) (x : AV) : Option AV :=
  match x with
  | .ptr i _ 0 _ => match S.get i with
    | some (.iter (some m) _ clock _ (some b)) => match S.get m with
      | some (.map es clock') => bif Nat.beq clock clock' then (lookE b es).map fun (k, x) => .tup [k, x] else none
      | _ => none
    | _ => none
  | _ => none
def withS (S : AS) (o : Option AV) : R (AV × AS) :=
  match o with
  | some v => .one (v, S)
  | none => .no
def aidx (len : Nat) (i : AV) : Option Nat :=
  match i with
  | .int _ (.ofNat i) => bif Nat.blt i len then some i else none
  | _ => none
def foldMn (mx : Bool) : AV → List AV → Option AV
  | x, [] => some x
  | .int k a, .int k' b :: l => bif kindBeq k k' then (if mx then foldMn mx (.int k (if b > a then b else a)) l else foldMn mx (.int k (if b < a then b else a)) l) else none
  | _, _ => none
def isInt : AV → Bool
  | .int _ _ => true
  | _ => false
def undefA : AV := .tup []
abbrev CallF := Nat → List AV → AS → R (AV × AS)
def aop (C : Ctx) (call : CallF) (F : Fr) (S : AS) : AOp → R (AV × AS)
  | .bad => .no
  | .mv x => .one (x.ev F, S)
  | .pick c a b => match c.ev F with
    | .bool true => .one (a.ev F, S)
    | .bool false => .one (b.ev F, S)
    | _ => .no
  | .alloc z => .one (.ptr S.n 0 0 z.length, S.newRow z z.length false)
  | .box x => match (x.ev F).cellsOf with
    | some c => .one (.ptr S.n 0 0 c.length, S.newRow c c.length false)
    | none => .no
  | .build z ps => withS S ((fillL F z ps).map .agg)
  | .bslice sz len z ps => match fillL F z ps with
    | some c => .one (.slice S.n 0 0 len none sz, S.newRow c sz false)
    | none => .no
  | .ld1 x => withS S (S.ld1 (x.ev F))
  | .ldn n x => withS S (S.ldn n (x.ev F))
  | .st n a x => match S.st n (a.ev F) (x.ev F) with
    | some S' => .one (undefA, S')
    | none => .no
  | .nck x => match x.ev F with
    | .ptr v g o e => .one (.ptr v g o e, S)
    | .fp z cs o => .one (.fp z cs o, S)
    | .fn (.func f) a c => .one (.fn (.func f) a c, S)
    | .ifc t y => .one (.ifc t y, S)
    | _ => .no
  | .bin op x y => withS S (abin op (x.ev F) (y.ev F))
  | .eq neg k x y => match aeq k (x.ev F) (y.ev F) with
    | some b => .one (.bool (bif neg then !b else b), S)
    | none => .no
  | .un op x => withS S (aun op (x.ev F))
  | .cvi k x => match x.ev F with
    | .int _ n => .one (.int k (k.wrap n), S)
    | _ => .no
  | .cvs x => withS S (S.cvs (x.ev F))
  | .mkif t x => .one (.ifc t (x.ev F), S)
  | .mkfn f a c => .one (.fn f (AX.evs F a) (AX.evs F c), S)
  | .mkmap => .one (.map S.n, S.push (.map [] 0))
  | .mksl sz bytes z l c => match asNat (l.ev F), asNat (c.ev F) with
    | some l, some c => bif Nat.ble l c && Nat.ble (c * bytes) bound46 && Nat.ble c bound46 then .one (.slice S.n 0 0 l none sz, S.newRow (reps z c) sz false) else .no
    | _, _ => .no
  | .slc sz x lo hi mx => withS S (S.slc sz (x.ev F) (lo.map (AX.ev F)) (hi.map (AX.ev F)) (mx.map (AX.ev F)))
  | .sls x lo hi => withS S (asls (x.ev F) (lo.map (AX.ev F)) (hi.map (AX.ev F)))
  | .fad off x => match x.ev F with
    | .ptr v g o e => .one (.ptr v g (o + off) e, S)
    | .fp z cs o => .one (.fp z cs (o + off), S)
    | _ => .no
  | .fld off n x => match x.ev F with
    | .agg l => match n with
      | none => withS S l[off]?
      | some n => bif Nat.ble (off + n) l.length then .one (.agg ((l.drop off).take n), S) else .no
    | _ => .no
  | .ixs sz x i => match x.ev F with
    | .slice v g q len _ z => match aidx len (i.ev F) with
      | some i => bif Nat.beq z sz then .one (.ptr v g ((q + i) * sz) ((q + i + 1) * sz), S) else .no
      | none => .no
    | .row zo z n cs => match aidx n (i.ev F) with
      | some i => bif Nat.beq z sz then .one (.fp zo cs (i * sz), S) else .no
      | none => .no
    | _ => .no
  | .ixa n sz x i => match x.ev F with
    | .ptr v g o e => match aidx n (i.ev F) with
      | some i => .one (.ptr v g (o + i * sz) e, S)
      | none => .no
    | _ => .no
  | .look kk z ok m k => withS S (S.look kk z ok (m.ev F) (k.ev F))
  | .mup kk m k x => match S.mup kk (m.ev F) (k.ev F) (x.ev F) with
    | some S' => .one (undefA, S')
    | none => .no
  | .rng x => R.ofO (S.rng (x.ev F))
  | .nxt x => S.nxt (x.ev F)
  | .ent x => withS S (S.ent (x.ev F))
  | .tas t z ok x => match x.ev F with
    | .nili => bif ok then .one (.tup [z, .bool false], S) else .no
    | .ifc t' y => bif Nat.beq t' t then .one (bif ok then .tup [y, .bool true] else y, S) else bif ok then .one (.tup [z, .bool false], S) else .no
    | _ => .no
  | .xt i x => match x.ev F with
    | .tup l => withS S l[i]?
    | _ => .no
  | .call f a => call f (AX.evs F a) S
  | .callv f a => match f.ev F with
    | .fn (.func f) first cap => call f (first ++ AX.evs F a ++ cap) S
    | .yld v => match C.env v with
      | some rd => rd (AX.evs F a) S
      | none => .no
    | _ => .no
  | .inv name r a => match r.ev F with
    | .ifc t y => match C.meth t name with
      | some f => call f (y :: AX.evs F a) S
      | none => .no
    | _ => .no
  | .len k x => match k, x.ev F with
    | 0, .nils => .one (.int .i64 0, S)
    | 0, .emp _ => .one (.int .i64 0, S)
    | 0, .slice _ _ _ n _ _ => .one (.int .i64 n, S)
    | 0, .row _ _ n _ => .one (.int .i64 n, S)
    | 1, .str s => .one (.int .i64 s.length, S)
    | 2, .nilm => .one (.int .i64 0, S)
    | 2, .map v => match S.get v with
      | some (.map es _) => .one (.int .i64 es.length, S)
      | _ => .no
    | _, _ => .no
  | .cap x => match x.ev F with
    | .nils => .one (.int .i64 0, S)
    | _ => .no
  | .app sz bytes x y => R.ofO (S.app sz bytes (x.ev F) (y.ev F))
  | .appz sz bytes z x n => match asNat (n.ev F) with
    | some (n + 1) => bif Nat.ble ((n + 1) * bytes) bound46 && !(Nat.beq sz 0) then R.ofO (S.appN sz bytes (x.ev F) (n + 1) (reps z (n + 1))) else .no
    | _ => .no
  | .cpy _ _ _ => .no
  | .mn x l => withS S (bif isInt (x.ev F) then foldMn false (x.ev F) (AX.evs F l) else none)
  | .mx x l => withS S (bif isInt (x.ev F) then foldMn true (x.ev F) (AX.evs F l) else none)
  | .pnc x => match x.ev F with
    | .ifc t y => .one (.pan (.ifc t y), S)
    | _ => .no
  | .xst x i => match x.ev F with
    | .str s => match aidx s.length (i.ev F) with
      | some i => withS S (s[i]?.map fun b => .int .u8 b.toNat)
      | none => .no
    | _ => .no
  | .clr sz z x => match x.ev F with
    | .nils => .one (undefA, S)
    | .emp _ => .one (undefA, S)
    | .slice v g q len _ zz => match len with
      | 0 => .one (undefA, S)
      | n + 1 => bif Nat.beq zz sz then (match S.stl v g (q * sz) ((q + (n + 1)) * sz) (reps z (n + 1)) with
        | some S' => .one (undefA, S')
        | none => .no) else .no
    | _ => .no
inductive AE where
  | norm
  | exit (id : Nat)
  | ret
  | pan (x : AV)
def wantA (F : Fr) : Option (Nat × Bool) → Option Bool
  | none => some true
  | some (t, b) => match F.get t with
    | .bool c => some (c == b)
    | .tup [] => some false
    | _ => none
def runOps (C : Ctx) (call : CallF) : List AOper → Fr → AS → R (AE × Fr × AS)
  | [], F, S => .one (.norm, F, S)
  | o :: os, F, S => match wantA F o.gd with
    | none => .no
    | some false => runOps C call os (F.put o.dst undefA) S
    | some true => (aop C call F S o.op).bind fun r => match r.1 with
      | .pan x => .one (.pan x, F, r.2)
      | _ => runOps C call os (F.put o.dst r.1) r.2
def AOp.acts : AOp → Bool
  | .alloc _ | .box _ | .bslice .. | .st .. | .mkmap | .mksl .. | .mup .. | .rng _ | .nxt _ | .call .. | .callv .. | .inv .. | .app .. | .appz .. | .cpy .. | .pnc _ | .clr .. => true
  | _ => false
abbrev CodeR := R (AE × Fr × AS)
def iter (kp : List Nat) (body : Fr → AS → CodeR) : Nat → Fr → AS → CodeR
  | 0, _, _ => .no
  | n + 1, F, S => (body F S).bind fun r => match r.1 with
    | .norm => iter kp body n (r.2.1.keep kp) r.2.2
    | e => .one (e, r.2)
def AOp.calls : AOp → Bool
  | .call .. | .callv .. | .inv .. | .pnc _ => true
  | _ => false
def AOp.reads : AOp → Bool
  | .ld1 _ | .ldn .. | .cvs _ | .slc .. | .look .. | .ent _ | .len _ _ => true
  | _ => false
structure SI where
  i : Nat
  k : Nat
  op : AOp
  F : Fr
  S : AS
  v : AV
def readsSame (C : Ctx) (S : AS) (s : SI) : Bool :=
  match aop C (fun _ _ _ => .no) s.F S s.op with
  | .one r => AV.beq r.1 s.v
  | _ => false
structure DSt where
  F : Fr
  S : AS
  acc : List SI
  pan : Option (Nat × AV × AS)
def dchk (C : Ctx) (pr : List Nat) (s : SI) (S' : AS) (t : SI) : Bool :=
  match s.k, t.k with
  | 3, 3 => pr.contains t.i
  | 3, 2 => pr.contains t.i || readsSame C S' t
  | 2, 3 => pr.contains t.i || readsSame C t.S s
  | _, _ => true
def deadB (p : Option (Nat × AV × AS)) (pr : List Nat) : Bool := match p with
  | some p => pr.contains p.1
  | none => false
def isBad : AOp → Bool
  | .bad => true
  | _ => false
def dstep (C : Ctx) (call : CallF) (o : AOper) (pr us : List Nat) (i : Nat) (st : DSt) : Option DSt :=
  bif deadB st.pan pr then (bif isBad o.op then none else some ⟨st.F.put o.dst undefA, st.S, ⟨i, 4, o.op, st.F.keep us, st.S, undefA⟩ :: st.acc, st.pan⟩) else
  match wantA (st.F.keep us) o.gd with
  | none => none
  | some false => some ⟨st.F.put o.dst undefA, st.S, ⟨i, 0, o.op, st.F.keep us, st.S, undefA⟩ :: st.acc, st.pan⟩
  | some true => match aop C call (st.F.keep us) st.S o.op with
    | .one r =>
      match r.1 with
      | .pan x => match st.pan with
        | some _ => none
        | none => bif st.acc.all (fun t => !(Nat.beq t.k 3) || pr.contains t.i) then some ⟨st.F.put o.dst undefA, st.S, ⟨i, 5, o.op, st.F.keep us, st.S, undefA⟩ :: st.acc, some (i, x, r.2)⟩ else none
      | _ =>
        bif st.acc.all (dchk C pr ⟨i, bif o.op.acts then 3 else bif o.op.reads then 2 else 1, o.op, st.F.keep us, st.S, r.1⟩ r.2) && !(o.op.acts && st.pan.isSome) then
          some ⟨st.F.put o.dst r.1, bif o.op.acts then r.2 else st.S, ⟨i, bif o.op.acts then 3 else bif o.op.reads then 2 else 1, o.op, st.F.keep us, st.S, r.1⟩ :: st.acc, st.pan⟩
        else none
    | _ => none
def runD (C : Ctx) (call : CallF) : List (AOper × List Nat × List Nat) → Nat → DSt → Option DSt
  | [], _, st => some st
  | o :: os, i, st => match dstep C call o.1 o.2.1 o.2.2 i st with
    | none => none
    | some st' => runD C call os (i + 1) st'
def runC (C : Ctx) (call : CallF) (L : Nat) : AC → Fr → AS → CodeR
  | .bad, _, _ => .no
  | .skip, F, S => .one (.norm, F, S)
  | .reg ops, F, S => runOps C call ops F S
  | .draw ops, F, S => match runD C call ops 0 ⟨F, S, [], none⟩ with
    | some st => match st.pan with
      | none => .one (.norm, st.F, st.S)
      | some p => .one (.pan p.2.1, [], p.2.2)
    | none => .no
  | .seq a b, F, S => (runC C call L a F S).bind fun r => match r.1 with
    | .norm => runC C call L b r.2.1 r.2.2
    | e => .one (e, r.2)
  | .cond x a b, F, S => match x.ev F with
    | .bool true => runC C call L a F S
    | .bool false => runC C call L b F S
    | _ => .no
  | .block id a, F, S => (runC C call L a F S).bind fun r => match r.1 with
    | .exit i => bif Nat.beq i id then .one (.norm, r.2) else .one (.exit i, r.2)
    | e => .one (e, r.2)
  | .loop kp a, F, S => iter kp (runC C call L a) L (F.keep kp) S
  | .exit id, F, S => .one (.exit id, F, S)
  | .scope a, F, S => runC C call L a F S
  | .label, F, S => .one (.norm, F, S)
  | .ret, F, S => .one (.ret, F, S)
def resV (F : Fr) (S : AS) : List ARes → Option (List AV)
  | [] => some []
  | .tmp t :: rs => (resV F S rs).map (F.get t :: ·)
  | .cell t n :: rs => match (match n with | none => S.ld1 (F.get t) | some n => S.ldn n (F.get t)), resV F S rs with
    | some v, some l => some (v :: l)
    | _, _ => none
def resOne : List AV → AV
  | [v] => v
  | l => .tup l
def finS (S : AS) (v : AV) (S' : AS) : Option AS :=
  bif v.scalar && Nat.ble S.n S'.mw then none else some ⟨S'.objs, S'.n, bif Nat.blt S.mw S'.mw then S.mw else S'.mw⟩
def params : Nat → List AV → Fr
  | _, [] => []
  | i, a :: l => (i, a) :: params (i + 1) l
def finR (fn : AFn) (S : AS) (r : AE × Fr × AS) : R (AV × Option AS) :=
  match r.1 with
  | .exit _ => .no
  | .pan x => .one (.pan x, finS S (.pan x) r.2.2)
  | _ => match resV r.2.1 r.2.2 fn.res with
    | some l => .one (resOne l, finS S (resOne l) r.2.2)
    | none => .no
def endR (fn : AFn) (r : AE × Fr × AS) : R AS :=
  match r.1 with
  | .exit _ => .no
  | .pan _ => .no
  | _ => match resV r.2.1 r.2.2 fn.res with
    | some _ => .one r.2.2
    | none => .no
def callR (C : Ctx) (call : CallF) (L : Nat) (g : Nat) (args : List AV) (rv : AV) (S : AS) : R AS :=
  match C.fn g with
  | none => .no
  | some fn => match fn.kind with
    | .rcv dst => bif Nat.ble args.length fn.ntmps then (runC C call L fn.code ((params 0 args).put dst rv) S).bind (endR fn) else .no
    | _ => .no
def rvOf : AE → Option AV
  | .norm => some .nili
  | .ret => some .nili
  | .pan x => some x
  | .exit _ => none
def runF (C : Ctx) (call : CallF) (L : Nat) (t : Nat) (code : AC) (F : Fr) (S : AS) : CodeR :=
  match F.get t with
  | .fn (.func g) first cap => (runC C call L code F S).bind fun r => match rvOf r.1 with
    | some rv => (callR C call L g (first ++ cap) rv r.2.2).bind fun S' => .one (.ret, r.2.1, S')
    | none => .no
  | _ => .no
def runB (C : Ctx) (call : CallF) (L : Nat) (fn : AFn) (F : Fr) (S : AS) : CodeR :=
  match fn.kind with
  | .plain => runC C call L fn.code F S
  | .rcv _ => .no
  | .rng _ => .no
  | .dfr pre mk t => (runC C call L pre F S).bind fun r => match r.1 with
    | .norm => (runOps C call mk r.2.1 r.2.2).bind fun q => match q.1 with
      | .norm => runF C call L t fn.code q.2.1 q.2.2
      | _ => .no
    | _ => .no
def AObj.beq : AObj → AObj → Bool
  | .cells c z g l o r, .cells c' z' g' l' o' r' => AV.beqL c c' && Nat.beq z z' && Nat.beq g g' && Nat.beq l l' && (o == o') && (r == r')
  | .map es k, .map es' k' => beqE es es' && Nat.beq k k'
  | .iter m b k r c, .iter m' b' k' r' c' => optBeq m m' && natsBeq b b' && Nat.beq k k' && natsBeq r r' && optBeq c c'
  | .raw k, .raw k' => Nat.beq k k'
  | _, _ => false
where
  beqE : List (AV × AV × Nat) → List (AV × AV × Nat) → Bool
    | [], [] => true
    | (k, x, n) :: l, (k', x', n') :: l' => AV.beq k k' && AV.beq x x' && Nat.beq n n' && beqE l l'
    | _, _ => false
def BT.beq {α : Type} (f : α → α → Bool) : BT α → BT α → Bool
  | .nil, .nil => true
  | .node a v b, .node a' v' b' => (match v, v' with | none, none => true | some x, some y => f x y | _, _ => false) && BT.beq f a a' && BT.beq f b b'
  | _, _ => false
def leafBeq (a b : AV × Option AS) : Bool :=
  AV.beq a.1 b.1 && match a.2, b.2 with
    | none, none => true
    | some S, some T => Nat.beq S.n T.n && Nat.beq S.mw T.mw && BT.beq AObj.beq S.objs T.objs
    | _, _ => false
def mergeR : R (AV × Option AS) → R (AV × Option AS)
  | .many (a :: l) => bif l.all (leafBeq a) then .one a else .many (a :: l)
  | r => r
def unR (S : AS) (r : AV × Option AS) : R (AV × AS) :=
  .one (r.1, match r.2 with | none => S | some S' => S')
def putPs (F : Fr) : List Nat → List AV → Fr
  | p :: ps, a :: as => putPs (F.put (some p) a) ps as
  | _, _ => F
def rnd (C : Ctx) (call : CallF) (L : Nat) (asg body : AC) (v : Nat) (F : Fr) (ps : List Nat) (args : List AV) (S : AS) : R (AV × AS) :=
  match S.get v with
  | some (.raw 1) => bif Nat.beq ps.length args.length then
      (runC C call L asg (putPs F ps args) S).bind fun r => match r.1, r.2.2.get v with
        | .norm, some (.raw 1) => (runC C call L body r.2.1 (r.2.2.put v (.raw 2))).bind fun q => match q.2.2.get v with
          | some (.raw 2) => match q.1 with
            | .norm => .one (.bool true, q.2.2.put v (.raw 1))
            | .ret => .one (.bool false, q.2.2.put v (.raw 3))
            | .exit id => .one (.bool false, q.2.2.put v (.raw (6 + 2 * id)))
            | .pan _ => .no
          | _ => .no
        | _, _ => .no
    else .no
  | _ => .no
abbrev CodeM := R ((AE × Fr × AS) × List Nat)
def iterM (kp : List Nat) (body : Fr → AS → List Nat → CodeM) : Nat → Fr → AS → List Nat → CodeM
  | 0, _, _, _ => .no
  | n + 1, F, S, ms => (body F S ms).bind fun r => match r.1.1 with
    | .norm => iterM kp body n (r.1.2.1.keep kp) r.1.2.2 r.2
    | _ => .one r
def runM (callc : Env → CallF) (C : Ctx) (L : Nat) : MC → Fr → AS → List Nat → CodeM
  | .c a, F, S, ms => (runC C (callc C.env) L a F S).bind fun r => .one (r, ms)
  | .seq a b, F, S, ms => (runM callc C L a F S ms).bind fun r => match r.1.1 with
    | .norm => runM callc C L b r.1.2.1 r.1.2.2 r.2
    | _ => .one r
  | .cond x a b, F, S, ms => match x.ev F with
    | .bool true => runM callc C L a F S ms
    | .bool false => runM callc C L b F S ms
    | _ => .no
  | .block id a, F, S, ms => (runM callc C L a F S ms).bind fun r => match r.1.1 with
    | .exit i => bif Nat.beq i id then .one ((.norm, r.1.2), r.2) else .one r
    | _ => .one r
  | .loop kp a, F, S, ms => iterM kp (runM callc C L a) L (F.keep kp) S ms
  | .rf x ps asg body, F, S, ms => match x.ev F with
    | .fn (.func g) first cap =>
      (callc (fun u => bif Nat.beq u (S.n + 1) then some (rnd C (callc C.env) L asg body (S.n + 1) F ps) else C.env u) g (first ++ [.yld (S.n + 1)] ++ cap) ((S.push (.raw 0)).push (.raw 1))).bind fun r =>
        match r.1 with
        | .pan _ => .no
        | _ => match r.2.get (S.n + 1) with
          | some (.raw k) => match k with
            | 1 => .one ((.norm, F, r.2.put (S.n + 1) (.raw 4)), S.n :: ms)
            | 3 => .one ((.ret, F, r.2.put (S.n + 1) (.raw 5)), S.n :: ms)
            | k => bif Nat.ble 6 k && Nat.beq (k % 2) 0 then .one ((.exit ((k - 6) / 2), F, r.2.put (S.n + 1) (.raw (k + 1))), S.n :: ms) else .no
          | _ => .no
    | _ => .no
def shutL : List Nat → AS → AS
  | [], S => S
  | m :: ms, S => shutL ms (S.put m (.raw 1))
def finM (fn : AFn) (S : AS) (r : (AE × Fr × AS) × List Nat) : R (AV × Option AS) :=
  match r.1.1 with
  | .exit _ => .no
  | .pan _ => .no
  | _ => match resV r.1.2.1 (shutL r.2 r.1.2.2) fn.res with
    | some l => .one (resOne l, finS S (resOne l) (shutL r.2 r.1.2.2))
    | none => .no
abbrev Giv := Nat → Option (List AV → AS → R (AV × AS))
def callE (G : Giv) (L : Nat) : Nat → Ctx → CallF
  | 0, _, _, _, _ => .no
  | d + 1, C, f, args, S => match G f with
    | some g => g args S
    | none => match C.fn f with
      | none => .no
      | some fn => bif Nat.ble args.length fn.ntmps then
          match fn.kind with
          | .rng m => (mergeR ((runM (fun e => callE G L d { C with env := e }) C L m (params 0 args) ⟨S.objs, S.n, S.n⟩ []).bind (finM fn S))).bind (unR S)
          | _ => (mergeR ((runB C (callE G L d C) L fn (params 0 args) ⟨S.objs, S.n, S.n⟩).bind (finR fn S))).bind (unR S)
        else .no
def callN (C : Ctx) (L d : Nat) : CallF := callE (fun _ => none) L d C
end Go.Proofs.Ytednmmcdjhfflaa.Vai
