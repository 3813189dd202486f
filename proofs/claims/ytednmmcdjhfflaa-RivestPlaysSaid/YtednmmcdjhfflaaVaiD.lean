/-
  A verified abstract interpreter, part D: from the loaded program to the intermediate code.
-/
import Derived.Test.YtednmmcdjhfflaaVaiC
namespace Go.Proofs.Ytednmmcdjhfflaa.Vai
open Go
def cX : Operand → Option AX
  | .tmp t => some (.t t)
  | .const v => some (.c (AV.ofV v))
  | .func f => some (.c (.fn (.func f) [] []))
  | .global _ => none
def cXs : List Operand → Option (List AX)
  | [] => some []
  | x :: xs => match cX x, cXs xs with
    | some a, some l => some (a :: l)
    | _, _ => none
def cXo : Option Operand → Option (Option AX)
  | none => some none
  | some x => (cX x).map some
def isConst : Operand → Bool
  | .const _ => true
  | _ => false
def sizeO (P : Program) (t : TypeId) : Option Nat := (P.info? t).map (·.size)
def aggO (P : Program) (t : TypeId) : Option Bool := (P.underlying t).map fun
  | .struct _ | .array _ _ => true
  | _ => false
def zeroO (P : Program) (t : TypeId) : Option Value := (P.info? t).bind (·.zero)
def zcells (P : Program) (t : TypeId) : Option (List AV) := (zeroO P t).map fun z => z.cells.toList.map AV.ofV1
def intT (P : Program) (t : TypeId) : Bool := match P.underlying t with
  | some (.int _) => true
  | _ => false
def pairO (P : Program) (t : TypeId) (fs : Array Field) : Bool := match fs.toList with
  | [f, g] => f.name != "_" && g.name != "_" && Nat.beq f.offset 0 && Nat.beq g.offset 1 && intT P f.type && intT P g.type && !P.stoodInHeld t && !P.eqGuardType P.depth t
  | _ => false
def keyO (P : Program) (t : TypeId) : Option Nat := match P.underlying t with
  | some (.int _) => some 0
  | some .string => some 1
  | some .bool => some 2
  | some (.struct fs) => bif pairO P t fs then some 3 else none
  | _ => none
def ekOf (P : Program) (t : TypeId) (lit : Bool) : Option EK := match P.underlying t with
  | some .bool => some .bool
  | some (.pointer e) => match sizeO P e with
    | some 0 => none
    | some _ => some .ptr
    | none => none
  | some (.interface _) => some (.ifc lit)
  | some (.slice _) => some .sl
  | some (.map _ _) => some .mp
  | some (.func _ _ _) => some .fu
  | some (.struct fs) => bif pairO P t fs then some .pair else none
  | _ => none
def cParts (place : Nat → Option (Nat × Nat)) : List (Nat × Operand) → Option (List (Nat × Nat × AX))
  | [] => some []
  | (i, x) :: ps => match place i, cX x, cParts place ps with
    | some (o, n), some a, some l => some ((o, n, a) :: l)
    | _, _, _ => none
def fieldPlaces (P : Program) : List Field → Option (List (Nat × Nat))
  | [] => some []
  | f :: fs => match sizeO P f.type, fieldPlaces P fs with
    | some n, some l => some ((f.offset, n) :: l)
    | _, _ => none
def elemO (P : Program) (t : TypeId) : Option TypeId := match P.underlying t with
  | some (.slice e) => some e
  | _ => none
def cCall (P : Program) (c : Call) : Option AOp :=
  match c.callee with
  | .value (.func f) => (cXs c.args.toList).map (.call f)
  | .value x => match cX x, cXs c.args.toList with
    | some f, some l => some (.callv f l)
    | _, _ => none
  | .invoke r n => match cX r, cXs c.args.toList with
    | some f, some l => some (.inv n f l)
    | _, _ => none
  | .builtin b => match b, c.args.toList, c.argTypes.toList with
    | .len, [x], [t] => match cX x, P.underlying t with
      | some a, some .string => some (.len 1 a)
      | some a, some (.slice _) => some (.len 0 a)
      | some a, some (.map _ _) => some (.len 2 a)
      | _, _ => none
    | .cap, [x], [t] => match cX x, P.underlying t with
      | some a, some (.slice _) => some (.cap a)
      | _, _ => none
    | .clear, [x], [t] => match cX x, elemO P t with
      | some a, some e => match sizeO P e, zcells P e with
        | some n, some z => bif Nat.beq z.length n then some (.clr n z a) else none
        | _, _ => none
      | _, _ => none
    | .append, [x, y], [t, u] => match cX x, cX y, elemO P t, P.underlying u with
      | some a, some b, some e, some ud => match P.info? e with
        | some i => match i.zero, ud with
          | some z, .int _ => bif Nat.beq z.cells.size i.size then some (.appz i.size i.bytes (z.cells.toList.map AV.ofV1) a b) else none
          | some z, .slice _ | some z, .string => bif Nat.beq z.cells.size i.size then some (.app i.size i.bytes a b) else none
          | _, _ => none
        | none => none
      | _, _, _, _ => none
    | .min, x :: xs, _ => match cX x, cXs xs with
      | some a, some l => some (.mn a l)
      | _, _ => none
    | .max, x :: xs, _ => match cX x, cXs xs with
      | some a, some l => some (.mx a l)
      | _, _ => none
    | _, _, _ => none
def cOp (P : Program) (o : Op) : Option AOp :=
  match o with
  | .move x => (cX x).map .mv
  | .assign x => (cX x).map .mv
  | .pick c a b => match cX c, cX a, cX b with
    | some c, some a, some b => some (.pick c a b)
    | _, _, _ => none
  | .alloc t => (zcells P t).map .alloc
  | .box _ x => (cX x).map .box
  | .build t ps => match P.underlying t, zcells P t with
    | some (.struct fs), some z => match fieldPlaces P fs.toList with
      | some pl => (cParts (fun i => pl[i]?) ps.toList).map (.build z)
      | none => none
    | some (.array _ e), some z => match sizeO P e with
      | some n => (cParts (fun i => some (i * n, n)) ps.toList).map (.build z)
      | none => none
    | _, _ => none
  | .buildSlice t len ps => match elemO P t with
    | some e => match sizeO P e, zcells P e with
      | some n, some z => bif Nat.ble (len * n) 16777216 && Nat.beq z.length n && !(Nat.beq n 0) then (cParts (fun i => some (i * n, n)) ps.toList).map (.bslice n len (reps z len)) else none
      | _, _ => none
    | none => none
  | .load t x => match cX x, aggO P t, sizeO P t with
    | some a, some false, _ => some (.ld1 a)
    | some a, some true, some n => some (.ldn n a)
    | _, _, _ => none
  | .store t a x => match cX a, cX x, sizeO P t with
    | some a, some x, some n => some (.st n a x)
    | _, _, _ => none
  | .nilCheck x => (cX x).map .nck
  | .binOp op t x y _ => match cX x, cX y with
    | some a, some b => match op, P.underlying t with
      | _, some (.int _) | _, some .string => some (.bin op a b)
      | .eql, some _ => (ekOf P t (isConst x || isConst y)).map fun k => .eq false k a b
      | .neq, some _ => (ekOf P t (isConst x || isConst y)).map fun k => .eq true k a b
      | _, _ => none
    | _, _ => none
  | .unOp op _ x => (cX x).map (.un op)
  | .convert s d x => match cX x, P.underlying s, P.underlying d with
    | some a, some (.int _), some (.int k) => some (.cvi k a)
    | some a, some (.slice e), some .string => match P.underlying e with
      | some (.int .u8) => some (.cvs a)
      | _ => none
    | _, _, _ => none
  | .makeInterface t x => match cX x, P.underlying t with
    | some _, some (.interface _) => none
    | some a, some _ => some (.mkif t a)
    | _, _ => none
  | .makeFunc f a c => match cXs a.toList, cXs c.toList with
    | some a, some c => some (.mkfn f a c)
    | _, _ => none
  | .makeMap _ none => some .mkmap
  | .makeSlice t l c => match cX l, cX c, elemO P t with
    | some l, some c, some e => match P.info? e, zcells P e with
      | some i, some z => bif Nat.beq z.length i.size && !(Nat.beq i.size 0) then some (.mksl i.size i.bytes z l c) else none
      | _, _ => none
    | _, _, _ => none
  | .slice t x lo hi mx => match cX x, cXo lo, cXo hi, cXo mx with
    | some a, some lo, some hi, some mx => match P.underlying t with
      | some .string => match mx with
        | none => some (.sls a lo hi)
        | some _ => none
      | some (.slice e) => match mx, hi with
        | some _, none => none
        | _, _ => (sizeO P e).map fun n => .slc n a lo hi mx
      | _ => none
    | _, _, _, _ => none
  | .fieldAddr t x f => match cX x, P.underlying t with
    | some a, some (.struct fs) => match fs[f]? with
      | some fl => match sizeO P fl.type with
        | some 0 => none
        | some _ => some (.fad fl.offset a)
        | none => none
      | none => none
    | _, _ => none
  | .field t x f => match cX x, P.underlying t with
    | some a, some (.struct fs) => match fs[f]? with
      | some fl => match aggO P fl.type, sizeO P fl.type with
        | some false, _ => some (.fld fl.offset none a)
        | some true, some n => some (.fld fl.offset (some n) a)
        | _, _ => none
      | none => none
    | _, _ => none
  | .indexAddr t x i => match cX x, cX i, P.underlying t with
    | some a, some b, some (.slice e) => (sizeO P e).map fun n => .ixs n a b
    | some a, some b, some (.array m e) => (sizeO P e).map fun n => .ixa m n a b
    | _, _, _ => none
  | .index t x i => match cX x, cX i, P.underlying t with
    | some a, some b, some .string => some (.xst a b)
    | _, _, _ => none
  | .lookup t m k ok => match cX m, cX k, P.underlying t with
    | some a, some b, some (.map kt e) => match zeroO P e, keyO P kt with
      | some z, some kk => some (.look kk (AV.ofV z) ok a b)
      | _, _ => none
    | _, _, _ => none
  | .mapUpdate t m k x => cUpd t m k x
  | .insert t m k x => cUpd t m k x
  | .range t x => match cX x, P.underlying t with
    | some a, some (.map _ _) => some (.rng a)
    | _, _ => none
  | .next x false => (cX x).map .nxt
  | .entry x => (cX x).map .ent
  | .typeAssert x _ t ok => match cX x, P.underlying t, zeroO P t with
    | some _, some (.interface _), _ => none
    | some a, some _, some z => some (.tas t (AV.ofV z) ok a)
    | _, _, _ => none
  | .extract x i => (cX x).map (.xt i)
  | .call c => cCall P c
  | .panic x => (cX x).map .pnc
  | _ => none
where
  cUpd (t : TypeId) (m k x : Operand) : Option AOp := match cX m, cX k, cX x, P.underlying t with
    | some a, some b, some c, some (.map kt _) => (keyO P kt).map fun kk => .mup kk a b c
    | _, _, _, _ => none
def cGd (ops : Array Oper) (g : Option (Nat × Bool)) : Option (Option (Nat × Bool)) :=
  match g with
  | none => some none
  | some (j, b) => match (ops[j]?).bind (·.dst) with
    | some t => some (some (t, b))
    | none => none
def cDok (n : Nat) : Option Tmp → Bool
  | none => true
  | some d => Nat.blt d n
def cOper (P : Program) (ops : Array Oper) (n : Nat) (o : Oper) : AOper :=
  match cGd ops o.guard, cOp P o.op, cDok n o.dst with
  | some g, some a, true => ⟨o.dst, g, a⟩
  | _, _, _ => ⟨none, none, .bad⟩
def insN (a : Nat) (l : List Nat) : List Nat := bif l.contains a then l else a :: l
def uni (a b : List Nat) : List Nat := a.foldr insN b
def preOf : List Oper → List (List Nat) → List (List Nat)
  | [], acc => acc
  | o :: os, acc => preOf os (acc ++ [(o.after.toList.filter (Region.binds .any)).foldr (fun e l => insN e.on (uni (acc.getD e.on []) l)) []])
def usOf (ops : Array Oper) (o : Oper) : List Nat :=
  (match o.guard with
   | some (j, _) => match (ops[j]?).bind (·.dst) with
     | some t => [t]
     | none => []
   | none => []) ++ o.op.operands.toList.filterMap fun
    | .tmp t => some t
    | _ => none
def edgesOf (o : Oper) : List Nat := (o.after.toList.filter (Region.binds .any)).map (·.on)
def drawOk (ops : List Oper) (pre us : List (List Nat)) : Bool :=
  let N := ops.length
  let dst (i : Nat) : Option Nat := (ops[i]?).bind (·.dst)
  let edges (i : Nat) : List Nat := match ops[i]? with
    | some o => edgesOf o
    | none => []
  (List.range N).all fun i =>
    let pr := pre.getD i []
    pr.all (fun j => Nat.blt j i && ((edges i).contains j || (edges i).any fun e => (pre.getD e []).contains j)) &&
    (edges i).all (fun e => pr.contains e) &&
    (List.range i).all (fun j => (match dst j with
      | some t => !(optBeq (dst i) (some t) || (us.getD i []).contains t) || pr.contains j
      | none => true) &&
      (match dst i with
      | some t => !((us.getD j []).contains t) || pr.contains j
      | none => true))
def cCode (P : Program) (n : Nat) (kp : List Nat) : Code → AC
  | .skip => .skip
  | .region _ ops false => .reg (ops.toList.map (cOper P ops n))
  | .region _ ops true =>
    let pre := preOf ops.toList []
    let us := ops.toList.map (usOf ops)
    bif drawOk ops.toList pre us then .draw ((ops.toList.map (cOper P ops n)).zip (pre.zip us)) else .bad
  | .seq a b => .seq (cCode P n kp a) (cCode P n kp b)
  | .cond x a b => match cX x with
    | some c => .cond c (cCode P n kp a) (cCode P n kp b)
    | none => .bad
  | .block id a => .block id (cCode P n kp a)
  | .loop a => .loop kp (cCode P n kp a)
  | .exit id => .exit id
  | .scope a => .scope (cCode P n kp a)
  | .label _ => .label
  | .ret => .ret
  | _ => .bad
def cRes (P : Program) : List ResultVar → Option (List ARes)
  | [] => some []
  | .tmp t :: rs => (cRes P rs).map (.tmp t :: ·)
  | .cell a t :: rs => match aggO P t, sizeO P t, cRes P rs with
    | some false, _, some l => some (.cell a none :: l)
    | some true, some n, some l => some (.cell a (some n) :: l)
    | _, _, _ => none
def isRcv (o : Oper) : Bool := match o.op, o.guard with
  | .call c, none => match c.callee with
    | .builtin .recover => true
    | _ => false
  | _, _ => false
def dfrOf (o : Oper) : Option Nat := match o.op, o.guard, o.dst with
  | .defer c, none, none => match c.callee, c.args.toList with
    | .value (.tmp t), [] => some t
    | _, _ => none
  | _, _, _ => none
def cFn (P : Program) (kp : List Nat) (f : Func) : Option AFn :=
  match f.body, cRes P f.results.toList with
  | some c, some r => bif f.name == "runtime.NumGoroutine" then none else
    match c with
    | .seq (.region _ ops false) rest =>
      match ops.toList with
      | o :: os => bif isRcv o && cDok f.ntmps o.dst && os.all (fun o => !(cOper P ops f.ntmps o).op.calls) then some ⟨f.ntmps, r, .seq (.reg (os.map (cOper P ops f.ntmps))) (cCode P f.ntmps kp rest), .rcv o.dst⟩ else
        match rest with
        | .seq (.region _ ops2 false) rest2 => match ops2.toList with
          | [o1, o2] => match dfrOf o2 with
            | some t => some ⟨f.ntmps, r, cCode P f.ntmps kp rest2, .dfr (.reg (ops.toList.map (cOper P ops f.ntmps))) [cOper P ops2 f.ntmps o1] t⟩
            | none => some ⟨f.ntmps, r, cCode P f.ntmps kp c, .plain⟩
          | _ => some ⟨f.ntmps, r, cCode P f.ntmps kp c, .plain⟩
        | _ => some ⟨f.ntmps, r, cCode P f.ntmps kp c, .plain⟩
      | [] => some ⟨f.ntmps, r, cCode P f.ntmps kp c, .plain⟩
    | _ => some ⟨f.ntmps, r, cCode P f.ntmps kp c, .plain⟩
  | _, _ => none
def hasRf : Code → Bool
  | .seq a b => hasRf a || hasRf b
  | .cond _ a b => hasRf a || hasRf b
  | .block _ a => hasRf a
  | .loop a => hasRf a
  | .scope a => hasRf a
  | .rangeFunc .. => true
  | _ => false
def cM (P : Program) (n : Nat) (kp : List Nat) : Code → MC
  | .seq a b => .seq (cM P n kp a) (cM P n kp b)
  | .cond x a b => match cX x with
    | some c => .cond c (cM P n kp a) (cM P n kp b)
    | none => .c .bad
  | .block id a => .block id (cM P n kp a)
  | .loop a => .loop kp (cM P n kp a)
  | .rangeFunc g ps a b => match cX g with
    | some c => bif ps.toList.all (fun p => Nat.blt p n) then .rf c ps.toList (cCode P n kp a) (cCode P n kp b) else .c .bad
    | none => .c .bad
  | c => .c (cCode P n kp c)
def cFnM (P : Program) (kp : List Nat) (f : Func) : Option AFn :=
  match f.body, cRes P f.results.toList with
  | some c, some r => bif hasRf c then (bif f.name == "runtime.NumGoroutine" then none else some ⟨f.ntmps, r, .bad, .rng (cM P f.ntmps kp c)⟩) else cFn P kp f
  | _, _ => none
def methO (P : Program) (t : Nat) (name : String) : Option Nat :=
  match P.info? t with
  | some i => match i.methods.toList.find? (fun m => m.name == name) with
    | some m => match m.path.toList, m.func, P.underlying t with
      | [], some (f, true), some (.pointer _) => some f
      | [], some (_, false), some (.pointer _) => none
      | [], some (f, false), some _ => some f
      | _, _, _ => none
    | none => none
  | none => none
def ctxE (P : Program) (kp : Nat → List Nat) (env : Env) : Ctx := ⟨fun k => (P.funcs[k]?).bind (cFnM P (kp k)), methO P, env⟩
def ctxOf (P : Program) (kp : Nat → List Nat) : Ctx := ctxE P kp fun _ => none
end Go.Proofs.Ytednmmcdjhfflaa.Vai
