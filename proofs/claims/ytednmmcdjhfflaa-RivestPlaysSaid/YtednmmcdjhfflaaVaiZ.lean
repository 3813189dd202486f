/-
  A verified abstract interpreter, part Z: plain data as abstract values; what is specified of a function of plain data; rows that are made.
-/
import Derived.Test.YtednmmcdjhfflaaVaiY
namespace Go.Proofs.Ytednmmcdjhfflaa.Vai
open Go Go.RowKit
abbrev rowI (z : Nat) (xs : List Int) : AV := .row z 1 xs.length (ints xs)
def rows (z : Nat) (l : List (List Int)) : List AV := l.map (rowI z)
abbrev rowW (z : Nat) (l : List (List Int)) : AV := .row z 1 l.length (rows z l)
section
variable {xs ys : List Int} {l m : List (List Int)} {i z : Nat}
theorem ints_get (h : i < xs.length) : (ints xs)[i]? = some (.int .i64 (xs.getD i 0)) := by
  rw [ints, List.getElem?_map, List.getD_eq_getElem?_getD, List.getElem?_eq_getElem h]; rfl
theorem ints_drop : (ints xs).drop i = ints (xs.drop i) := by unfold ints; rw [List.map_drop]
theorem ints_take : (ints xs).take i = ints (xs.take i) := by unfold ints; rw [List.map_take]
theorem ints_app : ints xs ++ ints ys = ints (xs ++ ys) := by unfold ints; rw [List.map_append]
theorem ints_nil : ints [] = [] := rfl
theorem ints_cons (x : Int) : ints (x :: xs) = .int .i64 x :: ints xs := rfl
theorem ints_snoc (x : Int) : ints xs ++ [.int .i64 x] = ints (xs ++ [x]) := by unfold ints; simp
theorem rows_len : (rows z l).length = l.length := List.length_map _
theorem rows_get (h : i < l.length) : (rows z l)[i]? = some (.row z 1 (l.getD i []).length (ints (l.getD i []))) := by
  rw [rows, List.getElem?_map, List.getD_eq_getElem?_getD, List.getElem?_eq_getElem h]; rfl
theorem rows_snoc (w : List Int) : rows z l ++ [.row z 1 w.length (ints w)] = rows z (l ++ [w]) := by unfold rows; simp
theorem rows_one : (rows z l).all AV.one = true := by
  unfold rows; rw [List.all_map]; exact List.all_eq_true.2 fun _ _ => rfl
theorem scal_ints : AV.scalL (ints xs) = true := by
  induction xs with
  | nil => rfl
  | cons x xs ih => rw [ints_cons]; simp only [AV.scalL, AV.scalar, Bool.true_and, ih]
theorem scal_rows : AV.scalL (rows z l) = true := by
  induction l with
  | nil => rfl
  | cons x xs ih => show AV.scalL (rowI z x :: rows z xs) = true; simp only [AV.scalL, AV.scalar, Bool.true_and, scal_ints, ih]
theorem inz_ints {z : Nat} : AV.inzL z (ints xs) = true := by
  induction xs with
  | nil => rfl
  | cons x xs ih => rw [ints_cons]; simp only [AV.inzL, AV.inz, Bool.true_and, ih]
theorem inz_rows {z' : Nat} (h : z' ≤ z) : AV.inzL z' (rows z l) = true := by
  induction l with
  | nil => rfl
  | cons x xs ih => show AV.inzL z' (rowI z x :: rows z xs) = true; simp only [AV.inzL, AV.inz, inz_ints, ih, Bool.and_true, ble_dec, decide_eq_true h]
theorem beqL_ints : AV.beqL (ints xs) (ints xs) = true := by
  induction xs with
  | nil => rfl
  | cons x xs ih => rw [ints_cons]; simp only [AV.beqL, AV.beq, kindBeq, intBeq_self, Bool.and_self, ih]
theorem beqL_rows : AV.beqL (rows z l) (rows z l) = true := by
  induction l with
  | nil => rfl
  | cons x xs ih => show AV.beqL (rowI z x :: rows z xs) (rowI z x :: rows z xs) = true; simp only [AV.beqL, AV.beq, beqL_ints, beq_dec, decide_true, Bool.and_self, ih]
end
theorem ixs_row {zo sz n : Nat} {cs : List AV} {k : IntKind} {i : Int} (h0 : 0 ≤ i) (h1 : i < n) : ixsA sz (.row zo sz n cs) (.int k i) = some (.fp zo cs (i.toNat * sz)) := by
  simp only [ixsA, aidx_nat h0 h1, beq_dec, decide_true, cond_true]
theorem slc_row {S : AS} {zo sz n l h : Nat} {cs : List AV} {lo hi : Option AV} (hlo : optN 0 lo = some l) (hhi : optN n hi = some h) (h1 : l ≤ h) (h2 : h ≤ n) : S.slc sz (.row zo sz n cs) lo hi none = some (.row zo sz (h - l) ((cs.drop (l * sz)).take ((h - l) * sz))) := by
  simp only [AS.slc, beq_dec, decide_true, Bool.not_true, cond_false, hlo, hhi, ble_dec, decide_eq_true h1, decide_eq_true h2, Bool.and_self, cond_true]
theorem lenA_row {z s n : Nat} {c : List AV} : lenA (.row z s n c) = some (.int .i64 n) := rfl
theorem lenA_nils : lenA .nils = some (.int .i64 0) := rfl
theorem lenA_slice {v g q n s : Nat} {l : Option Nat} : lenA (.slice v g q n l s) = some (.int .i64 n) := rfl
theorem optN_int {d : Nat} {i : Int} (h : 0 ≤ i) : optN d (some (.int .i64 i)) = some i.toNat := by
  obtain ⟨j, rfl⟩ : ∃ j : Nat, i = j := ⟨i.toNat, by omega⟩
  rfl
theorem cells_bool (b : Bool) : AV.cellsOf (.bool b) = some [.bool b] := rfl
theorem cells_int (k : IntKind) (n : Int) : AV.cellsOf (.int k n) = some [.int k n] := rfl
theorem cells_ptr (v g o e : Nat) : AV.cellsOf (.ptr v g o e) = some [.ptr v g o e] := rfl
theorem cells_slice (v g q n : Nat) (l : Option Nat) (s : Nat) : AV.cellsOf (.slice v g q n l s) = some [.slice v g q n l s] := rfl
theorem cells_fn (f : Fn) (a c : List AV) : AV.cellsOf (.fn f a c) = some [.fn f a c] := rfl
theorem cells_ifc (t : TypeId) (x : AV) : AV.cellsOf (.ifc t x) = some [.ifc t x] := rfl
theorem cells_row (z s n : Nat) (c : List AV) : AV.cellsOf (.row z s n c) = some [.row z s n c] := rfl
theorem cells_agg (l : List AV) : AV.cellsOf (.agg l) = some l := rfl
structure Cod (α : Type) where
  de : AV → Option α
  en : α → AV
  wk : ∀ a x, de a = some x → Wk a (en x)
def cIn : Cod Int := ⟨fun | .int .i64 n => some n | _ => none, .int .i64, fun a x h => by
  split at h
  · cases h; exact Wk.refl _
  · cases h⟩
def cBo : Cod Bool := ⟨fun | .bool n => some n | _ => none, .bool, fun a x h => by
  split at h
  · cases h; exact Wk.refl _
  · cases h⟩
def AV.int? : AV → Option Int
  | .int .i64 n => some n
  | _ => none
theorem int?_say {a : AV} {n : Int} (h : a.int? = some n) : a = .int .i64 n := by
  unfold AV.int? at h
  split at h
  · cases h; rfl
  · cases h
def mapQ {α : Type} (f : AV → Option α) : List AV → Option (List α)
  | [] => some []
  | a :: l => match f a, mapQ f l with
    | some b, some m => some (b :: m)
    | _, _ => none
theorem mapQ_wk {α : Type} {f : AV → Option α} {e : α → AV} (hf : ∀ a x, f a = some x → Wk a (e x)) : ∀ {cs : List AV} {xs : List α}, mapQ f cs = some xs → WkL cs (xs.map e)
  | [], xs, h => by cases h; trivial
  | c :: cs, xs, h => by
    simp only [mapQ] at h
    split at h
    · rename_i b m h1 h2
      cases h
      exact ⟨hf _ _ h1, mapQ_wk hf h2⟩
    · cases h
theorem mapQ_map {α : Type} {f : AV → Option α} {e : α → AV} (hf : ∀ x, f (e x) = some x) : ∀ xs : List α, mapQ f (xs.map e) = some xs
  | [] => rfl
  | x :: xs => by simp only [List.map_cons, mapQ, hf, mapQ_map hf xs]
def deRow {α : Type} (f : AV → Option α) (z : Nat) : AV → Option (List α)
  | .nils => some []
  | .row z' 1 _ cs => bif Nat.ble z z' then mapQ f cs else none
  | _ => none
theorem deRow_wk {α : Type} {f : AV → Option α} {e : α → AV} (hf : ∀ a x, f a = some x → Wk a (e x)) {z : Nat} {a : AV} {xs : List α} (h : deRow f z a = some xs) : Wk a (.row z 1 xs.length (xs.map e)) := by
  unfold deRow at h
  split at h
  · cases h; exact Wk.nils z 1
  · rename_i z' n cs
    cases hz : Nat.ble z z' with
    | false => rw [hz] at h; cases h
    | true =>
      rw [hz] at h
      have hw := mapQ_wk hf h
      refine Wk.row (by simpa using hz) hw fun hn => ?_
      have := hw.len
      rw [List.length_map] at this
      omega
  · cases h
def cRo (z : Nat) : Cod (List Int) := ⟨deRow AV.int? z, rowI z, fun _ _ h => deRow_wk (e := .int .i64) (fun _ _ h => by rw [int?_say h]; exact Wk.refl _) h⟩
def cWo (z : Nat) : Cod (List (List Int)) := ⟨deRow (cRo z).de z, rowW z, fun _ _ h => deRow_wk (e := rowI z) (cRo z).wk h⟩
structure Mach where
  kind : Int
  K : Int
  O : Int
  N : Int
  nx : List Int
  ot : List Int
abbrev mach (k K o n : Int) (x y : AV) : AV := .agg [.int .i64 k, .int .i64 K, .int .i64 o, .int .i64 n, x, y]
abbrev machV (z : Nat) (m : Mach) : AV := mach m.kind m.K m.O m.N (rowI z m.nx) (rowI z m.ot)
def deM (z : Nat) : AV → Option Mach
  | .agg [.int .i64 k, .int .i64 K, .int .i64 o, .int .i64 n, x, y] => match (cRo z).de x, (cRo z).de y with
    | some a, some b => some ⟨k, K, o, n, a, b⟩
    | _, _ => none
  | _ => none
def cMa (z : Nat) : Cod Mach := ⟨deM z, machV z, fun a x h => by
  unfold deM at h
  split at h
  · split at h
    · rename_i h1 h2
      cases h
      exact Wk.agg ⟨Wk.refl _, Wk.refl _, Wk.refl _, Wk.refl _, (cRo z).wk _ _ h1, (cRo z).wk _ _ h2, trivial⟩
    · cases h
  · cases h⟩
section
variable {z z' n : Nat} {xs : List Int} {l : List (List Int)}
theorem de_I {x : Int} : cIn.de (.int .i64 x) = some x := rfl
theorem de_B {x : Bool} : cBo.de (.bool x) = some x := rfl
theorem mapQ_ints : mapQ AV.int? (ints xs) = some xs := mapQ_map (e := .int .i64) (fun _ => rfl) xs
theorem de_R0 : (cRo 0).de (.row z 1 n (ints xs)) = some xs := mapQ_ints
theorem de_R1 : (cRo 1).de (.row 1 1 n (ints xs)) = some xs := mapQ_ints
theorem de_Rn : (cRo z).de .nils = some [] := rfl
theorem de_R (h : z ≤ z') : (cRo z).de (.row z' 1 n (ints xs)) = some xs := by
  show (bif Nat.ble z z' then _ else _) = _
  rw [ble_dec, decide_eq_true h]
  exact mapQ_ints
theorem mapQ_rows (h : z ≤ z') : mapQ (cRo z).de (rows z' l) = some l := mapQ_map (fun _ => de_R h) l
theorem de_W (h : z ≤ z') : (cWo z).de (.row z' 1 n (rows z' l)) = some l := by
  show (bif Nat.ble z z' then _ else _) = _
  rw [ble_dec, decide_eq_true h]
  exact mapQ_rows h
theorem de_W0 : (cWo 0).de (.row z 1 n (rows z l)) = some l := de_W (Nat.zero_le _)
theorem de_W1 : (cWo 1).de (.row 1 1 n (rows 1 l)) = some l := de_W (Nat.le_refl _)
theorem de_Me {k K o m : Int} {x y : AV} : (cMa z).de (.agg [.int .i64 k, .int .i64 K, .int .i64 o, .int .i64 m, x, y]) = ((cRo z).de x).bind fun a => ((cRo z).de y).map fun b => ⟨k, K, o, m, a, b⟩ := by
  show (match (cRo z).de x, (cRo z).de y with
    | some a, some b => some _
    | _, _ => none) = _
  cases (cRo z).de x <;> cases (cRo z).de y <;> rfl
end
theorem en_I {x : Int} : cIn.en x = .int .i64 x := rfl
theorem en_B {x : Bool} : cBo.en x = .bool x := rfl
theorem en_R {z : Nat} {x : List Int} : (cRo z).en x = rowI z x := rfl
theorem en_W {z : Nat} {x : List (List Int)} : (cWo z).en x = rowW z x := rfl
theorem en_M {z : Nat} {x : Mach} : (cMa z).en x = machV z x := rfl
def sp0 (r : Option AV) : List AV → Option AV
  | [] => r
  | _ => none
def sp1 {α : Type} (A : Cod α) (F : α → Option AV) : List AV → Option AV
  | [a] => (A.de a).bind F
  | _ => none
def sp2 {α β : Type} (A : Cod α) (B : Cod β) (F : α → β → Option AV) : List AV → Option AV
  | [a, b] => (A.de a).bind fun x => (B.de b).bind fun y => F x y
  | _ => none
def sp3 {α β γ : Type} (A : Cod α) (B : Cod β) (D : Cod γ) (F : α → β → γ → Option AV) : List AV → Option AV
  | [a, b, c] => (A.de a).bind fun x => (B.de b).bind fun y => (D.de c).bind fun u => F x y u
  | _ => none
def sp4 {α β γ δ : Type} (A : Cod α) (B : Cod β) (D : Cod γ) (E : Cod δ) (F : α → β → γ → δ → Option AV) : List AV → Option AV
  | [a, b, c, d] => (A.de a).bind fun x => (B.de b).bind fun y => (D.de c).bind fun u => (E.de d).bind fun v => F x y u v
  | _ => none
section
variable {P : Program} {f : Nat} {α β γ δ : Type} {A : Cod α} {B : Cod β} {D : Cod γ} {E : Cod δ}
theorem bind_say {α β : Type} {o : Option α} {F : α → Option β} {r : β} (h : o.bind F = some r) : ∃ x, o = some x ∧ F x = some r := by
  cases o with
  | none => cases h
  | some x => exact ⟨x, rfl, h⟩
theorem PureS.of0 {r : AV} (h : PureOk P f [] r ∧ r.inz 0 = true) : PureS P f (sp0 (some r)) := by
  intro args r' hr
  match args, hr with
  | [], hr => cases hr; exact h
theorem PureS.of1 {F : α → Option AV} (h : ∀ x r, F x = some r → PureOk P f [A.en x] r ∧ r.inz 0 = true) : PureS P f (sp1 A F) := by
  intro args r hr
  match args, hr with
  | [a], hr =>
    obtain ⟨x, hx, hr⟩ := bind_say hr
    obtain ⟨h1, h2⟩ := h x r hr
    exact ⟨h1.wk ⟨A.wk a x hx, trivial⟩, h2⟩
theorem PureS.of2 {F : α → β → Option AV} (h : ∀ x y r, F x y = some r → PureOk P f [A.en x, B.en y] r ∧ r.inz 0 = true) : PureS P f (sp2 A B F) := by
  intro args r hr
  match args, hr with
  | [a, b], hr =>
    obtain ⟨x, hx, hr⟩ := bind_say hr
    obtain ⟨y, hy, hr⟩ := bind_say hr
    obtain ⟨h1, h2⟩ := h x y r hr
    exact ⟨h1.wk ⟨A.wk a x hx, B.wk b y hy, trivial⟩, h2⟩
theorem PureS.of3 {F : α → β → γ → Option AV} (h : ∀ x y u r, F x y u = some r → PureOk P f [A.en x, B.en y, D.en u] r ∧ r.inz 0 = true) : PureS P f (sp3 A B D F) := by
  intro args r hr
  match args, hr with
  | [a, b, c], hr =>
    obtain ⟨x, hx, hr⟩ := bind_say hr
    obtain ⟨y, hy, hr⟩ := bind_say hr
    obtain ⟨u, hu, hr⟩ := bind_say hr
    obtain ⟨h1, h2⟩ := h x y u r hr
    exact ⟨h1.wk ⟨A.wk a x hx, B.wk b y hy, D.wk c u hu, trivial⟩, h2⟩
theorem PureS.of4 {F : α → β → γ → δ → Option AV} (h : ∀ x y u v r, F x y u v = some r → PureOk P f [A.en x, B.en y, D.en u, E.en v] r ∧ r.inz 0 = true) : PureS P f (sp4 A B D E F) := by
  intro args r hr
  match args, hr with
  | [a, b, c, d], hr =>
    obtain ⟨x, hx, hr⟩ := bind_say hr
    obtain ⟨y, hy, hr⟩ := bind_say hr
    obtain ⟨u, hu, hr⟩ := bind_say hr
    obtain ⟨v, hv, hr⟩ := bind_say hr
    obtain ⟨h1, h2⟩ := h x y u v r hr
    exact ⟨h1.wk ⟨A.wk a x hx, B.wk b y hy, D.wk c u hu, E.wk d v hv, trivial⟩, h2⟩
end
noncomputable def gd (c : Prop) (r : AV) (_ : Tok c := .mk) : Option AV := @ite _ c (Classical.propDecidable c) (some r) none
theorem gd_pos {c : Prop} {r : AV} (h : c) : gd c r = some r := if_pos h
theorem gd_say {c : Prop} {a r : AV} (h : gd c a = some r) : c ∧ a = r := by
  unfold gd at h
  split at h
  · cases h; exact ⟨by assumption, rfl⟩
  · cases h
theorem call_giv1 {C : Ctx} {G : Giv} {L f : Nat} {args : List AV} {S : AS} {g : List AV → AS → R (AV × AS)} (hG : G f = some g) : callE G L 1 C f args S = g args S := call_giv hG
def spK (o : Option AV) (S : AS) : R (AV × AS) := match o with
  | some r => .one (r, S)
  | none => .no
def spB (o : Option AV) (S : AS) : R (AV × AS) := match o with
  | some r => bif r.inz 1 then .one (r, S) else .no
  | none => .no
theorem spK_some {r : AV} {S : AS} : spK (some r) S = .one (r, S) := rfl
theorem pureG_eq {spec : List AV → Option AV} {args : List AV} {S : AS} : pureG spec args S = bif AV.scalL args then spK (spec args) S else (match mapO (frzF S 3) args with
    | some as => spB (spec as) S
    | none => .no) := rfl
theorem endP_ret {res : List ARes} {r : AV} {F : Fr} {S : AS} : endP res r .ret F S = ∃ l, resV F S res = some l ∧ Frz 1 S (resOne l) r := id rfl
theorem endP_norm {res : List ARes} {r : AV} {F : Fr} {S : AS} : endP res r .norm F S = ∃ l, resV F S res = some l ∧ Frz 1 S (resOne l) r := id rfl
structure In (lo : Nat) (S S' : AS) : Prop where
  n : lo ≤ S'.n
  get : ∀ v, v < lo → S'.get v = S.get v
  wf : Wf S'
theorem In.trans {lo : Nat} {S S' S'' : AS} (h : In lo S S') (k : In lo S' S'') : In lo S S'' := ⟨k.n, fun v hv => by rw [k.get v hv, h.get v hv], k.wf⟩
theorem In.push {lo : Nat} {S S' : AS} (h : In lo S S') (o : AObj) : In lo S (S'.push o) :=
  ⟨by have := h.n; simp only [AS.n_push]; omega, fun v hv => by rw [AS.get_push, if_neg (by have := h.n; omega)]; exact h.get v hv, h.wf.push o⟩
theorem In.refl {S : AS} (h : Wf S) : In S.n S S := ⟨Nat.le_refl _, fun _ _ => rfl, h⟩
theorem In.of_kp {lo : Nat} {S S' : AS} {u : Nat → Prop} (k : Kp u S S') (hlo : lo ≤ S.n) (hu : ∀ v, u v → lo ≤ v) : In lo S S' :=
  ⟨Nat.le_trans hlo k.n, fun v hv => k.get v (by omega) fun h => by have := hu v h; omega, k.wf⟩
theorem Wf.E0 : Wf E0 := fun v o h => by rw [E0_get] at h; cases h
structure Gw (S : AS) (lo sz : Nat) (a : AV) (n : Nat) (cs : List AV) : Prop where
  ow : Ow S sz a n cs
  lo : ∀ v, a.own = some v → lo ≤ v
section
variable {S : AS} {lo sz n : Nat} {a : AV} {cs : List AV}
theorem Gw.nils : Gw S lo sz .nils 0 [] := ⟨Ow.nils, fun _ h => by cases h⟩
theorem Gw.len (h : Gw S lo sz a n cs) : lenA a = some (.int .i64 n) := h.ow.rd.len
theorem Gw.np (h : Gw S lo sz a n cs) : a.np = true := h.ow.rd.np
theorem Gw.pan (h : Gw S lo sz a n cs) {P : AV → Prop} {N : Prop} : panK a P N = N := panK_np h.np
theorem Gw.cells (h : Gw S lo sz a n cs) : a.cellsOf = some [a] := h.ow.rd.cells
theorem Gw.keep {S' : AS} (h : Gw S lo sz a n cs) {lo' : Nat} (k : In lo' S S') (hlt : ∀ v, a.own = some v → v < lo') : Gw S' lo sz a n cs := ⟨h.ow.go fun v o h1 h2 => by rw [k.get v (hlt v h1)]; exact h2, h.lo⟩
theorem Gw.new (h : lo ≤ S.n) (c : List AV) (sz n : Nat) (opn : Bool) (hl : c.length = n * sz) : Gw (S.push (.cells c sz 0 0 opn false)) lo sz (.slice S.n 0 0 n none sz) n c := ⟨Ow.new c sz n opn hl, fun v hv => by cases hv; exact h⟩
theorem Gw.app (h : Gw S lo sz a n cs) (hS : Wf S) (hlo : lo ≤ S.n) {y : AV} {m : Nat} {ys : List AV} (hy : Rd S sz y m ys) {bytes : Nat} (hsz : sz ≠ 0) (hb1 : (n + m) * bytes ≤ bound46) (hb2 : n + m ≤ bound46) (hone : ys.all AV.one = true) :
    ∃ a' S', S.app sz bytes a y = some (a', S') ∧ Gw S' lo sz a' (n + m) (cs ++ ys) ∧ In lo S S' := by
  obtain ⟨a', S', q, o, k, w⟩ := h.ow.app hS hy hsz hb1 hb2 hone
  refine ⟨a', S', q, ⟨o, fun v hv => ?_⟩, In.of_kp k hlo h.lo⟩
  rcases w with w | w <;> rw [w] at hv
  · exact h.lo v hv
  · cases hv; exact hlo
theorem Gw.appr (h : Gw S lo sz a n cs) (hS : Wf S) (hlo : lo ≤ S.n) {z m : Nat} {ys : List AV} (hyl : ys.length = m * sz) {bytes : Nat} (hsz : sz ≠ 0) (hb1 : (n + m) * bytes ≤ bound46) (hb2 : n + m ≤ bound46) (hone : ys.all AV.one = true) :
    ∃ a' S', S.app sz bytes a (.row z sz m ys) = some (a', S') ∧ Gw S' lo sz a' (n + m) (cs ++ ys) ∧ In lo S S' := by
  have h1 : Gw (S.push (.cells ys sz 0 0 false false)) lo sz a n cs := h.keep (lo' := S.n) ((In.refl hS).push _) fun v hv => h.ow.rd.lt hS hv
  have hy : Rd (S.push (.cells ys sz 0 0 false false)) sz (.slice S.n 0 0 m none sz) m ys := (Ow.new (S := S) ys sz m false hyl).rd
  by_cases hm : m = 0
  · subst hm
    obtain rfl : ys = [] := List.eq_nil_of_length_eq_zero (by omega)
    refine ⟨a, S, ?_, by simpa using h, ⟨hlo, fun _ _ => rfl, hS⟩⟩
    have : S.src sz (.row z sz 0 []) = some (0, []) := by simp only [AS.src, beq_dec, decide_true, cond_true]
    rcases h.ow with ⟨rfl, _, _⟩ | ⟨v, g, lo, opn, rfl, _⟩ <;> simp only [AS.app, this]
  · obtain ⟨m, rfl⟩ : ∃ k, m = k + 1 := ⟨m - 1, by omega⟩
    have hsrc : S.src sz (.row z sz (m + 1) ys) = some (m + 1, ys) := by simp only [AS.src, beq_dec, decide_true, cond_true]
    have hz : Nat.beq sz 0 = false := by rw [beq_dec]; exact decide_eq_false hsz
    have hpos : 0 < (m + 1) * sz := Nat.mul_pos (by omega) (by omega)
    simp only [AS.app, hsrc, hz, cond_false]
    rcases h.ow with ⟨rfl, rfl, rfl⟩ | ⟨v, g, l0, opn, rfl, h2, h3, h4⟩
    · refine ⟨.slice S.n 0 0 (m + 1) none sz, S.newRow ys sz true, ?_, ?_, ?_⟩
      · simp only [AS.appN, ble_dec]
        rw [decide_eq_true (by rwa [Nat.zero_add] at hb1), decide_eq_true (by omega)]
        rfl
      · rw [Nat.zero_add, List.nil_append]
        exact Gw.new hlo ys sz (m + 1) true hyl
      · exact In.push ⟨hlo, fun _ _ => rfl, hS⟩ _
    · have hlv := h.lo v rfl
      have hb : (Nat.beq sz sz && Nat.ble ((n + (m + 1)) * bytes) bound46 && Nat.ble (n + (m + 1)) bound46) = true := by
        rw [beq_dec, ble_dec, ble_dec, decide_eq_true rfl, decide_eq_true hb1, decide_eq_true hb2]; rfl
      have e1 : (0 + n + (m + 1)) * sz = n * sz + (m + 1) * sz := by rw [Nat.zero_add]; exact Nat.add_mul _ _ _
      have hroom : aroom none sz sz 0 n (m + 1) cs.length = false := by
        simp only [aroom, beq_dec, ble_dec, decide_true, Bool.true_and]
        exact decide_eq_false (by omega)
      simp only [AS.appN, hb, Bool.not_true, cond_false, h2, hroom, Bool.false_and]
      cases opn with
      | true =>
        refine ⟨.slice v (g + 1) 0 (n + (m + 1)) none sz, S.put v (.cells (cs ++ ys) sz (g + 1) l0 true false), ?_, ⟨.inr ⟨v, g + 1, l0, true, rfl, by rw [AS.get_put, if_pos rfl], by omega, ?_⟩, fun w hw => by cases hw; exact hlv⟩, ?_⟩
        · have hgr : agrows none sz sz 0 n (m + 1) cs.length (!true && Nat.beq g g) = false := by simp [agrows]
          rw [hgr]
          simp only [Bool.false_and, cond_false, beq_dec, decide_true, Option.isNone_none, hone, Bool.not_false, decide_eq_true h4.symm, Bool.and_self, cond_true]
        · rw [List.length_append, h4, hyl]; exact (Nat.add_mul _ _ _).symm
        · exact ⟨hlo, fun u hu => by rw [AS.get_put, if_neg (by omega)], hS.put (hS _ _ h2) _⟩
      | false =>
        refine ⟨.slice S.n 0 0 (n + (m + 1)) none sz, S.newRow ((cs.drop (0 * sz)).take (n * sz) ++ ys) sz true, ?_, ?_, In.push ⟨hlo, fun _ _ => rfl, hS⟩ _⟩
        · have hgr : agrows none sz sz 0 n (m + 1) cs.length (!false && Nat.beq g g) = true := by
            simp only [agrows, beq_dec, blt_dec, decide_true, Bool.not_false, Bool.and_self, Bool.true_and]
            exact decide_eq_true (by omega)
          simp only [hgr, ble_dec, decide_eq_true h3, Nat.le_refl, decide_true, Bool.and_self, cond_true]
        · have : (cs.drop (0 * sz)).take (n * sz) = cs := by rw [Nat.zero_mul, List.drop_zero, ← h4, List.take_length]
          rw [this]
          exact Gw.new hlo _ sz _ true (by rw [List.length_append, h4, hyl]; exact (Nat.add_mul _ _ _).symm)
theorem Gw.app1 (h : Gw S lo sz a n cs) (hS : Wf S) (hlo : lo ≤ S.n) (xs : List AV) (hxs : xs.length = sz) {bytes : Nat} (hsz : sz ≠ 0) (hb1 : (n + 1) * bytes ≤ bound46) (hb2 : n + 1 ≤ bound46) (hone : xs.all AV.one = true) :
    ∃ a' S', (S.push (.cells xs sz 0 0 false false)).app sz bytes a (.slice S.n 0 0 1 none sz) = some (a', S') ∧ Gw S' lo sz a' (n + 1) (cs ++ xs) ∧ In lo S S' := by
  have k1 : In lo S (S.push (.cells xs sz 0 0 false false)) := In.push ⟨hlo, fun _ _ => rfl, hS⟩ _
  have h1 : Gw (S.push (.cells xs sz 0 0 false false)) lo sz a n cs := h.keep (lo' := S.n) ((In.refl hS).push _) fun v hv => h.ow.rd.lt hS hv
  have hy : Rd (S.push (.cells xs sz 0 0 false false)) sz (.slice S.n 0 0 1 none sz) 1 xs := (Ow.new (S := S) xs sz 1 false (by omega)).rd
  obtain ⟨a', S', q, o, k⟩ := h1.app (hS.push _) k1.n hy hsz hb1 hb2 hone
  exact ⟨a', S', q, o, k1.trans k⟩
end
theorem ofO_some {α : Type} {a : α} : R.ofO (some a) = .one a := rfl
section
variable {S : AS} {lo sz n m bytes z : Nat} {a : AV} {cs ys : List AV} {Q : AV × AS → Prop}
theorem AllK.app1 {xs : List AV} {v : Nat} (h : Gw S lo sz a n cs) (k : ∀ a' S', Gw S' lo sz a' (n + 1) (cs ++ xs) → In lo S S' → Q (a', S')) (hv : v = S.n := by first | rfl | (simp only [AS.n_push, E0_n]; omega)) (hxs : xs.length = sz := by rfl)
    (hb1 : (n + 1) * bytes ≤ bound46 := by (unfold bound46; omega)) (hb2 : n + 1 ≤ bound46 := by (unfold bound46; omega)) (hone : xs.all AV.one = true := by rfl)
    (hS : Wf S := by (repeat' first | assumption | exact Wf.E0 | apply Wf.push)) (hlo : lo ≤ S.n := by first | omega | (simp only [AS.n_push, E0_n]; omega)) (hsz : sz ≠ 0 := by omega) : AllK (R.ofO ((S.push (.cells xs sz 0 0 false false)).app sz bytes a (.slice v 0 0 1 none sz))) Q := by
  obtain ⟨a', S', q, o, i⟩ := h.app1 hS hlo xs hxs hsz hb1 hb2 hone
  rw [hv, q]
  exact k a' S' o i
end
section
variable {S : AS} {lo sz n : Nat} {a : AV} {cs : List AV}
theorem Gw.frz (h : Gw S lo sz a n cs) {z : Nat} {rs : List AV} (hr : FrzL z S cs rs) : Frz z S a (.row z sz n rs) := by
  rcases h.ow with ⟨rfl, rfl, rfl⟩ | ⟨v, g, l0, opn, rfl, h2, h3, h4⟩
  · have := hr.len
    obtain rfl : rs = [] := List.eq_nil_of_length_eq_zero this.symm
    exact Frz.nils z sz
  · refine Frz.slice h2 h3 (Nat.le_refl _) (by rw [Nat.zero_add]; omega) ?_
    rw [Nat.zero_mul, List.drop_zero, ← h4, List.take_length]
    exact hr
end
abbrev GwI (S : AS) (lo : Nat) (a : AV) (xs : List Int) : Prop := Gw S lo 1 a xs.length (ints xs)
theorem GwI.frz {S : AS} {lo : Nat} {a : AV} {xs : List Int} (h : GwI S lo a xs) {z : Nat} : Frz z S a (rowI z xs) := Gw.frz h (FrzL.scal scal_ints)
theorem GwI.app1 {S : AS} {lo : Nat} {a : AV} {xs : List Int} (h : GwI S lo a xs) (hS : Wf S) (hlo : lo ≤ S.n) (x : Int) (hl : xs.length ≤ 1000000000000) :
    ∃ a' S', (S.push (.cells [.int .i64 x] 1 0 0 false false)).app 1 8 a (.slice S.n 0 0 1 none 1) = some (a', S') ∧ GwI S' lo a' (xs ++ [x]) ∧ In lo S S' := by
  obtain ⟨a', S', q, o, k⟩ := Gw.app1 h hS hlo [.int .i64 x] rfl (bytes := 8) (by omega) (by unfold bound46; omega) (by unfold bound46; omega) rfl
  refine ⟨a', S', q, ?_, k⟩
  show Gw S' lo 1 a' (xs ++ [x]).length (ints (xs ++ [x]))
  rw [List.length_append, ← ints_snoc]
  exact o
theorem one_bool (b : Bool) : AV.one (.bool b) = true := rfl
theorem one_int (k : IntKind) (n : Int) : AV.one (.int k n) = true := rfl
theorem one_ptr (v g o e : Nat) : AV.one (.ptr v g o e) = true := rfl
theorem one_nils  : AV.one (.nils) = true := rfl
theorem one_slice (v g q n : Nat) (l : Option Nat) (s : Nat) : AV.one (.slice v g q n l s) = true := rfl
theorem one_fn (f : Fn) (a c : List AV) : AV.one (.fn f a c) = true := rfl
theorem one_ifc (t : TypeId) (x : AV) : AV.one (.ifc t x) = true := rfl
theorem one_row (z s n : Nat) (c : List AV) : AV.one (.row z s n c) = true := rfl
theorem Gw.one {S : AS} {lo sz n : Nat} {a : AV} {cs : List AV} (h : Gw S lo sz a n cs) : a.one = true := h.ow.rd.one
theorem Gw.lt {S : AS} {lo sz n : Nat} {a : AV} {cs : List AV} (h : Gw S lo sz a n cs) (hS : Wf S) {v : Nat} (hv : a.own = some v) : v < S.n := h.ow.rd.lt hS hv
theorem Gw.go {S S' : AS} {lo sz n : Nat} {a : AV} {cs : List AV} (h : Gw S lo sz a n cs) (i : In S.n S S') (hS : Wf S) : Gw S' lo sz a n cs := h.keep i fun v hv => h.lt hS hv
theorem Gw.put {S : AS} {lo sz n : Nat} {a : AV} {cs : List AV} (h : Gw S lo sz a n cs) {v : Nat} (o : AObj) (hv : v < lo) : Gw (S.put v o) lo sz a n cs := ⟨h.ow.go fun u ob h1 h2 => by rw [AS.get_put, if_neg (by have := h.lo u h1; omega)]; exact h2, h.lo⟩
theorem Gw.push {S : AS} {lo sz n : Nat} {a : AV} {cs : List AV} (h : Gw S lo sz a n cs) (hS : Wf S) (o : AObj) : Gw (S.push o) lo sz a n cs := h.go ((In.refl hS).push o) hS
theorem AllK.clone {S : AS} {sz m bytes z v : Nat} {ys : List AV} {Q : AV × AS → Prop} (k : ∀ a' S', Gw S' v sz a' m ys → In v S S' → Q (a', S')) (hv : v = S.n := by first | rfl | (simp only [AS.n_push, AS.n_put, E0_n]; omega)) (hyl : ys.length = m * sz := by simp [ints_len, rows_len])
    (hb1 : m * bytes ≤ bound46 := by (unfold bound46; omega)) (hb2 : m ≤ bound46 := by (unfold bound46; omega)) (hone : ys.all AV.one = true := by first | exact ints_one _ | exact rows_one)
    (hS : Wf S := by (repeat' first | assumption | exact Wf.E0 | apply Wf.push)) (hsz : sz ≠ 0 := by omega) : AllK (R.ofO ((S.push (.cells [] sz 0 0 false false)).app sz bytes (.slice v 0 0 0 none sz) (.row z sz m ys))) Q := by
  subst hv
  have g0 : Gw (S.push (.cells [] sz 0 0 false false)) S.n sz (.slice S.n 0 0 0 none sz) 0 [] := Gw.new (Nat.le_refl _) [] sz 0 false (by simp)
  obtain ⟨a', S', q, o, i⟩ := g0.appr (hS.push _) (by simp) (z := z) hyl hsz (by rw [Nat.zero_add]; exact hb1) (by omega) hone (bytes := bytes)
  rw [q]
  rw [Nat.zero_add, List.nil_append] at o
  exact k a' S' o (((In.refl hS).push _).trans i)
end Go.Proofs.Ytednmmcdjhfflaa.Vai
