/-
  A verified abstract interpreter, part A: abstract values, abstract memory, the intermediate code, the interpreter. Plain definitions.
-/
import Derived.Below
import Derived.Calls
import Derived.Orders
namespace Go.Proofs.Ytednmmcdjhfflaa.Vai
open Go
inductive AV where
  | any
  | cst (v : Value)
  | bool (b : Bool)
  | int (k : IntKind) (n : Int)
  | str (s : List UInt8)
  | nilp
  | ptr (v g o e : Nat)
  | nils
  | slice (v g q len : Nat) (lim : Option Nat) (sz : Nat)
  | emp (z : Bool)
  | nilm
  | map (m : Nat)
  | nilf
  | fn (f : Fn) (first cap : List AV)
  | nili
  | ifc (t : TypeId) (x : AV)
  | agg (l : List AV)
  | tup (l : List AV)
  | pan (x : AV)
  | yld (v : Nat)
  | row (z sz n : Nat) (cs : List AV)
  | fp (z : Nat) (cs : List AV) (o : Nat)
structure Base where
  blk : Nat
  off : Nat
  cap : Nat
  sz : Nat
  ext : Nat
  raw : Nat → Option Obj := fun _ => none
structure Emb where
  at_ : Nat → Nat → Option Base
  fz : Nat → Option (Nat × Obj)
  N : Nat
instance : CoeFun Emb (fun _ => Nat → Nat → Option Base) := ⟨Emb.at_⟩
def Emb.nil : Emb := ⟨fun _ _ => none, fun _ => none, 0⟩
def objCell (o : Obj) (i : Nat) : Option Value := match o with
  | .cells c _ _ => c[i]?
  | _ => none
mutual
def Rel (ρ : Emb) : AV → Value → Prop
  | .any, _ => True
  | .cst c, w => w = c
  | .bool b, w => w = .bool b
  | .int k n, w => w = .int k n
  | .str s, w => w = .string ⟨s.toArray⟩
  | .nilp, w => w = .pointer none
  | .ptr v g o e, w => ∃ b, ρ v g = some b ∧ e ≤ b.ext ∧ w = .pointer (some ⟨b.blk, b.off + o, none⟩)
  | .nils, w => w = .slice none 0 0
  | .slice v g q len lim sz, w => ∃ b c, ρ v g = some b ∧ (q + len) * sz ≤ b.ext ∧ len ≤ c ∧
      w = .slice (some ⟨b.blk, b.off + q * sz, none⟩) len c ∧ (match lim with | some l => c = l | none => c + q = b.cap ∧ b.sz = sz)
  | .emp z, w => ∃ a c, w = .slice (some a) 0 c ∧ (z = true → c = 0)
  | .nilm, w => w = .map none
  | .map m, w => ∃ b, ρ m 0 = some b ∧ w = .map (some b.blk)
  | .nilf, w => w = .nilFunc
  | .fn f a c, w => ∃ a' c', RelL ρ a a' ∧ RelL ρ c c' ∧ w = .func f ⟨a'⟩ ⟨c'⟩
  | .nili, w => w = .nilIface
  | .ifc t x, w => ∃ y, Rel ρ x y ∧ w = .iface t y
  | .agg l, w => ∃ l', RelL ρ l l' ∧ w = .agg ⟨l'⟩
  | .tup l, w => ∃ l', RelL ρ l l' ∧ w = .tuple ⟨l'⟩
  | .pan _, _ => False
  | .yld v, w => ∃ b, ρ v 0 = some b ∧ w = .func (.yield b.blk) #[] #[]
  | .row z sz n cs, w => ∃ o c, w = .slice o n c ∧ (n ≤ c ∧ (o = none → c = 0)) ∧ cs.length = n * sz ∧ (n = 0 ∨ ∃ k off ob, o = some ⟨k, off, none⟩ ∧ (∃ z', ρ.fz k = some (z', ob) ∧ z ≤ z') ∧ RelC ρ ob cs off)
  | .fp z cs o, w => ∃ k off ob, w = .pointer (some ⟨k, off + o, none⟩) ∧ (∃ z', ρ.fz k = some (z', ob) ∧ z ≤ z') ∧ RelC ρ ob cs off
def RelC (ρ : Emb) (ob : Obj) : List AV → Nat → Prop
  | [], _ => True
  | a :: as, i => (∃ y, objCell ob i = some y ∧ Rel ρ a y) ∧ RelC ρ ob as (i + 1)
def RelL (ρ : Emb) : List AV → List Value → Prop
  | [], w => w = []
  | a :: as, w => ∃ y ys, w = y :: ys ∧ Rel ρ a y ∧ RelL ρ as ys
end
structure Ext (ρ ρ' : Emb) : Prop where
  at_ : ∀ v g b, ρ v g = some b → ρ' v g = some b
  fz : ∀ k x, ρ.fz k = some x → ρ'.fz k = some x
  old : ∀ k x, ρ'.fz k = some x → ρ.fz k = some x ∨ ρ.N ≤ k
  N : ρ'.N = ρ.N
instance {ρ ρ' : Emb} : CoeFun (Ext ρ ρ') (fun _ => ∀ v g b, ρ v g = some b → ρ' v g = some b) := ⟨Ext.at_⟩
theorem Ext.refl (ρ : Emb) : Ext ρ ρ := ⟨fun _ _ _ h => h, fun _ _ h => h, fun _ _ h => .inl h, rfl⟩
theorem Ext.trans {a b c : Emb} (h : Ext a b) (k : Ext b c) : Ext a c := ⟨fun v g x hx => k v g x (h v g x hx), fun n x hx => k.fz n x (h.fz n x hx), fun n x hx => (k.old n x hx).elim (h.old n x) fun e => .inr (h.N ▸ e), k.N.trans h.N⟩
mutual
theorem Rel.ext {ρ ρ' : Emb} (h : Ext ρ ρ') : ∀ (a : AV) (v : Value), Rel ρ a v → Rel ρ' a v
  | .any, _, r => by simp [Rel] at r ⊢
  | .cst _, _, r => by simpa [Rel] using r
  | .bool _, _, r => by simpa [Rel] using r
  | .int _ _, _, r => by simpa [Rel] using r
  | .str _, _, r => by simpa [Rel] using r
  | .nilp, _, r => by simpa [Rel] using r
  | .ptr v g o e, _, r => by
    simp only [Rel] at r ⊢
    obtain ⟨b, hb, h1, h2⟩ := r
    exact ⟨b, h _ _ _ hb, h1, h2⟩
  | .nils, _, r => by simpa [Rel] using r
  | .slice v g q len lim sz, _, r => by
    simp only [Rel] at r ⊢
    obtain ⟨b, c, hb, h1⟩ := r
    exact ⟨b, c, h _ _ _ hb, h1⟩
  | .emp _, _, r => by simpa [Rel] using r
  | .nilm, _, r => by simpa [Rel] using r
  | .map m, _, r => by
    simp only [Rel] at r ⊢
    obtain ⟨b, hb, h1⟩ := r
    exact ⟨b, h _ _ _ hb, h1⟩
  | .nilf, _, r => by simpa [Rel] using r
  | .fn f a c, _, r => by
    simp only [Rel] at r ⊢
    obtain ⟨a', c', h1, h2, h3⟩ := r
    exact ⟨a', c', RelL.ext h a a' h1, RelL.ext h c c' h2, h3⟩
  | .nili, _, r => by simpa [Rel] using r
  | .ifc t x, _, r => by
    simp only [Rel] at r ⊢
    obtain ⟨y, h1, h2⟩ := r
    exact ⟨y, Rel.ext h x y h1, h2⟩
  | .agg l, _, r => by
    simp only [Rel] at r ⊢
    obtain ⟨l', h1, h2⟩ := r
    exact ⟨l', RelL.ext h l l' h1, h2⟩
  | .tup l, _, r => by
    simp only [Rel] at r ⊢
    obtain ⟨l', h1, h2⟩ := r
    exact ⟨l', RelL.ext h l l' h1, h2⟩
  | .pan _, _, r => by simp [Rel] at r
  | .yld v, _, r => by
    simp only [Rel] at r ⊢
    obtain ⟨b, hb, h1⟩ := r
    exact ⟨b, h _ _ _ hb, h1⟩
  | .row z sz n cs, _, r => by
    simp only [Rel] at r ⊢
    obtain ⟨o, c, h1, h2, h3, h4⟩ := r
    refine ⟨o, c, h1, h2, h3, h4.imp id ?_⟩
    rintro ⟨k, off, ob, q1, q2, q3⟩
    exact ⟨k, off, ob, q1, q2.imp fun z' q => ⟨h.fz _ _ q.1, q.2⟩, RelC.ext h ob cs off q3⟩
  | .fp z cs o, _, r => by
    simp only [Rel] at r ⊢
    obtain ⟨k, off, ob, q1, q2, q3⟩ := r
    exact ⟨k, off, ob, q1, q2.imp fun z' q => ⟨h.fz _ _ q.1, q.2⟩, RelC.ext h ob cs off q3⟩
theorem RelC.ext {ρ ρ' : Emb} (h : Ext ρ ρ') (ob : Obj) : ∀ (cs : List AV) (i : Nat), RelC ρ ob cs i → RelC ρ' ob cs i
  | [], _, _ => by simp [RelC]
  | a :: as, i, r => by
    simp only [RelC] at r ⊢
    obtain ⟨⟨y, h1, h2⟩, h3⟩ := r
    exact ⟨⟨y, h1, Rel.ext h a y h2⟩, RelC.ext h ob as (i + 1) h3⟩
theorem RelL.ext {ρ ρ' : Emb} (h : Ext ρ ρ') : ∀ (a : List AV) (v : List Value), RelL ρ a v → RelL ρ' a v
  | [], _, r => by simpa [RelL] using r
  | x :: xs, _, r => by
    simp only [RelL] at r ⊢
    obtain ⟨y, ys, e, h1, h2⟩ := r
    exact ⟨y, ys, e, Rel.ext h x y h1, RelL.ext h xs ys h2⟩
end
inductive BT (α : Type) where
  | nil
  | node (l : BT α) (v : Option α) (r : BT α)
def BT.get {α : Type} : BT α → Nat → Option α
  | .nil, _ => none
  | .node l v r, k =>
    match k with
    | 0 => v
    | k + 1 => match k % 2 with
      | 0 => l.get (k / 2)
      | _ => r.get (k / 2)
def BT.mkL {α : Type} (v : Option α) (r : BT α) : BT α → BT α
  | .nil => .node .nil v r
  | .node a b c => .node (.node a b c) v r
def BT.mkR {α : Type} (l : BT α) (v : Option α) : BT α → BT α
  | .nil => .node l v .nil
  | .node a b c => .node l v (.node a b c)
def BT.setF {α : Type} (x : α) : Nat → BT α → Nat → BT α
  | 0, t, _ => t
  | f + 1, .nil, k =>
    match k with
    | 0 => .node .nil (some x) .nil
    | k + 1 => match k % 2 with
      | 0 => BT.mkL none .nil (BT.setF x f .nil (k / 2))
      | _ => BT.mkR .nil none (BT.setF x f .nil (k / 2))
  | f + 1, .node l v r, k =>
    match k with
    | 0 => .node l (some x) r
    | k + 1 => match k % 2 with
      | 0 => BT.mkL v r (BT.setF x f l (k / 2))
      | _ => BT.mkR l v (BT.setF x f r (k / 2))
def BT.set {α : Type} (t : BT α) (k : Nat) (x : α) : BT α := BT.setF x (k + 1) t k
theorem BT.mkL_eq {α : Type} (v : Option α) (r t : BT α) : BT.mkL v r t = .node t v r := by cases t <;> rfl
theorem BT.mkR_eq {α : Type} (v : Option α) (l t : BT α) : BT.mkR l v t = .node l v t := by cases t <;> rfl
theorem BT.get_nil {α : Type} (k : Nat) : (BT.nil : BT α).get k = none := by cases k <;> rfl
theorem BT.get_setF {α : Type} (x : α) : ∀ (f : Nat) (t : BT α) (k j : Nat), k < f → (BT.setF x f t k).get j = if j = k then some x else t.get j := by
  intro f
  induction f with
  | zero => intro t k j h; omega
  | succ f ih =>
    intro t k j h
    cases t with
    | nil =>
      cases k with
      | zero => cases j with
        | zero => simp [BT.setF, BT.get]
        | succ j => simp only [BT.setF, BT.get]; split <;> simp
      | succ k =>
        have hk : k / 2 < f := by omega
        rcases Nat.mod_two_eq_zero_or_one k with hm | hm
        · simp only [BT.setF, hm, BT.mkL_eq]
          cases j with
          | zero => simp [BT.get]
          | succ j =>
            rcases Nat.mod_two_eq_zero_or_one j with hj | hj
            · simp only [BT.get, hj, ih _ _ _ hk]
              by_cases e : j = k
              · subst e; simp
              · have : ¬ j / 2 = k / 2 := by omega
                simp [e, this]
            · have : ¬ j = k := by intro e; subst e; omega
              simp [BT.get, hj, this]
        · simp only [BT.setF, hm, BT.mkR_eq]
          cases j with
          | zero => simp [BT.get]
          | succ j =>
            rcases Nat.mod_two_eq_zero_or_one j with hj | hj
            · have : ¬ j = k := by intro e; subst e; omega
              simp [BT.get, hj, this]
            · simp only [BT.get, hj, ih _ _ _ hk]
              by_cases e : j = k
              · subst e; simp
              · have : ¬ j / 2 = k / 2 := by omega
                simp [e, this]
    | node l v r =>
      cases k with
      | zero => cases j <;> simp [BT.setF, BT.get]
      | succ k =>
        have hk : k / 2 < f := by omega
        rcases Nat.mod_two_eq_zero_or_one k with hm | hm
        · simp only [BT.setF, hm, BT.mkL_eq]
          cases j with
          | zero => simp [BT.get]
          | succ j =>
            rcases Nat.mod_two_eq_zero_or_one j with hj | hj
            · simp only [BT.get, hj, ih _ _ _ hk]
              by_cases e : j = k
              · subst e; simp
              · have : ¬ j / 2 = k / 2 := by omega
                simp [e, this]
            · have : ¬ j = k := by intro e; subst e; omega
              simp [BT.get, hj, this]
        · simp only [BT.setF, hm, BT.mkR_eq]
          cases j with
          | zero => simp [BT.get]
          | succ j =>
            rcases Nat.mod_two_eq_zero_or_one j with hj | hj
            · have : ¬ j = k := by intro e; subst e; omega
              simp [BT.get, hj, this]
            · simp only [BT.get, hj, ih _ _ _ hk]
              by_cases e : j = k
              · subst e; simp
              · have : ¬ j / 2 = k / 2 := by omega
                simp [e, this]
theorem BT.get_set {α : Type} (t : BT α) (k j : Nat) (x : α) : (t.set k x).get j = if j = k then some x else t.get j :=
  BT.get_setF x (k + 1) t k j (by omega)
end Go.Proofs.Ytednmmcdjhfflaa.Vai
