/-
  A verified abstract interpreter, part Y: contracts of functions that look at what is frozen alone, and hand back what may be frozen: they leave the memory as it is, for whoever calls them.
-/
import Derived.Test.YtednmmcdjhfflaaVaiX
namespace Go.Proofs.Ytednmmcdjhfflaa.Vai
open Go Go.RowKit
def E0 : AS := ⟨.nil, 0, 0⟩
theorem E0_get (v : Nat) : E0.get v = none := BT.get_nil v
theorem E0_n : E0.n = 0 := rfl
def Emb.fr (fz : Nat → Option (Nat × Obj)) (N : Nat) : Emb := ⟨fun _ _ => none, fz, N⟩
def Frz (z : Nat) (S : AS) (x r : AV) : Prop := ∀ (w0 : World) (ρ : Emb) (w : World) (v : Value) (fz' : Nat → Option (Nat × Obj)) (N : Nat), RS w0 ρ S w → Rel ρ x v →
  (∀ k a, ρ.fz k = some a → fz' k = some a) → (∀ k ob, w0.heap.size ≤ k → ρ.fz k = none → w.heap[k]? = some ob → fz' k = some (z, ob)) → Rel (.fr fz' N) r v
def FrzL (z : Nat) (S : AS) : List AV → List AV → Prop
  | [], [] => True
  | x :: xs, r :: rs => Frz z S x r ∧ FrzL z S xs rs
  | _, _ => False
section
variable {z : Nat} {S : AS} {x r : AV} {xs rs : List AV}
theorem FrzL.len : ∀ {xs rs : List AV}, FrzL z S xs rs → xs.length = rs.length
  | [], [], _ => rfl
  | [], _ :: _, h => h.elim
  | _ :: _, [], h => h.elim
  | _ :: _, _ :: _, h => congrArg (· + 1) (FrzL.len h.2)
theorem FrzL.get : ∀ {xs rs : List AV} {i : Nat} {r : AV}, FrzL z S xs rs → rs[i]? = some r → ∃ x, xs[i]? = some x ∧ Frz z S x r
  | [], [], _, _, _, hr => by simp at hr
  | [], _ :: _, _, _, h, _ => h.elim
  | _ :: _, [], _, _, h, _ => h.elim
  | x :: xs, r :: rs, i, r', h, hr => by
    cases i with
    | zero => simp at hr; subst hr; exact ⟨x, by simp, h.1⟩
    | succ i => simp at hr; obtain ⟨y, h1, h2⟩ := FrzL.get h.2 hr; exact ⟨y, by simpa using h1, h2⟩
theorem FrzL.mk : ∀ {xs rs : List AV}, xs.length = rs.length → (∀ (i : Nat) x r, xs[i]? = some x → rs[i]? = some r → Frz z S x r) → FrzL z S xs rs
  | [], [], _, _ => trivial
  | [], _ :: _, h, _ => by simp at h
  | _ :: _, [], h, _ => by simp at h
  | x :: xs, r :: rs, hl, h => ⟨h 0 x r (by simp) (by simp), FrzL.mk (by simpa using hl) fun i y s hy hs => h (i + 1) y s (by simpa using hy) (by simpa using hs)⟩
theorem Frz.scal (h : x.scalar = true) : Frz z S x x := fun _ _ _ v _ _ _ hr hz _ => Rel.scal (fun k a => hz k a) x v h hr
theorem FrzL.scal : ∀ {xs : List AV}, AV.scalL xs = true → FrzL z S xs xs
  | [], _ => trivial
  | x :: xs, h => by
    simp only [AV.scalL, Bool.and_eq_true] at h
    exact ⟨Frz.scal h.1, FrzL.scal h.2⟩
theorem Frz.any : Frz z S x .any := fun _ _ _ _ _ _ _ _ _ _ => trivial
theorem Frz.nils (z' sz : Nat) : Frz z S .nils (.row z' sz 0 []) := fun _ _ _ _ _ _ _ hr _ _ => ⟨none, 0, hr, ⟨Nat.le_refl _, fun _ => rfl⟩, by simp, .inl rfl⟩
theorem Frz.emp (b : Bool) (z' sz : Nat) : Frz z S (.emp b) (.row z' sz 0 []) := fun _ _ _ _ _ _ _ hr _ _ => by
  obtain ⟨a, c, h, _⟩ := hr
  exact ⟨some a, c, h, ⟨Nat.zero_le _, fun e => by cases e⟩, by simp, .inl rfl⟩
theorem Frz.slice {v g q n sz z0 gen lo : Nat} {lim : Option Nat} {opn : Bool} {c : List AV} (hg : S.get v = some (.cells c z0 gen lo opn false)) (h1 : lo ≤ g) (h2 : g ≤ gen) (h3 : (q + n) * sz ≤ c.length)
    (h : FrzL z S ((c.drop (q * sz)).take (n * sz)) rs) : Frz z S (.slice v g q n lim sz) (.row z sz n rs) := by
  intro w0 ρ w vv fz' N hS hr hz hn
  obtain ⟨b, cp, hb, hext, hcp, rfl, _⟩ := hr
  have hrow := hS.row hb hg h1 h2
  have hnf : ρ.fz b.blk = none := by
    cases e : ρ.fz b.blk with
    | none => rfl
    | some a => exact absurd rfl ((hS.fz _ _ _ e).2 v g b _ hg ⟨h1, h2⟩ rfl hb)
  have hlt := hrow.lt
  have hob : w.heap[b.blk]? = some w.heap[b.blk] := Array.getElem?_eq_getElem hlt
  have hfz := hn b.blk _ (hrow.high rfl).1 hnf hob
  have e1 : (q + n) * sz = q * sz + n * sz := Nat.add_mul _ _ _
  have hlen := h.len
  rw [List.length_take, List.length_drop] at hlen
  refine ⟨_, cp, rfl, ⟨hcp, fun e => by cases e⟩, by omega, .inr ⟨b.blk, b.off + q * sz, _, rfl, ⟨z, hfz, Nat.le_refl _⟩, RelC.mk fun j x hx => ?_⟩⟩
  obtain ⟨y, hy, hf⟩ := h.get hx
  have hj : j < n * sz := by
    rcases Nat.lt_or_ge j (n * sz) with hj | hj
    · exact hj
    · rw [List.getElem?_take, if_neg (by omega)] at hy; cases hy
  rw [List.getElem?_take, if_pos hj, List.getElem?_drop] at hy
  obtain ⟨u, hu, hru⟩ := hrow.cell (q * sz + j) y (by omega) hy
  refine ⟨u, ?_, hf w0 ρ w u fz' N hS hru hz hn⟩
  rw [← objCell_cell hob, ← hu, Nat.add_assoc]
theorem Frz.ptr {v g o e z0 gen lo : Nat} {opn : Bool} {c : List AV} (hg : S.get v = some (.cells c z0 gen lo opn false)) (h1 : lo ≤ g) (h2 : g ≤ gen)
    (h : FrzL z S (c.take e) rs) : Frz z S (.ptr v g o e) (.fp z rs o) := by
  intro w0 ρ w vv fz' N hS hr hz hn
  obtain ⟨b, hb, hext, rfl⟩ := hr
  have hrow := hS.row hb hg h1 h2
  have hnf : ρ.fz b.blk = none := by
    cases e : ρ.fz b.blk with
    | none => rfl
    | some a => exact absurd rfl ((hS.fz _ _ _ e).2 v g b _ hg ⟨h1, h2⟩ rfl hb)
  have hlt := hrow.lt
  have hob : w.heap[b.blk]? = some w.heap[b.blk] := Array.getElem?_eq_getElem hlt
  have hfz := hn b.blk _ (hrow.high rfl).1 hnf hob
  refine ⟨b.blk, b.off, _, rfl, ⟨z, hfz, Nat.le_refl _⟩, RelC.mk fun j x hx => ?_⟩
  obtain ⟨y, hy, hf⟩ := h.get hx
  have hj : j < e := by
    rcases Nat.lt_or_ge j e with hj | hj
    · exact hj
    · rw [List.getElem?_take, if_neg (by omega)] at hy; cases hy
  rw [List.getElem?_take, if_pos hj] at hy
  obtain ⟨u, hu, hru⟩ := hrow.cell j y (by omega) hy
  exact ⟨u, by rw [← objCell_cell hob, ← hu], hf w0 ρ w u fz' N hS hru hz hn⟩
theorem FrzL.rel : ∀ {xs rs : List AV}, FrzL z S xs rs → ∀ {w0 : World} {ρ : Emb} {w : World} {vs : List Value} {fz' : Nat → Option (Nat × Obj)} {N : Nat}, RS w0 ρ S w → RelL ρ xs vs →
    (∀ k a, ρ.fz k = some a → fz' k = some a) → (∀ k ob, w0.heap.size ≤ k → ρ.fz k = none → w.heap[k]? = some ob → fz' k = some (z, ob)) → RelL (.fr fz' N) rs vs
  | [], [], _, _, _, _, _, _, _, _, hr, _, _ => hr
  | [], _ :: _, h, _, _, _, _, _, _, _, _, _, _ => h.elim
  | _ :: _, [], h, _, _, _, _, _, _, _, _, _, _ => h.elim
  | x :: xs, r :: rs, h, w0, ρ, w, vs, fz', N, hS, hr, hz, hn => by
    obtain ⟨y, ys, rfl, h1, h2⟩ := hr
    exact ⟨y, ys, rfl, h.1 w0 ρ w y fz' N hS h1 hz hn, FrzL.rel h.2 hS h2 hz hn⟩
theorem Frz.agg (h : FrzL z S xs rs) : Frz z S (.agg xs) (.agg rs) := fun _ _ _ _ _ _ hS hr hz hn => by
  obtain ⟨l, h1, h2⟩ := hr
  exact ⟨l, h.rel hS h1 hz hn, h2⟩
theorem Frz.tup (h : FrzL z S xs rs) : Frz z S (.tup xs) (.tup rs) := fun _ _ _ _ _ _ hS hr hz hn => by
  obtain ⟨l, h1, h2⟩ := hr
  exact ⟨l, h.rel hS h1 hz hn, h2⟩
theorem Frz.fn (f : Fn) {as cs bs ds : List AV} (h1 : FrzL z S as bs) (h2 : FrzL z S cs ds) : Frz z S (.fn f as cs) (.fn f bs ds) := fun _ _ _ _ _ _ hS hr hz hn => by
  obtain ⟨a', c', q1, q2, q3⟩ := hr
  exact ⟨a', c', h1.rel hS q1 hz hn, h2.rel hS q2 hz hn, q3⟩
theorem Frz.ifc (t : TypeId) (h : Frz z S x r) : Frz z S (.ifc t x) (.ifc t r) := fun w0 ρ w _ fz' N hS hr hz hn => by
  obtain ⟨y, h1, h2⟩ := hr
  exact ⟨y, h w0 ρ w y fz' N hS h1 hz hn, h2⟩
end
def Wk (a b : AV) : Prop := ∀ (ρ : Emb) (v : Value), Rel ρ a v → Rel ρ b v
theorem Wk.refl (a : AV) : Wk a a := fun _ _ h => h
def WkL : List AV → List AV → Prop
  | [], [] => True
  | a :: as, b :: bs => Wk a b ∧ WkL as bs
  | _, _ => False
theorem WkL.rel : ∀ {as bs : List AV}, WkL as bs → ∀ {ρ : Emb} {vs : List Value}, RelL ρ as vs → RelL ρ bs vs
  | [], [], _, _, _, h => h
  | [], _ :: _, h, _, _, _ => h.elim
  | _ :: _, [], h, _, _, _ => h.elim
  | a :: as, b :: bs, h, ρ, vs, hr => by
    obtain ⟨y, ys, rfl, h1, h2⟩ := hr
    exact ⟨y, ys, rfl, h.1 ρ y h1, WkL.rel h.2 h2⟩
theorem WkL.relC : ∀ {as bs : List AV}, WkL as bs → ∀ {ρ : Emb} {ob : Obj} {i : Nat}, RelC ρ ob as i → RelC ρ ob bs i
  | [], [], _, _, _, _, h => h
  | [], _ :: _, h, _, _, _, _ => h.elim
  | _ :: _, [], h, _, _, _, _ => h.elim
  | a :: as, b :: bs, h, ρ, ob, i, hr => by
    simp only [RelC] at hr ⊢
    obtain ⟨⟨y, h1, h2⟩, h3⟩ := hr
    exact ⟨⟨y, h1, h.1 ρ y h2⟩, WkL.relC h.2 h3⟩
theorem WkL.len : ∀ {as bs : List AV}, WkL as bs → as.length = bs.length
  | [], [], _ => rfl
  | [], _ :: _, h => h.elim
  | _ :: _, [], h => h.elim
  | _ :: _, _ :: _, h => congrArg (· + 1) (WkL.len h.2)
theorem WkL.refl : ∀ as : List AV, WkL as as
  | [] => trivial
  | a :: as => ⟨Wk.refl a, WkL.refl as⟩
theorem Wk.row {z z' sz n m : Nat} {cs ds : List AV} (hz : z' ≤ z) (h : WkL cs ds) (hm : n * sz = cs.length → m = n) : Wk (.row z sz n cs) (.row z' sz m ds) := by
  rintro ρ v ⟨o, c, h1, h2, h3, h4⟩
  obtain rfl := hm h3.symm
  refine ⟨o, c, h1, h2, by rw [← h.len]; exact h3, h4.imp id ?_⟩
  rintro ⟨k, off, ob, g1, ⟨z'', g2, g3⟩, g4⟩
  exact ⟨k, off, ob, g1, ⟨z'', g2, Nat.le_trans hz g3⟩, h.relC g4⟩
theorem Wk.nils (z sz : Nat) : Wk .nils (.row z sz 0 []) := fun _ _ h => ⟨none, 0, h, ⟨Nat.le_refl _, fun _ => rfl⟩, by simp, .inl rfl⟩
theorem Wk.agg {as bs : List AV} (h : WkL as bs) : Wk (.agg as) (.agg bs) := by
  rintro ρ v ⟨l, h1, h2⟩
  exact ⟨l, h.rel h1, h2⟩
mutual
def AV.inz (z : Nat) : AV → Bool
  | .bool _ | .int _ _ | .str _ | .nilp | .nils | .nilm | .nilf | .nili => true
  | .tup l => AV.inzL z l
  | .agg l => AV.inzL z l
  | .row z' _ _ l => Nat.ble z z' && AV.inzL z l
  | .fp z' l _ => Nat.ble z z' && AV.inzL z l
  | .ifc _ x => AV.inz z x
  | .fn _ a c => AV.inzL z a && AV.inzL z c
  | .any => true
  | _ => false
def AV.inzL (z : Nat) : List AV → Bool
  | [] => true
  | a :: l => AV.inz z a && AV.inzL z l
end
mutual
theorem Rel.zone {z : Nat} {ρ ρ' : Emb} (hz : ∀ k a, ρ'.fz k = some a → z ≤ a.1 → ρ.fz k = some a) : ∀ (x : AV) (v : Value), x.inz z = true → Rel ρ' x v → Rel ρ x v
  | .any, _, hs, _ => trivial
  | .cst _, _, hs, _ => by simp [AV.inz] at hs
  | .bool _, _, _, h => by simpa [Rel] using h
  | .int _ _, _, _, h => by simpa [Rel] using h
  | .str _, _, _, h => by simpa [Rel] using h
  | .nilp, _, _, h => by simpa [Rel] using h
  | .ptr _ _ _ _, _, hs, _ => by simp [AV.inz] at hs
  | .nils, _, _, h => by simpa [Rel] using h
  | .slice _ _ _ _ _ _, _, hs, _ => by simp [AV.inz] at hs
  | .emp _, _, hs, _ => by simp [AV.inz] at hs
  | .nilm, _, _, h => by simpa [Rel] using h
  | .map _, _, hs, _ => by simp [AV.inz] at hs
  | .nilf, _, _, h => by simpa [Rel] using h
  | .fn f a c, v, hs, h => by
    simp only [AV.inz, Bool.and_eq_true] at hs
    simp only [Rel] at h ⊢
    obtain ⟨a', c', h1, h2, h3⟩ := h
    exact ⟨a', c', RelL.zone hz a a' hs.1 h1, RelL.zone hz c c' hs.2 h2, h3⟩
  | .nili, _, _, h => by simpa [Rel] using h
  | .ifc t x, v, hs, h => by
    simp only [AV.inz] at hs
    simp only [Rel] at h ⊢
    obtain ⟨y, h1, h2⟩ := h
    exact ⟨y, Rel.zone hz x y hs h1, h2⟩
  | .agg l, v, hs, h => by
    simp only [AV.inz] at hs
    simp only [Rel] at h ⊢
    obtain ⟨l', h1, h2⟩ := h
    exact ⟨l', RelL.zone hz l l' hs h1, h2⟩
  | .tup l, v, hs, h => by
    simp only [AV.inz] at hs
    simp only [Rel] at h ⊢
    obtain ⟨l', h1, h2⟩ := h
    exact ⟨l', RelL.zone hz l l' hs h1, h2⟩
  | .pan _, _, hs, _ => by simp [AV.inz] at hs
  | .yld _, _, hs, _ => by simp [AV.inz] at hs
  | .row z' sz n cs, v, hs, h => by
    simp only [AV.inz, Bool.and_eq_true, Nat.ble_eq] at hs
    simp only [Rel] at h ⊢
    obtain ⟨o, c, h1, h2, h3, h4⟩ := h
    refine ⟨o, c, h1, h2, h3, h4.imp id ?_⟩
    rintro ⟨k, off, ob, g1, ⟨z'', g2, g4⟩, g3⟩
    exact ⟨k, off, ob, g1, ⟨z'', hz _ _ g2 (by simp only; omega), g4⟩, RelC.zone hz cs ob off hs.2 g3⟩
  | .fp z' cs o, v, hs, h => by
    simp only [AV.inz, Bool.and_eq_true, Nat.ble_eq] at hs
    simp only [Rel] at h ⊢
    obtain ⟨k, off, ob, g1, ⟨z'', g2, g4⟩, g3⟩ := h
    exact ⟨k, off, ob, g1, ⟨z'', hz _ _ g2 (by simp only; omega), g4⟩, RelC.zone hz cs ob off hs.2 g3⟩
theorem RelC.zone {z : Nat} {ρ ρ' : Emb} (hz : ∀ k a, ρ'.fz k = some a → z ≤ a.1 → ρ.fz k = some a) : ∀ (cs : List AV) (ob : Obj) (i : Nat), AV.inzL z cs = true → RelC ρ' ob cs i → RelC ρ ob cs i
  | [], _, _, _, _ => by simp [RelC]
  | a :: as, ob, i, hs, h => by
    simp only [AV.inzL, Bool.and_eq_true] at hs
    simp only [RelC] at h ⊢
    obtain ⟨⟨y, h1, h2⟩, h3⟩ := h
    exact ⟨⟨y, h1, Rel.zone hz a y hs.1 h2⟩, RelC.zone hz as ob (i + 1) hs.2 h3⟩
theorem RelL.zone {z : Nat} {ρ ρ' : Emb} (hz : ∀ k a, ρ'.fz k = some a → z ≤ a.1 → ρ.fz k = some a) : ∀ (x : List AV) (v : List Value), AV.inzL z x = true → RelL ρ' x v → RelL ρ x v
  | [], _, _, h => by simpa [RelL] using h
  | x :: xs, _, hs, h => by
    simp only [AV.inzL, Bool.and_eq_true] at hs
    simp only [RelL] at h ⊢
    obtain ⟨y, ys, e, h1, h2⟩ := h
    exact ⟨y, ys, e, Rel.zone hz x y hs.1 h1, RelL.zone hz xs ys hs.2 h2⟩
end
def mapO (f : AV → Option AV) : List AV → Option (List AV)
  | [] => some []
  | a :: l => match f a, mapO f l with
    | some b, some m => some (b :: m)
    | _, _ => none
def frzF (S : AS) : Nat → AV → Option AV
  | 0, x => bif x.scalar then some x else none
  | f + 1, x => match x with
    | .slice v g q len _ sz => match S.get v with
      | some (.cells c _ gen lo _ false) => bif Nat.ble lo g && Nat.ble g gen && Nat.ble ((q + len) * sz) c.length then (mapO (frzF S f) ((c.drop (q * sz)).take (len * sz))).map (.row 0 sz len) else none
      | _ => none
    | .agg l => (mapO (frzF S f) l).map .agg
    | .emp _ => some (.row 0 1 0 [])
    | .ptr v g o e => match S.get v with
      | some (.cells c _ gen lo _ false) => bif Nat.ble lo g && Nat.ble g gen then (mapO (frzF S f) (c.take e)).map (.fp 0 · o) else none
      | _ => none
    | .fn k a c => match mapO (frzF S f) a, mapO (frzF S f) c with
      | some a', some c' => some (.fn k a' c')
      | _, _ => some .any
    | .ifc t x => match frzF S f x with
      | some y => some (.ifc t y)
      | none => some .any
    | x => bif x.scalar then some x else none
theorem mapO_frz {S : AS} {f : AV → Option AV} (hf : ∀ x r, f x = some r → Frz 0 S x r) : ∀ {xs rs : List AV}, mapO f xs = some rs → FrzL 0 S xs rs
  | [], rs, h => by cases h; trivial
  | x :: xs, rs, h => by
    simp only [mapO] at h
    split at h
    · rename_i b m h1 h2
      cases h
      exact ⟨hf _ _ h1, mapO_frz hf h2⟩
    · cases h
theorem frzF_frz {S : AS} : ∀ (f : Nat) (x r : AV), frzF S f x = some r → Frz 0 S x r := by
  have sc : ∀ x r, (bif AV.scalar x then some x else none) = some r → Frz 0 S x r := by
    intro x r h
    cases hs : x.scalar with
    | false => rw [hs] at h; cases h
    | true => rw [hs] at h; cases h; exact Frz.scal hs
  intro f
  induction f with
  | zero => intro x r h; exact sc x r h
  | succ f ih =>
    intro x r h
    simp only [frzF] at h
    split at h
    · rename_i v g q len lim sz
      split at h
      case h_2 => cases h
      rename_i c z0 gen lo opn hg
      cases hb : (Nat.ble lo g && Nat.ble g gen && Nat.ble ((q + len) * sz) c.length) with
      | false => rw [hb] at h; cases h
      | true =>
        rw [hb] at h
        simp only [cond_true, Option.map_eq_some_iff] at h
        obtain ⟨rs, h1, rfl⟩ := h
        simp only [Bool.and_eq_true, Nat.ble_eq] at hb
        exact Frz.slice hg hb.1.1 hb.1.2 hb.2 (mapO_frz ih h1)
    · simp only [Option.map_eq_some_iff] at h
      obtain ⟨rs, h1, rfl⟩ := h
      exact Frz.agg (mapO_frz ih h1)
    · cases h; exact Frz.emp _ _ _
    · rename_i v g o e
      split at h
      case h_2 => cases h
      rename_i c z0 gen lo opn hg
      cases hb : (Nat.ble lo g && Nat.ble g gen) with
      | false => rw [hb] at h; cases h
      | true =>
        rw [hb] at h
        simp only [cond_true, Option.map_eq_some_iff] at h
        obtain ⟨rs, h1, rfl⟩ := h
        simp only [Bool.and_eq_true, Nat.ble_eq] at hb
        exact Frz.ptr hg hb.1 hb.2 (mapO_frz ih h1)
    · split at h
      · rename_i h1 h2
        cases h
        exact Frz.fn _ (mapO_frz ih h1) (mapO_frz ih h2)
      · cases h; exact Frz.any
    · split at h
      · rename_i y hy; cases h; exact Frz.ifc _ (ih _ _ hy)
      · cases h; exact Frz.any
    · exact sc _ _ h
def fzNew (fz : Nat → Option (Nat × Obj)) (n : Nat) (w' : World) (k : Nat) : Option (Nat × Obj) := match fz k with
  | some a => some a
  | none => if n ≤ k then (w'.heap[k]?).map (1, ·) else none
def fzOld (fz : Nat → Option (Nat × Obj)) (n : Nat) (fz' : Nat → Option (Nat × Obj)) (k : Nat) : Option (Nat × Obj) := if k < n then fz k else fz' k
def fzAll (fz : Nat → Option (Nat × Obj)) (w : World) (k : Nat) : Option (Nat × Obj) := match fz k with
  | some a => some a
  | none => (w.heap[k]?).map (0, ·)
theorem fzNew_old {fz : Nat → Option (Nat × Obj)} {n : Nat} {w' : World} {k : Nat} {a : Nat × Obj} (h : fz k = some a) : fzNew fz n w' k = some a := by unfold fzNew; rw [h]
theorem fzNew_new {fz : Nat → Option (Nat × Obj)} {n : Nat} {w' : World} {k : Nat} {ob : Obj} (h : fz k = none) (hk : n ≤ k) (ho : w'.heap[k]? = some ob) : fzNew fz n w' k = some (1, ob) := by
  unfold fzNew; rw [h]; simp only [if_pos hk, ho, Option.map_some]
theorem fzNew_say {fz : Nat → Option (Nat × Obj)} {n : Nat} {w' : World} {k : Nat} {a : Nat × Obj} (h : fzNew fz n w' k = some a) : fz k = some a ∨ (n ≤ k ∧ w'.heap[k]? = some a.2) := by
  unfold fzNew at h
  split at h
  · rename_i b hb; cases h; exact .inl hb
  · split at h
    · cases hh : w'.heap[k]? with
      | none => rw [hh] at h; cases h
      | some o => rw [hh] at h; cases h; right; exact ⟨by assumption, rfl⟩
    · cases h
theorem fzAll_old {fz : Nat → Option (Nat × Obj)} {w : World} {k : Nat} {a : Nat × Obj} (h : fz k = some a) : fzAll fz w k = some a := by unfold fzAll; rw [h]
theorem fzAll_new {fz : Nat → Option (Nat × Obj)} {w : World} {k : Nat} {ob : Obj} (h : fz k = none) (ho : w.heap[k]? = some ob) : fzAll fz w k = some (0, ob) := by
  unfold fzAll; rw [h]; simp only [ho, Option.map_some]
theorem fzAll_say {fz : Nat → Option (Nat × Obj)} {w : World} {k : Nat} {a : Nat × Obj} (h : fzAll fz w k = some a) : fz k = some a ∨ (a.1 = 0 ∧ w.heap[k]? = some a.2) := by
  unfold fzAll at h
  split at h
  · rename_i b hb; cases h; exact .inl hb
  · cases hh : w.heap[k]? with
    | none => rw [hh] at h; cases h
    | some o => rw [hh] at h; cases h; exact .inr ⟨rfl, rfl⟩
def PureOk (P : Program) (f : Nat) (args : List AV) (r : AV) : Prop := ∀ (w : World) (fz : Nat → Option (Nat × Obj)) (cargs : List Value), (∀ k z ob, fz k = some (z, ob) → w.heap[k]? = some ob) → RelL (.fr fz w.heap.size) args cargs →
  (∀ w', (callFunc f cargs.toArray).run P w' = .ok (.enter f cargs.toArray) w') ∧
  Calls P f cargs.toArray w fun e w' => ∃ v fz', e = .returned v ∧ Below w.heap.size w w' ∧ (∀ k a, fz k = some a → fz' k = some a) ∧ (∀ k a, fz' k = some a → fz k = some a ∨ w.heap.size ≤ k) ∧
    (∀ k z ob, fz' k = some (z, ob) → w'.heap[k]? = some ob) ∧ Rel (.fr fz' w.heap.size) r v
theorem PureOk.split0 {P : Program} {f z sz : Nat} {as : List AV} {r : AV} (h1 : PureOk P f (.nils :: as) r) (h2 : PureOk P f (.emp false :: as) r) : PureOk P f (.row z sz 0 [] :: as) r := by
  intro w fz cargs hz hr
  obtain ⟨y, ys, rfl, ⟨o, c, g1, ⟨g2, g3⟩, _⟩, hys⟩ := hr
  cases o with
  | none =>
    have := g3 rfl
    subst this
    exact h1 w fz _ hz ⟨y, ys, rfl, g1, hys⟩
  | some a => exact h2 w fz _ hz ⟨y, ys, rfl, ⟨a, c, g1, fun e => by cases e⟩, hys⟩
theorem PureOk.wk {P : Program} {f : Nat} {as bs : List AV} {r : AV} (h : PureOk P f bs r) (k : WkL as bs) : PureOk P f as r := fun w fz cargs hz hr => h w fz cargs hz (k.rel hr)
def endP (res : List ARes) (r : AV) (e : AE) (F : Fr) (S : AS) : Prop := match e with
  | .exit _ => False
  | .pan _ => False
  | _ => ∃ l, resV F S res = some l ∧ Frz 1 S (resOne l) r
structure Fine (P : Program) (G : Giv) : Prop where
  fro : GivFro G
  ok : ∀ w0 ρ0, GivOk P w0 ρ0 G
theorem pure_run {P : Program} (hm : P.follows .mixedOrders = true) {kp : Nat → List Nat} {G : Giv} (hG : Fine P G) {L d f : Nat} {args : List AV} {nt : Nat} {res : List ARes} {code : AC} {r : AV}
    (hf : (ctxE P kp fun _ => none).fn f = some ⟨nt, res, code, .plain⟩) (hl : Nat.ble args.length nt = true)
    (h : WC (ctxE P kp fun _ => none) (callE G L d (ctxE P kp fun _ => none)) L code (params 0 args) E0 (endP res r)) : PureOk P f args r := by
  intro w fz cargs hz hr
  have h := WC.all code h
  simp only [ctxE] at hf
  cases hfu : P.funcs[f]? with
  | none => rw [hfu] at hf; cases hf
  | some fu =>
  rw [hfu] at hf
  simp only [Option.bind_some] at hf
  have hS : RS w (.fr fz w.heap.size) E0 w := RS.start w fz _ (Nat.le_refl _) hz
  have hcall : CallOk P w (.fr fz w.heap.size) (callE G L d (ctxE P kp fun _ => none)) := call_sound hm hG.fro d (hG.ok _ _) EnvOk.none EnvFro.none
  rcases cFnM_say hf with ⟨c, rs, hb, hrs, hnm, hn, hres, hk⟩ | hf
  · cases hk
  obtain ⟨c, rs, hb, hrs, hnm, hn, hres, hkind⟩ := cFn_say hf
  simp only at hn hres
  subst hres
  have hcode : code = cCode P fu.ntmps (kp f) c := by
    rcases hkind with ⟨_, hcode⟩ | ⟨_, _, _, _, _, _, _, _, _, _, hk, _⟩ | ⟨_, _, _, _, _, _, _, _, _, _, _, hk, _⟩
    · exact hcode
    · cases hk
    · cases hk
  have hle : args.length ≤ fu.ntmps := by rw [← hn]; simpa using hl
  have hF0 := FRel.start hr hle
  refine ⟨fun w' => callFunc_enter hfu hb hnm _ w', calls_of_wp hfu hb ((wpIn_wide (n := 0)).1 ?_)⟩
  rw [hcode] at h
  refine code_sound (r0 := none) (m0 := 0) hm hcall EnvOk.none c _ _ _ _ w [] _ (Ext.refl _) hF0 rfl hS (R.All.mono h ?_)
  rintro ⟨e, F', S'⟩ hend ρ' zz a' w' he hx hF' hd' hS'
  have fin : endP res r .ret F' S' → ∃ v, (results fu a'.tmps).run P w' = .ok v w' ∧ ∃ v' fz', Ending.returned v = .returned v' ∧ Below w.heap.size w w' ∧ (∀ k a, fz k = some a → fz' k = some a) ∧ (∀ k a, fz' k = some a → fz k = some a ∨ w.heap.size ≤ k) ∧
      (∀ k z ob, fz' k = some (z, ob) → w'.heap[k]? = some ob) ∧ Rel (.fr fz' w.heap.size) r v' := by
    rintro ⟨l, hl, hfr⟩
    obtain ⟨v, hrv, hrun⟩ := results_run hF' hS' hrs hl
    refine ⟨v, hrun, v, fzNew ρ'.fz w.heap.size w', rfl, hS'.below, fun k a hk => fzNew_old (he.fz k a hk), fun k a hk => ?_, fun k z ob hk => ?_, ?_⟩
    · rcases fzNew_say hk with q | q
      · exact he.old k _ q
      · exact .inr q.1
    · rcases fzNew_say hk with q | q
      · exact (hS'.fz k z ob q).1
      · exact q.2
    · exact hfr w ρ' w' v _ _ hS' hrv (fun k a hk => fzNew_old hk) fun k ob hk hn ho => fzNew_new hn hk ho
  cases e with
  | norm => obtain rfl := hx; obtain ⟨v, h1, h2⟩ := fin hend; exact ⟨hd', v, h1, h2⟩
  | ret => obtain rfl := hx; obtain ⟨v, h1, h2⟩ := fin hend; exact ⟨hd', v, h1, h2⟩
  | exit id => exact hend.elim
  | pan y => exact hend.elim
theorem RS.more {w0 : World} {ρ : Emb} {S : AS} {w w' : World} {fz' : Nat → Option (Nat × Obj)} (h : RS w0 ρ S w) (hb : Below w.heap.size w w') (he : ∀ k a, ρ.fz k = some a → fz' k = some a) (ho : ∀ k a, fz' k = some a → ρ.fz k = some a ∨ w.heap.size ≤ k)
    (hz : ∀ k z ob, fz' k = some (z, ob) → w'.heap[k]? = some ob) : Ext ρ ⟨ρ.at_, fz', ρ.N⟩ ∧ RS w0 ⟨ρ.at_, fz', ρ.N⟩ S w' := by
  have hN : ρ.N ≤ w.heap.size := Nat.le_trans h.N h.below.size
  have hx : Ext ρ ⟨ρ.at_, fz', ρ.N⟩ := ⟨fun _ _ _ h => h, he, fun k a hk => (ho k a hk).imp id fun q => Nat.le_trans hN q, rfl⟩
  refine ⟨hx, h.below.trans (hb.mono h.below.size), h.dom, h.lt, fun v o hv => (h.obj v o hv).of_same hx hb.size fun _ _ hl hr => hb.block _ ((h.obj v o hv).blk_lt hl hr), h.gens, h.dis, fun k z ob hk => ⟨hz k z ob hk, fun v g b o hv hl hr hb' => ?_⟩, h.N⟩
  rcases ho k _ hk with q | q
  · exact (h.fz k z ob q).2 v g b o hv hl hr hb'
  · have := (h.obj v o hv).blk_lt hl hb'
    omega
def pureG (spec : List AV → Option AV) (args : List AV) (S : AS) : R (AV × AS) :=
  bif AV.scalL args then (match spec args with | some r => .one (r, S) | none => .no)
  else match mapO (frzF S 3) args with
    | some as => (match spec as with | some r => bif r.inz 1 then .one (r, S) else .no | none => .no)
    | none => .no
def PureS (P : Program) (f : Nat) (spec : List AV → Option AV) : Prop := ∀ args r, spec args = some r → PureOk P f args r ∧ r.inz 0 = true
def addG (f : Nat) (g : List AV → AS → R (AV × AS)) (G : Giv) : Giv := fun k => bif Nat.beq k f then some g else G k
theorem Fine.none {P : Program} : Fine P fun _ => .none := ⟨GivFro.none, fun _ _ => GivOk.none⟩
theorem Fine.add {P : Program} {G : Giv} (hG : Fine P G) {f : Nat} {g : List AV → AS → R (AV × AS)} (hf : ∀ args S, ∀ p ∈ (g args S).ls, Fro S p.2)
    (h : ∀ (w0 : World) (args : List AV) (S : AS) (ρ : Emb) (w : World) (cargs : List Value), RS w0 ρ S w → RelL ρ args cargs → ∀ T : AV × AS → Prop, (g args S).All T →
      (∀ w', (callFunc f cargs.toArray).run P w' = .ok (.enter f cargs.toArray) w') ∧ Calls P f cargs.toArray w fun e w' => ∃ p ρ', EndsAs ρ' p.1 e ∧ T p ∧ Ext ρ ρ' ∧ RS w0 ρ' p.2 w') : Fine P (addG f g G) := by
  refine ⟨fun k g' hk => ?_, fun w0 ρ0 k g' hk => ?_⟩
  · unfold addG at hk
    cases hb : Nat.beq k f <;> rw [hb] at hk
    · exact hG.fro k g' hk
    · cases hk; exact hf
  · unfold addG at hk
    cases hb : Nat.beq k f <;> rw [hb] at hk
    · exact hG.ok w0 ρ0 k g' hk
    · have : k = f := by simpa using hb
      subst this
      cases hk
      exact fun args S ρ w cargs _ => h w0 args S ρ w cargs
theorem Fine.pure {P : Program} {G : Giv} (hG : Fine P G) {f : Nat} {spec : List AV → Option AV} (h : PureS P f spec) : Fine P (addG f (pureG spec) G) := by
  refine hG.add ?_ ?_
  · intro args S p hp
    have hp' : p.2 = S := by
      unfold pureG at hp
      cases hs : AV.scalL args with
      | true =>
        rw [hs] at hp
        simp only [cond_true] at hp
        split at hp
        · rw [ls_one hp]
        · cases hp
      | false =>
        rw [hs] at hp
        simp only [cond_false] at hp
        split at hp
        · split at hp
          · rename_i r _
            cases hz : r.inz 1 <;> rw [hz] at hp
            · cases hp
            · rw [ls_one hp]
          · cases hp
        · cases hp
    rw [hp']; exact Fro.refl S
  · intro w0 args S ρ w cargs hS hr T hT
    unfold pureG at hT
    have hN : ρ.N ≤ w.heap.size := Nat.le_trans hS.N hS.below.size
    have fin : ∀ (z : Nat) (args' : List AV) (r : AV) (fz : Nat → Option (Nat × Obj)), spec args' = some r → T (r, S) → (∀ k a, ρ.fz k = some a → fz k = some a) → (∀ k z' ob, fz k = some (z', ob) → w.heap[k]? = some ob) → RelL (.fr fz w.heap.size) args' cargs → r.inz z = true →
        (∀ k a, fz k = some a → z ≤ a.1 → ρ.fz k = some a) → (∀ w', (callFunc f cargs.toArray).run P w' = .ok (.enter f cargs.toArray) w') ∧ Calls P f cargs.toArray w fun e w' => ∃ p ρ', EndsAs ρ' p.1 e ∧ T p ∧ Ext ρ ρ' ∧ RS w0 ρ' p.2 w' := by
      intro z args' r fz hsp hTr h1 h2 h3 h4 h5
      obtain ⟨q1, q2⟩ := (h args' r hsp).1 w fz cargs h2 h3
      refine ⟨q1, q2.mono ?_⟩
      rintro e w' ⟨v, fz', rfl, hb, g1, g2, g3, g4⟩
      obtain ⟨hx, hS'⟩ := hS.more (fz' := fzOld ρ.fz w.heap.size fz') hb (fun k a hk => by
          have hlt : k < w.heap.size := (Array.getElem?_eq_some_iff.1 (h2 k a.1 a.2 (h1 k a hk))).1
          unfold fzOld
          rw [if_pos hlt, hk]) (fun k a hk => by
          unfold fzOld at hk
          split at hk
          · exact .inl hk
          · exact .inr (by omega)) (fun k z' ob hk => by
          unfold fzOld at hk
          split at hk
          · exact g3 k z' ob (g1 _ _ (h1 _ _ hk))
          · exact g3 k z' ob hk)
      refine ⟨(r, S), _, .inl ⟨v, rfl, ?_⟩, hTr, hx, hS'⟩
      refine Rel.zone (z := z) (fun k a hk hza => ?_) r v h4 g4
      show fzOld ρ.fz w.heap.size fz' k = some a
      unfold fzOld
      split
      · rename_i hlt
        rcases g2 k a hk with q | q
        · exact h5 k a q hza
        · omega
      · exact hk
    cases hs : AV.scalL args with
    | true =>
      rw [hs] at hT
      simp only [cond_true] at hT
      split at hT
      case h_2 => exact hT.elim
      rename_i r hsp
      exact fin 0 args r ρ.fz hsp hT (fun _ _ h => h) (fun k z ob hk => (hS.fz k z ob hk).1) (RelL.scal (ρ := .fr ρ.fz w.heap.size) (ρ' := ρ) (fun _ _ h => h) _ _ hs hr) (h args r hsp).2 fun _ _ h _ => h
    | false =>
      rw [hs] at hT
      simp only [cond_false] at hT
      split at hT
      case h_2 => exact hT.elim
      rename_i as has
      split at hT
      case h_2 => exact hT.elim
      rename_i r hsp
      cases hz : r.inz 1 with
      | false => rw [hz] at hT; exact hT.elim
      | true =>
        rw [hz] at hT
        have hfl := mapO_frz (fun x r h => frzF_frz 3 x r h) has
        refine fin 1 as r (fzAll ρ.fz w) hsp hT (fun k a hk => fzAll_old hk) (fun k z' ob hk => ?_) (hfl.rel hS hr (fun k a hk => fzAll_old hk) fun k ob _ hn ho => fzAll_new hn ho) hz fun k a hk hza => ?_
        · rcases fzAll_say hk with q | q
          · exact (hS.fz k z' ob q).1
          · exact q.2
        · rcases fzAll_say hk with q | q
          · exact q
          · omega
end Go.Proofs.Ytednmmcdjhfflaa.Vai
