/-
  A verified abstract interpreter, part B: abstract memory, and how it is related to the machine's.
-/
import Derived.Test.YtednmmcdjhfflaaVaiA
import Derived.Laws.AppendOwn
import Derived.Laws.IdiomCopy
namespace Go.Proofs.Ytednmmcdjhfflaa.Vai
open Go Go.RowKit
inductive AObj where
  | cells (c : List AV) (sz gen lo : Nat) (opn ro : Bool)
  | map (es : List (AV × AV × Nat)) (clock : Nat)
  | iter (m : Option Nat) (bs : List Nat) (clock : Nat) (rem : List Nat) (cur : Option Nat)
  | raw (k : Nat)
structure AS where
  objs : BT AObj
  n : Nat
  mw : Nat
def AS.get (S : AS) (v : Nat) : Option AObj := S.objs.get v
def AS.push (S : AS) (o : AObj) : AS := ⟨S.objs.set S.n o, S.n + 1, S.mw⟩
def AS.put (S : AS) (v : Nat) (o : AObj) : AS := ⟨S.objs.set v o, S.n, bif Nat.blt v S.mw then v else S.mw⟩
theorem AS.get_push (S : AS) (o : AObj) (v : Nat) : (S.push o).get v = if v = S.n then some o else S.get v := BT.get_set _ _ _ _
theorem AS.get_put (S : AS) (u : Nat) (o : AObj) (v : Nat) : (S.put u o).get v = if v = u then some o else S.get v := BT.get_set _ _ _ _
@[simp] theorem AS.n_push (S : AS) (o : AObj) : (S.push o).n = S.n + 1 := rfl
@[simp] theorem AS.n_put (S : AS) (v : Nat) (o : AObj) : (S.put v o).n = S.n := rfl
def AObj.live : AObj → Nat → Prop
  | .cells _ _ gen lo _ _, g => lo ≤ g ∧ g ≤ gen
  | _, g => g = 0
def AObj.top : AObj → Nat
  | .cells _ _ gen _ _ _ => gen
  | _ => 0
def AObj.ro : AObj → Bool
  | .cells _ _ _ _ _ ro => ro
  | _ => false
def RelE (ρ : Emb) : List (AV × AV × Nat) → List MapEntry → Prop
  | [], l => l = []
  | (k, x, n) :: es, l => ∃ k' y ys, l = ⟨k', y, n⟩ :: ys ∧ Rel ρ k k' ∧ Rel ρ x y ∧ RelE ρ es ys
theorem RelE.ext {ρ ρ' : Emb} (h : Ext ρ ρ') : ∀ (a : List (AV × AV × Nat)) (l : List MapEntry), RelE ρ a l → RelE ρ' a l
  | [], _, r => r
  | (k, x, n) :: es, _, r => by
    obtain ⟨k', y, ys, e, h0, h1, h2⟩ := r
    exact ⟨k', y, ys, e, Rel.ext h k k' h0, Rel.ext h x y h1, RelE.ext h es ys h2⟩
def IterOk (bs : List Nat) (rem : List Nat) (cur : Option Nat) (seen : Array Nat) : Prop :=
  rem = bs.filter (fun b => !seen.contains b) ∧ (∀ c, cur = some c → seen.back? = some c)
structure RGen (B : Nat) (ρ : Emb) (w : World) (c : List AV) (sz : Nat) (ro : Bool) (b : Base) : Prop where
  sz : b.sz = sz
  lt : b.blk < w.heap.size
  low : ro = true → b.blk < B
  high : ro = false → B ≤ b.blk ∧ b.off = 0
  ext : b.ext ≤ c.length
  cell : ∀ i x, i < b.ext → c[i]? = some x → ∃ y, w.cell? ⟨b.blk, b.off + i, none⟩ = some y ∧ Rel ρ x y
def RObj (B : Nat) (ρ : Emb) (v : Nat) (w : World) : AObj → Prop
  | .cells c sz gen lo opn ro =>
    (∃ b, ρ v gen = some b ∧ b.ext = c.length ∧ c.length ≤ b.cap * sz ∧ (opn = false → b.cap * sz = c.length) ∧
      (ro = false → ∀ i, i < b.cap * sz → (w.cell? ⟨b.blk, i, none⟩).isSome = true ∧ w.frozen? ⟨b.blk, i, none⟩ = false)) ∧
    lo ≤ gen ∧ ∀ g, lo ≤ g → g ≤ gen → ∃ b, ρ v g = some b ∧ RGen B ρ w c sz ro b
  | .map es clock => ∃ b es', ρ v 0 = some b ∧ B ≤ b.blk ∧ w.heap[b.blk]? = some (.map es' clock) ∧ RelE ρ es es'.toList
  | .iter m bs clock rem cur => ∃ b, ρ v 0 = some b ∧ (B ≤ b.blk ∧ b.off = 0) ∧ match m with
    | none => ∃ since seen last, w.heap[b.blk]? = some (.mapIter none since seen last)
    | some m => ∃ mb seen, ρ m 0 = some mb ∧ w.heap[b.blk]? = some (.mapIter (some mb.blk) clock seen clock) ∧ IterOk bs rem cur seen
  | .raw k => ∃ b o, ρ v 0 = some b ∧ (B ≤ b.blk ∧ b.off = 0) ∧ b.raw k = some o ∧ w.heap[b.blk]? = some o
structure RS (w0 : World) (ρ : Emb) (S : AS) (w : World) : Prop where
  below : Below w0.heap.size w0 w
  dom : ∀ v g b, ρ v g = some b → v < S.n
  lt : ∀ v o, S.get v = some o → v < S.n
  obj : ∀ v o, S.get v = some o → RObj w0.heap.size ρ v w o
  gens : ∀ v o, S.get v = some o → ∀ g b, ρ v g = some b → g ≤ o.top
  dis : ∀ v v' g g' b b' o o', v ≠ v' → S.get v = some o → S.get v' = some o' → o.live g → o'.live g' → o.ro = false → o'.ro = false →
    ρ v g = some b → ρ v' g' = some b' → b.blk ≠ b'.blk
  fz : ∀ k z ob, ρ.fz k = some (z, ob) → w.heap[k]? = some ob ∧ ∀ v g b o, S.get v = some o → o.live g → o.ro = false → ρ v g = some b → b.blk ≠ k
  N : ρ.N ≤ w0.heap.size
def Emb.put (ρ : Emb) (v g : Nat) (b : Base) : Emb := ⟨fun v' g' => if v' = v ∧ g' = g then some b else ρ v' g', ρ.fz, ρ.N⟩
theorem Emb.put_self (ρ : Emb) (v g : Nat) (b : Base) : ρ.put v g b v g = some b := by simp [Emb.put]
theorem Emb.put_other (ρ : Emb) {v g v' g' : Nat} (b : Base) (h : v' ≠ v ∨ g' ≠ g) : ρ.put v g b v' g' = ρ v' g' := by
  simp only [Emb.put]; rw [if_neg]; rintro ⟨rfl, rfl⟩; simp at h
theorem Emb.ext_put {ρ : Emb} {v g : Nat} (b : Base) (h : ρ v g = none) : Ext ρ (ρ.put v g b) := by
  refine ⟨fun v' g' b' hb => ?_, fun _ _ h => h, fun _ _ h => .inl h, rfl⟩
  by_cases e : v' = v ∧ g' = g
  · obtain ⟨rfl, rfl⟩ := e; rw [h] at hb; cases hb
  · simp [Emb.put, e, hb]
def onBlocks (ρ : Emb) (v : Nat) (o : AObj) (p : Nat → Prop) : Prop := ∀ g b, o.live g → ρ v g = some b → p b.blk
theorem RGen.of_same {B : Nat} {ρ ρ' : Emb} {w w' : World} {c : List AV} {sz : Nat} {ro : Bool} {b : Base} (h : RGen B ρ w c sz ro b) (hx : Ext ρ ρ')
    (hs : w.heap.size ≤ w'.heap.size) (hb : w'.heap[b.blk]? = w.heap[b.blk]?) : RGen B ρ' w' c sz ro b := by
  refine ⟨h.sz, by have := h.lt; omega, h.low, h.high, h.ext, fun i x hi hx' => ?_⟩
  obtain ⟨y, hy, hr⟩ := h.cell i x hi hx'
  exact ⟨y, by rw [World.cell?_of_block (w := w) (a := ⟨b.blk, b.off + i, none⟩) hb]; exact hy, Rel.ext hx _ _ hr⟩
theorem RObj.of_same {B : Nat} {ρ ρ' : Emb} {v : Nat} {w w' : World} {o : AObj} (h : RObj B ρ v w o) (hx : Ext ρ ρ') (hs : w.heap.size ≤ w'.heap.size)
    (hb : onBlocks ρ v o fun k => w'.heap[k]? = w.heap[k]?) : RObj B ρ' v w' o := by
  cases o with
  | cells c sz gen lo opn ro =>
    obtain ⟨⟨b, h1, h2, h3, h4, h5⟩, hlo, hg⟩ := h
    have hbb := hb gen b ⟨hlo, Nat.le_refl _⟩ h1
    refine ⟨⟨b, hx _ _ _ h1, h2, h3, h4, fun hr i hi => ?_⟩, hlo, fun g hg1 hg2 => ?_⟩
    · obtain ⟨q1, q2⟩ := h5 hr i hi
      exact ⟨by rw [World.cell?_of_block (w := w) (a := ⟨b.blk, i, none⟩) hbb]; exact q1, by rw [World.frozen?_of_block (w := w) (a := ⟨b.blk, i, none⟩) hbb]; exact q2⟩
    · obtain ⟨b', hb', r⟩ := hg g hg1 hg2
      exact ⟨b', hx _ _ _ hb', r.of_same hx hs (hb g b' ⟨hg1, hg2⟩ hb')⟩
  | map es clock =>
    obtain ⟨b, es', h1, h2, h3, h4⟩ := h
    exact ⟨b, es', hx _ _ _ h1, h2, by rw [hb 0 b rfl h1]; exact h3, RelE.ext hx _ _ h4⟩
  | iter m bs clock rem cur =>
    obtain ⟨b, h1, h2, h3⟩ := h
    refine ⟨b, hx _ _ _ h1, h2, ?_⟩
    have hbb := hb 0 b rfl h1
    cases m with
    | none => simp only at h3 ⊢; rw [hbb]; exact h3
    | some m =>
      obtain ⟨mb, seen, h4, h5, h6⟩ := h3
      exact ⟨mb, seen, hx _ _ _ h4, by rw [hbb]; exact h5, h6⟩
  | raw k =>
    obtain ⟨b, o, h1, h2, h3, h4⟩ := h
    exact ⟨b, o, hx _ _ _ h1, h2, h3, by rw [hb 0 b rfl h1]; exact h4⟩
theorem RObj.blk_lt {B : Nat} {ρ : Emb} {v : Nat} {w : World} {o : AObj} (h : RObj B ρ v w o) {g : Nat} {b : Base} (hl : o.live g) (hr : ρ v g = some b) : b.blk < w.heap.size := by
  cases o with
  | cells c sz gen lo opn ro =>
    obtain ⟨_, _, hg⟩ := h
    obtain ⟨b', hb', r⟩ := hg g hl.1 hl.2
    rw [hr] at hb'; cases hb'; exact r.lt
  | map es clock =>
    obtain ⟨b', es', h1, h2, h3, h4⟩ := h
    cases hl; rw [hr] at h1; cases h1
    exact (Array.getElem?_eq_some_iff.1 h3).1
  | iter m bs clock rem cur =>
    obtain ⟨b', h1, h2, h3⟩ := h
    cases hl; rw [hr] at h1; cases h1
    cases m with
    | none => obtain ⟨_, _, _, h3⟩ := h3; exact (Array.getElem?_eq_some_iff.1 h3).1
    | some m => obtain ⟨mb, seen, h4, h5, h6⟩ := h3; exact (Array.getElem?_eq_some_iff.1 h5).1
  | raw k =>
    obtain ⟨b', o, h1, h2, h3, h4⟩ := h
    cases hl; rw [hr] at h1; cases h1
    exact (Array.getElem?_eq_some_iff.1 h4).1
theorem RObj.blk_high {B : Nat} {ρ : Emb} {v : Nat} {w : World} {o : AObj} (h : RObj B ρ v w o) {g : Nat} {b : Base} (hl : o.live g) (hro : o.ro = false) (hr : ρ v g = some b) : B ≤ b.blk := by
  cases o with
  | cells c sz gen lo opn ro =>
    obtain ⟨_, _, hg⟩ := h
    obtain ⟨b', hb', r⟩ := hg g hl.1 hl.2
    rw [hr] at hb'; cases hb'; exact (r.high hro).1
  | map es clock =>
    obtain ⟨b', es', h1, h2, h3, h4⟩ := h
    cases hl; rw [hr] at h1; cases h1; exact h2
  | iter m bs clock rem cur =>
    obtain ⟨b', h1, h2, h3⟩ := h
    cases hl; rw [hr] at h1; cases h1; exact h2.1
  | raw k =>
    obtain ⟨b', o, h1, h2, h3, h4⟩ := h
    cases hl; rw [hr] at h1; cases h1; exact h2.1
theorem RObj.blk_low {B : Nat} {ρ : Emb} {v : Nat} {w : World} {o : AObj} (h : RObj B ρ v w o) {g : Nat} {b : Base} (hl : o.live g) (hro : o.ro = true) (hr : ρ v g = some b) : b.blk < B := by
  cases o with
  | cells c sz gen lo opn ro =>
    obtain ⟨_, _, hg⟩ := h
    obtain ⟨b', hb', r⟩ := hg g hl.1 hl.2
    rw [hr] at hb'; cases hb'; exact r.low hro
  | map es clock => simp [AObj.ro] at hro
  | iter m bs clock rem cur => simp [AObj.ro] at hro
  | raw k => simp [AObj.ro] at hro
theorem RS.drew {w0 : World} {ρ : Emb} {S : AS} {w : World} (h : RS w0 ρ S w) : RS w0 ρ S w.drew :=
  ⟨h.below.drew, h.dom, h.lt, fun v o ho => (h.obj v o ho).of_same (Ext.refl _) (Nat.le_refl _) fun _ _ _ _ => rfl, h.gens, h.dis, h.fz, h.N⟩
theorem RS.alloc {w0 : World} {ρ : Emb} {S : AS} {w : World} (h : RS w0 ρ S w) (o : Obj) (x : AObj) (b : Base) (hb : b.blk = w.heap.size)
    (hl : ∀ g, x.live g ↔ g = 0) (hx : RObj w0.heap.size (ρ.put S.n 0 b) S.n (w.alloc o) x) :
    RS w0 (ρ.put S.n 0 b) (S.push x) (w.alloc o) ∧ Ext ρ (ρ.put S.n 0 b) := by
  have hnone : ∀ g, ρ S.n g = none := by
    intro g
    cases e : ρ S.n g with
    | none => rfl
    | some b' => have := h.dom _ _ _ e; omega
  have hext := Emb.ext_put (ρ := ρ) b (hnone 0)
  have hold : ∀ k, k < w.heap.size → (w.alloc o).heap[k]? = w.heap[k]? := fun k hk => Below.heap_alloc w o k hk
  refine ⟨⟨h.below.alloc h.below.size o, ?_, ?_, ?_, ?_, ?_, fun k z ob hk => ?_, h.N⟩, hext⟩
  rotate_right
  · obtain ⟨q1, q2⟩ := h.fz k z ob hk
    have hk' : k < w.heap.size := (Array.getElem?_eq_some_iff.1 q1).1
    refine ⟨by rw [hold k hk']; exact q1, fun v g b' o' hv hl2 hr hb' => ?_⟩
    rw [AS.get_push] at hv
    split at hv
    · rename_i e
      cases hv; subst e
      have hl0 := (hl g).1 hl2
      subst hl0
      rw [Emb.put_self] at hb'; cases hb'
      omega
    · rename_i e
      rw [Emb.put_other _ _ (.inl e)] at hb'
      exact q2 v g b' o' hv hl2 hr hb'
  · intro v g b' hb'
    simp only [AS.n_push]
    by_cases e : v = S.n
    · omega
    · rw [Emb.put_other _ _ (.inl e)] at hb'
      have := h.dom _ _ _ hb'; omega
  · intro v o' ho
    rw [AS.get_push] at ho
    simp only [AS.n_push]
    split at ho
    · omega
    · have := h.lt _ _ ho; omega
  · intro v o' ho
    rw [AS.get_push] at ho
    split at ho
    · rename_i e
      cases ho; subst e; exact hx
    · refine (h.obj v o' ho).of_same hext (by simp) fun g b' hlv hb' => hold _ ((h.obj v o' ho).blk_lt hlv hb')
  · intro v o' ho g b' hb'
    rw [AS.get_push] at ho
    split at ho
    · rename_i e
      cases ho; subst e
      by_cases hg : g = 0
      · omega
      · rw [Emb.put_other _ _ (.inr hg), hnone g] at hb'; cases hb'
    · rename_i e
      rw [Emb.put_other _ _ (.inl e)] at hb'
      exact h.gens v o' ho g b' hb'
  · intro v v' g g' b1 b2 o1 o2 hne h1 h2 l1 l2 r1 r2 e1 e2
    rw [AS.get_push] at h1 h2
    have key : ∀ v g b1 o1, v ≠ S.n → S.get v = some o1 → o1.live g → (ρ.put S.n 0 b) v g = some b1 → b1.blk < w.heap.size := by
      intro v g b1 o1 hv hg hlv he
      rw [Emb.put_other _ _ (.inl hv)] at he
      exact (h.obj v o1 hg).blk_lt hlv he
    split at h1
    · rename_i ev
      split at h2
      · omega
      · rename_i ev'
        cases h1
        rw [hl] at l1; subst l1; subst ev
        rw [Emb.put_self] at e1; cases e1
        have := key v' g' b2 o2 ev' h2 l2 e2
        omega
    · rename_i ev
      split at h2
      · rename_i ev'
        cases h2
        rw [hl] at l2; subst l2; subst ev'
        rw [Emb.put_self] at e2; cases e2
        have := key v g b1 o1 ev h1 l1 e1
        omega
      · rename_i ev'
        rw [Emb.put_other _ _ (.inl ev)] at e1
        rw [Emb.put_other _ _ (.inl ev')] at e2
        exact h.dis v v' g g' b1 b2 o1 o2 hne h1 h2 l1 l2 r1 r2 e1 e2
theorem RS.write {w0 : World} {ρ ρ' : Emb} {S : AS} {w w' : World} (h : RS w0 ρ S w) {u : Nat} {o x : AObj} (hu : S.get u = some o) (hro : o.ro = false)
    (hos : w'.os = w.os) (htape : w'.tape = w.tape) (hout : w'.output = w.output)
    (hs : w.heap.size ≤ w'.heap.size) (hext : Ext ρ ρ') (hsame : ∀ v g b, ρ' v g = some b → v = u ∨ ρ v g = some b)
    (hkeep : ∀ k, k < w.heap.size → (∀ g b, o.live g → ρ u g = some b → b.blk ≠ k) → w'.heap[k]? = w.heap[k]?)
    (hnew : ∀ g b, x.live g → ρ' u g = some b → (∃ g' b', o.live g' ∧ ρ u g' = some b' ∧ b'.blk = b.blk) ∨ w.heap.size ≤ b.blk)
    (htop : ∀ g b, ρ' u g = some b → g ≤ x.top)
    (hx : RObj w0.heap.size ρ' u w' x) (hfz : ρ'.fz = ρ.fz := by rfl) : RS w0 ρ' (S.put u x) w' := by
  have hou := h.obj u o hu
  have hlow : ∀ k, k < w0.heap.size → w'.heap[k]? = w.heap[k]? := fun k hk =>
    hkeep k (by have := h.below.size; omega) fun g b hl hb e => by have := hou.blk_high hl hro hb; omega
  refine ⟨h.below.trans ⟨hos, htape, hout, hs, hlow⟩, ?_, ?_, ?_, ?_, ?_, fun k z ob hk => ?_, by rw [hext.N]; exact h.N⟩
  rotate_right
  · rw [hfz] at hk
    obtain ⟨q1, q2⟩ := h.fz k z ob hk
    have hk' : k < w.heap.size := (Array.getElem?_eq_some_iff.1 q1).1
    refine ⟨by rw [hkeep k hk' fun g b hl hb => q2 u g b o hu hl hro hb]; exact q1, fun v g b' o' hv hl hr hb' => ?_⟩
    rw [AS.get_put] at hv
    split at hv
    · rename_i e
      cases hv; subst e
      rcases hnew g b' hl hb' with ⟨g3, b3, l3, e3, q3⟩ | hn
      · rw [← q3]; exact q2 _ g3 b3 o hu l3 hro e3
      · omega
    · rename_i e
      exact q2 v g b' o' hv hl hr ((hsame v g b' hb').resolve_left e)
  · intro v g b hb
    simp only [AS.n_put]
    rcases hsame v g b hb with rfl | hb'
    · exact h.lt _ _ hu
    · exact h.dom _ _ _ hb'
  · intro v o' ho
    rw [AS.get_put] at ho
    simp only [AS.n_put]
    split at ho
    · rename_i e; subst e; exact h.lt _ _ hu
    · exact h.lt _ _ ho
  · intro v o' ho
    rw [AS.get_put] at ho
    split at ho
    · rename_i e; cases ho; subst e; exact hx
    · rename_i e
      refine (h.obj v o' ho).of_same hext hs fun g b hl hb => hkeep _ ((h.obj v o' ho).blk_lt hl hb) fun g' b' hl' hb' => ?_
      by_cases hr : o'.ro = true
      · have := (h.obj v o' ho).blk_low hl hr hb
        have := hou.blk_high hl' hro hb'
        omega
      · exact h.dis u v g' g b' b o o' (Ne.symm e) hu ho hl' hl hro (by simpa using hr) hb' hb
  · intro v o' ho g b hb
    rw [AS.get_put] at ho
    split at ho
    · rename_i e; cases ho; subst e; exact htop g b hb
    · rename_i e
      exact h.gens v o' ho g b ((hsame v g b hb).resolve_left e)
  · intro v v' g g' b1 b2 o1 o2 hne h1 h2 l1 l2 r1 r2 e1 e2
    rw [AS.get_put] at h1 h2
    have key : ∀ v g b1 o1, v ≠ u → S.get v = some o1 → o1.live g → o1.ro = false → ρ' v g = some b1 → ∀ g2 b2, x.live g2 → ρ' u g2 = some b2 → b1.blk ≠ b2.blk := by
      intro v g b1 o1 hv hg hlv hr he g2 b2 hl2 he2
      have hb1 : ρ v g = some b1 := (hsame v g b1 he).resolve_left hv
      rcases hnew g2 b2 hl2 he2 with ⟨g3, b3, l3, e3, q3⟩ | hnew
      · rw [← q3]; exact h.dis v u g g3 b1 b3 o1 o hv hg hu hlv l3 hr hro hb1 e3
      · have := (h.obj v o1 hg).blk_lt hlv hb1; omega
    split at h1
    · rename_i ev
      split at h2
      · omega
      · rename_i ev'
        cases h1; subst ev
        exact (key v' g' b2 o2 ev' h2 l2 r2 e2 g b1 l1 e1).symm
    · rename_i ev
      split at h2
      · rename_i ev'
        cases h2; subst ev'
        exact key v g b1 o1 ev h1 l1 r1 e1 g' b2 l2 e2
      · rename_i ev'
        have e1' := (hsame v g b1 e1).resolve_left ev
        have e2' := (hsame v' g' b2 e2).resolve_left ev'
        exact h.dis v v' g g' b1 b2 o1 o2 hne h1 h2 l1 l2 r1 r2 e1' e2'
end Go.Proofs.Ytednmmcdjhfflaa.Vai
