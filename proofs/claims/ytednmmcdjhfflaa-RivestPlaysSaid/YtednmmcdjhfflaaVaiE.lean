/-
  A verified abstract interpreter, part E: the operations on memory are true of the machine.
-/
import Derived.Test.YtednmmcdjhfflaaVaiD
import Derived.Laws.Tables
import Derived.Laws.Append
namespace Go.Proofs.Ytednmmcdjhfflaa.Vai
open Go Go.RowKit
theorem addr_add (b o n : Nat) : (⟨b, o, none⟩ : Addr).add n = ⟨b, o + n, none⟩ := by unfold Addr.add; split <;> simp_all
theorem Rel.ofV1 (ρ : Emb) (v : Value) : Rel ρ (AV.ofV1 v) v := by
  unfold AV.ofV1
  split <;> simp [Rel]
theorem RelL.ofV1 (ρ : Emb) : ∀ l : List Value, RelL ρ (l.map AV.ofV1) l
  | [] => rfl
  | v :: l => ⟨v, l, rfl, Rel.ofV1 ρ v, RelL.ofV1 ρ l⟩
theorem Rel.ofV (ρ : Emb) (v : Value) : Rel ρ (AV.ofV v) v := by
  unfold AV.ofV
  split
  · rename_i cs
    exact ⟨cs.toList, RelL.ofV1 ρ _, by simp⟩
  · exact Rel.ofV1 ρ _
theorem RelL.length {ρ : Emb} : ∀ {a : List AV} {l : List Value}, RelL ρ a l → l.length = a.length
  | [], l, h => by simp [RelL] at h; simp [h]
  | x :: xs, l, h => by
    obtain ⟨y, ys, rfl, _, h2⟩ := h
    simp [RelL.length h2]
theorem RelL.get {ρ : Emb} : ∀ {a : List AV} {l : List Value} {i : Nat} {x : AV}, RelL ρ a l → a[i]? = some x → ∃ y, l[i]? = some y ∧ Rel ρ x y
  | [], _, _, _, _, hx => by simp at hx
  | x :: xs, l, i, z, h, hx => by
    obtain ⟨y, ys, rfl, h1, h2⟩ := h
    cases i with
    | zero => simp at hx; subst hx; exact ⟨y, by simp, h1⟩
    | succ i => simp at hx; obtain ⟨y', hy, hr⟩ := RelL.get h2 hx; exact ⟨y', by simpa using hy, hr⟩
theorem RelL.mk {ρ : Emb} : ∀ {a : List AV} {l : List Value}, l.length = a.length → (∀ (i : Nat) x, a[i]? = some x → ∃ y, l[i]? = some y ∧ Rel ρ x y) → RelL ρ a l
  | [], l, hl, _ => by simp at hl; exact hl
  | x :: xs, [], hl, _ => by simp at hl
  | x :: xs, y :: ys, hl, h => by
    refine ⟨y, ys, rfl, ?_, RelL.mk (by simpa using hl) fun i z hz => ?_⟩
    · obtain ⟨y', hy, hr⟩ := h 0 x (by simp); simp at hy; subst hy; exact hr
    · obtain ⟨y', hy, hr⟩ := h (i + 1) z (by simpa using hz); exact ⟨y', by simpa using hy, hr⟩
theorem RelL.append {ρ : Emb} : ∀ {a a' : List AV} {l l' : List Value}, RelL ρ a l → RelL ρ a' l' → RelL ρ (a ++ a') (l ++ l')
  | [], _, l, _, h, h' => by simp [RelL] at h; subst h; exact h'
  | x :: xs, _, l, _, h, h' => by
    obtain ⟨y, ys, rfl, h1, h2⟩ := h
    exact ⟨y, ys ++ _, rfl, h1, RelL.append h2 h'⟩
theorem RelL.drop {ρ : Emb} : ∀ {a : List AV} {l : List Value} (n : Nat), RelL ρ a l → RelL ρ (a.drop n) (l.drop n)
  | _, _, 0, h => h
  | [], l, n + 1, h => by simp [RelL] at h; subst h; simp [RelL]
  | x :: xs, l, n + 1, h => by obtain ⟨y, ys, rfl, _, h2⟩ := h; exact RelL.drop n h2
theorem RelL.take {ρ : Emb} : ∀ {a : List AV} {l : List Value} (n : Nat), RelL ρ a l → RelL ρ (a.take n) (l.take n)
  | _, _, 0, _ => by simp [RelL]
  | [], l, n + 1, h => by simp [RelL] at h; subst h; simp [RelL]
  | x :: xs, l, n + 1, h => by obtain ⟨y, ys, rfl, h1, h2⟩ := h; exact ⟨y, _, rfl, h1, RelL.take n h2⟩
theorem Rel.one {ρ : Emb} {x : AV} {y : Value} (h : Rel ρ x y) (h1 : x.one = true) : y.oneCell' = true := by
  cases x <;> simp only [Rel, AV.one] at h h1 <;> first
    | (subst h; first | exact h1 | rfl)
    | (obtain ⟨_, _, _, rfl⟩ := h; rfl)
    | (cases h1; done)
    | (obtain ⟨_, _, _, _, _, rfl, _⟩ := h; rfl)
    | (obtain ⟨_, _, rfl, _⟩ := h; rfl)
    | (obtain ⟨_, _, rfl⟩ := h; rfl)
    | (obtain ⟨_, _, _, _, rfl⟩ := h; rfl)
    | (obtain ⟨_, _, _, rfl, _⟩ := h; rfl)
theorem RelC.get {ρ : Emb} {ob : Obj} : ∀ {cs : List AV} {i j : Nat} {x : AV}, RelC ρ ob cs i → cs[j]? = some x → ∃ y, objCell ob (i + j) = some y ∧ Rel ρ x y
  | [], _, _, _, _, hx => by simp at hx
  | a :: as, i, j, x, h, hx => by
    simp only [RelC] at h
    cases j with
    | zero => simp at hx; subst hx; exact h.1
    | succ j =>
      obtain ⟨y, h1, h2⟩ := RelC.get h.2 (j := j) (by simpa using hx)
      exact ⟨y, by rw [← h1]; congr 1; omega, h2⟩
theorem RelC.mk {ρ : Emb} {ob : Obj} : ∀ {cs : List AV} {i : Nat}, (∀ j x, cs[j]? = some x → ∃ y, objCell ob (i + j) = some y ∧ Rel ρ x y) → RelC ρ ob cs i
  | [], _, _ => by simp [RelC]
  | a :: as, i, h => by
    simp only [RelC]
    refine ⟨h 0 a (by simp), RelC.mk fun j x hx => ?_⟩
    obtain ⟨y, h1, h2⟩ := h (j + 1) x (by simpa using hx)
    exact ⟨y, by rw [← h1]; congr 1; omega, h2⟩
theorem objCell_cell {w : World} {k i : Nat} {ob : Obj} (h : w.heap[k]? = some ob) : w.cell? ⟨k, i, none⟩ = objCell ob i := by
  simp only [World.cell?, h]
  cases ob <;> rfl
theorem RelL.ones {ρ : Emb} : ∀ {xs : List AV} {ys : List Value}, RelL ρ xs ys → xs.all AV.one = true → ∀ y ∈ ys, y.oneCell' = true
  | [], ys, h, _, y, hy => by simp [RelL] at h; subst h; cases hy
  | x :: xs, ys, h, h1, y, hy => by
    obtain ⟨z, zs, rfl, hz, hzs⟩ := h
    simp only [List.all_cons, Bool.and_eq_true] at h1
    rcases List.mem_cons.1 hy with rfl | hy
    · exact Rel.one hz h1.1
    · exact RelL.ones hzs h1.2 y hy
theorem Rel.cells {ρ : Emb} {x : AV} {y : Value} {l : List AV} (h : Rel ρ x y) (hc : x.cellsOf = some l) : RelL ρ l y.cells.toList := by
  have key : ∀ (z : AV) (y : Value), Rel ρ z y → y.oneCell' = true → RelL ρ [z] y.cells.toList := by
    intro z y hz h1
    have : y.cells = #[y] := by cases y <;> first | rfl | cases h1
    rw [this]
    exact ⟨y, [], rfl, hz, rfl⟩
  cases x with
  | agg l' =>
    simp only [AV.cellsOf, Option.some.injEq] at hc
    subst hc
    simp only [Rel] at h
    obtain ⟨ys, hr, rfl⟩ := h
    exact hr
  | tup _ => cases hc
  | any => cases hc
  | cst c =>
    simp only [AV.cellsOf] at hc
    cases h1 : c.oneCell' with
    | false => rw [h1] at hc; cases hc
    | true =>
      rw [h1] at hc
      simp only [cond_true, Option.some.injEq] at hc
      subst hc
      exact key _ _ h (Rel.one h h1)
  | _ =>
    simp only [AV.cellsOf, Option.some.injEq] at hc
    subst hc
    exact key _ _ h (Rel.one h rfl)
section
variable {w0 : World} {ρ : Emb} {S : AS} {w : World}
theorem RS.row (h : RS w0 ρ S w) {v g : Nat} {b : Base} {c : List AV} {sz gen lo : Nat} {opn ro : Bool} (hb : ρ v g = some b)
    (hg : S.get v = some (.cells c sz gen lo opn ro)) (h1 : lo ≤ g) (h2 : g ≤ gen) : RGen w0.heap.size ρ w c sz ro b := by
  obtain ⟨_, _, hall⟩ := h.obj v _ hg
  obtain ⟨b', hb', hr⟩ := hall g h1 h2
  rw [hb] at hb'; cases hb'; exact hr
theorem RS.cell (h : RS w0 ρ S w) {p : Value} {q x : AV} (hp : Rel ρ q p) (hx : S.ld1 q = some x) : ∃ a y, p = .pointer (some a) ∧ w.cell? a = some y ∧ Rel ρ x y := by
  cases q with
  | ptr v g o e =>
    simp only [Rel] at hp
    obtain ⟨b, hb, he, rfl⟩ := hp
    simp only [AS.ld1] at hx
    split at hx
    · rename_i c sz gen lo opn ro hg
      cases hc : (Nat.ble lo g && Nat.ble g gen && Nat.blt o e) with
      | false => rw [hc] at hx; cases hx
      | true =>
        rw [hc] at hx
        simp only [cond_true] at hx
        simp only [Bool.and_eq_true, Nat.ble_eq, Nat.blt_eq] at hc
        obtain ⟨y, hy, hr⟩ := (h.row hb hg hc.1.1 hc.1.2).cell o x (by omega) hx
        exact ⟨_, y, rfl, hy, hr⟩
    · cases hx
  | fp z cs o =>
    simp only [Rel] at hp
    obtain ⟨k, off, ob, rfl, ⟨_, h1, _⟩, h2⟩ := hp
    obtain ⟨y, hy, hr⟩ := h2.get hx
    exact ⟨_, y, rfl, by rw [objCell_cell (h.fz _ _ _ h1).1]; exact hy, hr⟩
  | _ => cases hx
theorem RS.fcells (h : RS w0 ρ S w) {k off z o n : Nat} {ob : Obj} {cs : List AV} (hk : ρ.fz k = some (z, ob)) (hc : RelC ρ ob cs off) (hn : o + n ≤ cs.length) :
    ∃ ys, ys.length = n ∧ RelL ρ ((cs.drop o).take n) ys ∧ ∀ j y, ys[j]? = some y → w.cell? ((⟨k, off + o, none⟩ : Addr).add j) = some y := by
  have hcell : ∀ j, j < n → ∃ y, w.cell? ⟨k, off + (o + j), none⟩ = some y ∧ Rel ρ (cs.getD (o + j) .any) y := by
    intro j hj
    have hlt : o + j < cs.length := by omega
    obtain ⟨y, hy, hr⟩ := hc.get (j := o + j) (x := cs[o + j]) (by simp [hlt])
    exact ⟨y, by rw [objCell_cell (h.fz _ _ _ hk).1]; exact hy, by simpa [List.getD, hlt] using hr⟩
  refine ⟨(List.range n).map fun j => (w.cell? ⟨k, off + (o + j), none⟩).getD undef, by simp, ?_, ?_⟩
  · refine RelL.mk ?_ ?_
    · simp [List.length_take, List.length_drop]; omega
    · intro i x hx
      have hi : i < n := by
        rcases Nat.lt_or_ge i n with hi | hi
        · exact hi
        · rw [List.getElem?_take, if_neg (by omega)] at hx; cases hx
      rw [List.getElem?_take, if_pos hi, List.getElem?_drop] at hx
      obtain ⟨y, hy, hrl⟩ := hcell i hi
      refine ⟨y, by simp [hi, hy], ?_⟩
      have : cs.getD (o + i) .any = x := by simp [List.getD, hx]
      rwa [this] at hrl
  · intro j y hy
    have hj : j < n := by
      rcases Nat.lt_or_ge j n with hj | hj
      · exact hj
      · simp [hj] at hy
    obtain ⟨y', hy', _⟩ := hcell j hj
    simp [hj, hy'] at hy
    subst hy
    rw [addr_add, Nat.add_assoc]
    exact hy'
theorem RS.cells (h : RS w0 ρ S w) {v g o e n : Nat} {b : Base} {l : List AV} (hb : ρ v g = some b) (he : e ≤ b.ext) (hl : S.ldl v g o e n = some l) :
    ∃ ys, ys.length = n ∧ RelL ρ l ys ∧ ∀ j y, ys[j]? = some y → w.cell? ((⟨b.blk, b.off + o, none⟩ : Addr).add j) = some y := by
  simp only [AS.ldl] at hl
  split at hl
  · rename_i c sz gen lo opn ro hg
    cases hc : (Nat.ble lo g && Nat.ble g gen && Nat.ble (o + n) e) with
    | false => rw [hc] at hl; cases hl
    | true =>
      rw [hc] at hl
      simp only [cond_true, Option.some.injEq] at hl
      subst hl
      simp only [Bool.and_eq_true, Nat.ble_eq] at hc
      have hr := h.row hb hg hc.1.1 hc.1.2
      have hext := hr.ext
      have hcell : ∀ j, j < n → ∃ y, w.cell? ⟨b.blk, b.off + (o + j), none⟩ = some y ∧ Rel ρ (c.getD (o + j) .any) y := by
        intro j hj
        have hlt : o + j < c.length := by omega
        obtain ⟨y, hy, hrl⟩ := hr.cell (o + j) c[o + j] (by omega) (by simp [hlt])
        exact ⟨y, hy, by simpa [List.getD, hlt] using hrl⟩
      refine ⟨(List.range n).map fun j => (w.cell? ⟨b.blk, b.off + (o + j), none⟩).getD undef, by simp, ?_, ?_⟩
      · refine RelL.mk ?_ ?_
        · simp [List.length_take, List.length_drop]; omega
        · intro i x hx
          have hi : i < n := by
            rcases Nat.lt_or_ge i n with hi | hi
            · exact hi
            · rw [List.getElem?_take, if_neg (by omega)] at hx; cases hx
          rw [List.getElem?_take, if_pos hi, List.getElem?_drop] at hx
          obtain ⟨y, hy, hrl⟩ := hcell i hi
          refine ⟨y, by simp [hi, hy], ?_⟩
          have : c.getD (o + i) .any = x := by simp [List.getD, hx]
          rwa [this] at hrl
      · intro j y hy
        have hj : j < n := by
          rcases Nat.lt_or_ge j n with hj | hj
          · exact hj
          · simp [hj] at hy
        obtain ⟨y', hy', _⟩ := hcell j hj
        simp [hj, hy'] at hy
        subst hy
        rw [addr_add, Nat.add_assoc]
        exact hy'
  · cases hl
end
theorem setL_nil (c : List AV) (o : Nat) : setL c o [] = c := by cases c <;> cases o <;> simp [setL]
theorem setL_get : ∀ (c : List AV) (o : Nat) (xs : List AV) (i : Nat), o + xs.length ≤ c.length →
    (setL c o xs)[i]? = if o ≤ i ∧ i < o + xs.length then xs[i - o]? else c[i]?
  | c, o, [], i, _ => by rw [setL_nil, if_neg (by simp only [List.length_nil]; omega)]
  | [], o, x :: xs, i, h => by simp at h
  | c :: cs, 0, x :: xs, i, h => by
    simp only [setL, consS_eq]
    cases i with
    | zero => simp
    | succ i =>
      rw [List.getElem?_cons_succ, setL_get cs 0 xs i (by simp at h ⊢; omega)]
      by_cases hi : i < xs.length
      · rw [if_pos (by omega), if_pos (by simp only [List.length_cons]; omega)] <;> simp
      · rw [if_neg (by omega), if_neg (by simp only [List.length_cons]; omega)] <;> simp
  | c :: cs, o + 1, x :: xs, i, h => by
    simp only [setL, consS_eq]
    cases i with
    | zero => simp
    | succ i =>
      rw [List.getElem?_cons_succ, setL_get cs o (x :: xs) i (by simp at h ⊢; omega)]
      by_cases hi : o ≤ i ∧ i < o + (x :: xs).length
      · rw [if_pos hi, if_pos (by omega)]; congr 1; omega
      · rw [if_neg hi, if_neg (by omega)]; simp
theorem setL_length : ∀ (c : List AV) (o : Nat) (xs : List AV), (setL c o xs).length = c.length
  | c, o, [] => by rw [setL_nil]
  | [], o, x :: xs => by cases o <;> rfl
  | c :: cs, 0, x :: xs => by simp [setL, consS_eq, setL_length cs 0 xs]
  | c :: cs, o + 1, x :: xs => by simp [setL, consS_eq, setL_length cs o (x :: xs)]
theorem cell?_setCells (b : Nat) : ∀ (vs : List Value) (o : Nat) (w : World), (∀ j, j < vs.length → (w.cell? ⟨b, o + j, none⟩).isSome = true) →
    ∀ x : Addr, (w.setCells b o vs).cell? x = if x.block = b ∧ x.spot = none ∧ o ≤ x.off ∧ x.off < o + vs.length then vs[x.off - o]? else w.cell? x
  | [], o, w, _, x => by simp only [World.setCells]; rw [if_neg (by simp only [List.length_nil]; omega)]
  | v :: r, o, w, h, x => by
    have h0 := h 0 (by simp)
    simp only [Nat.add_zero] at h0
    obtain ⟨u, hu⟩ := Option.isSome_iff_exists.1 h0
    have ih := cell?_setCells b r (o + 1) (w.setCell ⟨b, o, none⟩ v) (fun j hj => by
      rw [World.cell?_setCell_other _ _ _ _ (by simp; omega)]
      have := h (j + 1) (by simp; omega)
      rwa [show o + (j + 1) = o + 1 + j by omega] at this) x
    rw [World.setCells, ih]
    by_cases hx : x = ⟨b, o, none⟩
    · subst hx
      rw [if_neg (by simp only; omega), if_pos (by simp)]
      rw [World.cell?_setCell_same _ _ _ hu]; simp
    · rw [World.cell?_setCell_other _ _ _ _ (Ne.symm hx)]
      by_cases hc : x.block = b ∧ x.spot = none ∧ o + 1 ≤ x.off ∧ x.off < o + 1 + r.length
      · rw [if_pos hc, if_pos ⟨hc.1, hc.2.1, by omega, by simp; omega⟩]
        rw [show x.off - o = (x.off - (o + 1)) + 1 by omega]; simp
      · rw [if_neg hc]
        by_cases hc' : x.block = b ∧ x.spot = none ∧ o ≤ x.off ∧ x.off < o + (v :: r).length
        · exfalso
          obtain ⟨c1, c2, c3, c4⟩ := hc'
          simp at c4
          have : x.off = o := by
            rcases Nat.lt_or_ge o x.off with q | q
            · exact absurd ⟨c1, c2, by omega, by omega⟩ hc
            · omega
          exact hx (by cases x; simp_all)
        · rw [if_neg hc']
theorem heap_setCells (b : Nat) : ∀ (vs : List Value) (o : Nat) (w : World) (k : Nat), k ≠ b → (w.setCells b o vs).heap[k]? = w.heap[k]?
  | [], _, _, _, _ => rfl
  | v :: r, o, w, k, hk => by rw [World.setCells, heap_setCells b r (o + 1) _ k hk, Below.heap_setCell _ _ _ _ hk]
theorem size_setCells (b : Nat) : ∀ (vs : List Value) (o : Nat) (w : World), (w.setCells b o vs).heap.size = w.heap.size
  | [], _, _ => rfl
  | v :: r, o, w => by rw [World.setCells, size_setCells b r (o + 1)]; simp
theorem rest_setCells (b : Nat) : ∀ (vs : List Value) (o : Nat) (w : World), (w.setCells b o vs).os = w.os ∧ (w.setCells b o vs).tape = w.tape ∧ (w.setCells b o vs).output = w.output
  | [], _, _ => ⟨rfl, rfl, rfl⟩
  | v :: r, o, w => by rw [World.setCells]; exact rest_setCells b r (o + 1) _
section
variable {w0 : World} {ρ : Emb} {S : AS} {w : World} {P : Program}
theorem RS.stl (h : RS w0 ρ S w) {v g o e : Nat} {b : Base} {xs : List AV} {ys : List Value} {S' : AS} (hb : ρ v g = some b) (he : e ≤ b.ext) (hs : S.stl v g o e xs = some S') (hr : RelL ρ xs ys) :
    (storeCells ⟨b.blk, b.off + o, none⟩ ys).run P w = .ok () (w.setCells b.blk (b.off + o) ys) ∧ RS w0 ρ S' (w.setCells b.blk (b.off + o) ys) := by
  simp only [AS.stl] at hs
  split at hs
  case h_2 => cases hs
  rename_i c sz gen lo opn hg
  cases hc : (Nat.beq g gen && Nat.ble (o + xs.length) e && xs.all AV.one) with
  | false => rw [hc] at hs; cases hs
  | true =>
    rw [hc] at hs
    simp only [cond_true, Option.some.injEq] at hs
    subst hs
    simp only [Bool.and_eq_true, Nat.ble_eq, Nat.beq_eq] at hc
    obtain ⟨⟨rfl, hlen⟩, hones⟩ := hc
    have hobj := h.obj v _ hg
    obtain ⟨⟨b1, e1, e2, e3, e4, e5⟩, hlo, hall⟩ := hobj
    rw [hb] at e1; cases e1
    have hrow := h.row hb hg hlo (Nat.le_refl _)
    have hoff : b.off = 0 := (hrow.high rfl).2
    have hl := RelL.length hr
    have hle : o + ys.length ≤ b.cap * sz := by omega
    have hcells : ∀ j, j < ys.length → (w.cell? ⟨b.blk, b.off + o + j, none⟩).isSome = true := fun j hj => by
      have := (e5 rfl (o + j) (by omega)).1
      rw [hoff, Nat.zero_add]; exact this
    have hfr : ∀ j, j < ys.length → w.frozen? ⟨b.blk, b.off + o + j, none⟩ = false := fun j hj => by
      have := (e5 rfl (o + j) (by omega)).2
      rw [hoff, Nat.zero_add]; exact this
    refine ⟨?_, ?_⟩
    · have := run_storeCells_cells (P := P) b.blk (b.off + o) ys 0 w (by simpa using hcells) (by simpa using hfr) (RelL.ones hr hones)
      simpa using this
    · have hrest := rest_setCells b.blk ys (b.off + o) w
      have hcell' := cell?_setCells b.blk ys (b.off + o) w hcells
      refine h.write hg rfl hrest.1 hrest.2.1 hrest.2.2 (by rw [size_setCells]; exact Nat.le_refl _) (Ext.refl _) (fun _ _ _ hx => .inr hx) ?_ ?_ ?_ ?_
      · intro k _ hk
        exact heap_setCells _ _ _ _ _ (Ne.symm (hk g b ⟨hlo, Nat.le_refl _⟩ hb))
      · intro g' b' hl' hb'
        exact .inl ⟨g', b', ⟨by have := hl'.1; omega, hl'.2⟩, hb', rfl⟩
      · exact fun g' b' hb' => h.gens v _ hg g' b' hb'
      · refine ⟨⟨b, hb, by rw [setL_length]; exact e2, by rw [setL_length]; exact e3, fun ho => by rw [setL_length]; exact e4 ho, fun hro i hi => ?_⟩, Nat.le_refl _, fun g' h1 h2 => ?_⟩
        · obtain ⟨q1, q2⟩ := e5 hro i hi
          refine ⟨?_, by rw [World.frozen?_setCells]; exact q2⟩
          rw [hcell']
          split
          · rename_i hcc
            simp only at hcc
            rw [List.getElem?_eq_getElem (by simp only; omega)]; rfl
          · exact q1
        · have : g' = g := by omega
          subst this
          refine ⟨b, hb, hrow.sz, by rw [size_setCells]; exact hrow.lt, hrow.low, hrow.high, by rw [setL_length]; exact hrow.ext, fun i x hi hx => ?_⟩
          rw [setL_get _ _ _ _ (by omega)] at hx
          rw [hcell']
          simp only [hoff, Nat.zero_add, true_and]
          by_cases hc : o ≤ i ∧ i < o + xs.length
          · rw [if_pos hc] at hx
            obtain ⟨y, hy, hry⟩ := hr.get hx
            exact ⟨y, by rw [if_pos (by omega)]; exact hy, hry⟩
          · rw [if_neg hc] at hx
            obtain ⟨y, hy, hry⟩ := hrow.cell i x hi hx
            exact ⟨y, by rw [if_neg (by omega)]; simpa [hoff] using hy, hry⟩
theorem RS.newRow (h : RS w0 ρ S w) (T : TypeId) {c : List AV} {sz cap : Nat} {opn : Bool} {vs : Array Value} (hv : vs.size = cap * sz) (hc : c.length ≤ cap * sz) (ho : opn = false → cap * sz = c.length)
    (hr : ∀ (i : Nat) x, c[i]? = some x → ∃ y, vs[i]? = some y ∧ Rel ρ x y) :
    ∃ ρ', Ext ρ ρ' ∧ ρ' S.n 0 = some ⟨w.heap.size, 0, cap, sz, c.length, fun _ => none⟩ ∧ RS w0 ρ' (S.newRow c sz opn) (w.alloc (.cells vs T)) := by
  have hnone : ρ S.n 0 = none := by
    cases e : ρ S.n 0 with
    | none => rfl
    | some b' => have := h.dom _ _ _ e; omega
  have hext := Emb.ext_put (ρ := ρ) (⟨w.heap.size, 0, cap, sz, c.length, fun _ => none⟩ : Base) hnone
  have key := h.alloc (.cells vs T) (.cells c sz 0 0 opn false) ⟨w.heap.size, 0, cap, sz, c.length, fun _ => none⟩ rfl (fun g => by simp only [AObj.live]; omega) (by
    refine ⟨⟨_, Emb.put_self _ _ _ _, rfl, hc, ho, fun _ i hi => ?_⟩, Nat.le_refl _, fun g h1 h2 => ?_⟩
    · refine ⟨?_, World.frozen?_alloc_new w vs T i⟩
      rw [World.cell?_alloc_new, Array.getElem?_eq_getElem (by simp only at hi; omega)]; rfl
    · have : g = 0 := by omega
      subst this
      refine ⟨_, Emb.put_self _ _ _ _, rfl, by simp, by simp, fun _ => ⟨h.below.size, rfl⟩, Nat.le_refl _, fun i x hi hx => ?_⟩
      obtain ⟨y, hy, hry⟩ := hr i x hx
      exact ⟨y, by rw [Nat.zero_add, World.cell?_alloc_new]; exact hy, Rel.ext hext _ _ hry⟩)
  exact ⟨_, key.2, Emb.put_self _ _ _ _, key.1⟩
end
end Go.Proofs.Ytednmmcdjhfflaa.Vai
