/- A map from whole numbers to whole numbers that a call has made and fills ('seen'): which of its keys from 0 on it has, as a list of bools; what other blocks do to it; its operations, for the walk. -/
import Derived.Test.YtllgeljacmpdjaaPTrimx0
import Derived.Maps.OwnSet
import Derived.Maps.Views
import Derived.WideMake
import Derived.WalkSpells
namespace Go.Proofs.Ytllgeljacmpdjaa.PTrim
open Go.RowKit Go.Proofs.YtllgeljacmpdjaaW.PrintWords Go.Proofs.YtllgeljacmpdjaaW.PrintLast Go.Proofs.YtllgeljacmpdjaaW.PrintMore
set_option linter.unusedVariables false
set_option linter.unusedSimpArgs false

/-- Block g is a map of at most M entries; which of the keys below the list's length it has, the list tells. -/
def Seen (w : World) (base g M : Nat) (x : List Bool) : Prop :=
  base ≤ g ∧ x.length ≤ 1024 ∧ ∃ D : DataW Unit, w.ownsMap Try.prog 3 (plainElem Try.prog 3) g M D ∧ ∀ t : Int, 0 ≤ t → t < x.length → Go.Maps.has D (.int .i64 t) = rdOf false x t

abbrev SV (g n c : Nat) : Value := .slice (some ⟨g, 0, none⟩) n c

theorem law3 : Go.Maps.Keyed Try.prog 3 := Go.Maps.int_keyed Try.underlying3
theorem zero3 (w : World) : (zeroValue 3).run Try.prog w = .ok (.int .i64 0) w := by kernel_rfl

theorem rdOf_replicate (n : Nat) (t : Int) : rdOf false (List.replicate n false) t = false := by
  unfold rdOf
  rw [List.getD_eq_getElem?_getD, List.getElem?_replicate]
  split <;> rfl
theorem wf_key {key : Int} (h0 : 0 ≤ key) (h1 : key < 1024) : (Lit.int .i64 key).wf = true := by
  have e1 : IntKind.i64.min = -9223372036854775808 := rfl
  have e2 : IntKind.i64.max = 9223372036854775807 := rfl
  simp only [Lit.wf, e1, e2, Bool.and_eq_true, decide_eq_true_eq]
  omega

theorem wf_len {n : Nat} (h : n < 17592186044416) : (Lit.int .i64 (n : Int)).wf = true := by
  have e1 : IntKind.i64.min = -9223372036854775808 := rfl
  have e2 : IntKind.i64.max = 9223372036854775807 := rfl
  simp only [Lit.wf, e1, e2, Bool.and_eq_true, decide_eq_true_eq]
  omega

section
variable {w w1 : World} {base g M : Nat} {x : List Bool}
theorem Seen_lt (n c : Nat) (h : Seen w base g M x) : ∀ k, (SV g n c).ownBlock = some k → k < w.heap.size := by
  obtain ⟨_, _, D, ho, _⟩ := h
  intro k hk
  obtain rfl : g = k := by simpa [Value.ownBlock] using hk
  exact ho.lt
theorem Seen_map (h : Seen w base g M x) : ∃ es clock, w.heap[g]? = some (.map es clock) := by
  obtain ⟨_, _, D, ⟨es, clock, hb, _⟩, _⟩ := h
  exact ⟨es, clock, hb⟩
theorem Seen_base (h : Seen w base g M x) : base ≤ g := h.1
theorem Seen_kept {row : Option Nat} (h : Seen w base g M x) (hg : w.grownBy w1 row) (hne : some g ≠ row) : Seen w1 base g M x := by
  obtain ⟨h1, h2, D, ho, hh⟩ := h
  exact ⟨h1, h2, D, ho.kept hg hne, hh⟩
theorem Seen_block (h : Seen w base g M x) (hb : w1.heap[g]? = w.heap[g]?) : Seen w1 base g M x := by
  obtain ⟨h1, h2, D, ⟨es, clock, e, F, hs, hD⟩, hh⟩ := h
  exact ⟨h1, h2, D, ⟨es, clock, hb.trans e, F, hs, hD⟩, hh⟩
theorem Seen_below (h : Seen w base g M x) (hb : Below w.heap.size w w1) : Seen w1 base g M x := by
  refine Seen_block h (hb.block g ?_)
  obtain ⟨_, _, D, ho, _⟩ := h
  exact ho.lt
theorem Seen_alloc (h : Seen w base g M x) (o : Obj) : Seen (w.alloc o) base g M x := Seen_below h (below_alloc (Below.refl _ _) o)
theorem Seen_drew (h : Seen w base g M x) : Seen w.drew base g M x := Seen_below h (below_drew (Below.refl _ _))
theorem Seen_drewN (h : Seen w base g M x) (m : Nat) : Seen (w.drewN m) base g M x := Seen_below h (pw_below_drewN (Below.refl _ _) m)
theorem Seen_at {m : Nat} (hq : w.drewN m = w1) (h : Seen w base g M x) : Seen w1 base g M x := by subst hq; exact Seen_drewN h m
theorem Seen_over {v : Value} {e : Nat} (h : Seen w base g M x) (hty : ∀ k, v.ownBlock = some k → ∃ cells, w.heap[k]? = some (.cells cells e (0, 0))) (hg : w.grownBy w1 v.ownBlock) : Seen w1 base g M x := by
  refine Seen_kept h hg (fun he => ?_)
  obtain ⟨es, clock, hm⟩ := Seen_map h
  obtain ⟨cells, hc⟩ := hty g he.symm
  rw [hm] at hc
  cases hc
theorem Seen_ne (h : Seen w base g M x) {b t : Nat} {cells : Array Value} (hb : w.heap[b]? = some (.cells cells t (0, 0))) : some b ≠ some g := by
  rintro e
  injection e with e
  subst e
  obtain ⟨es, clock, hm⟩ := Seen_map h
  rw [hm] at hb
  cases hb
theorem Seen_more {M' : Nat} (h : Seen w base g M x) (hM : M ≤ M') : Seen w base g M' x := by
  obtain ⟨h1, h2, D, ho, hh⟩ := h
  exact ⟨h1, h2, D, ho.mono hM, hh⟩
theorem Seen_lower {base' : Nat} (hb : base' ≤ base) (h : Seen w base g M x) : Seen w base' g M x := ⟨Nat.le_trans hb h.1, h.2⟩
theorem below_put {b : Nat} {w0 : World} (h : Below w0.heap.size w0 w) (hg : w.grownBy w1 (some b)) (hb : w0.heap.size ≤ b) : Below w0.heap.size w0 w1 :=
  h.grown hg h.size (fun k hk => by injection hk with hk; omega)
theorem R_over_seen {α : Type} {d : Kd α} {e b0 : Nat} {ok : Nat → Prop} {u : Value} {xs : List α} (hu : d.R e w b0 ok u xs) (h : Seen w base g M x) (hg : w.grownBy w1 (some g)) : d.R e w1 b0 ok u xs := by
  refine Kd.R_mono (Kd.R_move (Kd.R_bound hu) (fun k hk => hg.block k hk.2.2.1 (fun he => ?_))) (fun _ hk => hk.1)
  obtain ⟨_, _, _, q, hq, cells, hc⟩ := hk
  exact Seen_ne h hc he
theorem R_apart_seen {α : Type} {d : Kd α} {e b0 : Nat} {ok : Nat → Prop} {u : Value} {xs : List α} (n c : Nat) (hu : d.R e w b0 ok u xs) (h : Seen w base g M x) : d.R e w b0 (fun k => ok k ∧ some k ≠ (SV g n c).ownBlock) u xs := by
  refine Kd.R_mono (Kd.R_bound hu) (fun k hk => ⟨hk.1, fun he => ?_⟩)
  obtain ⟨_, _, _, q, hq, cells, hc⟩ := hk
  have he' : some k = some g := by simpa [Value.ownBlock] using he
  exact Seen_ne h hc he'
end

section
variable {w : World} {base g M : Nat} {x : List Bool} {ops : Array Oper} {rest : List Oper} {o : Oper} {a : Act} {Q : Exit → Act → World → Prop}

theorem gate_make (_ : o.op = Op.makeMap 64 none) (h : wpList Try.prog ops Q (o :: rest) a w) : wpList Try.prog ops Q (o :: rest) a w := h
theorem gate_insert {m k v : Operand} (_ : o.op = Op.insert 64 m k v) (h : wpList Try.prog ops Q (o :: rest) a w) : wpList Try.prog ops Q (o :: rest) a w := h
theorem gate_look {m k : Operand} (_ : o.op = Op.lookup 64 m k true) (h : wpList Try.prog ops Q (o :: rest) a w) : wpList Try.prog ops Q (o :: rest) a w := h
theorem gate_map {m k v : Operand} (_ : o.op = Op.mapUpdate 64 m k v) (h : wpList Try.prog ops Q (o :: rest) a w) : wpList Try.prog ops Q (o :: rest) a w := h

theorem seen_put (h : Seen w base g M x) (hM : M < maxLen) {key val : Int} (hk0 : 0 ≤ key) (hk1 : key < x.length) (hv : (Lit.int .i64 val).wf = true) :
    ∃ w', (Instr.mapUpdate 64 (.map (some g)) (.int .i64 key) (.int .i64 val)).run Try.prog w = .ok () w' ∧ Seen w' base g (M + 1) (x.set key.toNat true) ∧ w.grownBy w' (some g) := by
  obtain ⟨h1, h2, D, ho, hh⟩ := h
  have hwk : (Lit.int .i64 key).wf = true := wf_key hk0 (by omega)
  have hkk := Go.Maps.keyOf_int_mk Try.underlying3 hwk
  obtain ⟨w', hrun, r1, r2⟩ := ho.update law3 Try.underlying64 hM hkk (plainElem_int Try.underlying3 hv)
  refine ⟨w', hrun, ⟨h1, by simpa using h2, _, r1, fun t ht0 ht1 => ?_⟩, r2⟩
  simp only [List.length_set] at ht1
  by_cases he : t = key
  · subst he
    rw [Go.Maps.has_put_same ho.isMap (law3.key hkk)]
    unfold rdOf
    rw [List.getD_eq_getElem?_getD, List.getElem?_set_self (by omega)]
    rfl
  · rw [Go.Maps.has_put_other (by intro e; injection e with _ e; exact he e), hh t ht0 ht1]
    unfold rdOf
    rw [List.getD_eq_getElem?_getD, List.getD_eq_getElem?_getD, List.getElem?_set_ne (by omega)]

theorem seen_insert (hg : o.guard = none) (m k v : Operand) (hop : o.op = Op.insert 64 m k v) (key val : Int) (h : Seen w base g M x) (hm : a.eval m = .map (some g)) (hk : a.eval k = .int .i64 key) (hv : a.eval v = .int .i64 val)
    (hM : M < maxLen) (hk0 : 0 ≤ key) (hk1 : key < x.length) (hwv : (Lit.int .i64 val).wf = true)
    (hK : ∀ w', Seen w' base g (M + 1) (x.set key.toNat true) → w.grownBy w' (some g) → wpList Try.prog ops Q rest (a.put o.dst undef) w') :
    wpList Try.prog ops Q (o :: rest) a w := by
  refine wpList_plain hg fun K' hK' => ?_
  obtain ⟨w', hrun, r1, r2⟩ := seen_put h hM hk0 hk1 hwv
  unfold Oper.wp
  simp [execOp, hop, hm, hk, hv, hrun, Result.andThen]
  exact hK' _ _ (hK w' r1 r2)

theorem seen_update (hg : o.guard = none) (m k v : Operand) (hop : o.op = Op.mapUpdate 64 m k v) (key val : Int) (h : Seen w base g M x) (hm : a.eval m = .map (some g)) (hk : a.eval k = .int .i64 key) (hv : a.eval v = .int .i64 val)
    (hM : M < maxLen) (hk0 : 0 ≤ key) (hk1 : key < x.length) (hwv : (Lit.int .i64 val).wf = true)
    (hK : ∀ w', Seen w' base g (M + 1) (x.set key.toNat true) → w.grownBy w' (some g) → wpList Try.prog ops Q rest (a.put o.dst undef) w') :
    wpList Try.prog ops Q (o :: rest) a w := by
  refine wpList_plain hg fun K' hK' => ?_
  obtain ⟨w', hrun, r1, r2⟩ := seen_put h hM hk0 hk1 hwv
  unfold Oper.wp
  simp [execOp, hop, hm, hk, hv, hrun, Result.andThen]
  exact hK' _ _ (hK w' r1 r2)

theorem seen_lookup (hg : o.guard = none) (m k : Operand) (hop : o.op = Op.lookup 64 m k true) (key : Int) (b : Bool) (h : Seen w base g M x) (hm : a.eval m = .map (some g)) (hk : a.eval k = .int .i64 key)
    (hk0 : 0 ≤ key) (hk1 : key < x.length) (hb : b = rdOf false x key)
    (hK : ∀ c : Int, wpList Try.prog ops Q rest (a.put o.dst (.tuple #[.int .i64 c, .bool b])) w) :
    wpList Try.prog ops Q (o :: rest) a w := by
  obtain ⟨h1, h2, D, ho, hh⟩ := h
  have hwk : (Lit.int .i64 key).wf = true := wf_key hk0 (by omega)
  refine wpList_lookup_own_ok_int w hg m k 64 hop 3 3 .i64 law3 Try.underlying64 Try.underlying3 (zero3 w) g M D hm ho _ _ hk (Go.Maps.keyOf_int_mk Try.underlying3 hwk) (fun c _ _ => ?_)
  rw [hh key hk0 hk1, ← hb]
  exact hK c

theorem seen_make (hg : o.guard = none) (hop : o.op = Op.makeMap 64 none) (x : List Bool) (hx : x.length ≤ 1024) (hx2 : ∀ t : Int, 0 ≤ t → t < x.length → rdOf false x t = false)
    (hK : ∀ g w', Seen w' w.heap.size g 0 x → Below w.heap.size w w' → wpList Try.prog ops Q rest (a.put o.dst (.map (some g))) w') :
    wpList Try.prog ops Q (o :: rest) a w := by
  refine wpList_plain hg fun K' hK' => ?_
  unfold Oper.wp
  simp [execOp, hop, run_makeMap_plain, Result.andThen]
  exact hK' _ _ (hK _ _ ⟨Nat.le_refl _, hx, _, World.ownsMap_made _ _ _ _, fun t h0 h1 => by rw [hx2 t h0 h1]; rfl⟩ (below_alloc (Below.refl _ _) _))
end

end Go.Proofs.Ytllgeljacmpdjaa.PTrim
