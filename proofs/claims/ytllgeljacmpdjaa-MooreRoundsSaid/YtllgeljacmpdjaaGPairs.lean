/- A map from pairs of whole numbers to whole numbers that a call has made and fills: its keys in the order in which they came, each with its place; what other blocks do to it; its operations, for the walk. -/
import Derived.Test.YtllgeljacmpdjaaGSeen
import Derived.DeepKeys4
namespace Go.Proofs.Ytllgeljacmpdjaa.PTrim
open Go.RowKit Go.Proofs.YtllgeljacmpdjaaW.PrintWords Go.Proofs.YtllgeljacmpdjaaW.PrintLast Go.Proofs.YtllgeljacmpdjaaW.PrintMore
set_option linter.unusedVariables false
set_option linter.unusedSimpArgs false

theorem laidOutT : laidOutB Try.prog = true := by kernel_rfl
theorem row84 : (84 : TypeId) < Try.prog.types.size := of_decide_eq_true (by kernel_rfl)
theorem cells84 : Try.prog.cellsOf 84 = 2 := by kernel_rfl
theorem cells3 : Try.prog.cellsOf 3 = 1 := by kernel_rfl
theorem deep84 : Try.prog.keyTypeAt (Try.prog.types.size + 1) 84 = true := by kernel_rfl
theorem kt84 : Try.prog.keyType 84 = true := by kernel_rfl
theorem wide84 : (match Try.prog.underlying 84 with | some (.array _ _) | some (.struct _) => true | _ => false) = true := by rw [Try.underlying84]
theorem law84 : Go.Maps.Keyed Try.prog 84 := Go.Maps.Keyed.of_law (deep_law_laid laidOutT (m := 2) (by omega) row84 (by kernel_rfl) wide84)
theorem formed84 {c0 c1 : Value} : (Value.agg #[c0, c1]).formed Try.prog 84 = true := by simp [Value.formed, Try.underlying84, cells84]
def PV (p : Int × Int) : Value := .agg #[.int .i64 p.1, .int .i64 p.2]
def PW (p : Int × Int) : Prop := (Lit.int .i64 p.1).wf = true ∧ (Lit.int .i64 p.2).wf = true
theorem kl3 {a : Int} (m : Nat) (h : (Lit.int .i64 a).wf = true) : Try.prog.keyLits (m + 1) 3 [.int .i64 a] = some [.int .i64 a] := by
  simp [Program.keyLits, Try.underlying3, h]
theorem pair_some {p : Int × Int} (h : PW p) : (keyOf Try.prog 84 (PV p)).isSome = true := by
  obtain ⟨h1, h2⟩ := h
  have hs : ∃ n, Try.prog.types.size + 1 = n + 2 := ⟨Try.prog.types.size - 1, by have : 2 < Try.prog.types.size := of_decide_eq_true (by kernel_rfl); omega⟩
  obtain ⟨n, hn⟩ := hs
  unfold keyOf PV
  simp only [Try.underlying84, kt84, formed84, Bool.and_self, if_true]
  generalize Try.prog.types.size + 1 = m at *
  subst hn
  simp [Program.keyLits, Try.underlying84, Try.underlying3, Value.cells, cells84, cells3, h1, h2]
noncomputable def PK (p : Int × Int) : Lit := (keyOf Try.prog 84 (PV p)).getD (.bool false)
theorem pair_key {p : Int × Int} (h : PW p) : keyOf Try.prog 84 (PV p) = some (PK p) := by
  obtain ⟨l, hl⟩ := Option.isSome_iff_exists.mp (pair_some h)
  unfold PK
  rw [hl]
  rfl
theorem pair_inj {p q : Int × Int} (hp : PW p) (hq : PW q) (h : PK p = PK q) : p = q := by
  have e := law84.inj (pair_key hp) (by rw [h]; exact pair_key hq)
  unfold PV at e
  injection e with e
  simp at e
  exact Prod.ext e.1 e.2

/-- Block g is a map: the pairs of u, each with its place in u. -/
def Pairs (w : World) (base g : Nat) (u : List (Int × Int)) : Prop :=
  base ≤ g ∧ u.Nodup ∧ (∀ p ∈ u, PW p) ∧ ∃ D : DataW Unit, w.ownsMap Try.prog 84 (plainElem Try.prog 3) g u.length D ∧ Go.Maps.size D = u.length ∧
   ∀ p, PW p → Go.Maps.has D (PK p) = decide (p ∈ u) ∧ ∀ j : Nat, u[j]? = some p → D.atKey (PK p) (.lit (.int .i64 0)) = .lit (.int .i64 j)

section
variable {w w1 : World} {base g : Nat} {u : List (Int × Int)}
theorem Pairs.map (h : Pairs w base g u) : ∃ es clock, w.heap[g]? = some (.map es clock) := by
  obtain ⟨_, _, _, D, ⟨es, clock, hb, _⟩, _⟩ := h
  exact ⟨es, clock, hb⟩
theorem Pairs.lt (h : Pairs w base g u) : g < w.heap.size := by
  obtain ⟨_, _, _, D, ho, _⟩ := h
  exact ho.lt
theorem Pairs.block (h : Pairs w base g u) (hb : w1.heap[g]? = w.heap[g]?) : Pairs w1 base g u := by
  obtain ⟨h1, h2, h3, D, ⟨es, clock, e, F, hs, hD⟩, hh⟩ := h
  exact ⟨h1, h2, h3, D, ⟨es, clock, hb.trans e, F, hs, hD⟩, hh⟩
theorem Pairs.below (h : Pairs w base g u) (hb : Below w.heap.size w w1) : Pairs w1 base g u := h.block (hb.block g h.lt)
theorem Pairs.over {v : Value} {e : Nat} (h : Pairs w base g u) (hty : ∀ k, v.ownBlock = some k → ∃ cells, w.heap[k]? = some (.cells cells e (0, 0))) (hg : w.grownBy w1 v.ownBlock) : Pairs w1 base g u := by
  refine h.block (hg.block g h.lt (fun he => ?_))
  obtain ⟨es, clock, hm⟩ := h.map
  obtain ⟨cells, hc⟩ := hty g he.symm
  rw [hm] at hc
  cases hc
theorem R_over_pairs {α : Type} {d : Kd α} {e b0 : Nat} {ok : Nat → Prop} {v : Value} {xs : List α} (hu : d.R e w b0 ok v xs) (h : Pairs w base g u) (hg : w.grownBy w1 (some g)) : d.R e w1 b0 ok v xs := by
  refine Kd.R_mono (Kd.R_move (Kd.R_bound hu) (fun k hk => hg.block k hk.2.2.1 (fun he => ?_))) (fun _ hk => hk.1)
  obtain ⟨_, _, _, q, hq, cells, hc⟩ := hk
  injection he with he
  subst he
  obtain ⟨es, clock, hm⟩ := h.map
  rw [hm] at hc
  cases hc
end

section
variable {w : World} {base g : Nat} {u : List (Int × Int)} {ops : Array Oper} {rest : List Oper} {o : Oper} {a : Act} {Q : Exit → Act → World → Prop}
theorem gate_pmake (_ : o.op = Op.makeMap 89 none) (h : wpList Try.prog ops Q (o :: rest) a w) : wpList Try.prog ops Q (o :: rest) a w := h
theorem gate_plook {m k : Operand} (_ : o.op = Op.lookup 89 m k true) (h : wpList Try.prog ops Q (o :: rest) a w) : wpList Try.prog ops Q (o :: rest) a w := h
theorem gate_pmap {m k v : Operand} (_ : o.op = Op.mapUpdate 89 m k v) (h : wpList Try.prog ops Q (o :: rest) a w) : wpList Try.prog ops Q (o :: rest) a w := h
theorem gate_plen {m : Operand} (_ : o.op = Op.call { callee := Callee.builtin Builtin.len, args := #[m], argTypes := #[89] }) (h : wpList Try.prog ops Q (o :: rest) a w) : wpList Try.prog ops Q (o :: rest) a w := h

theorem pairs_make (hg : o.guard = none) (hop : o.op = Op.makeMap 89 none)
    (hK : ∀ g w', Pairs w' w.heap.size g [] → Below w.heap.size w w' → wpList Try.prog ops Q rest (a.put o.dst (.map (some g))) w') :
    wpList Try.prog ops Q (o :: rest) a w := by
  refine wpList_plain hg fun K' hK' => ?_
  unfold Oper.wp
  simp [execOp, hop, run_makeMap_plain, Result.andThen]
  exact hK' _ _ (hK _ _ ⟨Nat.le_refl _, List.nodup_nil, by simp, _, World.ownsMap_made _ _ _ _, rfl, fun p _ => ⟨by simp; rfl, by simp⟩⟩ (below_alloc (Below.refl _ _) _))

theorem pairs_lookup (hg : o.guard = none) (m k : Operand) (hop : o.op = Op.lookup 89 m k true) (p : Int × Int) (b : Bool) (h : Pairs w base g u) (hm : a.eval m = .map (some g)) (hk : a.eval k = PV p) (hp : PW p) (hb : b = decide (p ∈ u))
    (hK : ∀ c : Int, (∀ j : Nat, u[j]? = some p → c = j) → wpList Try.prog ops Q rest (a.put o.dst (.tuple #[.int .i64 c, .bool b])) w) :
    wpList Try.prog ops Q (o :: rest) a w := by
  obtain ⟨h1, h2, h3, D, ho, hs, hh⟩ := h
  refine wpList_lookup_own_ok_int w hg m k 89 hop 84 3 .i64 law84 Try.underlying89 Try.underlying3 (zero3 w) g u.length D hm ho _ _ hk (pair_key hp) (fun c hc _ => ?_)
  rw [(hh p hp).1, ← hb]
  refine hK c (fun j hj => ?_)
  have e := (hh p hp).2 j hj
  rw [e] at hc
  injection hc with hc
  injection hc with _ hc
  exact hc.symm

theorem pairs_len (hg : o.guard = none) (m : Operand) (hop : o.op = Op.call { callee := Callee.builtin Builtin.len, args := #[m], argTypes := #[89] }) (h : Pairs w base g u) (hm : a.eval m = .map (some g))
    (hK : wpList Try.prog ops Q rest (a.put o.dst (.int .i64 u.length)) w) :
    wpList Try.prog ops Q (o :: rest) a w := by
  obtain ⟨h1, h2, h3, D, ho, hs, hh⟩ := h
  refine wpList_len_own w hg m 89 hop 84 3 Try.underlying89 _ g u.length D hm ho ?_
  rw [hs]
  exact hK

theorem pairs_update (hg : o.guard = none) (m k v : Operand) (hop : o.op = Op.mapUpdate 89 m k v) (p : Int × Int) (h : Pairs w base g u) (hm : a.eval m = .map (some g)) (hk : a.eval k = PV p) (hv : a.eval v = .int .i64 u.length)
    (hM : u.length < 17592186044416) (hp : PW p) (hnew : p ∉ u)
    (hK : ∀ w', Pairs w' base g (u ++ [p]) → w.grownBy w' (some g) → wpList Try.prog ops Q rest (a.put o.dst undef) w') :
    wpList Try.prog ops Q (o :: rest) a w := by
  refine wpList_plain hg fun K' hK' => ?_
  obtain ⟨h1, h2, h3, D, ho, hs, hh⟩ := h
  obtain ⟨w', hrun, r1, r2⟩ := ho.update law84 Try.underlying89 (by unfold maxLen; omega) (pair_key hp) (plainElem_int Try.underlying3 (wf_len hM))
  unfold Oper.wp
  simp [execOp, hop, hm, hk, hv, hrun, Result.andThen]
  refine hK' _ _ (hK w' ⟨h1, ?_, ?_, _, by simpa using r1, ?_, ?_⟩ r2)
  · rw [List.nodup_append]
    exact ⟨h2, by simp, fun x hx y hy => by simp at hy; subst hy; exact fun e => hnew (e ▸ hx)⟩
  · intro q hq
    rcases List.mem_append.mp hq with hq | hq
    · exact h3 q hq
    · rw [List.mem_singleton.mp hq]; exact hp
  · rw [Go.Maps.size_put (ho.tidy law84), (hh p hp).1]
    simp [hnew, hs]
  · intro q hq
    by_cases he : q = p
    · subst he
      refine ⟨?_, fun j hj => ?_⟩
      · rw [Go.Maps.has_put_same ho.isMap (law84.key (pair_key hp))]
        simp
      · rw [Go.Maps.atKey_put_same ho.isMap (law84.key (pair_key hp))]
        have : j = u.length := by
          rcases Nat.lt_or_ge j u.length with hlt | hge
          · rw [List.getElem?_append_left hlt] at hj
            exact absurd (List.mem_of_getElem? hj) hnew
          · have := (List.getElem?_eq_some_iff.mp hj).1
            simp at this
            omega
        rw [this]
    · have hne : PK q ≠ PK p := fun e => he (pair_inj hq hp e)
      refine ⟨?_, fun j hj => ?_⟩
      · rw [Go.Maps.has_put_other hne, (hh q hq).1]
        simp [he]
      · rw [Go.Maps.atKey_put_other hne]
        refine (hh q hq).2 j ?_
        rcases Nat.lt_or_ge j u.length with hlt | hge
        · rw [List.getElem?_append_left hlt] at hj
          exact hj
        · rw [List.getElem?_append_right hge] at hj
          rcases Nat.eq_zero_or_pos (j - u.length) with h | h
          · rw [h] at hj
            simp at hj
            exact absurd hj.symm he
          · rw [List.getElem?_eq_none (by simp; omega)] at hj
            cases hj
end
end Go.Proofs.Ytllgeljacmpdjaa.PTrim
