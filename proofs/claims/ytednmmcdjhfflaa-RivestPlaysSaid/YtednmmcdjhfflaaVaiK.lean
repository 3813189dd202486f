/-
  A verified abstract interpreter, part K: the calls of builtins; maps.
-/
import Derived.Test.YtednmmcdjhfflaaVaiJ
namespace Go.Proofs.Ytednmmcdjhfflaa.Vai
open Go Go.RowKit
section
variable {P : Program} {w0 : World} {ρ : Emb} {S : AS} {w : World} {n : Nat} {F : Fr} {a : Act}
theorem exec_builtin {o : Oper} {b : Builtin} {args : Array Operand} {ts : Array TypeId} (ho : o.op = .call { callee := .builtin b, args := args, argTypes := ts }) :
    (execOp a.eval o).run P w = (builtin b ts o.type (args.map fun | .const _ => true | _ => false) (args.map a.eval)).run P w := by
  simp only [execOp, ho, resolve, Sem.run_bind, Sem.run_pure, Result.andThen_ok, invoke]
  rfl
theorem exec_append {o : Oper} {x y : Operand} {t u : TypeId} (ho : o.op = .call { callee := .builtin .append, args := #[x, y], argTypes := #[t, u] }) {v : Value} {w' : World}
    (h : (Builtin.append_ #[t, u] o.type #[a.eval x, a.eval y]).run P w = .ok v w') : (execOp a.eval o).run P w = .ok (.value v) w' := by
  rw [exec_builtin ho]
  simp [builtin, h]
theorem sim_app (C : Ctx) (call : CallF) (hF : FRel ρ n F a.tmps) (hS : RS w0 ρ S w) {o : Oper} {x y : Operand} {x' y' : AX} {t u e : TypeId} {i : TypeInfo} {z : Value} {ud : TypeDesc}
    (ho : o.op = .call { callee := .builtin .append, args := #[x, y], argTypes := #[t, u] }) (h1 : cX x = some x') (h2 : cX y = some y') (T : AppTy P t u e i z ud) :
    Sim P w0 ρ w (execOp a.eval o) (aop C call F S (.app i.size i.bytes x' y')) := by
  have hx := cX_ev hF h1
  have hy := cX_ev hF h2
  simp only [aop]
  cases hr : S.app i.size i.bytes (x'.ev F) (y'.ev F) with
  | none => exact Sim.no
  | some r =>
    simp only [R.ofO]
    unfold AS.app at hr
    split at hr
    · rename_i ys hsrc
      obtain ⟨news, hys, hnl, hlen, hnews⟩ := src_rel (P := P) hS hy hsrc
      have hn0 : news = [] := List.eq_nil_of_length_eq_zero (by simpa using hnl)
      subst hn0
      have room := fun base sLen sCap (hle : sLen ≤ sCap) => append_room (P := P) (w := w) (w' := w) (ty := o.type) T (base := base) (sLen := sLen) (sCap := sCap) (hlen w) (hnews w rfl) (by simpa using hle) (by cases base <;> simp [storeCells])
      have key : ∀ base sLen sCap, a.eval x = .slice base sLen sCap → sLen ≤ sCap → r = (x'.ev F, S) → Sim P w0 ρ w (execOp a.eval o) (.one r) := by
        intro base sLen sCap hv hle hrr
        subst hrr
        refine Sim.same hS hx ?_
        refine exec_append ho ?_
        rw [hv]
        exact room base sLen sCap hle
      split at hr
      · rename_i q; cases hr; rw [q] at hx; simp only [Rel] at hx
        exact key none 0 0 hx (Nat.le_refl _) (by rw [q])
      · rename_i zz q; cases hr; rw [q] at hx; simp only [Rel] at hx
        obtain ⟨ad, c, hv, _⟩ := hx
        exact key (some ad) 0 c hv (Nat.zero_le _) (by rw [q])
      · rename_i q; cases hr; rw [q] at hx; simp only [Rel] at hx
        obtain ⟨b, c, _, _, hle, hv, _⟩ := hx
        exact key _ _ c hv hle (by rw [q])
      · rename_i q; cases hr; rw [q] at hx; simp only [Rel] at hx
        obtain ⟨ad, c, hv, ⟨hle, _⟩, _⟩ := hx
        exact key _ _ c hv hle (by rw [q])
      · cases hr
    · rename_i m ys hsrc
      cases hz : Nat.beq i.size 0 with
      | true => rw [hz] at hr; cases hr
      | false =>
        rw [hz] at hr
        simp only [cond_false] at hr
        have hpos : 0 < i.size := by
          rcases Nat.eq_zero_or_pos i.size with h0 | h0
          · rw [h0] at hz; simp at hz
          · exact h0
        obtain ⟨news, hys, hnl, hlen, hnews⟩ := src_rel (P := P) hS hy hsrc
        have A : Appends P t u e o.type i z (a.eval y) w (m + 1) news :=
          ⟨fun ad sLen sCap w' hle hst => append_room T (hlen w) (hnews w rfl) hle hst, fun base sLen sCap olds hg holds h46 hby => append_grow T (hlen w) (hnews w.drew rfl) hg holds h46 hby⟩
        obtain ⟨ρ', v, w', he, hrel, hS', hrun⟩ := appN_sim hS (Nat.succ_pos m) hpos T.zs hx hys hnl A hr
        exact Sim.one he hrel hS' (.inl (exec_append ho hrun))
    · cases hr
theorem zeroCells_made (z : Array Value) (m : Nat) : Builtin.zeroCells z m = madeCells z (m * z.size) := rfl
theorem sim_appz (C : Ctx) (call : CallF) (hF : FRel ρ n F a.tmps) (hS : RS w0 ρ S w) {o : Oper} {x y : Operand} {x' y' : AX} {t u e : TypeId} {i : TypeInfo} {z : Value} {ku : IntKind}
    (ho : o.op = .call { callee := .builtin .append, args := #[x, y], argTypes := #[t, u] }) (h1 : cX x = some x') (h2 : cX y = some y') (ht : P.underlying t = some (.slice e)) (hu : P.underlying u = some (.int ku)) (hi : P.info? e = some i)
    (hz : i.zero = some z) (hzs : z.cells.size = i.size) : Sim P w0 ρ w (execOp a.eval o) (aop C call F S (.appz i.size i.bytes (z.cells.toList.map AV.ofV1) x' y')) := by
  have hx := cX_ev hF h1
  have hy := cX_ev hF h2
  simp only [aop]
  split
  case h_2 => exact Sim.no
  rename_i m hm
  have hyv := asNat_rel hy hm
  cases hb : (Nat.ble ((m + 1) * i.bytes) bound46 && !(Nat.beq i.size 0)) with
  | false => exact Sim.no
  | true =>
    simp only [Bool.and_eq_true, Nat.ble_eq, Bool.not_eq_true'] at hb
    obtain ⟨hby, hz0⟩ := hb
    have hpos : 0 < i.size := by
      rcases Nat.eq_zero_or_pos i.size with h0 | h0
      · rw [h0] at hz0; simp at hz0
      · exact h0
    simp only [cond_true]
    cases hr : S.appN i.size i.bytes (x'.ev F) (m + 1) (reps (z.cells.toList.map AV.ofV1) (m + 1)) with
    | none => exact Sim.no
    | some r =>
      have hm0 : (m + 1) * i.size ≠ 0 := Nat.mul_ne_zero (by omega) (by omega)
      have hm46 : m + 1 ≤ bound46 := by
        unfold AS.appN at hr
        split at hr
        · cases hq : (Nat.ble ((m + 1) * i.bytes) bound46 && Nat.ble (m + 1) bound46) with
          | false => rw [hq] at hr; cases hr
          | true => simp only [Bool.and_eq_true, Nat.ble_eq] at hq; exact hq.2
        · cases hq : (Nat.ble ((m + 1) * i.bytes) bound46 && Nat.ble (m + 1) bound46) with
          | false => rw [hq] at hr; cases hr
          | true => simp only [Bool.and_eq_true, Nat.ble_eq] at hq; exact hq.2
        · rename_i len _ zz _
          cases hq : (Nat.beq zz i.size && Nat.ble ((len + (m + 1)) * i.bytes) bound46 && Nat.ble (len + (m + 1)) bound46) with
          | false => rw [hq] at hr; cases hr
          | true => simp only [Bool.and_eq_true, Nat.ble_eq] at hq; omega
        · cases hr
      have hmade : RelL ρ (reps (z.cells.toList.map AV.ofV1) (m + 1)) (Builtin.zeroCells z.cells (m + 1)).toList := by
        rw [zeroCells_made]; exact made_rel z.cells (m + 1)
      have hnl : (Builtin.zeroCells z.cells (m + 1)).toList.length = (m + 1) * i.size := by simp [zeroCells_size, hzs]
      have A : Appends P t u e o.type i z (a.eval y) w (m + 1) (Builtin.zeroCells z.cells (m + 1)).toList := by
        refine ⟨fun ad sLen sCap w' hle hst => ?_, fun base sLen sCap olds hg holds h46 hby' => ?_⟩
        · rw [hyv]; exact appendz_room ht hu hi hz hm0 hm46 hby hle hst
        · rw [hyv]
          have := appendz_grow (P := P) (w := w) (ty := o.type) ht hu hi hz hm0 hg holds h46 hby'
          simpa using this
      obtain ⟨ρ', v, w', he, hrel, hS', hrun⟩ := appN_sim hS (Nat.succ_pos m) hpos hzs hx hmade hnl A hr
      exact Sim.one he hrel hS' (.inl (exec_append ho hrun))
def lenKind : Nat → TypeDesc → Prop
  | 0, d => ∃ e, d = .slice e
  | 1, d => d = .string
  | 2, d => ∃ k e, d = .map k e
  | _, _ => False
theorem RelE.length {ρ : Emb} : ∀ {es : List (AV × AV × Nat)} {l : List MapEntry}, RelE ρ es l → l.length = es.length
  | [], l, h => by simp only [RelE] at h; subst h; rfl
  | (k, x, b) :: es, l, h => by
    obtain ⟨k', y, ys, rfl, _, _, h2⟩ := h
    simp [RelE.length h2]
theorem run_getObj {r : Nat} {ob : Obj} (h : w.heap[r]? = some ob) (hc : ∀ c e f, ob ≠ .cells c e f) : (getObj r).run P w = .ok ob w := by
  cases ob <;> first
    | exact absurd rfl (hc _ _ _)
    | (simp only [getObj, Sem.run, h])
theorem RS.map (hS : RS w0 ρ S w) {v : Nat} {b : Base} {es : List (AV × AV × Nat)} {clock : Nat} (hb : ρ v 0 = some b) (hg : S.get v = some (.map es clock)) :
    ∃ es', w.heap[b.blk]? = some (.map es' clock) ∧ RelE ρ es es'.toList ∧ w0.heap.size ≤ b.blk := by
  obtain ⟨b1, es', h1, h2, h3, h4⟩ := hS.obj v _ hg
  rw [hb] at h1; cases h1
  exact ⟨es', h3, h4, h2⟩
theorem sim_len (C : Ctx) (call : CallF) (hF : FRel ρ n F a.tmps) (hS : RS w0 ρ S w) {o : Oper} {x : Operand} {x' : AX} {t : TypeId} {d : TypeDesc} {k : Nat}
    (ho : o.op = .call { callee := .builtin .len, args := #[x], argTypes := #[t] }) (h1 : cX x = some x') (hu : P.underlying t = some d) (hd : lenKind k d) :
    Sim P w0 ρ w (execOp a.eval o) (aop C call F S (.len k x')) := by
  have hx := cX_ev hF h1
  have hrun : ∀ v, (Builtin.len_ #[t] o.type #[a.eval x]).run P w = .ok v w → (execOp a.eval o).run P w = .ok (.value v) w := by
    intro v hv; rw [exec_builtin ho]; simp [builtin, hv]
  simp only [aop]
  split
  · rename_i q; rw [q] at hx; simp only [Rel] at hx
    obtain ⟨e, rfl⟩ := hd
    exact Sim.same hS rfl (hrun _ (by rw [hx]; simp [Builtin.len_, run_underlying hu, goInt]))
  · rename_i zz q; rw [q] at hx; simp only [Rel] at hx
    obtain ⟨e, rfl⟩ := hd
    obtain ⟨ad, c, hv, _⟩ := hx
    exact Sim.same hS rfl (hrun _ (by rw [hv]; simp [Builtin.len_, run_underlying hu, goInt]))
  · rename_i q; rw [q] at hx; simp only [Rel] at hx
    obtain ⟨e, rfl⟩ := hd
    obtain ⟨b, c, _, _, hle, hv, _⟩ := hx
    exact Sim.same hS rfl (hrun _ (by rw [hv]; simp [Builtin.len_, run_underlying hu, goInt]))
  · rename_i q; rw [q] at hx; simp only [Rel] at hx
    obtain ⟨e, rfl⟩ := hd
    obtain ⟨ad, c, hv, _⟩ := hx
    exact Sim.same hS rfl (hrun _ (by rw [hv]; simp [Builtin.len_, run_underlying hu, goInt]))
  · rename_i s q; rw [q] at hx; simp only [Rel] at hx
    obtain rfl : d = .string := hd
    have hsz : (ByteArray.mk s.toArray).size = s.length := by simp [ByteArray.size]
    exact Sim.same hS rfl (hrun _ (by rw [hx]; simp [Builtin.len_, run_underlying hu, goInt, hsz]))
  · rename_i q; rw [q] at hx; simp only [Rel] at hx
    obtain ⟨k1, e, rfl⟩ := hd
    exact Sim.same hS rfl (hrun _ (by rw [hx]; simp [Builtin.len_, run_underlying hu, goInt]))
  · rename_i v q; rw [q] at hx; simp only [Rel] at hx
    obtain ⟨k1, e, rfl⟩ := hd
    obtain ⟨b, hb, hv⟩ := hx
    split
    · rename_i es clock hg
      obtain ⟨es', hh, hre, _⟩ := hS.map hb hg
      have hl := RelE.length hre
      refine Sim.same hS rfl (hrun _ ?_)
      rw [hv]
      have hl' : es'.size = es.length := by simpa using hl
      simp [Builtin.len_, run_underlying hu, run_getObj hh, goInt, hl']
    · exact Sim.no
  · exact Sim.no
theorem sim_cap (C : Ctx) (call : CallF) (hF : FRel ρ n F a.tmps) (hS : RS w0 ρ S w) {o : Oper} {x : Operand} {x' : AX} {t e : TypeId}
    (ho : o.op = .call { callee := .builtin .cap, args := #[x], argTypes := #[t] }) (h1 : cX x = some x') (hu : P.underlying t = some (.slice e)) :
    Sim P w0 ρ w (execOp a.eval o) (aop C call F S (.cap x')) := by
  have hx := cX_ev hF h1
  have hrun : ∀ v, (Builtin.cap_ #[t] o.type #[a.eval x]).run P w = .ok v w → (execOp a.eval o).run P w = .ok (.value v) w := by
    intro v hv; rw [exec_builtin ho]; simp [builtin, hv]
  simp only [aop]
  split
  · rename_i q; rw [q] at hx; simp only [Rel] at hx
    exact Sim.same hS rfl (hrun _ (by rw [hx]; simp [Builtin.cap_, run_underlying hu, goInt]))
  · exact Sim.no
theorem foldMn_rel {mx : Bool} : ∀ {l : List AV} {vs : List Value} {x : AV} {v : Value} {r : AV}, isInt x = true → Rel ρ x v → RelL ρ l vs → foldMn mx x l = some r →
    ∃ u, Rel ρ r u ∧ (List.foldlM (if mx then Builtin.max2 else Builtin.min2) v vs).run P w = .ok u w
  | [], vs, x, v, r, _, hx, hl, h => by
    simp only [RelL] at hl; subst hl
    cases x <;> simp only [foldMn, Option.some.injEq] at h <;> subst h <;> exact ⟨v, hx, rfl⟩
  | y :: l, vs, x, v, r, hi, hx, hl, h => by
    obtain ⟨u, us, rfl, hy, hus⟩ := hl
    cases x <;> simp only [isInt, Bool.false_eq_true] at hi
    rename_i k p
    cases y <;> simp only [foldMn] at h <;> first | (cases h; done) | skip
    rename_i k' q
    cases hk : kindBeq k k' with
    | false => rw [hk] at h; cases h
    | true =>
      rw [hk] at h
      have := kindBeq_eq hk
      subst this
      simp only [cond_true] at h
      simp only [Rel] at hx hy
      subst hx; subst hy
      cases mx with
      | true =>
        simp only [if_true] at h ⊢
        obtain ⟨u, hu, hr⟩ := foldMn_rel (mx := true) (x := .int k (if q > p then q else p)) (v := .int k (if q > p then q else p)) rfl (by simp only [Rel]) hus h
        refine ⟨u, hu, ?_⟩
        simp only [if_true] at hr
        simp only [List.foldlM_cons, Sem.run_bind, Builtin.max2, Sem.run_pure, Result.andThen_ok]
        exact hr
      | false =>
        simp only [Bool.false_eq_true, if_false] at h ⊢
        obtain ⟨u, hu, hr⟩ := foldMn_rel (mx := false) (x := .int k (if q < p then q else p)) (v := .int k (if q < p then q else p)) rfl (by simp only [Rel]) hus h
        refine ⟨u, hu, ?_⟩
        simp only [Bool.false_eq_true, if_false] at hr
        simp only [List.foldlM_cons, Sem.run_bind, Builtin.min2, Sem.run_pure, Result.andThen_ok]
        exact hr
theorem sim_mnmx (hF : FRel ρ n F a.tmps) (hS : RS w0 ρ S w) {o : Oper} {x : Operand} {xs : List Operand} {args : Array Operand} {x' : AX} {l' : List AX} {ts : Array TypeId} (mx : Bool)
    (ho : o.op = .call { callee := .builtin (if mx then .max else .min), args := args, argTypes := ts }) (ha : args.toList = x :: xs) (h1 : cX x = some x') (h2 : cXs xs = some l') :
    Sim P w0 ρ w (execOp a.eval o) (withS S (bif isInt (x'.ev F) then foldMn mx (x'.ev F) (AX.evs F l') else none)) := by
  have hx := cX_ev hF h1
  have hl := cXs_ev hF h2
  refine Sim.with hS fun z hz => ?_
  cases hi : isInt (x'.ev F) with
  | false => rw [hi] at hz; cases hz
  | true =>
    rw [hi] at hz
    simp only [cond_true] at hz
    obtain ⟨u, hu, hr⟩ := foldMn_rel (P := P) (w := w) hi hx hl hz
    refine ⟨u, hu, ?_⟩
    rw [exec_builtin ho]
    have hargs : (args.map a.eval).toList = a.eval x :: xs.map a.eval := by rw [Array.toList_map, ha]; rfl
    cases mx with
    | true =>
      simp only [if_true] at hr
      simp only [builtin, if_true, Builtin.max_, hargs, Sem.run_bind, hr, Result.andThen_ok, Sem.run_pure]
    | false =>
      simp only [Bool.false_eq_true, if_false] at hr
      simp only [builtin, Bool.false_eq_true, if_false, Builtin.min_, hargs, Sem.run_bind, hr, Result.andThen_ok, Sem.run_pure]
theorem sim_clr (C : Ctx) (call : CallF) (hF : FRel ρ n F a.tmps) (hS : RS w0 ρ S w) {o : Oper} {x : Operand} {x' : AX} {t e : TypeId} {k : Nat} {z : List AV}
    (ho : o.op = .call { callee := .builtin .clear, args := #[x], argTypes := #[t] }) (h1 : cX x = some x') (hu : P.underlying t = some (.slice e)) (hk : sizeO P e = some k) (hz : zcells P e = some z) (hzl : z.length = k) :
    Sim P w0 ρ w (execOp a.eval o) (aop C call F S (.clr k z x')) := by
  have hx := cX_ev hF h1
  have hrun : ∀ v w', (Builtin.clear_ #[t] o.type #[a.eval x]).run P w = .ok v w' → (execOp a.eval o).run P w = .ok (.value v) w' := by
    intro v w' hv; rw [exec_builtin ho]; simp [builtin, hv]
  have hu0 : Rel ρ undefA (.tuple #[]) := ⟨[], rfl, rfl⟩
  simp only [aop]
  split
  · rename_i q; rw [q] at hx; simp only [Rel] at hx
    exact Sim.same hS hu0 (hrun _ _ (by rw [hx]; simp [Builtin.clear_, run_underlying hu]))
  · rename_i q; rw [q] at hx; simp only [Rel] at hx
    obtain ⟨ad, c, hx, _⟩ := hx
    exact Sim.same hS hu0 (hrun _ _ (by rw [hx]; simp [Builtin.clear_, run_underlying hu]))
  · rename_i v g q len lim zz qe; rw [qe] at hx
    simp only [Rel] at hx
    obtain ⟨b, c, hb, hle, hlc, hx, hcase⟩ := hx
    split
    · exact Sim.same hS hu0 (hrun _ _ (by rw [hx]; simp [Builtin.clear_, run_underlying hu]))
    · rename_i m
      cases hzz : Nat.beq zz k with
      | false => exact Sim.no
      | true =>
        have hzz : zz = k := by simpa using hzz
        subst hzz
        simp only [cond_true]
        split
        · rename_i S' hst
          unfold zcells at hz
          cases hzo : zeroO P e with
          | none => rw [hzo] at hz; cases hz
          | some zv =>
            rw [hzo] at hz
            simp only [Option.map_some, Option.some.injEq] at hz
            have hmade : RelL ρ (reps z (m + 1)) (Builtin.zeroCells zv.cells (m + 1)).toList := by
              rw [zeroCells_made, ← hz]; exact made_rel zv.cells (m + 1)
            obtain ⟨hst1, hS'⟩ := hS.stl (P := P) hb hle hst hmade
            refine Sim.one (Ext.refl _) hu0 hS' (.inl (hrun _ _ ?_))
            rw [hx]
            simp [Builtin.clear_, run_underlying hu, run_zeroValue' hzo, hst1]
        · exact Sim.no
  · exact Sim.no
end
end Go.Proofs.Ytednmmcdjhfflaa.Vai
