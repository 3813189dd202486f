/-
  A verified abstract interpreter, part F: the operations that call nothing, first half.
-/
import Derived.Test.YtednmmcdjhfflaaVaiE
import Derived.Laws.Cells
namespace Go.Proofs.Ytednmmcdjhfflaa.Vai
open Go Go.RowKit
def Ran (P : Program) (s : Sem Next) (w : World) (v : Value) (w' : World) : Prop := s.run P w = .ok (.value v) w' ∨ (s.run P w = .ok .skip w' ∧ v = undef)
def Sim (P : Program) (w0 : World) (ρ : Emb) (w : World) (s : Sem Next) (r : R (AV × AS)) : Prop :=
  ∀ T : AV × AS → Prop, r.All T → ∃ p ρ' v w', T p ∧ Ext ρ ρ' ∧ Rel ρ' p.1 v ∧ RS w0 ρ' p.2 w' ∧ Ran P s w v w'
structure FRel (ρ : Emb) (n : Nat) (F : Fr) (tmps : Array Value) : Prop where
  size : tmps.size = n
  get : ∀ t, Rel ρ (F.get t) (tmps.getD t undef)
section
variable {P : Program} {w0 : World} {ρ : Emb} {S : AS} {w : World} {n : Nat} {F : Fr} {a : Act}
theorem Sim.no {s : Sem Next} : Sim P w0 ρ w s .no := fun _ h => h.elim
theorem Sim.one {s : Sem Next} {p : AV × AS} {ρ' : Emb} {v : Value} {w' : World} (he : Ext ρ ρ') (hr : Rel ρ' p.1 v) (hS : RS w0 ρ' p.2 w') (hrun : Ran P s w v w') : Sim P w0 ρ w s (.one p) :=
  fun _ h => ⟨p, ρ', v, w', h, he, hr, hS, hrun⟩
theorem Sim.same {s : Sem Next} {x : AV} {v : Value} (hS : RS w0 ρ S w) (hr : Rel ρ x v) (hrun : s.run P w = .ok (.value v) w) : Sim P w0 ρ w s (.one (x, S)) :=
  Sim.one (Ext.refl _) hr hS (.inl hrun)
theorem Sim.with {s : Sem Next} {o : Option AV} (hS : RS w0 ρ S w) (h : ∀ x, o = some x → ∃ v, Rel ρ x v ∧ s.run P w = .ok (.value v) w) : Sim P w0 ρ w s (withS S o) := by
  cases o with
  | none => exact Sim.no
  | some x => obtain ⟨v, h1, h2⟩ := h x rfl; exact Sim.same hS h1 h2
theorem cX_ev (hF : FRel ρ n F a.tmps) {x : Operand} {y : AX} (h : cX x = some y) : Rel ρ (y.ev F) (a.eval x) := by
  cases x with
  | tmp t => simp only [cX, Option.some.injEq] at h; subst h; exact hF.get t
  | const v => simp only [cX, Option.some.injEq] at h; subst h; exact Rel.ofV ρ v
  | global g => cases h
  | func f =>
    simp only [cX, Option.some.injEq] at h; subst h
    exact ⟨[], [], rfl, rfl, rfl⟩
theorem cXs_ev (hF : FRel ρ n F a.tmps) : ∀ {xs : List Operand} {ys : List AX}, cXs xs = some ys → RelL ρ (AX.evs F ys) (xs.map a.eval)
  | [], ys, h => by simp only [cXs, Option.some.injEq] at h; subst h; rfl
  | x :: xs, ys, h => by
    simp only [cXs] at h
    split at h
    · rename_i b l h1 h2
      cases h
      exact ⟨_, _, rfl, cX_ev hF h1, cXs_ev hF h2⟩
    · cases h
theorem sizeO_run {t : TypeId} {k : Nat} (h : sizeO P t = some k) : ∃ i, P.info? t = some i ∧ i.size = k := by
  unfold sizeO at h
  cases hi : P.info? t with
  | none => rw [hi] at h; cases h
  | some i => rw [hi] at h; exact ⟨i, rfl, by simpa using h⟩
theorem run_sizeOf' {t : TypeId} {k : Nat} (h : sizeO P t = some k) (w : World) : (sizeOf t).run P w = .ok k w := by
  obtain ⟨i, hi, rfl⟩ := sizeO_run h
  simp [sizeOf, typeInfo, hi]
theorem run_isAgg' {t : TypeId} {b : Bool} (h : aggO P t = some b) (w : World) : (isAgg t).run P w = .ok b w := by
  unfold aggO at h
  cases hu : P.underlying t with
  | none => rw [hu] at h; cases h
  | some d =>
    rw [hu] at h
    simp only [Option.map_some, Option.some.injEq] at h
    subst h
    simp only [isAgg, Sem.run_bind, run_underlying hu, Result.andThen_ok]
    cases d <;> rfl
theorem run_zeroValue' {t : TypeId} {z : Value} (h : zeroO P t = some z) (w : World) : (zeroValue t).run P w = .ok z w := by
  unfold zeroO at h
  cases hi : P.info? t with
  | none => rw [hi] at h; cases h
  | some i =>
    rw [hi] at h
    simp only [Option.bind_some] at h
    simp [zeroValue, typeInfo, hi, h]
theorem sim_mv (hF : FRel ρ n F a.tmps) (hS : RS w0 ρ S w) {o : Oper} {x : Operand} {y : AX} (ho : o.op = .move x ∨ o.op = .assign x) (h : cX x = some y) :
    Sim P w0 ρ w (execOp a.eval o) (.one (y.ev F, S)) := by
  refine Sim.same hS (cX_ev hF h) ?_
  rcases ho with ho | ho <;> simp [execOp, ho]
theorem sim_pick (C : Ctx) (call : CallF) (hF : FRel ρ n F a.tmps) (hS : RS w0 ρ S w) {o : Oper} {c x y : Operand} {c' x' y' : AX} (ho : o.op = .pick c x y) (h1 : cX c = some c') (h2 : cX x = some x') (h3 : cX y = some y') :
    Sim P w0 ρ w (execOp a.eval o) (aop C call F S (.pick c' x' y')) := by
  have hc := cX_ev hF h1
  simp only [aop]
  split
  · rename_i e; rw [e] at hc; simp only [Rel] at hc
    exact Sim.same hS (cX_ev hF h2) (by simp [execOp, ho, hc, asBool])
  · rename_i e; rw [e] at hc; simp only [Rel] at hc
    exact Sim.same hS (cX_ev hF h3) (by simp [execOp, ho, hc, asBool])
  · exact Sim.no
theorem relL_idx {ρ : Emb} {c : List AV} {l : List Value} (h : RelL ρ c l) : ∀ (i : Nat) x, c[i]? = some x → ∃ y, l.toArray[i]? = some y ∧ Rel ρ x y := fun i x hx => by
  obtain ⟨y, hy, hr⟩ := h.get hx
  exact ⟨y, by simpa using hy, hr⟩
theorem RS.newVar (hS : RS w0 ρ S w) (T : TypeId) {c : List AV} {x : Value} (h : RelL ρ c x.cells.toList) :
    ∃ ρ' v w', (newVar T x).run P w = .ok ⟨w.heap.size, 0, none⟩ w' ∧ v = Value.pointer (some ⟨w.heap.size, 0, none⟩) ∧ Ext ρ ρ' ∧ Rel ρ' (.ptr S.n 0 0 c.length) v ∧ RS w0 ρ' (S.newRow c c.length false) w' := by
  have hl := RelL.length h
  obtain ⟨ρ', he, hp, hS'⟩ := hS.newRow T (c := c) (sz := c.length) (cap := 1) (opn := false) (vs := x.cells) (by simpa using hl) (by simp) (by simp) (by simpa using relL_idx h)
  exact ⟨ρ', _, _, by simp [Go.newVar, Go.newRow], rfl, he, ⟨_, hp, Nat.le_refl _, by simp⟩, hS'⟩
theorem sim_box (C : Ctx) (call : CallF) (hF : FRel ρ n F a.tmps) (hS : RS w0 ρ S w) {o : Oper} {t : TypeId} {x : Operand} {y : AX} (ho : o.op = .box t x) (h : cX x = some y) :
    Sim P w0 ρ w (execOp a.eval o) (aop C call F S (.box y)) := by
  have hx := cX_ev hF h
  simp only [aop]
  split
  · rename_i c hc
    obtain ⟨ρ', v, w', hrun, rfl, he, hr, hS'⟩ := hS.newVar (P := P) t (hx.cells hc)
    exact Sim.one he hr hS' (.inl (by simp [execOp, ho, Instr.box, hrun]))
  · exact Sim.no
theorem sim_alloc (C : Ctx) (call : CallF) (hS : RS w0 ρ S w) {o : Oper} {t : TypeId} {z : List AV} (ho : o.op = .alloc t) (h : zcells P t = some z) :
    Sim P w0 ρ w (execOp a.eval o) (aop C call F S (.alloc z)) := by
  unfold zcells at h
  cases hz : zeroO P t with
  | none => rw [hz] at h; cases h
  | some zv =>
    rw [hz] at h
    simp only [Option.map_some, Option.some.injEq] at h
    subst h
    obtain ⟨ρ', v, w', hrun, rfl, he, hr, hS'⟩ := hS.newVar (P := P) t (RelL.ofV1 ρ zv.cells.toList)
    exact Sim.one he hr hS' (.inl (by simp [execOp, ho, Instr.alloc, run_zeroValue' hz, hrun]))
theorem sim_ld1 (hF : FRel ρ n F a.tmps) (hS : RS w0 ρ S w) {o : Oper} {t : TypeId} {x : Operand} {y : AX} (ho : o.op = .load t x) (h : cX x = some y) (hg : aggO P t = some false) :
    Sim P w0 ρ w (execOp a.eval o) (withS S (S.ld1 (y.ev F))) := by
  refine Sim.with hS fun z hz => ?_
  obtain ⟨ad, v, hp, hc, hr⟩ := hS.cell (cX_ev hF h) hz
  exact ⟨v, hr, by simp [execOp, ho, hp, Instr.loadAt, Instr.sureAddr, loadVar, run_isAgg' hg, hc]⟩
theorem sim_ldn (hF : FRel ρ n F a.tmps) (hS : RS w0 ρ S w) {o : Oper} {t : TypeId} {x : Operand} {y : AX} {k : Nat} (ho : o.op = .load t x) (h : cX x = some y) (hg : aggO P t = some true) (hk : sizeO P t = some k) :
    Sim P w0 ρ w (execOp a.eval o) (withS S (S.ldn k (y.ev F))) := by
  refine Sim.with hS fun z hz => ?_
  have hp := cX_ev hF h
  cases hy : y.ev F <;> rw [hy] at hz hp <;> simp only [AS.ldn] at hz <;> first | (cases hz; done) | skip
  case fp zz cs of =>
    simp only [Rel] at hp
    obtain ⟨kk, off, ob, hp, ⟨_, hk1, _⟩, hc⟩ := hp
    cases hb : Nat.ble (of + k) cs.length with
    | false => rw [hb] at hz; cases hz
    | true =>
      rw [hb] at hz
      simp only [cond_true, Option.some.injEq] at hz
      subst hz
      obtain ⟨ys, hlen, hrel, hcell⟩ := hS.fcells (n := k) (o := of) hk1 hc (by simpa using hb)
      have hload := run_loadCells_list (P := P) w _ ys hcell
      rw [hlen] at hload
      exact ⟨.agg ⟨ys⟩, ⟨ys, hrel, rfl⟩, by simp [execOp, ho, hp, Instr.loadAt, Instr.sureAddr, loadVar, run_isAgg' hg, run_sizeOf' hk, hload]⟩
  rename_i v g of e
  simp only [Rel] at hp
  obtain ⟨b, hb, hle, hp⟩ := hp
  cases hl : S.ldl v g of e k with
  | none => rw [hl] at hz; cases hz
  | some l =>
    rw [hl] at hz
    simp only [Option.map_some, Option.some.injEq] at hz
    subst hz
    obtain ⟨ys, hlen, hrel, hcell⟩ := hS.cells hb hle hl
    have hload := run_loadCells_list (P := P) w _ ys hcell
    rw [hlen] at hload
    exact ⟨.agg ⟨ys⟩, ⟨ys, hrel, rfl⟩, by simp [execOp, ho, hp, Instr.loadAt, Instr.sureAddr, loadVar, run_isAgg' hg, run_sizeOf' hk, hload]⟩
theorem sim_st (C : Ctx) (call : CallF) (hF : FRel ρ n F a.tmps) (hS : RS w0 ρ S w) {o : Oper} {t : TypeId} {p x : Operand} {p' x' : AX} {k : Nat} (ho : o.op = .store t p x) (h1 : cX p = some p') (h2 : cX x = some x') (hk : sizeO P t = some k) :
    Sim P w0 ρ w (execOp a.eval o) (aop C call F S (.st k p' x')) := by
  have hp := cX_ev hF h1
  have hx := cX_ev hF h2
  simp only [aop]
  cases hst : S.st k (p'.ev F) (x'.ev F) with
  | none => exact Sim.no
  | some S' =>
    unfold AS.st at hst
    split at hst
    · rename_i v g of e xs hpe hxe
      cases hl : Nat.beq xs.length k with
      | false => rw [hl] at hst; cases hst
      | true =>
        rw [hl] at hst
        simp only [cond_true] at hst
        rw [hpe] at hp
        simp only [Rel] at hp
        obtain ⟨b, hb, hle, hp⟩ := hp
        have hc := hx.cells hxe
        obtain ⟨hrun, hS'⟩ := hS.stl (P := P) hb hle hst hc
        have hlen := RelL.length hc
        have hsz : (a.eval x).cells.size = k := by
          have : xs.length = k := by simpa using hl
          rw [← this, ← hlen]; simp
        refine Sim.one (Ext.refl _) ⟨[], rfl, rfl⟩ hS' (.inr ⟨?_, rfl⟩)
        simp [execOp, ho, hp, Instr.storeAt, Instr.sureAddr, storeVar, run_sizeOf' hk, hsz, hrun]
    · cases hst
theorem sim_nck (C : Ctx) (call : CallF) (hF : FRel ρ n F a.tmps) (hS : RS w0 ρ S w) {o : Oper} {x : Operand} {y : AX} (ho : o.op = .nilCheck x) (h : cX x = some y) :
    Sim P w0 ρ w (execOp a.eval o) (aop C call F S (.nck y)) := by
  have hx := cX_ev hF h
  simp only [aop]
  split
  · rename_i e; rw [e] at hx
    refine Sim.same hS hx ?_
    simp only [Rel] at hx
    obtain ⟨b, _, _, hp⟩ := hx
    simp [execOp, ho, hp]
  · rename_i e; rw [e] at hx
    refine Sim.same hS hx ?_
    simp only [Rel] at hx
    obtain ⟨_, _, _, hp, _⟩ := hx
    simp [execOp, ho, hp]
  · rename_i e; rw [e] at hx
    refine Sim.same hS hx ?_
    simp only [Rel] at hx
    obtain ⟨_, _, _, _, hp⟩ := hx
    simp [execOp, ho, hp]
  · rename_i e; rw [e] at hx
    refine Sim.same hS hx ?_
    simp only [Rel] at hx
    obtain ⟨_, _, hp⟩ := hx
    simp [execOp, ho, hp]
  · exact Sim.no
theorem sim_mkif (hF : FRel ρ n F a.tmps) (hS : RS w0 ρ S w) {o : Oper} {t : TypeId} {x : Operand} {y : AX} {d : TypeDesc} (ho : o.op = .makeInterface t x) (h : cX x = some y) (hu : P.underlying t = some d) (hd : ∀ m, d ≠ .interface m) :
    Sim P w0 ρ w (execOp a.eval o) (.one (.ifc t (y.ev F), S)) := by
  refine Sim.same hS ⟨_, cX_ev hF h, rfl⟩ ?_
  simp only [execOp, ho, Instr.makeInterface, Sem.run_bind, run_underlying hu, Result.andThen_ok]
  cases d <;> first | rfl | exact absurd rfl (hd _)
theorem sim_mkfn (hF : FRel ρ n F a.tmps) (hS : RS w0 ρ S w) {o : Oper} {f : Fn} {xs ys : Array Operand} {xs' ys' : List AX} (ho : o.op = .makeFunc f xs ys) (h1 : cXs xs.toList = some xs') (h2 : cXs ys.toList = some ys') :
    Sim P w0 ρ w (execOp a.eval o) (.one (.fn f (AX.evs F xs') (AX.evs F ys'), S)) := by
  refine Sim.same hS (v := .func f ⟨xs.toList.map a.eval⟩ ⟨ys.toList.map a.eval⟩) ⟨_, _, cXs_ev hF h1, cXs_ev hF h2, rfl⟩ ?_
  simp [execOp, ho, Instr.makeFunc]
  exact ⟨by rw [← Array.toList_map], by rw [← Array.toList_map]⟩
theorem sim_xt (C : Ctx) (call : CallF) (hF : FRel ρ n F a.tmps) (hS : RS w0 ρ S w) {o : Oper} {x : Operand} {y : AX} {i : Nat} (ho : o.op = .extract x i) (h : cX x = some y) :
    Sim P w0 ρ w (execOp a.eval o) (aop C call F S (.xt i y)) := by
  have hx := cX_ev hF h
  simp only [aop]
  split
  · rename_i l e; rw [e] at hx
    simp only [Rel] at hx
    obtain ⟨vs, hr, hp⟩ := hx
    refine Sim.with hS fun z hz => ?_
    obtain ⟨v, hv, hrv⟩ := hr.get hz
    exact ⟨v, hrv, by simp [execOp, ho, hp, Instr.extract, hv]⟩
  · exact Sim.no
theorem sim_fad (C : Ctx) (call : CallF) (hF : FRel ρ n F a.tmps) (hS : RS w0 ρ S w) {o : Oper} {t : TypeId} {x : Operand} {y : AX} {f : Nat} {fs : Array Field} {fl : Field} {k : Nat} (ho : o.op = .fieldAddr t x f) (h : cX x = some y)
    (hu : P.underlying t = some (.struct fs)) (hf : fs[f]? = some fl) (hk : sizeO P fl.type = some (k + 1)) : Sim P w0 ρ w (execOp a.eval o) (aop C call F S (.fad fl.offset y)) := by
  have hx := cX_ev hF h
  simp only [aop]
  split
  · rename_i v g of e q; rw [q] at hx
    simp only [Rel] at hx
    obtain ⟨b, hb, hle, hp⟩ := hx
    refine Sim.same hS (v := .pointer (some ⟨b.blk, b.off + of + fl.offset, none⟩)) ⟨b, hb, hle, by simp [Nat.add_assoc]⟩ ?_
    simp [execOp, ho, hp, Instr.fieldAt, run_underlying hu, hf, Instr.sureAddr, fieldPlace, run_sizeOf' hk, addr_add]
  · rename_i z cs of q; rw [q] at hx
    simp only [Rel] at hx
    obtain ⟨kk, off, ob, hp, h1, h2⟩ := hx
    refine Sim.same hS (v := .pointer (some ⟨kk, off + of + fl.offset, none⟩)) ⟨kk, off, ob, by simp [Nat.add_assoc], h1, h2⟩ ?_
    simp [execOp, ho, hp, Instr.fieldAt, run_underlying hu, hf, Instr.sureAddr, fieldPlace, run_sizeOf' hk, addr_add]
  · exact Sim.no
theorem part_one (w : World) {t : TypeId} {cs : List Value} {off : Nat} {v : Value} (hg : aggO P t = some false) (hv : cs[off]? = some v) : (part t ⟨cs⟩ off).run P w = .ok v w := by
  simp [part, run_isAgg' hg, hv]
theorem part_many (w : World) {t : TypeId} {cs : List Value} {off k : Nat} (hg : aggO P t = some true) (hk : sizeO P t = some k) : (part t ⟨cs⟩ off).run P w = .ok (.agg ⟨(cs.drop off).take k⟩) w := by
  simp [part, run_isAgg' hg, run_sizeOf' hk]
  try (rw [List.drop_take]; congr 1; omega)
theorem sim_fld1 (C : Ctx) (call : CallF) (hF : FRel ρ n F a.tmps) (hS : RS w0 ρ S w) {o : Oper} {t : TypeId} {x : Operand} {y : AX} {f : Nat} {fs : Array Field} {fl : Field} (ho : o.op = .field t x f) (h : cX x = some y)
    (hu : P.underlying t = some (.struct fs)) (hf : fs[f]? = some fl) (hg : aggO P fl.type = some false) : Sim P w0 ρ w (execOp a.eval o) (aop C call F S (.fld fl.offset none y)) := by
  have hx := cX_ev hF h
  simp only [aop]
  split
  · rename_i l q; rw [q] at hx
    simp only [Rel] at hx
    obtain ⟨vs, hr, hp⟩ := hx
    refine Sim.with hS fun z hz => ?_
    obtain ⟨v, hv, hrv⟩ := hr.get hz
    exact ⟨v, hrv, by simp [execOp, ho, hp, Instr.field, run_underlying hu, hf, asAgg, part_one w hg hv]⟩
  · exact Sim.no
theorem sim_fldn (C : Ctx) (call : CallF) (hF : FRel ρ n F a.tmps) (hS : RS w0 ρ S w) {o : Oper} {t : TypeId} {x : Operand} {y : AX} {f k : Nat} {fs : Array Field} {fl : Field} (ho : o.op = .field t x f) (h : cX x = some y)
    (hu : P.underlying t = some (.struct fs)) (hf : fs[f]? = some fl) (hg : aggO P fl.type = some true) (hk : sizeO P fl.type = some k) : Sim P w0 ρ w (execOp a.eval o) (aop C call F S (.fld fl.offset (some k) y)) := by
  have hx := cX_ev hF h
  simp only [aop]
  split
  · rename_i l q; rw [q] at hx
    simp only [Rel] at hx
    obtain ⟨vs, hr, hp⟩ := hx
    cases hc : Nat.ble (fl.offset + k) l.length with
    | false => exact Sim.no
    | true =>
      exact Sim.same hS ⟨_, (hr.drop fl.offset).take k, rfl⟩ (by simp [execOp, ho, hp, Instr.field, run_underlying hu, hf, asAgg, part_many w hg hk])
  · exact Sim.no
theorem aidx_rel {i : AV} {v : Value} {len k : Nat} (hr : Rel ρ i v) (h : aidx len i = some k) : ∃ kd, v = .int kd k ∧ k < len := by
  unfold aidx at h
  split at h
  · rename_i kd i'
    simp only [Rel] at hr
    cases hc : Nat.blt i' len with
    | false => rw [hc] at h; cases h
    | true =>
      rw [hc] at h
      simp only [cond_true, Option.some.injEq] at h
      subst h
      exact ⟨kd, hr, by simpa using hc⟩
  · cases h
theorem sim_ixs (C : Ctx) (call : CallF) (hF : FRel ρ n F a.tmps) (hS : RS w0 ρ S w) {o : Oper} {t e : TypeId} {x i : Operand} {x' i' : AX} {k : Nat} (ho : o.op = .indexAddr t x i) (h1 : cX x = some x') (h2 : cX i = some i')
    (hu : P.underlying t = some (.slice e)) (hk : sizeO P e = some k) : Sim P w0 ρ w (execOp a.eval o) (aop C call F S (.ixs k x' i')) := by
  have hx := cX_ev hF h1
  have hi := cX_ev hF h2
  simp only [aop]
  split
  · rename_i v g q len lim z qe
    rw [qe] at hx
    split
    · rename_i j hj
      obtain ⟨kd, hv, hlt⟩ := aidx_rel hi hj
      cases hz : Nat.beq z k with
      | false => exact Sim.no
      | true =>
        have hzk : z = k := by simpa using hz
        subst hzk
        simp only [Rel] at hx
        obtain ⟨b, c, hb, hext, hc, hp, _⟩ := hx
        simp only [cond_true]
        refine Sim.same hS (v := .pointer (some ⟨b.blk, b.off + q * z + j * z, none⟩)) ⟨b, hb, ?_, ?_⟩ ?_
        · refine Nat.le_trans ?_ hext
          exact Nat.mul_le_mul_right _ (by omega)
        · simp only [Value.pointer.injEq, Option.some.injEq, Addr.mk.injEq, and_true, true_and]
          rw [Nat.add_mul, Nat.add_assoc]
        · have : (0 : Int) ≤ (j : Int) ∧ (j : Int) < (len : Int) := by omega
          simp [execOp, ho, hp, hv, Instr.indexAt, asIntOf, run_underlying hu, this, run_sizeOf' hk, addr_add, hlt]
    · exact Sim.no
  · rename_i zo z len cs qe
    rw [qe] at hx
    split
    · rename_i j hj
      obtain ⟨kd, hv, hlt⟩ := aidx_rel hi hj
      cases hz : Nat.beq z k with
      | false => exact Sim.no
      | true =>
        have hzk : z = k := by simpa using hz
        subst hzk
        simp only [Rel] at hx
        obtain ⟨oo, c, hp, _, _, hx⟩ := hx
        rcases hx with hx | ⟨kk, off, ob, rfl, g1, g2⟩
        · omega
        simp only [cond_true]
        refine Sim.same hS (v := .pointer (some ⟨kk, off + j * z, none⟩)) ⟨kk, off, ob, rfl, g1, g2⟩ ?_
        have : (0 : Int) ≤ (j : Int) ∧ (j : Int) < (len : Int) := by omega
        simp [execOp, ho, hp, hv, Instr.indexAt, asIntOf, run_underlying hu, this, run_sizeOf' hk, addr_add, hlt]
    · exact Sim.no
  · exact Sim.no
theorem sim_ixa (C : Ctx) (call : CallF) (hF : FRel ρ n F a.tmps) (hS : RS w0 ρ S w) {o : Oper} {t e : TypeId} {x i : Operand} {x' i' : AX} {m k : Nat} (ho : o.op = .indexAddr t x i) (h1 : cX x = some x') (h2 : cX i = some i')
    (hu : P.underlying t = some (.array m e)) (hk : sizeO P e = some k) : Sim P w0 ρ w (execOp a.eval o) (aop C call F S (.ixa m k x' i')) := by
  have hx := cX_ev hF h1
  have hi := cX_ev hF h2
  simp only [aop]
  split
  · rename_i v g of ex qe
    rw [qe] at hx
    split
    · rename_i j hj
      obtain ⟨kd, hv, hlt⟩ := aidx_rel hi hj
      simp only [Rel] at hx
      obtain ⟨b, hb, hle, hp⟩ := hx
      refine Sim.same hS (v := .pointer (some ⟨b.blk, b.off + of + j * k, none⟩)) ⟨b, hb, hle, by simp [Nat.add_assoc]⟩ ?_
      have : (0 : Int) ≤ (j : Int) ∧ (j : Int) < (m : Int) := by omega
      simp [execOp, ho, hp, hv, Instr.indexAt, Instr.sureAddr, asIntOf, run_underlying hu, this, run_sizeOf' hk, addr_add, hlt]
    · exact Sim.no
  · exact Sim.no
theorem sim_xst (C : Ctx) (call : CallF) (hF : FRel ρ n F a.tmps) (hS : RS w0 ρ S w) {o : Oper} {t : TypeId} {x i : Operand} {x' i' : AX} (ho : o.op = .index t x i) (h1 : cX x = some x') (h2 : cX i = some i')
    (hu : P.underlying t = some .string) : Sim P w0 ρ w (execOp a.eval o) (aop C call F S (.xst x' i')) := by
  have hx := cX_ev hF h1
  have hi := cX_ev hF h2
  simp only [aop]
  split
  case h_2 => exact Sim.no
  rename_i s qe
  rw [qe] at hx
  split
  case h_2 => exact Sim.no
  rename_i j hj
  obtain ⟨kd, hv, hlt⟩ := aidx_rel hi hj
  simp only [Rel] at hx
  refine Sim.with hS fun z hz => ?_
  cases hb : s[j]? with
  | none => rw [hb] at hz; cases hz
  | some b =>
    rw [hb] at hz
    simp only [Option.map_some, Option.some.injEq] at hz
    subst hz
    refine ⟨.int .u8 b.toNat, rfl, ?_⟩
    have hget : (ByteArray.mk s.toArray)[j]? = some b := by
      have hsz : j < (ByteArray.mk s.toArray).size := by simpa [ByteArray.size] using hlt
      rw [getElem?_pos (ByteArray.mk s.toArray) j hsz]
      congr 1
      obtain ⟨h1, h2⟩ := List.getElem?_eq_some_iff.1 hb
      rw [← h2]; rfl
    simp [execOp, ho, hx, hv, Instr.index, asIntOf, run_underlying hu, hget]
theorem sim_cvi (C : Ctx) (call : CallF) (hF : FRel ρ n F a.tmps) (hS : RS w0 ρ S w) {o : Oper} {s d : TypeId} {x : Operand} {y : AX} {ks k : IntKind} (ho : o.op = .convert s d x) (h : cX x = some y)
    (hs : P.underlying s = some (.int ks)) (hd : P.underlying d = some (.int k)) : Sim P w0 ρ w (execOp a.eval o) (aop C call F S (.cvi k y)) := by
  have hx := cX_ev hF h
  simp only [aop]
  split
  · rename_i kk m q; rw [q] at hx
    simp only [Rel] at hx
    exact Sim.same hS rfl (by simp [execOp, ho, hx, convert, run_underlying hs, run_underlying hd, Conv.intToInt])
  · exact Sim.no
theorem sim_un (C : Ctx) (call : CallF) (hF : FRel ρ n F a.tmps) (hS : RS w0 ρ S w) {o : Oper} {u : UnOp} {t : TypeId} {x : Operand} {y : AX} (ho : o.op = .unOp u t x) (h : cX x = some y) :
    Sim P w0 ρ w (execOp a.eval o) (aop C call F S (.un u y)) := by
  have hx := cX_ev hF h
  simp only [aop]
  refine Sim.with hS fun z hz => ?_
  unfold aun at hz
  split at hz
  · rename_i b q
    rw [q] at hx
    simp only [Rel] at hx
    cases hz
    exact ⟨_, rfl, by simp [execOp, ho, hx, Op.unary]⟩
  · rename_i k m q
    rw [q] at hx
    simp only [Rel] at hx
    cases hz
    exact ⟨_, rfl, by simp [execOp, ho, hx, Op.unary, Op.intArith]⟩
  · cases hz
end
end Go.Proofs.Ytednmmcdjhfflaa.Vai
