/- Texts of this claim, joined. -/
import Derived.Test.YtednmmcdjhfflaaVaiL
import Derived.RangeFuncCalls
import Derived.RangeFuncLeaves
import Derived.OrdersIn
import Derived.LoopNIn
import Derived.RecoverIn
import Derived.TacticsIn
import Derived.Scope
/-
  A verified abstract interpreter, part M: every operation is sound.
-/
namespace Go.Proofs.Ytednmmcdjhfflaa.Vai
open Go Go.RowKit
def fw (r : Option Nat) : Fence := { Fence.wide with round := r }
@[simp] theorem fw_round (r : Option Nat) : (fw r).round = r := rfl
theorem fw_depth (r : Option Nat) (n : Nat) : (fw r).depth.isSome = true → 1 ≤ n := by simp [fw, Fence.wide]
theorem fw_room (r : Option Nat) (n : Nat) : (fw r).room n := fun _ h => by simp [fw, Fence.wide] at h
theorem callsIn_fw {P : Program} {r : Option Nat} {n : Nat} {f : FuncId} {args : Array Value} {w : World} {R : Ending → World → Prop} (h : Calls P f args w R) : CallsIn (fw r) n P f args w R :=
  ⟨trivial, fun cs _ => (callsIn_wide (n := n).2 h).2 cs (room_wide _)⟩
theorem calls_fw {P : Program} {r : Option Nat} {n : Nat} {f : FuncId} {args : Array Value} {w : World} {R : Ending → World → Prop} (h : CallsIn (fw r) n P f args w R) : Calls P f args w R :=
  h.calls (fw_room r)
def EndsAs (ρ : Emb) (x : AV) (e : Ending) : Prop := (∃ v, e = .returned v ∧ Rel ρ x v) ∨ ∃ y v, x = .pan y ∧ e = .panicked [{ v, recovered := false }] ∧ Rel ρ y v
def CallOk (P : Program) (w0 : World) (ρ0 : Emb) (call : CallF) : Prop :=
  ∀ (f : Nat) (args : List AV) (S : AS) (ρ : Emb) (w : World) (cargs : List Value), Ext ρ0 ρ → RS w0 ρ S w → RelL ρ args cargs → ∀ T : AV × AS → Prop, (call f args S).All T →
    (∀ w', (callFunc f cargs.toArray).run P w' = .ok (.enter f cargs.toArray) w') ∧
    Calls P f cargs.toArray w fun e w' => ∃ p ρ', EndsAs ρ' p.1 e ∧ T p ∧ Ext ρ ρ' ∧ RS w0 ρ' p.2 w'
def EnvOk (P : Program) (w0 : World) (ρ0 : Emb) (env : Env) : Prop :=
  ∀ v rd, env v = some rd → ∃ b rec, ρ0 v 0 = some b ∧ b.raw 1 = some (.loop rec) ∧
    ∀ (ρ : Emb) (S : AS) (w : World) (args : List AV) (cargs : List Value), Ext ρ0 ρ → RS w0 ρ S w → RelL ρ args cargs → ∀ T : AV × AS → Prop, (rd args S).All T →
      S.get v = some (.raw 1) ∧ cargs.length = rec.params.size ∧ ∀ r0 m, RoundIn (fw r0) m P b.blk rec.fn ((rec.params.zip cargs.toArray).foldl (fun tmps (t, a) => tmps.setIfInBounds t a) rec.tmps) rec.assign rec.body w
        fun e w' => ∃ p ρ', EndsAs ρ' p.1 e ∧ T p ∧ Ext ρ ρ' ∧ RS w0 ρ' p.2 w'
theorem EnvOk.none {P : Program} {w0 : World} {ρ0 : Emb} : EnvOk P w0 ρ0 fun _ => none := fun _ _ h => by cases h
theorem EnvOk.ext {P : Program} {w0 : World} {ρ0 ρ1 : Emb} {env : Env} (h : EnvOk P w0 ρ0 env) (he : Ext ρ0 ρ1) : EnvOk P w0 ρ1 env := fun v rd hv =>
  let ⟨b, rec, h1, h2, h3⟩ := h v rd hv
  ⟨b, rec, he _ _ _ h1, h2, fun ρ S w args cargs h0 => h3 ρ S w args cargs (he.trans h0)⟩
section
variable {P : Program} {w0 : World} {ρ : Emb} {S : AS} {w : World} {n : Nat} {F : Fr} {a : Act} {C : Ctx} {call : CallF}
theorem Sim.wp0 {o : Oper} {r : R (AV × AS)} {T : AV × AS → Prop} {next : Act → World → Prop} {Q : Exit → Act → World → Prop} (h : Sim P w0 ρ w (execOp a.eval o) r) (hr : r.All T)
    (hK : ∀ p ρ' v w', T p → Ext ρ ρ' → Rel ρ' p.1 v → RS w0 ρ' p.2 w' → next (a.put o.dst v) w') : o.wp P a w next Q := by
  obtain ⟨p, ρ', v, w', h1, h2, h3, h4, h5⟩ := h T hr
  unfold Oper.wp
  rcases h5 with h5 | ⟨h5, rfl⟩
  · rw [h5, Oper.upon_value]; exact hK p ρ' v w' h1 h2 h3 h4
  · rw [h5, Oper.upon_skip]; exact hK p ρ' _ w' h1 h2 h3 h4
theorem semAt_plain {o : Oper} (h : ∀ c, o.op ≠ .defer c) {r : Option Nat} {e : Operand → Value} : o.semAt r e = execOp e o := by
  unfold Oper.semAt
  split
  · rename_i h1; exact absurd h1 (h _)
  · rfl
theorem Sim.wp {o : Oper} {r : R (AV × AS)} {T : AV × AS → Prop} {next : Act → World → Prop} {Q : Exit → Act → World → Prop} (h : Sim P w0 ρ w (execOp a.eval o) r) (hr : r.All T)
    (hnd : ∀ c, o.op ≠ .defer c) {r0 : Option Nat} {m : Nat} (hK : ∀ p ρ' v w', T p → Ext ρ ρ' → Rel ρ' p.1 v → RS w0 ρ' p.2 w' → next (a.put o.dst v) w') : o.wpIn (fw r0) m P a w next Q := by
  obtain ⟨p, ρ', v, w', h1, h2, h3, h4, h5⟩ := h T hr
  refine ⟨fun _ _ => trivial, ?_⟩
  rw [semAt_plain hnd]
  rcases h5 with h5 | ⟨h5, rfl⟩
  · rw [h5, Oper.uponIn_value]; exact hK p ρ' v w' h1 h2 h3 h4
  · rw [h5, Oper.uponIn_skip]; exact hK p ρ' _ w' h1 h2 h3 h4
theorem built_struct {t : TypeId} {fs : Array Field} {pl : List (Nat × Nat)} (hu : P.underlying t = some (.struct fs)) (hp : fieldPlaces P fs.toList = some pl) :
    ∀ i zv, P.info? t = some i → i.zero = some zv → ∀ l, P.built t l = Instr.fill (fun i => pl[i]?) zv.cells l := by
  intro i zv hi hz l
  unfold Program.built
  simp only [hi, hu, hz, mapM_places hp]
  congr 1
  funext x
  simp
theorem built_array {t e : TypeId} {m k : Nat} (hu : P.underlying t = some (.array m e)) (hk : sizeO P e = some k) :
    ∀ i zv, P.info? t = some i → i.zero = some zv → ∀ l, P.built t l = Instr.fill (fun i => some (i * k, k)) zv.cells l := by
  intro i zv hi hz l
  obtain ⟨ie, h1, rfl⟩ := sizeO_run hk
  unfold Program.built
  simp only [hi, hu, hz, h1]
theorem sim_op (hF : FRel ρ n F a.tmps) (hS : RS w0 ρ S w) {o : Oper} {ao : AOp} (h : cOp P o.op = some ao) (hc : ao.calls = false) : Sim P w0 ρ w (execOp a.eval o) (aop C call F S ao) := by
  cases hop : o.op <;> rw [hop] at h <;> simp only [cOp] at h <;> first | (cases h; done) | skip
  case move x =>
    cases hx : cX x <;> rw [hx] at h <;> cases h
    exact sim_mv hF hS (.inl hop) hx
  case assign x =>
    cases hx : cX x <;> rw [hx] at h <;> cases h
    exact sim_mv hF hS (.inr hop) hx
  case pick c x y =>
    split at h <;> cases h
    exact sim_pick C call hF hS hop (by assumption) (by assumption) (by assumption)
  case alloc t =>
    cases hz : zcells P t <;> rw [hz] at h <;> cases h
    exact sim_alloc C call hS hop hz
  case panic x =>
    cases hx : cX x <;> rw [hx] at h <;> cases h
    cases hc
  case box t x =>
    cases hx : cX x <;> rw [hx] at h <;> cases h
    exact sim_box C call hF hS hop hx
  case build t ps =>
    split at h
    · rename_i fs z hu hz
      split at h
      · rename_i pl hpl
        cases hp : cParts (fun i => pl[i]?) ps.toList <;> rw [hp] at h <;> cases h
        exact sim_build C call hF hS hop hz hp (built_struct hu hpl)
      · cases h
    · rename_i m e z hu hz
      split at h
      · rename_i k hk
        cases hp : cParts (fun i => some (i * k, k)) ps.toList <;> rw [hp] at h <;> cases h
        exact sim_build C call hF hS hop hz hp (built_array hu hk)
      · cases h
    · cases h
  case buildSlice t len ps =>
    unfold elemO at h
    split at h
    case h_2 => cases h
    rename_i e he
    split at he
    case h_2 => cases he
    rename_i e' hu
    cases he
    split at h
    case h_2 => cases h
    rename_i k z hk hz
    cases hb : (Nat.ble (len * k) 16777216 && Nat.beq z.length k && !(Nat.beq k 0)) with
    | false => rw [hb] at h; cases h
    | true =>
      rw [hb] at h
      simp only [cond_true] at h
      simp only [Bool.and_eq_true, Nat.ble_eq, Nat.beq_eq] at hb
      cases hp : cParts (fun i => some (i * k, k)) ps.toList <;> rw [hp] at h <;> cases h
      exact sim_bslice C call hF hS hop hu hk hz hb.1.1 hb.1.2 hp
  case load t x =>
    split at h <;> cases h
    · exact sim_ld1 hF hS hop (by assumption) (by assumption)
    · exact sim_ldn hF hS hop (by assumption) (by assumption) (by assumption)
  case store t p x =>
    split at h <;> cases h
    exact sim_st C call hF hS hop (by assumption) (by assumption) (by assumption)
  case nilCheck x =>
    cases hx : cX x <;> rw [hx] at h <;> cases h
    exact sim_nck C call hF hS hop hx
  case binOp op t x y u =>
    split at h
    case h_2 => cases h
    rename_i x' y' hx hy
    split at h
    · cases h; exact sim_bin C call hF hS hop hx hy
    · cases h; exact sim_bin C call hF hS hop hx hy
    · cases hk : ekOf P t (isConst x || isConst y) <;> rw [hk] at h <;> cases h
      exact sim_eq C call hF hS hop hx hy rfl hk
    · cases hk : ekOf P t (isConst x || isConst y) <;> rw [hk] at h <;> cases h
      exact sim_eq C call hF hS hop hx hy rfl hk
    · cases h
  case unOp op t x =>
    cases hx : cX x <;> rw [hx] at h <;> cases h
    exact sim_un C call hF hS hop hx
  case convert s d x =>
    split at h
    · cases h; exact sim_cvi C call hF hS hop (by assumption) (by assumption) (by assumption)
    · split at h <;> cases h
      exact sim_cvs C call hF hS hop (by assumption) (by assumption) (by assumption) (by assumption)
    · cases h
  case makeInterface t x =>
    split at h
    · cases h
    · rename_i y d hne hx hu
      cases h
      exact sim_mkif hF hS hop hx hu (fun m e => hne m e)
    · cases h
  case makeFunc f xs ys =>
    split at h <;> cases h
    exact sim_mkfn hF hS hop (by assumption) (by assumption)
  case makeMap t r =>
    cases r with
    | some _ => cases h
    | none => cases h; exact sim_mkmap C call hS hop
  case makeSlice t l c =>
    unfold elemO at h
    split at h
    case h_2 => cases h
    rename_i l' c' e hl hc' he
    split at he
    case h_2 => cases he
    rename_i e' hu
    cases he
    split at h
    case h_2 => cases h
    rename_i i z hi hz
    cases hb : (Nat.beq z.length i.size && !(Nat.beq i.size 0)) with
    | false => rw [hb] at h; cases h
    | true =>
      rw [hb] at h
      cases h
      simp only [Bool.and_eq_true, Nat.beq_eq] at hb
      exact sim_mksl C call hF hS hop hl hc' hu hi hz hb.1
  case slice t x lo hi mx =>
    split at h
    case h_2 => cases h
    rename_i x' lo' hi' mx' hx hlo hhi hmx
    split at h
    · rename_i hu
      split at h
      · cases h
        have : mx = none := by
          cases mx with
          | none => rfl
          | some m =>
            simp only [cXo] at hmx
            cases hm : cX m <;> rw [hm] at hmx <;> cases hmx
        subst this
        exact sim_sls C call hF hS hop hx hlo hhi hu
      · cases h
    · rename_i e hu
      have key : ∀ k, sizeO P e = some k → (mx ≠ none → hi ≠ none) → Sim P w0 ρ w (execOp a.eval o) (aop C call F S (.slc k x' lo' hi' mx')) :=
        fun k hk hmh => sim_slc C call hF hS hop hx hlo hhi hmx hu hk hmh
      split at h
      · cases h
      · rename_i hnot
        cases hk : sizeO P e <;> rw [hk] at h <;> cases h
        refine key _ hk fun hm hh => ?_
        subst hh
        simp only [cXo, Option.some.injEq] at hhi
        subst hhi
        cases mx with
        | none => exact hm rfl
        | some m =>
          simp only [cXo] at hmx
          cases hm' : cX m with
          | none => rw [hm'] at hmx; cases hmx
          | some am => rw [hm'] at hmx; cases hmx; exact hnot _ rfl rfl
    · cases h
  case fieldAddr t x f =>
    split at h
    case h_2 => cases h
    rename_i x' fs hx hu
    split at h
    case h_2 => cases h
    rename_i fl hf
    split at h
    · cases h
    · rename_i k hk0 hk
      cases h
      cases k with
      | zero => exact absurd rfl hk0
      | succ k => exact sim_fad C call hF hS hop hx hu hf hk
    · cases h
  case field t x f =>
    split at h
    case h_2 => cases h
    rename_i x' fs hx hu
    split at h
    case h_2 => cases h
    rename_i fl hf
    split at h <;> cases h
    · exact sim_fld1 C call hF hS hop hx hu hf (by assumption)
    · exact sim_fldn C call hF hS hop hx hu hf (by assumption) (by assumption)
  case indexAddr t x i =>
    split at h
    · rename_i x' i' e hx hi hu
      cases hk : sizeO P e <;> rw [hk] at h <;> cases h
      exact sim_ixs C call hF hS hop hx hi hu hk
    · rename_i x' i' m e hx hi hu
      cases hk : sizeO P e <;> rw [hk] at h <;> cases h
      exact sim_ixa C call hF hS hop hx hi hu hk
    · cases h
  case lookup t m k ok =>
    split at h
    case h_2 => cases h
    rename_i m' k' kt e hm hk hu
    split at h <;> cases h
    exact sim_look C call hF hS hop hm hk hu (by assumption) (by assumption)
  case mapUpdate t m k x =>
    unfold cOp.cUpd at h
    split at h
    case h_2 => cases h
    rename_i m' k' x' kt e hm hk hx hu
    cases hkk : keyO P kt <;> rw [hkk] at h <;> cases h
    exact sim_mup C call hF hS (.inl hop) hm hk hx hu hkk
  case insert t m k x =>
    unfold cOp.cUpd at h
    split at h
    case h_2 => cases h
    rename_i m' k' x' kt e hm hk hx hu
    cases hkk : keyO P kt <;> rw [hkk] at h <;> cases h
    exact sim_mup C call hF hS (.inr hop) hm hk hx hu hkk
  case range t x =>
    split at h <;> cases h
    exact sim_rng C call hF hS hop (by assumption) (by assumption)
  case next x b =>
    cases b with
    | true => cases h
    | false =>
      simp only at h
      cases hx : cX x <;> rw [hx] at h <;> cases h
      exact sim_nxt C call hF hS hop hx
  case entry x =>
    cases hx : cX x <;> rw [hx] at h <;> cases h
    exact sim_ent C call hF hS hop hx
  case typeAssert x u t ok =>
    split at h
    · cases h
    · rename_i y d z hne hx hu hz
      cases h
      exact sim_tas C call hF hS hop hx hu (fun m e => hne m e) hz
    · cases h
  case index t x i =>
    split at h
    · rename_i hx hi hu
      cases h
      exact sim_xst C call hF hS hop hx hi hu
    · cases h
  case extract x i =>
    cases hx : cX x <;> rw [hx] at h <;> cases h
    exact sim_xt C call hF hS hop hx
  case call c =>
    unfold cCall at h
    obtain ⟨callee, args, ts⟩ := c
    simp only at h
    split at h
    · rename_i f _
      cases hxs : cXs args.toList <;> rw [hxs] at h <;> cases h
      cases hc
    · split at h <;> cases h
      cases hc
    · split at h <;> cases h
      cases hc
    · rename_i b _
      have harr1 : ∀ {α : Type} {xs : Array α} {l : List α}, xs.toList = l → xs = l.toArray := fun h => by rw [← h]
      split at h
      · rename_i x t ha ht
        have e1 := harr1 ha
        have e2 := harr1 ht
        subst e1; subst e2
        split at h <;> cases h
        · exact sim_len C call hF hS hop (by assumption) (by assumption) (k := 1) rfl
        · exact sim_len C call hF hS hop (by assumption) (by assumption) (k := 0) ⟨_, rfl⟩
        · exact sim_len C call hF hS hop (by assumption) (by assumption) (k := 2) ⟨_, _, rfl⟩
      · rename_i x t ha ht
        have e1 := harr1 ha
        have e2 := harr1 ht
        subst e1; subst e2
        split at h <;> cases h
        exact sim_cap C call hF hS hop (by assumption) (by assumption)
      · rename_i x t ha ht
        have e1 := harr1 ha
        have e2 := harr1 ht
        subst e1; subst e2
        unfold elemO at h
        split at h
        case h_2 => cases h
        rename_i x' e hx he
        split at he
        case h_2 => cases he
        rename_i e' hu
        cases he
        split at h
        case h_2 => cases h
        rename_i k z hk hz
        cases hl : Nat.beq z.length k with
        | false => rw [hl] at h; cases h
        | true =>
          rw [hl] at h
          cases h
          exact sim_clr C call hF hS hop hx hu hk hz (by simpa using hl)
      · rename_i x y t u ha ht
        have e1 := harr1 ha
        have e2 := harr1 ht
        subst e1; subst e2
        unfold elemO at h
        split at h
        case h_2 => cases h
        rename_i x' y' e ud hx hy he hud
        split at he
        case h_2 => cases he
        rename_i e' hu
        cases he
        split at h
        case h_2 => cases h
        rename_i i hi
        split at h
        · rename_i z ku hz
          cases hb : Nat.beq z.cells.size i.size with
          | false => rw [hb] at h; cases h
          | true =>
            rw [hb] at h
            cases h
            exact sim_appz C call hF hS hop hx hy hu hud hi hz (by simpa using hb)
        · rename_i z e2 hz
          cases hb : Nat.beq z.cells.size i.size with
          | false => rw [hb] at h; cases h
          | true =>
            rw [hb] at h
            cases h
            exact sim_app C call hF hS hop hx hy ⟨hu, hud, hi, hz, by simpa using hb, by simp⟩
        · rename_i z hz
          cases hb : Nat.beq z.cells.size i.size with
          | false => rw [hb] at h; cases h
          | true =>
            rw [hb] at h
            cases h
            exact sim_app C call hF hS hop hx hy ⟨hu, hud, hi, hz, by simpa using hb, by simp⟩
        · cases h
      · rename_i x xs ha
        split at h <;> cases h
        exact sim_mnmx hF hS false hop ha (by assumption) (by assumption)
      · rename_i x xs ha
        split at h <;> cases h
        exact sim_mnmx hF hS true hop ha (by assumption) (by assumption)
      · cases h
end
end Go.Proofs.Ytednmmcdjhfflaa.Vai

/-
  A verified abstract interpreter, part N: calls; a row of operations; code.
-/
namespace Go.Proofs.Ytednmmcdjhfflaa.Vai
open Go Go.RowKit
section
variable {P : Program} {w0 : World} {ρ : Emb} {S : AS} {w : World} {n : Nat} {F : Fr} {a : Act} {C : Ctx} {call : CallF}
theorem run_method {t : TypeId} {name : String} {f : Nat} (h : methO P t name = some f) (v : Value) (m : Nat) : (method (m + 1) t v name).run P w = .ok (f, v) w := by
  unfold methO at h
  split at h
  case h_2 => cases h
  rename_i i hi
  split at h
  case h_2 => cases h
  rename_i md hf
  have hf' : Array.find? (fun x => x.name == name) i.methods = some md := by rw [← Array.find?_toList]; exact hf
  split at h
  · rename_i f1 e hp hfn hu
    cases h
    have hpe : md.path.isEmpty = true := by simp [Array.isEmpty, ← Array.length_toList, hp]
    simp [method, typeInfo, hi, hf', hp, follow, hfn, receiverAt, run_underlying hu, Place.get]
  · cases h
  · rename_i d hno hp hfn hu
    cases h
    have hpe : md.path.isEmpty = true := by simp [Array.isEmpty, ← Array.length_toList, hp]
    have hrec : (receiverAt t (Place.val v) false (some ((name.splitOn ".").getLastD name))).run P w = .ok v w := by
      simp only [receiverAt, Sem.run_bind, run_underlying hu, Result.andThen_ok]
      cases d <;> first
        | exact absurd rfl (hno _)
        | rfl
    simp only [method, Sem.run_bind, typeInfo, run_program, Result.andThen_ok, hi, Sem.run_pure, hf', hp, follow, hfn, hpe, if_true, hrec]
  · cases h
theorem cond_some {α : Type} {b : Bool} {x y : α} (h : (bif b then some x else none) = some y) : x = y := by
  cases b
  · cases h
  · cases h; rfl
theorem cond_map {α β : Type} {b : Bool} {x : Option α} {f : α → β} {y : β} (h : (bif b then x.map f else none) = some y) : ∃ z, f z = y := by
  cases b
  · cases h
  · cases x with
    | none => cases h
    | some z => cases h; exact ⟨z, rfl⟩
theorem oper_sound {ρ0 : Emb} {env : Env} (hcall : CallOk P w0 ρ0 call) (henv : EnvOk P w0 ρ0 env) (h0 : Ext ρ0 ρ) (hF : FRel ρ n F a.tmps) (hS : RS w0 ρ S w) {o : Oper} {ao : AOp} (h : cOp P o.op = some ao) {T : AV × AS → Prop} {kp : Nat → List Nat} (hT : (aop (ctxE P kp env) call F S ao).All T)
    {next : Act → World → Prop} {Q : Exit → Act → World → Prop} (hK : ∀ p ρ' v w', T p → Ext ρ ρ' → Rel ρ' p.1 v → RS w0 ρ' p.2 w' → next (a.put o.dst v) w')
    (hP : ∀ p ρ' y v w', T p → p.1 = .pan y → Ext ρ ρ' → Rel ρ' y v → RS w0 ρ' p.2 w' → Q (.panic [{ v, recovered := false }]) a w') {r0 : Option Nat} {m : Nat} : o.wpIn (fw r0) m P a w next Q := by
  have hnd : ∀ c, o.op ≠ .defer c := by intro c hc; rw [hc] at h; cases h
  by_cases hpn : ∃ x, o.op = .panic x
  · obtain ⟨x, hx⟩ := hpn
    rw [hx] at h
    simp only [cOp, Option.map_eq_some_iff] at h
    obtain ⟨x', hx', rfl⟩ := h
    have hv := cX_ev hF hx'
    simp only [aop] at hT
    split at hT
    · rename_i t y q
      rw [q] at hv
      obtain ⟨u, hu, hv'⟩ := id hv
      refine ⟨fun _ _ => trivial, ?_⟩
      have : (execOp a.eval o).run P w = .halt (.panic (.iface t u)) w := by
        simp only [execOp, hx, hv']
        simp [Instr.panic]
      rw [semAt_plain hnd, this, Oper.uponIn_panic]
      exact hP _ ρ _ _ w hT rfl (Ext.refl _) ⟨u, hu, rfl⟩ hS
    · exact hT.elim
  cases hc : ao.calls with
  | false => exact (sim_op hF hS h hc).wp hT hnd hK
  | true =>
    have fin : ∀ (f : Nat) (args : List AV) (cargs : List Value), RelL ρ args cargs → (call f args S).All T → (execOp a.eval o).run P w = (callFunc f cargs.toArray).run P w → o.wpIn (fw r0) m P a w next Q := by
      intro f args cargs hr hT he
      obtain ⟨h1, h2⟩ := hcall f args S ρ w cargs h0 hS hr T hT
      refine ⟨fun _ _ => trivial, ?_⟩
      rw [semAt_plain hnd, he, h1 w, Oper.uponIn_enter]
      refine ⟨fw_depth _ _, (callsIn_fw h2).mono ?_⟩
      rintro e w' ⟨p, ρ', q1, q2, q3, q4⟩
      rcases q1 with ⟨v, rfl, q1⟩ | ⟨y, v, g1, rfl, g2⟩
      · exact hK p ρ' v w' q2 q3 q1 q4
      · exact hP p ρ' y v w' q2 g1 q3 g2 q4
    have hcl : ∃ c, o.op = .call c := by
      cases hop : o.op <;> rw [hop] at h <;> first
        | exact ⟨_, rfl⟩
        | exact (hpn (Exists.intro _ hop)).elim
        | (exfalso; simp only [cOp, cOp.cUpd] at h; (repeat' split at h) <;> first
             | (cases h; done)
             | (cases h; cases hc; done)
             | (have := cond_some h; subst this; cases hc; done)
             | (obtain ⟨_, rfl⟩ := cond_map h; cases hc; done)
             | (simp only [Option.map_eq_some_iff] at h; obtain ⟨_, _, rfl⟩ := h; cases hc; done))
        | (exfalso; simp only [cOp] at h; (repeat' split at h) <;> first
             | (cases h; done)
             | (cases h; cases hc; done)
             | (have := cond_some h; subst this; cases hc; done)
             | (obtain ⟨_, rfl⟩ := cond_map h; cases hc; done)
             | (simp only [Option.map_eq_some_iff] at h; obtain ⟨_, _, rfl⟩ := h; cases hc; done))
        | (exfalso; rename_i r; cases r <;> first | (cases h; cases hc; done) | (cases h; done) | (simp only [cOp, Option.map_eq_some_iff] at h; obtain ⟨_, _, rfl⟩ := h; cases hc; done))
    obtain ⟨c, hop⟩ := hcl
    rw [hop] at h
    simp only [cOp] at h
    unfold cCall at h
    obtain ⟨callee, args, ts⟩ := c
    simp only at h
    split at h
    · rename_i f
      cases hxs : cXs args.toList with
      | none => rw [hxs] at h; cases h
      | some as =>
        rw [hxs] at h
        cases h
        refine fin f _ _ (cXs_ev hF hxs) hT ?_
        have harr : (args.toList.map a.eval).toArray = args.map a.eval := by rw [← Array.toList_map]
        rw [harr]
        simp [execOp, hop, resolve, Deferred.ofValue, Act.eval, invoke]
    · rename_i x hnf
      split at h
      case h_2 => cases h
      rename_i y as hx hxs
      cases h
      simp only [aop] at hT
      split at hT
      · rename_i f first cap q
        have hxv := cX_ev hF hx
        rw [q] at hxv
        simp only [Rel] at hxv
        obtain ⟨fs, cs, h1, h2, hv⟩ := hxv
        refine fin f _ _ (RelL.append (RelL.append h1 (cXs_ev hF hxs)) h2) hT ?_
        have harr : (fs ++ args.toList.map a.eval ++ cs).toArray = (⟨fs⟩ ++ args.map a.eval) ++ ⟨cs⟩ := by apply Array.ext'; simp
        rw [harr]
        simp only [execOp, hop, resolve, hv, Deferred.ofValue, invoke, Sem.run_bind, Sem.run_pure, Result.andThen_ok]
      ·
        rename_i v q
        have hxv := cX_ev hF hx
        rw [q] at hxv
        simp only [Rel] at hxv
        obtain ⟨b, hb, hv⟩ := hxv
        split at hT
        case h_2 => exact hT.elim
        rename_i rd hrd
        obtain ⟨b', rec, e1, e2, e3⟩ := henv v rd hrd
        have := h0 _ _ _ e1
        rw [hb] at this
        cases this
        obtain ⟨g1, g2, g3⟩ := e3 ρ S w _ _ h0 hS (cXs_ev hF hxs) T hT
        have hobj := hS.obj v _ g1
        obtain ⟨b2, o2, q1, _, q3, q4⟩ := hobj
        rw [hb] at q1
        cases q1
        rw [e2] at q3
        cases q3
        refine ⟨fun _ _ => trivial, ?_⟩
        have harr : (args.toList.map a.eval).toArray = args.map a.eval := by rw [← Array.toList_map]
        have hsz : (args.map a.eval).size = rec.params.size := by rw [← g2]; simp
        have hy := run_yield (P := P) (w := w) (args := args.map a.eval) q4 hsz
        have hrun : (execOp a.eval o).run P w = (Instr.yield b.blk (args.map a.eval)).run P w := by
          simp [execOp, hop, resolve, hv, Deferred.ofValue, invoke]
        rw [semAt_plain hnd, hrun, hy, Oper.uponIn_round]
        refine ⟨fw_depth _ _, ?_⟩
        rw [← harr]
        refine (g3 r0 (m - 1)).mono ?_
        rintro e w' ⟨p, ρ', q1, q2, q3, q4⟩
        rcases q1 with ⟨v, rfl, q1⟩ | ⟨y, v, g1, rfl, g2⟩
        · exact hK p ρ' v w' q2 q3 q1 q4
        · exact hP p ρ' y v w' q2 g1 q3 g2 q4
      · exact hT.elim
    · rename_i r name
      split at h
      case h_2 => cases h
      rename_i y as hx hxs
      cases h
      simp only [aop] at hT
      split at hT
      · rename_i t y' q
        have hxv := cX_ev hF hx
        rw [q] at hxv
        simp only [Rel] at hxv
        obtain ⟨v, h1, hv⟩ := hxv
        split at hT
        · rename_i f hm
          have hm' : methO P t name = some f := hm
          refine fin f (y' :: AX.evs F as) (v :: args.toList.map a.eval) ⟨v, _, rfl, h1, cXs_ev hF hxs⟩ hT ?_
          have harr : (v :: args.toList.map a.eval).toArray = #[v] ++ args.map a.eval := by apply Array.ext'; rw [Array.toList_append, Array.toList_map]; rfl
          rw [harr]
          have hmeth := run_method (w := w) hm' v (P.types.size + 99)
          have : P.types.size + Made.depth = P.types.size + 99 + 1 := rfl
          have g0 : (#[Value.iface t v] ++ args.map a.eval)[0]? = some (Value.iface t v) := by rw [Array.getElem?_append_left (by simp)]; rfl
          have g1 : (#[Value.iface t v] ++ args.map a.eval).extract 1 = args.map a.eval := by apply Array.ext'; simp; exact List.take_of_length_le (by simp)
          simp only [execOp, hop, resolve, hv, invoke, Sem.run_bind, Sem.run_pure, Result.andThen_ok, g0, g1, callMethod, run_program, this, hmeth]
        · exact hT.elim
      · exact hT.elim
    · exfalso
      (repeat' split at h) <;> first
        | (cases h; done)
        | (cases h; cases hc; done)
        | (have := cond_some h; subst this; cases hc; done)
end
end Go.Proofs.Ytednmmcdjhfflaa.Vai

/-
  A verified abstract interpreter, part O: a row of operations in the order of the text.
-/
namespace Go.Proofs.Ytednmmcdjhfflaa.Vai
open Go Go.RowKit
section
variable {P : Program} {w0 : World} {ρ ρ' : Emb} {S : AS} {w : World} {n : Nat} {F : Fr} {a : Act} {call : CallF} {kp : Nat → List Nat} {env : Env} {tmps : Array Value}
theorem FRel.ext (h : FRel ρ n F tmps) (he : Ext ρ ρ') : FRel ρ' n F tmps := ⟨h.size, fun t => Rel.ext he _ _ (h.get t)⟩
theorem Fr.get_cons (d : Nat) (v : AV) (F : Fr) (t : Nat) : Fr.get ((d, v) :: F) t = if d = t then v else Fr.get F t := by
  simp only [Fr.get]
  cases h : Nat.beq d t with
  | true => have : d = t := by simpa using h
            simp [this]
  | false =>
    have : ¬ d = t := by intro e; subst e; simp at h
    simp [this]
theorem FRel.put (h : FRel ρ n F tmps) {d : Option Nat} {x : AV} {v : Value} (hd : ∀ t, d = some t → t < n) (hr : Rel ρ x v) (df : List Deferred) :
    FRel ρ n (F.put d x) ((⟨tmps, df⟩ : Act).put d v).tmps := by
  cases d with
  | none => exact h
  | some d =>
    have hlt := hd d rfl
    refine ⟨by simp [Act.put, h.size], fun t => ?_⟩
    simp only [Fr.put, Fr.get_cons, Act.put]
    by_cases e : d = t
    · subst e
      have : d < tmps.size := by rw [h.size]; exact hlt
      simp [this, hr]
    · have := h.get t
      simp only [if_neg e]
      simpa [Array.getElem?_setIfInBounds_ne e] using this
theorem FRel.keep (h : FRel ρ n F tmps) : ∀ l : List Nat, FRel ρ n (F.keep l) tmps := by
  intro l
  refine ⟨h.size, fun t => ?_⟩
  induction l with
  | nil => simp [Fr.keep, Fr.get, Rel]
  | cons u l ih =>
    simp only [Fr.keep, Fr.get_cons]
    by_cases e : u = t
    · subst e; rw [if_pos rfl]; exact h.get u
    · simp only [if_neg e]; exact ih
theorem put_defers (a : Act) (d : Option Nat) (v : Value) : (a.put d v).defers = a.defers := by cases d <;> rfl
theorem cOper_say {ops : Array Oper} {o : Oper} : ((cOper P ops n o).gd = none ∧ (cOper P ops n o).op = .bad) ∨
    ((cOper P ops n o).dst = o.dst ∧ (∀ t, o.dst = some t → t < n) ∧ cOp P o.op = some (cOper P ops n o).op ∧
    (((cOper P ops n o).gd = none ∧ o.guard = none) ∨ ∃ j b t, o.guard = some (j, b) ∧ (ops[j]?).bind (·.dst) = some t ∧ (cOper P ops n o).gd = some (t, b))) := by
  unfold cOper
  split
  case h_2 => exact .inl ⟨rfl, rfl⟩
  rename_i g ao hg hao hd
  refine .inr ⟨rfl, fun t ht => ?_, hao, ?_⟩
  · rw [ht] at hd; simpa [cDok] using hd
  · cases hgd : o.guard with
    | none => rw [hgd] at hg; cases hg; exact .inl ⟨rfl, rfl⟩
    | some jb =>
      obtain ⟨j, b⟩ := jb
      rw [hgd] at hg
      simp only [cGd] at hg
      split at hg
      · rename_i t ht; cases hg; exact .inr ⟨j, b, t, rfl, ht, rfl⟩
      · cases hg
theorem wantA_say (hF : FRel ρ n F a.tmps) {ops : Array Oper} {o : Oper} {gd : Option (Nat × Bool)} (hg : (gd = none ∧ o.guard = none) ∨ ∃ j b t, o.guard = some (j, b) ∧ (ops[j]?).bind (·.dst) = some t ∧ gd = some (t, b)) {b : Bool} (h : wantA F gd = some b) :
    Region.wanted o (yielded ops a.tmps) = b := by
  rcases hg with ⟨h1, h2⟩ | ⟨j, c, t, h1, h2, h3⟩
  · rw [h1] at h
    simp only [wantA, Option.some.injEq] at h
    subst h
    simp [Region.wanted, h2]
  · rw [h3] at h
    simp only [wantA] at h
    split at h
    case h_3 => cases h
    case h_2 =>
      rename_i q
      cases h
      have := hF.get t
      rw [q] at this
      obtain ⟨l, hl, hv⟩ := this
      obtain rfl : l = [] := hl
      have hy : yielded ops a.tmps j = none := by
        unfold yielded
        rw [h2]
        cases hq : a.tmps[t]? with
        | none => simp [hq]
        | some u =>
          have h2 : a.tmps.getD t undef = u := by simp [hq]
          rw [h2] at hv
          subst hv
          simp [hq]
      simp only [Region.wanted, h1, hy]
      cases c <;> rfl
    rename_i d q
    cases h
    have := hF.get t
    rw [q] at this
    simp only [Rel] at this
    have ht : a.tmps[t]? = some (.bool d) := by
      cases hq : a.tmps[t]? with
      | none =>
        have h2 : a.tmps.getD t undef = undef := by simp [hq]
        rw [h2] at this; cases this
      | some u =>
        have h2 : a.tmps.getD t undef = u := by simp [hq]
        rw [h2] at this; rw [this]
    have hy : yielded ops a.tmps j = some d := by
      unfold yielded
      rw [h2]
      simp [ht]
    simp only [Region.wanted, h1, hy]
    simp
def EndX (ρ : Emb) : AE → Exit → Prop
  | .norm, e => e = .normal
  | .exit id, e => e = .exit id
  | .ret, e => e = .ret
  | .pan y, e => ∃ v, e = .panic [{ v, recovered := false }] ∧ Rel ρ y v
def Good (w0 : World) (n : Nat) (ds : List Deferred) (ρ : Emb) (Q : Exit → Act → World → Prop) (r : AE × Fr × AS) : Prop :=
  ∀ ρ' e a' w', Ext ρ ρ' → EndX ρ' r.1 e → FRel ρ' n r.2.1 a'.tmps → a'.defers = ds → RS w0 ρ' r.2.2 w' → Q e a' w'
theorem Good.ext {ds : List Deferred} {ρ ρ' : Emb} {Q : Exit → Act → World → Prop} {r : AE × Fr × AS} (h : Good w0 n ds ρ Q r) (he : Ext ρ ρ') : Good w0 n ds ρ' Q r :=
  fun ρ'' e a' w' he' => h ρ'' e a' w' (he.trans he')
theorem isPan_of {ρ : Emb} {x : AV} {v : Value} (h : Rel ρ x v) : ∀ y, x ≠ .pan y := by
  rintro y rfl; simp [Rel] at h
theorem ops_sound {ρ0 : Emb} (hcall : CallOk P w0 ρ0 call) (henv : EnvOk P w0 ρ0 env) {r0 : Option Nat} {m : Nat} {ops : Array Oper} {ds : List Deferred} {Q : Exit → Act → World → Prop} : ∀ (os : List Oper) (i : Nat), ops.toList.drop i = os → ∀ (F : Fr) (S : AS) (ρ : Emb) (a : Act) (w : World),
    Ext ρ0 ρ → FRel ρ n F a.tmps → a.defers = ds → RS w0 ρ S w →
    (runOps (ctxE P kp env) call (os.map (cOper P ops n)) F S).All (Good w0 n ds ρ Q) →
    wpOpsIn (fw r0) m P ops Q (List.range' i os.length) a w
  | [], i, _, F, S, ρ, a, w, h0, hF, hd, hS, h => by
    exact h ρ _ a w (Ext.refl _) rfl hF hd hS
  | o :: os, i, hdrop, F, S, ρ, a, w, h0, hF, hd, hS, h => by
    have hoi : ops[i]? = some o := by
      have : ops.toList[i]? = some o := by rw [← List.head?_drop, hdrop]; rfl
      simpa using this
    have hdrop' : ops.toList.drop (i + 1) = os := by rw [← List.drop_drop, hdrop]; rfl
    simp only [List.map_cons, runOps] at h
    simp only [List.length_cons, List.range'_succ, wpOpsIn, hoi]
    rcases cOper_say (P := P) (n := n) (ops := ops) (o := o) with ⟨hgd, hb⟩ | ⟨hdst, hlt, hcop, hg⟩
    · exfalso
      rw [hgd, hb] at h
      simp only [wantA, aop, R.bind_no] at h
      exact h
    · cases hwa : wantA F (cOper P ops n o).gd with
      | none => rw [hwa] at h; exact h.elim
      | some wb =>
        rw [hwa] at h
        have hw := wantA_say hF hg hwa
        cases wb with
        | false =>
          rw [if_neg (by rw [hw]; simp)]
          simp only at h
          rw [hdst] at h
          have hu : Rel ρ undefA undef := ⟨[], rfl, rfl⟩
          refine ⟨fun _ _ => trivial, ?_⟩
          exact ops_sound hcall henv os (i + 1) hdrop' _ S ρ _ w h0 (hF.put hlt hu a.defers) (by rw [put_defers]; exact hd) hS h
        | true =>
          rw [if_pos hw]
          simp only at h
          rw [hdst] at h
          refine oper_sound hcall henv h0 hF hS hcop (R.All.bind h) ?_ ?_
          · intro p ρ1 v w1 hT he hr hS1
            have hF1 := (hF.ext he).put hlt hr a.defers
            split at hT
            · rename_i y hq; exact absurd hq (isPan_of hr y)
            refine ops_sound (ds := ds) hcall henv os (i + 1) hdrop' _ p.2 ρ1 _ w1 (h0.trans he) hF1 (by rw [put_defers]; exact hd) hS1 ?_
            exact R.All.mono hT fun r hr' => hr'.ext he
          · intro p ρ1 y v w1 hT hp he hr hS1
            simp only [hp] at hT
            exact hT ρ1 _ a w1 he ⟨v, rfl, hr⟩ (hF.ext he) hd hS1
end
end Go.Proofs.Ytednmmcdjhfflaa.Vai
