/-
  A verified abstract interpreter, part M: every operation is sound.
-/
import Derived.Test.YtacndjnjikdcoaaGreatVaiL
import Derived.RangeFuncCalls
import Derived.RangeFuncLeaves
import Derived.OrdersIn
import Derived.LoopNIn
import Derived.RecoverIn
import Derived.TacticsIn
namespace Go.Proofs.YtacndjnjikdcoaaGreat.Vai
open Go Go.RowKit

/-- the fence that lets everything in; 'r': in which round of a loop over a function the activation stands -/
def fw (r : Option Nat) : Fence := { Fence.wide with round := r }
@[simp] theorem fw_round (r : Option Nat) : (fw r).round = r := rfl
theorem fw_fn (r : Option Nat) (f : FuncId) : (fw r).fn f := trivial
theorem fw_depth (r : Option Nat) (n : Nat) : (fw r).depth.isSome = true → 1 ≤ n := by simp [fw, Fence.wide]
theorem fw_room (r : Option Nat) (n : Nat) : (fw r).room n := fun _ h => by simp [fw, Fence.wide] at h
theorem callsIn_fw {P : Program} {r : Option Nat} {n : Nat} {f : FuncId} {args : Array Value} {w : World} {R : Ending → World → Prop} (h : Calls P f args w R) : CallsIn (fw r) n P f args w R :=
  ⟨trivial, fun cs _ => (callsIn_wide (n := n).2 h).2 cs (room_wide _)⟩
theorem calls_fw {P : Program} {r : Option Nat} {n : Nat} {f : FuncId} {args : Array Value} {w : World} {R : Ending → World → Prop} (h : CallsIn (fw r) n P f args w R) : Calls P f args w R :=
  h.calls (fw_room r)

/-- how a call ends -/
def EndsAs (ρ : Emb) (x : AV) (e : Ending) : Prop := (∃ v, e = .returned v ∧ Rel ρ x v) ∨ ∃ y v, x = .pan y ∧ e = .panicked [{ v, recovered := false }] ∧ Rel ρ y v
/-- a call is sound -/
def CallOk (P : Program) (w0 : World) (ρ0 : Emb) (call : CallF) : Prop :=
  ∀ (f : Nat) (args : List AV) (S : AS) (ρ : Emb) (w : World) (cargs : List Value), Ext ρ0 ρ → RS w0 ρ S w → RelL ρ args cargs → ∀ T : AV × AS → Prop, (call f args S).All T →
    (∀ w', (callFunc f cargs.toArray).run P w' = .ok (.enter f cargs.toArray) w') ∧
    Calls P f cargs.toArray w fun e w' => ∃ p ρ', EndsAs ρ' p.1 e ∧ T p ∧ Ext ρ ρ' ∧ RS w0 ρ' p.2 w'

/-- the rounds of the loops that stand open are sound -/
def EnvOk (P : Program) (w0 : World) (ρ0 : Emb) (env : Env) : Prop :=
  ∀ v rd, env v = some rd → ∃ b rec, ρ0 v 0 = some b ∧ b.raw 1 = some (.loop rec) ∧
    ∀ (ρ : Emb) (S : AS) (w : World) (args : List AV) (cargs : List Value), Ext ρ0 ρ → RS w0 ρ S w → RelL ρ args cargs → ∀ T : AV × AS → Prop, (rd args S).All T →
      S.get v = some (.raw 1) ∧ cargs.length = rec.params.size ∧ ∀ r0 m, RoundIn (fw r0) m P b.blk rec.fn ((rec.params.zip cargs.toArray).foldl (fun tmps (t, a) => tmps.setIfInBounds t a) rec.tmps) rec.assign rec.body w
        fun e w' => ∃ p ρ', EndsAs ρ' p.1 e ∧ T p ∧ Ext ρ ρ' ∧ RS w0 ρ' p.2 w'
theorem EnvOk.none {P : Program} {w0 : World} {ρ0 : Emb} : EnvOk P w0 ρ0 fun _ => none := fun _ _ h => by cases h
theorem EnvOk.ext {P : Program} {w0 : World} {ρ0 ρ1 : Emb} {env : Env} (h : EnvOk P w0 ρ0 env) (he : Ext ρ0 ρ1) : EnvOk P w0 ρ1 env := fun v rd hv =>
  let ⟨b, rec, h1, h2, h3⟩ := h v rd hv
  ⟨b, rec, he _ _ _ h1, h2, fun ρ S w args cargs h0 => h3 ρ S w args cargs (he.trans h0)⟩

section
variable {P : Program} {w0 : World} {ρ : Emb} {S : AS} {w : World} {n : Nat} {F : Fr} {a : Act} {C : Ctx} {call : CallF}

theorem Sim.wp0 {o : Oper} {r : R (AV × AS)} {T : AV × AS → Prop} {next : Act → World → Prop} {Q : Exit → Act → World → Prop} (h : Sim P w0 ρ w (execOp a.eval o) r) (hr : r.All T)
    (hK : ∀ p ρ' v w', T p → Ext ρ ρ' → Rel ρ' p.1 v → RS w0 ρ' p.2 w' → next (a.put o.dst v) w') : o.wp P a w next Q := by
  obtain ⟨p, ρ', v, w', h1, h2, h3, h4, h5⟩ := h T hr
  unfold Oper.wp
  rcases h5 with h5 | ⟨h5, rfl⟩
  · rw [h5, Oper.upon_value]; exact hK p ρ' v w' h1 h2 h3 h4
  · rw [h5, Oper.upon_skip]; exact hK p ρ' _ w' h1 h2 h3 h4

theorem semAt_plain {o : Oper} (h : ∀ c, o.op ≠ .defer c) {r : Option Nat} {e : Operand → Value} : o.semAt r e = execOp e o := by
  unfold Oper.semAt
  split
  · rename_i h1; exact absurd h1 (h _)
  · rfl

theorem Sim.wp {o : Oper} {r : R (AV × AS)} {T : AV × AS → Prop} {next : Act → World → Prop} {Q : Exit → Act → World → Prop} (h : Sim P w0 ρ w (execOp a.eval o) r) (hr : r.All T)
    (hnd : ∀ c, o.op ≠ .defer c) {r0 : Option Nat} {m : Nat} (hK : ∀ p ρ' v w', T p → Ext ρ ρ' → Rel ρ' p.1 v → RS w0 ρ' p.2 w' → next (a.put o.dst v) w') : o.wpIn (fw r0) m P a w next Q := by
  obtain ⟨p, ρ', v, w', h1, h2, h3, h4, h5⟩ := h T hr
  refine ⟨fun _ _ => trivial, ?_⟩
  rw [semAt_plain hnd]
  rcases h5 with h5 | ⟨h5, rfl⟩
  · rw [h5, Oper.uponIn_value]; exact hK p ρ' v w' h1 h2 h3 h4
  · rw [h5, Oper.uponIn_skip]; exact hK p ρ' _ w' h1 h2 h3 h4

theorem built_struct {t : TypeId} {fs : Array Field} {pl : List (Nat × Nat)} (hu : P.underlying t = some (.struct fs)) (hp : fieldPlaces P fs.toList = some pl) :
    ∀ i zv, P.info? t = some i → i.zero = some zv → ∀ l, P.built t l = Instr.fill (fun i => pl[i]?) zv.cells l := by
  intro i zv hi hz l
  unfold Program.built
  simp only [hi, hu, hz, mapM_places hp]
  congr 1
  funext x
  simp
theorem built_array {t e : TypeId} {m k : Nat} (hu : P.underlying t = some (.array m e)) (hk : sizeO P e = some k) :
    ∀ i zv, P.info? t = some i → i.zero = some zv → ∀ l, P.built t l = Instr.fill (fun i => some (i * k, k)) zv.cells l := by
  intro i zv hi hz l
  obtain ⟨ie, h1, rfl⟩ := sizeO_run hk
  unfold Program.built
  simp only [hi, hu, hz, h1]

theorem sim_op (hF : FRel ρ n F a.tmps) (hS : RS w0 ρ S w) {o : Oper} {ao : AOp} (h : cOp P o.op = some ao) (hc : ao.calls = false) : Sim P w0 ρ w (execOp a.eval o) (aop C call F S ao) := by
  cases hop : o.op <;> rw [hop] at h <;> simp only [cOp] at h <;> first | (cases h; done) | skip
  case move x =>
    cases hx : cX x <;> rw [hx] at h <;> cases h
    exact sim_mv hF hS (.inl hop) hx
  case assign x =>
    cases hx : cX x <;> rw [hx] at h <;> cases h
    exact sim_mv hF hS (.inr hop) hx
  case pick c x y =>
    split at h <;> cases h
    exact sim_pick C call hF hS hop (by assumption) (by assumption) (by assumption)
  case alloc t =>
    cases hz : zcells P t <;> rw [hz] at h <;> cases h
    exact sim_alloc C call hS hop hz
  case panic x =>
    cases hx : cX x <;> rw [hx] at h <;> cases h
    cases hc
  case box t x =>
    cases hx : cX x <;> rw [hx] at h <;> cases h
    exact sim_box C call hF hS hop hx
  case build t ps =>
    split at h
    · rename_i fs z hu hz
      split at h
      · rename_i pl hpl
        cases hp : cParts (fun i => pl[i]?) ps.toList <;> rw [hp] at h <;> cases h
        exact sim_build C call hF hS hop hz hp (built_struct hu hpl)
      · cases h
    · rename_i m e z hu hz
      split at h
      · rename_i k hk
        cases hp : cParts (fun i => some (i * k, k)) ps.toList <;> rw [hp] at h <;> cases h
        exact sim_build C call hF hS hop hz hp (built_array hu hk)
      · cases h
    · cases h
  case buildSlice t len ps =>
    unfold elemO at h
    split at h
    case h_2 => cases h
    rename_i e he
    split at he
    case h_2 => cases he
    rename_i e' hu
    cases he
    split at h
    case h_2 => cases h
    rename_i k z hk hz
    cases hb : (Nat.ble (len * k) 16777216 && Nat.beq z.length k && !(Nat.beq k 0)) with
    | false => rw [hb] at h; cases h
    | true =>
      rw [hb] at h
      simp only [cond_true] at h
      simp only [Bool.and_eq_true, Nat.ble_eq, Nat.beq_eq] at hb
      cases hp : cParts (fun i => some (i * k, k)) ps.toList <;> rw [hp] at h <;> cases h
      exact sim_bslice C call hF hS hop hu hk hz hb.1.1 hb.1.2 hp
  case load t x =>
    split at h <;> cases h
    · exact sim_ld1 hF hS hop (by assumption) (by assumption)
    · exact sim_ldn hF hS hop (by assumption) (by assumption) (by assumption)
  case store t p x =>
    split at h <;> cases h
    exact sim_st C call hF hS hop (by assumption) (by assumption) (by assumption)
  case nilCheck x =>
    cases hx : cX x <;> rw [hx] at h <;> cases h
    exact sim_nck C call hF hS hop hx
  case binOp op t x y u =>
    split at h
    case h_2 => cases h
    rename_i x' y' hx hy
    split at h
    · cases h; exact sim_bin C call hF hS hop hx hy
    · cases h; exact sim_bin C call hF hS hop hx hy
    · cases hk : ekOf P t (isConst x || isConst y) <;> rw [hk] at h <;> cases h
      exact sim_eq C call hF hS hop hx hy rfl hk
    · cases hk : ekOf P t (isConst x || isConst y) <;> rw [hk] at h <;> cases h
      exact sim_eq C call hF hS hop hx hy rfl hk
    · cases h
  case unOp op t x =>
    cases hx : cX x <;> rw [hx] at h <;> cases h
    exact sim_un C call hF hS hop hx
  case convert s d x =>
    split at h
    · cases h; exact sim_cvi C call hF hS hop (by assumption) (by assumption) (by assumption)
    · split at h <;> cases h
      exact sim_cvs C call hF hS hop (by assumption) (by assumption) (by assumption) (by assumption)
    · cases h
  case makeInterface t x =>
    split at h
    · cases h
    · rename_i y d hne hx hu
      cases h
      exact sim_mkif hF hS hop hx hu (fun m e => hne m e)
    · cases h
  case makeFunc f xs ys =>
    split at h <;> cases h
    exact sim_mkfn hF hS hop (by assumption) (by assumption)
  case makeMap t r =>
    cases r with
    | some _ => cases h
    | none => cases h; exact sim_mkmap C call hS hop
  case makeSlice t l c =>
    unfold elemO at h
    split at h
    case h_2 => cases h
    rename_i l' c' e hl hc' he
    split at he
    case h_2 => cases he
    rename_i e' hu
    cases he
    split at h
    case h_2 => cases h
    rename_i i z hi hz
    cases hb : (Nat.beq z.length i.size && !(Nat.beq i.size 0)) with
    | false => rw [hb] at h; cases h
    | true =>
      rw [hb] at h
      cases h
      simp only [Bool.and_eq_true, Nat.beq_eq] at hb
      exact sim_mksl C call hF hS hop hl hc' hu hi hz hb.1
  case slice t x lo hi mx =>
    split at h
    case h_2 => cases h
    rename_i x' lo' hi' mx' hx hlo hhi hmx
    split at h
    · rename_i hu
      split at h
      · cases h
        have : mx = none := by
          cases mx with
          | none => rfl
          | some m =>
            simp only [cXo] at hmx
            cases hm : cX m <;> rw [hm] at hmx <;> cases hmx
        subst this
        exact sim_sls C call hF hS hop hx hlo hhi hu
      · cases h
    · rename_i e hu
      have key : ∀ k, sizeO P e = some k → (mx ≠ none → hi ≠ none) → Sim P w0 ρ w (execOp a.eval o) (aop C call F S (.slc k x' lo' hi' mx')) :=
        fun k hk hmh => sim_slc C call hF hS hop hx hlo hhi hmx hu hk hmh
      split at h
      · cases h
      · rename_i hnot
        cases hk : sizeO P e <;> rw [hk] at h <;> cases h
        refine key _ hk fun hm hh => ?_
        subst hh
        simp only [cXo, Option.some.injEq] at hhi
        subst hhi
        cases mx with
        | none => exact hm rfl
        | some m =>
          simp only [cXo] at hmx
          cases hm' : cX m with
          | none => rw [hm'] at hmx; cases hmx
          | some am => rw [hm'] at hmx; cases hmx; exact hnot _ rfl rfl
    · cases h
  case fieldAddr t x f =>
    split at h
    case h_2 => cases h
    rename_i x' fs hx hu
    split at h
    case h_2 => cases h
    rename_i fl hf
    split at h
    · cases h
    · rename_i k hk0 hk
      cases h
      cases k with
      | zero => exact absurd rfl hk0
      | succ k => exact sim_fad C call hF hS hop hx hu hf hk
    · cases h
  case field t x f =>
    split at h
    case h_2 => cases h
    rename_i x' fs hx hu
    split at h
    case h_2 => cases h
    rename_i fl hf
    split at h <;> cases h
    · exact sim_fld1 C call hF hS hop hx hu hf (by assumption)
    · exact sim_fldn C call hF hS hop hx hu hf (by assumption) (by assumption)
  case indexAddr t x i =>
    split at h
    · rename_i x' i' e hx hi hu
      cases hk : sizeO P e <;> rw [hk] at h <;> cases h
      exact sim_ixs C call hF hS hop hx hi hu hk
    · rename_i x' i' m e hx hi hu
      cases hk : sizeO P e <;> rw [hk] at h <;> cases h
      exact sim_ixa C call hF hS hop hx hi hu hk
    · cases h
  case lookup t m k ok =>
    split at h
    case h_2 => cases h
    rename_i m' k' kt e hm hk hu
    split at h <;> cases h
    exact sim_look C call hF hS hop hm hk hu (by assumption) (by assumption)
  case mapUpdate t m k x =>
    unfold cOp.cUpd at h
    split at h
    case h_2 => cases h
    rename_i m' k' x' kt e hm hk hx hu
    cases hkk : keyO P kt <;> rw [hkk] at h <;> cases h
    exact sim_mup C call hF hS (.inl hop) hm hk hx hu hkk
  case insert t m k x =>
    unfold cOp.cUpd at h
    split at h
    case h_2 => cases h
    rename_i m' k' x' kt e hm hk hx hu
    cases hkk : keyO P kt <;> rw [hkk] at h <;> cases h
    exact sim_mup C call hF hS (.inr hop) hm hk hx hu hkk
  case range t x =>
    split at h <;> cases h
    exact sim_rng C call hF hS hop (by assumption) (by assumption)
  case next x b =>
    cases b with
    | true => cases h
    | false =>
      simp only at h
      cases hx : cX x <;> rw [hx] at h <;> cases h
      exact sim_nxt C call hF hS hop hx
  case entry x =>
    cases hx : cX x <;> rw [hx] at h <;> cases h
    exact sim_ent C call hF hS hop hx
  case typeAssert x u t ok =>
    split at h
    · cases h
    · rename_i y d z hne hx hu hz
      cases h
      exact sim_tas C call hF hS hop hx hu (fun m e => hne m e) hz
    · cases h
  case index t x i =>
    split at h
    · rename_i hx hi hu
      cases h
      exact sim_xst C call hF hS hop hx hi hu
    · cases h
  case extract x i =>
    cases hx : cX x <;> rw [hx] at h <;> cases h
    exact sim_xt C call hF hS hop hx
  case call c =>
    unfold cCall at h
    obtain ⟨callee, args, ts⟩ := c
    simp only at h
    split at h
    · rename_i f _
      cases hxs : cXs args.toList <;> rw [hxs] at h <;> cases h
      cases hc
    · split at h <;> cases h
      cases hc
    · split at h <;> cases h
      cases hc
    · rename_i b _
      have harr1 : ∀ {α : Type} {xs : Array α} {l : List α}, xs.toList = l → xs = l.toArray := fun h => by rw [← h]
      split at h
      · rename_i x t ha ht
        have e1 := harr1 ha
        have e2 := harr1 ht
        subst e1; subst e2
        split at h <;> cases h
        · exact sim_len C call hF hS hop (by assumption) (by assumption) (k := 1) rfl
        · exact sim_len C call hF hS hop (by assumption) (by assumption) (k := 0) ⟨_, rfl⟩
        · exact sim_len C call hF hS hop (by assumption) (by assumption) (k := 2) ⟨_, _, rfl⟩
      · rename_i x t ha ht
        have e1 := harr1 ha
        have e2 := harr1 ht
        subst e1; subst e2
        split at h <;> cases h
        exact sim_cap C call hF hS hop (by assumption) (by assumption)
      · rename_i x t ha ht
        have e1 := harr1 ha
        have e2 := harr1 ht
        subst e1; subst e2
        unfold elemO at h
        split at h
        case h_2 => cases h
        rename_i x' e hx he
        split at he
        case h_2 => cases he
        rename_i e' hu
        cases he
        split at h
        case h_2 => cases h
        rename_i k z hk hz
        cases hl : Nat.beq z.length k with
        | false => rw [hl] at h; cases h
        | true =>
          rw [hl] at h
          cases h
          exact sim_clr C call hF hS hop hx hu hk hz (by simpa using hl)
      · rename_i x y t u ha ht
        have e1 := harr1 ha
        have e2 := harr1 ht
        subst e1; subst e2
        unfold elemO at h
        split at h
        case h_2 => cases h
        rename_i x' y' e ud hx hy he hud
        split at he
        case h_2 => cases he
        rename_i e' hu
        cases he
        split at h
        case h_2 => cases h
        rename_i i hi
        split at h
        · rename_i z ku hz
          cases hb : Nat.beq z.cells.size i.size with
          | false => rw [hb] at h; cases h
          | true =>
            rw [hb] at h
            cases h
            exact sim_appz C call hF hS hop hx hy hu hud hi hz (by simpa using hb)
        · rename_i z e2 hz
          cases hb : Nat.beq z.cells.size i.size with
          | false => rw [hb] at h; cases h
          | true =>
            rw [hb] at h
            cases h
            exact sim_app C call hF hS hop hx hy ⟨hu, hud, hi, hz, by simpa using hb, by simp⟩
        · rename_i z hz
          cases hb : Nat.beq z.cells.size i.size with
          | false => rw [hb] at h; cases h
          | true =>
            rw [hb] at h
            cases h
            exact sim_app C call hF hS hop hx hy ⟨hu, hud, hi, hz, by simpa using hb, by simp⟩
        · cases h
      · rename_i x xs ha
        split at h <;> cases h
        exact sim_mnmx hF hS false hop ha (by assumption) (by assumption)
      · rename_i x xs ha
        split at h <;> cases h
        exact sim_mnmx hF hS true hop ha (by assumption) (by assumption)
      · cases h

end
end Go.Proofs.YtacndjnjikdcoaaGreat.Vai
