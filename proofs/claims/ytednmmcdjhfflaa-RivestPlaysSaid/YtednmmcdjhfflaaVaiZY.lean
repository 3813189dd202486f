/- A text of this claim. -/
import Derived.Test.YtednmmcdjhfflaaVaiZX
namespace Go.Proofs.Ytednmmcdjhfflaa.Vai
open Go
set_option linter.unusedSimpArgs false
set_option linter.unusedVariables false
theorem RS.sub {w0 : World} {ρ : Emb} {S S' : AS} {w : World} (h : RS w0 ρ S w) (hg : ∀ v o, S'.get v = some o → S.get v = some o) (hn : S.n ≤ S'.n) : RS w0 ρ S' w :=
  ⟨h.below, fun v g b hb => Nat.lt_of_lt_of_le (h.dom v g b hb) hn, fun v o hv => Nat.lt_of_lt_of_le (h.lt v o (hg v o hv)) hn, fun v o hv => h.obj v o (hg v o hv), fun v o hv => h.gens v o (hg v o hv),
    fun v v' g g' b b' o o' hne hv hv' => h.dis v v' g g' b b' o o' hne (hg v o hv) (hg v' o' hv'), fun k z ob hk => ⟨(h.fz k z ob hk).1, fun v g b o hv => (h.fz k z ob hk).2 v g b o (hg v o hv)⟩, h.N⟩
def Sem (P : Program) (f : Nat) (args : List AV) (S : AS) (r : AV) (S' : AS) : Prop := Fro S S' ∧ ∀ (w0 : World) (ρ : Emb) (w : World) (cargs : List Value), RS w0 ρ S w → RelL ρ args cargs →
    (∀ w', (callFunc f cargs.toArray).run P w' = .ok (.enter f cargs.toArray) w') ∧ Calls P f cargs.toArray w fun e w' => ∃ ρ', EndsAs ρ' r e ∧ Ext ρ ρ' ∧ RS w0 ρ' S' w'
theorem Sem.wk {P : Program} {f : Nat} {as bs : List AV} {S S' : AS} {r : AV} (h : Sem P f bs S r S') (k : WkL as bs) : Sem P f as S r S' := ⟨h.1, fun w0 ρ w cargs hS hr => h.2 w0 ρ w cargs hS (k.rel hr)⟩
def endX (res : List ARes) (r : AV) (S' : AS) (e : AE) (F : Fr) (S1 : AS) : Prop := match e with
  | .exit _ => False
  | .pan _ => False
  | _ => ∃ l, resV F S1 res = some l ∧ resOne l = r ∧ (∀ v o, S'.get v = some o → S1.get v = some o) ∧ S1.n ≤ S'.n
theorem endX_ret {res : List ARes} {r : AV} {S' : AS} {F : Fr} {S1 : AS} : endX res r S' .ret F S1 = ∃ l, resV F S1 res = some l ∧ resOne l = r ∧ (∀ v o, S'.get v = some o → S1.get v = some o) ∧ S1.n ≤ S'.n := id rfl
theorem endX_norm {res : List ARes} {r : AV} {S' : AS} {F : Fr} {S1 : AS} : endX res r S' .norm F S1 = ∃ l, resV F S1 res = some l ∧ resOne l = r ∧ (∀ v o, S'.get v = some o → S1.get v = some o) ∧ S1.n ≤ S'.n := id rfl
theorem sem_run {P : Program} (hm : P.follows .mixedOrders = true) {kp : Nat → List Nat} {G : Giv} (hG : Fine P G) {L d f : Nat} {args : List AV} {S S' : AS} {nt : Nat} {res : List ARes} {code : AC} {r : AV}
    (hf : (ctxE P kp fun _ => none).fn f = some ⟨nt, res, code, .plain⟩) (hl : Nat.ble args.length nt = true) (hfro : Fro S S')
    (h : WC (ctxE P kp fun _ => none) (callE G L d (ctxE P kp fun _ => none)) L code (params 0 args) ⟨S.objs, S.n, S.n⟩ (endX res r S')) : Sem P f args S r S' := by
  refine ⟨hfro, fun w0 ρ w cargs hS hr => ?_⟩
  have h := WS.of_wc hm hG h
  simp only [ctxE] at hf
  cases hfu : P.funcs[f]? with
  | none => rw [hfu] at hf; cases hf
  | some fu =>
  rw [hfu] at hf
  simp only [Option.bind_some] at hf
  have hS0 : RS w0 ρ ⟨S.objs, S.n, S.n⟩ w := hS.mw rfl rfl
  rcases cFnM_say hf with ⟨c, rs, hb, hrs, hnm, hn', hres, hk⟩ | hf
  · cases hk
  obtain ⟨c, rs, hb, hrs, hnm, hn', hres, hkind⟩ := cFn_say hf
  simp only at hn' hres
  subst hres
  have hcode : code = cCode P fu.ntmps (kp f) c := by
    rcases hkind with ⟨_, hcode⟩ | ⟨_, _, _, _, _, _, _, _, _, _, hk, _⟩ | ⟨_, _, _, _, _, _, _, _, _, _, _, hk, _⟩
    · exact hcode
    · cases hk
    · cases hk
  have hle : args.length ≤ fu.ntmps := by rw [← hn']; simpa using hl
  have hF0 := FRel.start hr hle
  refine ⟨fun w' => callFunc_enter hfu hb hnm _ w', calls_of_wp hfu hb ((wpIn_wide (n := 0)).1 ?_)⟩
  refine h c fu.ntmps (kp f) hcode.symm w0 ρ _ w [] _ hF0 rfl hS0 ?_
  rintro ⟨e, F', S1⟩ hend ρ' zz a' w' he hx hF' hd' hS'
  have fin : endX res r S' .ret F' S1 → ∃ v, (results fu a'.tmps).run P w' = .ok v w' ∧ ∃ ρ'', EndsAs ρ'' r (.returned v) ∧ Ext ρ ρ'' ∧ RS w0 ρ'' S' w' := by
    rintro ⟨l, hl, rfl, hg, hn⟩
    obtain ⟨v, hrv, hrun⟩ := results_run hF' hS' hrs hl
    exact ⟨v, hrun, ρ', .inl ⟨v, rfl, hrv⟩, he, hS'.sub hg hn⟩
  cases e with
  | norm => obtain rfl := hx; obtain ⟨v, h1, h2⟩ := fin hend; exact ⟨hd', v, h1, h2⟩
  | ret => obtain rfl := hx; obtain ⟨v, h1, h2⟩ := fin hend; exact ⟨hd', v, h1, h2⟩
  | exit id => exact hend.elim
  | pan y => exact hend.elim
open Classical in
noncomputable def relG (P : Program) (f : Nat) (Q : List AV → AS → AV → AS → Prop) (args : List AV) (S : AS) : Option (AV × AS) := if h : ∃ p : AV × AS, Sem P f args S p.1 p.2 ∧ Q args S p.1 p.2 then some h.choose else none
theorem relG_ok {P : Program} {f : Nat} {Q : List AV → AS → AV → AS → Prop} : GivS P f (relG P f Q) := by
  intro args S r S' h
  unfold relG at h
  split at h
  · rename_i hc
    have := hc.choose_spec.1
    have e := Option.some.inj h
    rw [e] at this
    exact this
  · cases h
theorem relG_say {P : Program} {f : Nat} {Q : List AV → AS → AV → AS → Prop} {args : List AV} {S S' : AS} {r : AV} (h1 : Sem P f args S r S') (h2 : Q args S r S') : ∃ r S', relG P f Q args S = some (r, S') ∧ Q args S r S' := by
  have hc : ∃ p : AV × AS, Sem P f args S p.1 p.2 ∧ Q args S p.1 p.2 := ⟨(r, S'), h1, h2⟩
  refine ⟨hc.choose.1, hc.choose.2, ?_, hc.choose_spec.2⟩
  unfold relG
  rw [dif_pos hc]
theorem stG_some {g : List AV → AS → Option (AV × AS)} {args : List AV} {S S' : AS} {r : AV} (h : g args S = some (r, S')) : stG g args S = .one (r, S') := by unfold stG; rw [h]
def AS.up (S : AS) (n : Nat) : AS := ⟨S.objs, n, 0⟩
theorem AS.up_get {S : AS} {n v : Nat} : (S.up n).get v = S.get v := rfl
theorem AS.up_n {S : AS} {n : Nat} : (S.up n).n = n := rfl
theorem Fro.up {S S' : AS} {n : Nat} (h : S.n ≤ n) (hr : ∀ v, v < S.n → S.get v = some (.raw 0) → S'.get v = some (.raw 0)) : Fro S (S'.up n) := ⟨h, Nat.zero_le _, fun v _ h => absurd h (Nat.not_lt_zero _), hr⟩
end Go.Proofs.Ytednmmcdjhfflaa.Vai
