/-
  A verified abstract interpreter, part R: code.
-/
import Derived.Test.YtacndjnjikdcoaaGreatVaiQ
import Derived.LoopN
namespace Go.Proofs.YtacndjnjikdcoaaGreat.Vai
open Go Go.RowKit

section
variable {F : Fence} {n : Nat} {P : Program} {b : Frame} {a : Act} {k : List Item} {cs : List Frame} {w : World} {Q : Exit → Act → World → Prop}
theorem stepR_scope {c : Code} : step P (lone (b.atR a (.code (.scope c) :: k)) cs w) = .next (lone (b.atR a (.code c :: .inScope c :: k)) cs w) :=
  step_lone_go (by simp [stepG, stepG.exec, Frame.atR])
theorem stepR_inScope {c : Code} : step P (lone (b.atR a (.inScope c :: k)) cs w) = .next (lone (b.atR a k) cs w) :=
  step_lone_go (by simp [stepG, stepG.exec, Frame.atR])
/-- a scope that is left by no jump -/
theorem wpIn_scope_straight {c : Code} (h : c.wpIn F n P (Exit.noGoto Q) a w) : (Code.scope c).wpIn F n P Q a w := by
  intro b k cs hro hb hr
  have h0 : (lone (b.atR a (.code (.scope c) :: k)) cs w).fenced P F := fenced_calm hb hr rfl
  obtain ⟨e, a₁, w₁, hq, harr⟩ := h b (.inScope c :: k) cs hro hb hr
  cases e with
  | normal => exact ⟨.normal, a₁, w₁, hq, .head h0 stepR_scope (StepsIn.trans harr (.one (fenced_calm hb hr rfl) stepR_inScope))⟩
  | exit id =>
    have hx : exitTo id (.inScope c :: k) = exitTo id k := by simp [exitTo]
    exact ⟨.exit id, a₁, w₁, hq, fun k' hk => .head h0 stepR_scope (harr.1 k' (by rw [hx]; exact hk)),
      fun hr' hk => let ⟨k₁, h1, h2⟩ := harr.2 hr' (by rw [hx]; exact hk); ⟨k₁, h1, .head h0 stepR_scope h2⟩⟩
  | goto l => exact hq.elim
  | ret => exact ⟨_, a₁, w₁, hq, .of_steps (.one h0 stepR_scope) harr⟩
  | panic ch => exact ⟨_, a₁, w₁, hq, .of_steps (.one h0 stepR_scope) harr⟩
  | outgrown => exact ⟨_, a₁, w₁, hq, .of_steps (.one h0 stepR_scope) harr⟩
end

section
variable {P : Program} {w0 : World} {n : Nat} {call : CallF} {kp : Nat → List Nat} {env : Env} {k : List Nat} {L : Nat}

theorem drew_RS {ρ : Emb} {S : AS} {w : World} (hS : RS w0 ρ S w) : RS w0 ρ S { w with drawn := w.drawn + 1 } := RS.drew hS

/-- a code is good -/
def CodeOk (P : Program) (w0 : World) (ρ0 : Emb) (r0 : Option Nat) (m0 n : Nat) (C : Ctx) (call : CallF) (L : Nat) (c : Code) (ac : AC) : Prop :=
  ∀ (F : Fr) (S : AS) (ρ : Emb) (a : Act) (w : World) (ds : List Deferred) (Q : Exit → Act → World → Prop), Ext ρ0 ρ → FRel ρ n F a.tmps → a.defers = ds → RS w0 ρ S w →
    (runC C call L ac F S).All (Good w0 n ds ρ Q) → c.wpIn (fw r0) m0 P Q a w

theorem loop_sound {ρ0 : Emb} {r0 : Option Nat} {m0 : Nat} {C : Ctx} {c : Code} {ac : AC} (h : CodeOk P w0 ρ0 r0 m0 n C call L c ac) : ∀ (m : Nat) (F : Fr) (S : AS) (ρ : Emb) (a : Act) (w : World) (ds : List Deferred) (Q : Exit → Act → World → Prop),
    Ext ρ0 ρ → FRel ρ n F a.tmps → a.defers = ds → RS w0 ρ S w → (iter k (runC C call L ac) m F S).All (Good w0 n ds ρ Q) → Code.roundsIn (fw r0) m0 P c Q m a w
  | 0, F, S, ρ, a, w, ds, Q, h0, hF, hd, hS, hT => hT.elim
  | m + 1, F, S, ρ, a, w, ds, Q, h0, hF, hd, hS, hT => by
    simp only [iter] at hT
    rw [roundsIn_succ]
    refine h F S ρ a w ds _ h0 hF hd hS (R.All.mono (R.All.bind hT) ?_)
    rintro ⟨e, F', S'⟩ hr ρ' x a' w' he hx hF' hd' hS'
    cases e with
    | norm => obtain rfl := hx; exact loop_sound h m _ _ ρ' a' w' ds Q (h0.trans he) (hF'.keep k) hd' hS' (R.All.mono hr fun _ g => g.ext he)
    | exit id => obtain rfl := hx; exact hr ρ' _ a' w' he rfl hF' hd' hS'
    | ret => obtain rfl := hx; exact hr ρ' _ a' w' he rfl hF' hd' hS'
    | pan y => obtain ⟨v, rfl, hv⟩ := hx; exact hr ρ' _ a' w' he ⟨v, rfl, hv⟩ hF' hd' hS'

theorem code_sound (hm : P.follows .mixedOrders = true) {ρ0 : Emb} (hcall : CallOk P w0 ρ0 call) (henv : EnvOk P w0 ρ0 env) {r0 : Option Nat} {m0 : Nat} : ∀ c : Code, CodeOk P w0 ρ0 r0 m0 n (ctxE P kp env) call L c (cCode P n k c) := by
  intro c
  induction c with
  | skip => intro F S ρ a w ds Q h0 hF hd hS hT; exact wpIn_skip (hT ρ _ a w (Ext.refl _) rfl hF hd hS)
  | region id ops o =>
    intro F S ρ a w ds Q h0 hF hd hS hT
    cases o with
    | false =>
      simp only [cCode, runC] at hT
      refine wpIn_region ?_
      rw [List.range_eq_range', ← Array.length_toList]
      exact ops_sound hcall henv ops.toList 0 rfl F S ρ a w h0 hF hd hS hT
    | true =>
      simp only [cCode] at hT
      cases hok : drawOk ops.toList (preOf ops.toList []) (ops.toList.map (usOf ops)) with
      | false => rw [hok] at hT; exact hT.elim
      | true =>
        rw [hok] at hT
        simp only [cond_true, runC] at hT
        split at hT
        case h_2 => exact hT.elim
        rename_i st hst
        refine wpIn_region_any hm (draw_sound hcall henv h0 hF hd (drew_RS hS) hok hst ?_ ?_)
        · intro p x S' hp ρ' a' w' v he hv hsz hd' hS'
          rw [hp] at hT
          exact hT ρ' _ a' w' he ⟨v, rfl, hv⟩ ⟨hsz, fun t => by simp [Fr.get, Rel]⟩ hd' hS'
        · intro hp ρ' a' w' he hF' hd' hS'
          rw [hp] at hT
          exact hT ρ' _ a' w' he rfl hF' hd' hS'
  | seq x y ihx ihy =>
    intro F S ρ a w ds Q h0 hF hd hS hT
    simp only [cCode, runC] at hT
    refine wpIn_seq (ihx F S ρ a w ds _ h0 hF hd hS (R.All.mono (R.All.bind hT) ?_))
    rintro ⟨e, F', S'⟩ hr ρ' z a' w' he hx hF' hd' hS'
    cases e with
    | norm => obtain rfl := hx; exact ihy _ _ ρ' a' w' ds Q (h0.trans he) hF' hd' hS' (R.All.mono hr fun _ g => g.ext he)
    | exit id => obtain rfl := hx; exact hr ρ' _ a' w' he rfl hF' hd' hS'
    | ret => obtain rfl := hx; exact hr ρ' _ a' w' he rfl hF' hd' hS'
    | pan y => obtain ⟨v, rfl, hv⟩ := hx; exact hr ρ' _ a' w' he ⟨v, rfl, hv⟩ hF' hd' hS'
  | cond x y z ihy ihz =>
    intro F S ρ a w ds Q h0 hF hd hS hT
    simp only [cCode] at hT
    cases hx : cX x with
    | none => rw [hx] at hT; exact hT.elim
    | some c =>
      rw [hx] at hT
      simp only [runC] at hT
      have hv := cX_ev hF hx
      split at hT
      · rename_i q
        rw [q] at hv
        exact wpIn_cond_true hv (ihy F S ρ a w ds Q h0 hF hd hS hT)
      · rename_i q
        rw [q] at hv
        exact wpIn_cond_false hv (ihz F S ρ a w ds Q h0 hF hd hS hT)
      · exact hT.elim
  | block id x ih =>
    intro F S ρ a w ds Q h0 hF hd hS hT
    simp only [cCode, runC] at hT
    refine wpIn_block (ih F S ρ a w ds _ h0 hF hd hS (R.All.mono (R.All.bind hT) ?_))
    rintro ⟨e, F', S'⟩ hr ρ' z a' w' he hx hF' hd' hS'
    cases e with
    | norm => obtain rfl := hx; exact hr ρ' _ a' w' he rfl hF' hd' hS'
    | exit i =>
      obtain rfl := hx
      simp only at hr
      simp only [Exit.inBlock]
      cases hb : Nat.beq i id with
      | true =>
        have : i = id := by simpa using hb
        rw [hb] at hr
        rw [if_pos this]
        exact hr ρ' _ a' w' he rfl hF' hd' hS'
      | false =>
        have : ¬ i = id := by intro e; subst e; simp at hb
        rw [hb] at hr
        rw [if_neg this]
        exact hr ρ' _ a' w' he rfl hF' hd' hS'
    | ret => obtain rfl := hx; exact hr ρ' _ a' w' he rfl hF' hd' hS'
    | pan y => obtain ⟨v, rfl, hv⟩ := hx; exact hr ρ' _ a' w' he ⟨v, rfl, hv⟩ hF' hd' hS'
  | loop x ih =>
    intro F S ρ a w ds Q h0 hF hd hS hT
    simp only [cCode, runC] at hT
    exact wpIn_loop_rounds L (loop_sound ih L _ S ρ a w ds Q h0 (hF.keep k) hd hS hT)
  | exit id => intro F S ρ a w ds Q h0 hF hd hS hT; exact wpIn_exit (hT ρ _ a w (Ext.refl _) rfl hF hd hS)
  | scope x ih =>
    intro F S ρ a w ds Q h0 hF hd hS hT
    simp only [cCode, runC] at hT
    refine wpIn_scope_straight (ih F S ρ a w ds _ h0 hF hd hS (R.All.mono hT ?_))
    rintro ⟨e, F', S'⟩ hr ρ' z a' w' he hx hF' hd' hS'
    have := hr ρ' z a' w' he hx hF' hd' hS'
    cases e with
    | pan y => obtain ⟨v, rfl, hv⟩ := hx; exact this
    | _ => obtain rfl := hx; exact this
  | label l => intro F S ρ a w ds Q h0 hF hd hS hT; exact wpIn_label (hT ρ _ a w (Ext.refl _) rfl hF hd hS)
  | ret => intro F S ρ a w ds Q h0 hF hd hS hT; exact wpIn_ret (hT ρ _ a w (Ext.refl _) rfl hF hd hS)
  | _ => intro F S ρ a w ds Q h0 hF hd hS hT; exact hT.elim

end
end Go.Proofs.YtacndjnjikdcoaaGreat.Vai
