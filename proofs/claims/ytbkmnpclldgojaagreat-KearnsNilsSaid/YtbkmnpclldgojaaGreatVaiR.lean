/-
  A verified abstract interpreter, part R: code.
-/
import Derived.Test.YtbkmnpclldgojaaGreatVaiQ
import Derived.LoopN
namespace Go.Proofs.YtbkmnpclldgojaaGreat.Vai
open Go Go.RowKit

section
variable {P : Program} {w0 : World} {n : Nat} {call : CallF} {kp : Nat → List Nat} {k : List Nat} {L : Nat}

theorem drew_RS {ρ : Emb} {S : AS} {w : World} (hS : RS w0 ρ S w) : RS w0 ρ S { w with drawn := w.drawn + 1 } := RS.drew hS

/-- a code is good -/
def CodeOk (P : Program) (w0 : World) (n : Nat) (C : Ctx) (call : CallF) (L : Nat) (c : Code) (ac : AC) : Prop :=
  ∀ (F : Fr) (S : AS) (ρ : Emb) (a : Act) (w : World) (ds : List Deferred) (Q : Exit → Act → World → Prop), FRel ρ n F a.tmps → a.defers = ds → RS w0 ρ S w →
    (runC C call L ac F S).All (Good w0 n ds ρ Q) → c.wp P Q a w

theorem loop_sound {C : Ctx} {c : Code} {ac : AC} (h : CodeOk P w0 n C call L c ac) : ∀ (m : Nat) (F : Fr) (S : AS) (ρ : Emb) (a : Act) (w : World) (ds : List Deferred) (Q : Exit → Act → World → Prop),
    FRel ρ n F a.tmps → a.defers = ds → RS w0 ρ S w → (iter k (runC C call L ac) m F S).All (Good w0 n ds ρ Q) → Code.rounds P c Q m a w
  | 0, F, S, ρ, a, w, ds, Q, hF, hd, hS, hT => hT.elim
  | m + 1, F, S, ρ, a, w, ds, Q, hF, hd, hS, hT => by
    simp only [iter] at hT
    rw [rounds_succ]
    refine h F S ρ a w ds _ hF hd hS (R.All.mono (R.All.bind hT) ?_)
    rintro ⟨e, F', S'⟩ hr ρ' x a' w' he hx hF' hd' hS'
    cases e with
    | norm => obtain rfl := hx; exact loop_sound h m _ _ ρ' a' w' ds Q (hF'.keep k) hd' hS' (R.All.mono hr fun _ g => g.ext he)
    | exit id => obtain rfl := hx; exact hr ρ' _ a' w' he rfl hF' hd' hS'
    | ret => obtain rfl := hx; exact hr ρ' _ a' w' he rfl hF' hd' hS'
    | pan y => obtain ⟨v, rfl, hv⟩ := hx; exact hr ρ' _ a' w' he ⟨v, rfl, hv⟩ hF' hd' hS'

theorem code_sound (hm : P.follows .mixedOrders = true) (hcall : CallOk P w0 call) : ∀ c : Code, CodeOk P w0 n (ctxOf P kp) call L c (cCode P n k c) := by
  intro c
  induction c with
  | skip => intro F S ρ a w ds Q hF hd hS hT; exact wp_skip (hT ρ _ a w (Ext.refl _) rfl hF hd hS)
  | region id ops o =>
    intro F S ρ a w ds Q hF hd hS hT
    cases o with
    | false =>
      simp only [cCode, runC] at hT
      refine wp_region ?_
      rw [List.range_eq_range', ← Array.length_toList]
      exact ops_sound hcall ops.toList 0 rfl F S ρ a w hF hd hS hT
    | true =>
      simp only [cCode] at hT
      cases hok : drawOk ops.toList (preOf ops.toList []) (ops.toList.map (usOf ops)) with
      | false => rw [hok] at hT; exact hT.elim
      | true =>
        rw [hok] at hT
        simp only [cond_true, runC] at hT
        split at hT
        case h_2 => exact hT.elim
        rename_i st hst
        refine wp_region_any hm (draw_sound hcall hF hd (drew_RS hS) hok hst ?_ ?_)
        · intro p x S' hp ρ' a' w' v he hv hsz hd' hS'
          rw [hp] at hT
          exact hT ρ' _ a' w' he ⟨v, rfl, hv⟩ ⟨hsz, fun t => by simp [Fr.get, Rel]⟩ hd' hS'
        · intro hp ρ' a' w' he hF' hd' hS'
          rw [hp] at hT
          exact hT ρ' _ a' w' he rfl hF' hd' hS'
  | seq x y ihx ihy =>
    intro F S ρ a w ds Q hF hd hS hT
    simp only [cCode, runC] at hT
    refine wp_seq (ihx F S ρ a w ds _ hF hd hS (R.All.mono (R.All.bind hT) ?_))
    rintro ⟨e, F', S'⟩ hr ρ' z a' w' he hx hF' hd' hS'
    cases e with
    | norm => obtain rfl := hx; exact ihy _ _ ρ' a' w' ds Q hF' hd' hS' (R.All.mono hr fun _ g => g.ext he)
    | exit id => obtain rfl := hx; exact hr ρ' _ a' w' he rfl hF' hd' hS'
    | ret => obtain rfl := hx; exact hr ρ' _ a' w' he rfl hF' hd' hS'
    | pan y => obtain ⟨v, rfl, hv⟩ := hx; exact hr ρ' _ a' w' he ⟨v, rfl, hv⟩ hF' hd' hS'
  | cond x y z ihy ihz =>
    intro F S ρ a w ds Q hF hd hS hT
    simp only [cCode] at hT
    cases hx : cX x with
    | none => rw [hx] at hT; exact hT.elim
    | some c =>
      rw [hx] at hT
      simp only [runC] at hT
      have hv := cX_ev hF hx
      split at hT
      · rename_i q
        rw [q] at hv
        exact wp_cond_true hv (ihy F S ρ a w ds Q hF hd hS hT)
      · rename_i q
        rw [q] at hv
        exact wp_cond_false hv (ihz F S ρ a w ds Q hF hd hS hT)
      · exact hT.elim
  | block id x ih =>
    intro F S ρ a w ds Q hF hd hS hT
    simp only [cCode, runC] at hT
    refine wp_block (ih F S ρ a w ds _ hF hd hS (R.All.mono (R.All.bind hT) ?_))
    rintro ⟨e, F', S'⟩ hr ρ' z a' w' he hx hF' hd' hS'
    cases e with
    | norm => obtain rfl := hx; exact hr ρ' _ a' w' he rfl hF' hd' hS'
    | exit i =>
      obtain rfl := hx
      simp only at hr
      simp only [Exit.inBlock]
      cases hb : Nat.beq i id with
      | true =>
        have : i = id := by simpa using hb
        rw [hb] at hr
        rw [if_pos this]
        exact hr ρ' _ a' w' he rfl hF' hd' hS'
      | false =>
        have : ¬ i = id := by intro e; subst e; simp at hb
        rw [hb] at hr
        rw [if_neg this]
        exact hr ρ' _ a' w' he rfl hF' hd' hS'
    | ret => obtain rfl := hx; exact hr ρ' _ a' w' he rfl hF' hd' hS'
    | pan y => obtain ⟨v, rfl, hv⟩ := hx; exact hr ρ' _ a' w' he ⟨v, rfl, hv⟩ hF' hd' hS'
  | loop x ih =>
    intro F S ρ a w ds Q hF hd hS hT
    simp only [cCode, runC] at hT
    exact wp_loop_rounds L (loop_sound ih L _ S ρ a w ds Q (hF.keep k) hd hS hT)
  | exit id => intro F S ρ a w ds Q hF hd hS hT; exact wp_exit (hT ρ _ a w (Ext.refl _) rfl hF hd hS)
  | scope x ih =>
    intro F S ρ a w ds Q hF hd hS hT
    simp only [cCode, runC] at hT
    refine wp_scope_straight (ih F S ρ a w ds _ hF hd hS (R.All.mono hT ?_))
    rintro ⟨e, F', S'⟩ hr ρ' z a' w' he hx hF' hd' hS'
    have := hr ρ' z a' w' he hx hF' hd' hS'
    cases e with
    | pan y => obtain ⟨v, rfl, hv⟩ := hx; exact this
    | _ => obtain rfl := hx; exact this
  | label l => intro F S ρ a w ds Q hF hd hS hT; exact wp_label (hT ρ _ a w (Ext.refl _) rfl hF hd hS)
  | ret => intro F S ρ a w ds Q hF hd hS hT; exact wp_ret (hT ρ _ a w (Ext.refl _) rfl hF hd hS)
  | _ => intro F S ρ a w ds Q hF hd hS hT; exact hT.elim

end
end Go.Proofs.YtbkmnpclldgojaaGreat.Vai
