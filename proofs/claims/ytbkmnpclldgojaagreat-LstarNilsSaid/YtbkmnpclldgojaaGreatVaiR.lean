/-
  A verified abstract interpreter, part R: code.
-/
import Derived.Test.YtbkmnpclldgojaaGreatVaiQ
import Derived.LoopN
namespace Go.Proofs.YtbkmnpclldgojaaGreat.Vai
open Go Go.RowKit

def AE.to : AE → Exit
  | .norm => .normal
  | .exit id => .exit id
  | .ret => .ret

section
variable {P : Program} {w0 : World} {n : Nat} {call : CallF} {kp : Nat → List Nat} {k : List Nat} {L : Nat}

/-- what an end is to be good for -/
def Good (w0 : World) (n : Nat) (ρ : Emb) (Q : Exit → Act → World → Prop) (r : AE × Fr × AS) : Prop :=
  ∀ ρ' a' w', Ext ρ ρ' → FRel ρ' n r.2.1 a'.tmps → a'.defers = [] → RS w0 ρ' r.2.2 w' → Q r.1.to a' w'

theorem Good.ext {ρ ρ' : Emb} {Q : Exit → Act → World → Prop} {r : AE × Fr × AS} (h : Good w0 n ρ Q r) (he : Ext ρ ρ') : Good w0 n ρ' Q r :=
  fun ρ'' a' w' he' => h ρ'' a' w' (he.trans he')

theorem drew_RS {ρ : Emb} {S : AS} {w : World} (hS : RS w0 ρ S w) : RS w0 ρ S { w with drawn := w.drawn + 1 } := RS.drew hS

/-- a code is good -/
def CodeOk (P : Program) (w0 : World) (n : Nat) (C : Ctx) (call : CallF) (L : Nat) (c : Code) (ac : AC) : Prop :=
  ∀ (F : Fr) (S : AS) (ρ : Emb) (a : Act) (w : World) (Q : Exit → Act → World → Prop), FRel ρ n F a.tmps → a.defers = [] → RS w0 ρ S w →
    (runC C call L ac F S).All (Good w0 n ρ Q) → c.wp P Q a w

theorem loop_sound {C : Ctx} {c : Code} {ac : AC} (h : CodeOk P w0 n C call L c ac) : ∀ (m : Nat) (F : Fr) (S : AS) (ρ : Emb) (a : Act) (w : World) (Q : Exit → Act → World → Prop),
    FRel ρ n F a.tmps → a.defers = [] → RS w0 ρ S w → (iter k (runC C call L ac) m F S).All (Good w0 n ρ Q) → Code.rounds P c Q m a w
  | 0, F, S, ρ, a, w, Q, hF, hd, hS, hT => hT.elim
  | m + 1, F, S, ρ, a, w, Q, hF, hd, hS, hT => by
    simp only [iter] at hT
    rw [rounds_succ]
    refine h F S ρ a w _ hF hd hS (R.All.mono (R.All.bind hT) ?_)
    rintro ⟨e, F', S'⟩ hr ρ' a' w' he hF' hd' hS'
    cases e with
    | norm => exact loop_sound h m _ _ ρ' a' w' Q (hF'.keep k) hd' hS' (R.All.mono hr fun _ g => g.ext he)
    | exit id => exact hr ρ' a' w' he hF' hd' hS'
    | ret => exact hr ρ' a' w' he hF' hd' hS'

theorem code_sound (hm : P.follows .mixedOrders = true) (hcall : CallOk P w0 call) : ∀ c : Code, CodeOk P w0 n (ctxOf P kp) call L c (cCode P n k c) := by
  intro c
  induction c with
  | skip => intro F S ρ a w Q hF hd hS hT; exact wp_skip (hT ρ a w (Ext.refl _) hF hd hS)
  | region id ops o =>
    intro F S ρ a w Q hF hd hS hT
    cases o with
    | false =>
      simp only [cCode, runC] at hT
      refine wp_region ?_
      rw [List.range_eq_range', ← Array.length_toList]
      refine ops_sound hcall ops.toList 0 rfl F S ρ a w hF hd hS (R.All.mono (R.All.bind hT) ?_)
      rintro ⟨F', S'⟩ hr ρ' a' w' he hF' hd' hS'
      exact hr ρ' a' w' he hF' hd' hS'
    | true =>
      simp only [cCode] at hT
      cases hok : drawOk ops.toList (preOf ops.toList []) (ops.toList.map (usOf ops)) with
      | false => rw [hok] at hT; exact hT.elim
      | true =>
        rw [hok] at hT
        simp only [cond_true, runC] at hT
        split at hT
        case h_2 => exact hT.elim
        rename_i st hst
        exact wp_region_any hm (draw_sound hcall hF hd (drew_RS hS) hok hst fun ρ' a' w' he hF' hd' hS' => hT ρ' a' w' he hF' hd' hS')
  | seq x y ihx ihy =>
    intro F S ρ a w Q hF hd hS hT
    simp only [cCode, runC] at hT
    refine wp_seq (ihx F S ρ a w _ hF hd hS (R.All.mono (R.All.bind hT) ?_))
    rintro ⟨e, F', S'⟩ hr ρ' a' w' he hF' hd' hS'
    cases e with
    | norm => exact ihy _ _ ρ' a' w' Q hF' hd' hS' (R.All.mono hr fun _ g => g.ext he)
    | exit id => exact hr ρ' a' w' he hF' hd' hS'
    | ret => exact hr ρ' a' w' he hF' hd' hS'
  | cond x y z ihy ihz =>
    intro F S ρ a w Q hF hd hS hT
    simp only [cCode] at hT
    cases hx : cX x with
    | none => rw [hx] at hT; exact hT.elim
    | some c =>
      rw [hx] at hT
      simp only [runC] at hT
      have hv := cX_ev hF hx
      split at hT
      · rename_i q
        rw [q] at hv
        exact wp_cond_true hv (ihy F S ρ a w Q hF hd hS hT)
      · rename_i q
        rw [q] at hv
        exact wp_cond_false hv (ihz F S ρ a w Q hF hd hS hT)
      · exact hT.elim
  | block id x ih =>
    intro F S ρ a w Q hF hd hS hT
    simp only [cCode, runC] at hT
    refine wp_block (ih F S ρ a w _ hF hd hS (R.All.mono (R.All.bind hT) ?_))
    rintro ⟨e, F', S'⟩ hr ρ' a' w' he hF' hd' hS'
    cases e with
    | norm => exact hr ρ' a' w' he hF' hd' hS'
    | exit i =>
      simp only at hr
      simp only [AE.to, Exit.inBlock]
      cases hb : Nat.beq i id with
      | true =>
        have : i = id := by simpa using hb
        rw [hb] at hr
        rw [if_pos this]
        exact hr ρ' a' w' he hF' hd' hS'
      | false =>
        have : ¬ i = id := by intro e; subst e; simp at hb
        rw [hb] at hr
        rw [if_neg this]
        exact hr ρ' a' w' he hF' hd' hS'
    | ret => exact hr ρ' a' w' he hF' hd' hS'
  | loop x ih =>
    intro F S ρ a w Q hF hd hS hT
    simp only [cCode, runC] at hT
    exact wp_loop_rounds L (loop_sound ih L _ S ρ a w Q (hF.keep k) hd hS hT)
  | exit id => intro F S ρ a w Q hF hd hS hT; exact wp_exit (hT ρ a w (Ext.refl _) hF hd hS)
  | scope x ih =>
    intro F S ρ a w Q hF hd hS hT
    simp only [cCode, runC] at hT
    refine wp_scope_straight (ih F S ρ a w _ hF hd hS (R.All.mono hT ?_))
    rintro ⟨e, F', S'⟩ hr ρ' a' w' he hF' hd' hS'
    cases e <;> exact hr ρ' a' w' he hF' hd' hS'
  | label l => intro F S ρ a w Q hF hd hS hT; exact wp_label (hT ρ a w (Ext.refl _) hF hd hS)
  | ret => intro F S ρ a w Q hF hd hS hT; exact wp_ret (hT ρ a w (Ext.refl _) hF hd hS)
  | _ => intro F S ρ a w Q hF hd hS hT; exact hT.elim

end
end Go.Proofs.YtbkmnpclldgojaaGreat.Vai
