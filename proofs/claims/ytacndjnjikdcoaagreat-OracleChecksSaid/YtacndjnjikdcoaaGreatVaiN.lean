/-
  A verified abstract interpreter, part N: calls; a row of operations; code.
-/
import Derived.Test.YtacndjnjikdcoaaGreatVaiM
import Derived.Scope
namespace Go.Proofs.YtacndjnjikdcoaaGreat.Vai
open Go Go.RowKit

section
variable {P : Program} {w0 : World} {ρ : Emb} {S : AS} {w : World} {n : Nat} {F : Fr} {a : Act} {C : Ctx} {call : CallF}

theorem run_method {t : TypeId} {name : String} {f : Nat} (h : methO P t name = some f) (v : Value) (m : Nat) : (method (m + 1) t v name).run P w = .ok (f, v) w := by
  unfold methO at h
  split at h
  case h_2 => cases h
  rename_i i hi
  split at h
  case h_2 => cases h
  rename_i md hf
  have hf' : Array.find? (fun x => x.name == name) i.methods = some md := by rw [← Array.find?_toList]; exact hf
  split at h
  · rename_i f1 e hp hfn hu
    cases h
    have hpe : md.path.isEmpty = true := by simp [Array.isEmpty, ← Array.length_toList, hp]
    simp [method, typeInfo, hi, hf', hp, follow, hfn, receiverAt, run_underlying hu, Place.get]
  · cases h
  · rename_i d hno hp hfn hu
    cases h
    have hpe : md.path.isEmpty = true := by simp [Array.isEmpty, ← Array.length_toList, hp]
    have hrec : (receiverAt t (Place.val v) false (some ((name.splitOn ".").getLastD name))).run P w = .ok v w := by
      simp only [receiverAt, Sem.run_bind, run_underlying hu, Result.andThen_ok]
      cases d <;> first
        | exact absurd rfl (hno _)
        | rfl
    simp only [method, Sem.run_bind, typeInfo, run_program, Result.andThen_ok, hi, Sem.run_pure, hf', hp, follow, hfn, hpe, if_true, hrec]
  · cases h

theorem cond_some {α : Type} {b : Bool} {x y : α} (h : (bif b then some x else none) = some y) : x = y := by
  cases b
  · cases h
  · cases h; rfl
theorem cond_map {α β : Type} {b : Bool} {x : Option α} {f : α → β} {y : β} (h : (bif b then x.map f else none) = some y) : ∃ z, f z = y := by
  cases b
  · cases h
  · cases x with
    | none => cases h
    | some z => cases h; exact ⟨z, rfl⟩

/-- one operation, whatever it is -/
theorem oper_sound {ρ0 : Emb} {env : Env} (hcall : CallOk P w0 ρ0 call) (henv : EnvOk P w0 ρ0 env) (h0 : Ext ρ0 ρ) (hF : FRel ρ n F a.tmps) (hS : RS w0 ρ S w) {o : Oper} {ao : AOp} (h : cOp P o.op = some ao) {T : AV × AS → Prop} {kp : Nat → List Nat} (hT : (aop (ctxE P kp env) call F S ao).All T)
    {next : Act → World → Prop} {Q : Exit → Act → World → Prop} (hK : ∀ p ρ' v w', T p → Ext ρ ρ' → Rel ρ' p.1 v → RS w0 ρ' p.2 w' → next (a.put o.dst v) w')
    (hP : ∀ p ρ' y v w', T p → p.1 = .pan y → Ext ρ ρ' → Rel ρ' y v → RS w0 ρ' p.2 w' → Q (.panic [{ v, recovered := false }]) a w') {r0 : Option Nat} {m : Nat} : o.wpIn (fw r0) m P a w next Q := by
  have hnd : ∀ c, o.op ≠ .defer c := by intro c hc; rw [hc] at h; cases h
  by_cases hpn : ∃ x, o.op = .panic x
  · obtain ⟨x, hx⟩ := hpn
    rw [hx] at h
    simp only [cOp, Option.map_eq_some_iff] at h
    obtain ⟨x', hx', rfl⟩ := h
    have hv := cX_ev hF hx'
    simp only [aop] at hT
    split at hT
    · rename_i t y q
      rw [q] at hv
      obtain ⟨u, hu, hv'⟩ := id hv
      refine ⟨fun _ _ => trivial, ?_⟩
      have : (execOp a.eval o).run P w = .halt (.panic (.iface t u)) w := by
        simp only [execOp, hx, hv']
        simp [Instr.panic]
      rw [semAt_plain hnd, this, Oper.uponIn_panic]
      exact hP _ ρ _ _ w hT rfl (Ext.refl _) ⟨u, hu, rfl⟩ hS
    · exact hT.elim
  cases hc : ao.calls with
  | false => exact (sim_op hF hS h hc).wp hT hnd hK
  | true =>
    have fin : ∀ (f : Nat) (args : List AV) (cargs : List Value), RelL ρ args cargs → (call f args S).All T → (execOp a.eval o).run P w = (callFunc f cargs.toArray).run P w → o.wpIn (fw r0) m P a w next Q := by
      intro f args cargs hr hT he
      obtain ⟨h1, h2⟩ := hcall f args S ρ w cargs h0 hS hr T hT
      refine ⟨fun _ _ => trivial, ?_⟩
      rw [semAt_plain hnd, he, h1 w, Oper.uponIn_enter]
      refine ⟨fw_depth _ _, (callsIn_fw h2).mono ?_⟩
      rintro e w' ⟨p, ρ', q1, q2, q3, q4⟩
      rcases q1 with ⟨v, rfl, q1⟩ | ⟨y, v, g1, rfl, g2⟩
      · exact hK p ρ' v w' q2 q3 q1 q4
      · exact hP p ρ' y v w' q2 g1 q3 g2 q4
    have hcl : ∃ c, o.op = .call c := by
      cases hop : o.op <;> rw [hop] at h <;> first
        | exact ⟨_, rfl⟩
        | exact (hpn (Exists.intro _ hop)).elim
        | (exfalso; simp only [cOp, cOp.cUpd] at h; (repeat' split at h) <;> first
             | (cases h; done)
             | (cases h; cases hc; done)
             | (have := cond_some h; subst this; cases hc; done)
             | (obtain ⟨_, rfl⟩ := cond_map h; cases hc; done)
             | (simp only [Option.map_eq_some_iff] at h; obtain ⟨_, _, rfl⟩ := h; cases hc; done))
        | (exfalso; simp only [cOp] at h; (repeat' split at h) <;> first
             | (cases h; done)
             | (cases h; cases hc; done)
             | (have := cond_some h; subst this; cases hc; done)
             | (obtain ⟨_, rfl⟩ := cond_map h; cases hc; done)
             | (simp only [Option.map_eq_some_iff] at h; obtain ⟨_, _, rfl⟩ := h; cases hc; done))
        | (exfalso; rename_i r; cases r <;> first | (cases h; cases hc; done) | (cases h; done) | (simp only [cOp, Option.map_eq_some_iff] at h; obtain ⟨_, _, rfl⟩ := h; cases hc; done))
    obtain ⟨c, hop⟩ := hcl
    rw [hop] at h
    simp only [cOp] at h
    unfold cCall at h
    obtain ⟨callee, args, ts⟩ := c
    simp only at h
    split at h
    · rename_i f
      cases hxs : cXs args.toList with
      | none => rw [hxs] at h; cases h
      | some as =>
        rw [hxs] at h
        cases h
        refine fin f _ _ (cXs_ev hF hxs) hT ?_
        have harr : (args.toList.map a.eval).toArray = args.map a.eval := by rw [← Array.toList_map]
        rw [harr]
        simp [execOp, hop, resolve, Deferred.ofValue, Act.eval, invoke]
    · rename_i x hnf
      split at h
      case h_2 => cases h
      rename_i y as hx hxs
      cases h
      simp only [aop] at hT
      split at hT
      · rename_i f first cap q
        have hxv := cX_ev hF hx
        rw [q] at hxv
        simp only [Rel] at hxv
        obtain ⟨fs, cs, h1, h2, hv⟩ := hxv
        refine fin f _ _ (RelL.append (RelL.append h1 (cXs_ev hF hxs)) h2) hT ?_
        have harr : (fs ++ args.toList.map a.eval ++ cs).toArray = (⟨fs⟩ ++ args.map a.eval) ++ ⟨cs⟩ := by apply Array.ext'; simp
        rw [harr]
        simp only [execOp, hop, resolve, hv, Deferred.ofValue, invoke, Sem.run_bind, Sem.run_pure, Result.andThen_ok]
      · /- a round -/
        rename_i v q
        have hxv := cX_ev hF hx
        rw [q] at hxv
        simp only [Rel] at hxv
        obtain ⟨b, hb, hv⟩ := hxv
        split at hT
        case h_2 => exact hT.elim
        rename_i rd hrd
        obtain ⟨b', rec, e1, e2, e3⟩ := henv v rd hrd
        have := h0 _ _ _ e1
        rw [hb] at this
        cases this
        obtain ⟨g1, g2, g3⟩ := e3 ρ S w _ _ h0 hS (cXs_ev hF hxs) T hT
        have hobj := hS.obj v _ g1
        obtain ⟨b2, o2, q1, _, q3, q4⟩ := hobj
        rw [hb] at q1
        cases q1
        rw [e2] at q3
        cases q3
        refine ⟨fun _ _ => trivial, ?_⟩
        have harr : (args.toList.map a.eval).toArray = args.map a.eval := by rw [← Array.toList_map]
        have hsz : (args.map a.eval).size = rec.params.size := by rw [← g2]; simp
        have hy := run_yield (P := P) (w := w) (args := args.map a.eval) q4 hsz
        have hrun : (execOp a.eval o).run P w = (Instr.yield b.blk (args.map a.eval)).run P w := by
          simp [execOp, hop, resolve, hv, Deferred.ofValue, invoke]
        rw [semAt_plain hnd, hrun, hy, Oper.uponIn_round]
        refine ⟨fw_depth _ _, ?_⟩
        rw [← harr]
        refine (g3 r0 (m - 1)).mono ?_
        rintro e w' ⟨p, ρ', q1, q2, q3, q4⟩
        rcases q1 with ⟨v, rfl, q1⟩ | ⟨y, v, g1, rfl, g2⟩
        · exact hK p ρ' v w' q2 q3 q1 q4
        · exact hP p ρ' y v w' q2 g1 q3 g2 q4
      · exact hT.elim
    · rename_i r name
      split at h
      case h_2 => cases h
      rename_i y as hx hxs
      cases h
      simp only [aop] at hT
      split at hT
      · rename_i t y' q
        have hxv := cX_ev hF hx
        rw [q] at hxv
        simp only [Rel] at hxv
        obtain ⟨v, h1, hv⟩ := hxv
        split at hT
        · rename_i f hm
          have hm' : methO P t name = some f := hm
          refine fin f (y' :: AX.evs F as) (v :: args.toList.map a.eval) ⟨v, _, rfl, h1, cXs_ev hF hxs⟩ hT ?_
          have harr : (v :: args.toList.map a.eval).toArray = #[v] ++ args.map a.eval := by apply Array.ext'; rw [Array.toList_append, Array.toList_map]; rfl
          rw [harr]
          have hmeth := run_method (w := w) hm' v (P.types.size + 99)
          have : P.types.size + Made.depth = P.types.size + 99 + 1 := rfl
          have g0 : (#[Value.iface t v] ++ args.map a.eval)[0]? = some (Value.iface t v) := by rw [Array.getElem?_append_left (by simp)]; rfl
          have g1 : (#[Value.iface t v] ++ args.map a.eval).extract 1 = args.map a.eval := by apply Array.ext'; simp; exact List.take_of_length_le (by simp)
          simp only [execOp, hop, resolve, hv, invoke, Sem.run_bind, Sem.run_pure, Result.andThen_ok, g0, g1, callMethod, run_program, this, hmeth]
        · exact hT.elim
      · exact hT.elim
    · exfalso
      (repeat' split at h) <;> first
        | (cases h; done)
        | (cases h; cases hc; done)
        | (have := cond_some h; subst this; cases hc; done)

end
end Go.Proofs.YtacndjnjikdcoaaGreat.Vai
