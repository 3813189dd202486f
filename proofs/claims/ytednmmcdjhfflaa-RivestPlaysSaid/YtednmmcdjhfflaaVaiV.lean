/- Texts of this claim, joined. -/
import Derived.Test.YtednmmcdjhfflaaVaiS
/-
  A verified abstract interpreter, part U: a function that is handed nothing, or nothing that it looks at, and returns a value without an address.
-/
namespace Go.Proofs.Ytednmmcdjhfflaa.Vai
open Go Go.RowKit
theorem calls_true {P : Program} (hm : P.follows .mixedOrders = true) {kp : Nat → List Nat} {L d f : Nat} {args : List AV} {cargs : List Value} (w : World)
    (hr : ∀ ρ, RelL ρ args cargs) {S' : AS} (h : callN (ctxOf P kp) L d f args ⟨.nil, 0, 0⟩ = .one (.bool true, S')) :
    Calls P f cargs.toArray w fun e w' => e = .returned (.bool true) ∧ Below w.heap.size w w' := by
  have h' : callE (fun _ => none) L d (ctxE P kp fun _ => none) f args ⟨.nil, 0, 0⟩ = .one (.bool true, S') := h
  refine (call_sound (w0 := w) (ρ0 := Emb.nil) hm GivFro.none d GivOk.none EnvOk.none EnvFro.none f args ⟨.nil, 0, 0⟩ Emb.nil w cargs (Ext.refl _) (RS.start0 w) (hr _) (fun p => p = (.bool true, S')) (by rw [h']; rfl)).2.mono ?_
  rintro e w' ⟨p, ρ', he, rfl, _, hS⟩
  rcases he with ⟨v, rfl, hv⟩ | ⟨y, v, hy, _⟩
  · exact ⟨by rw [hv], hS.below⟩
  · cases hy
end Go.Proofs.Ytednmmcdjhfflaa.Vai

/-
  A verified abstract interpreter, part V: code told by what is behind it (a rule for each piece), for runs in which not all is known.
-/
namespace Go.Proofs.Ytednmmcdjhfflaa.Vai
open Go Go.RowKit
universe u
inductive Tok {α : Sort u} (q : α) : Type
  | mk
def AV.np : AV → Bool
  | .pan _ => false
  | _ => true
def panK (v : AV) (P : AV → Prop) (N : Prop) (_ : Tok P := .mk) (_ : Tok N := .mk) : Prop := match v with
  | .pan x => P x
  | _ => N
theorem panK_np {v : AV} {P : AV → Prop} {N : Prop} (h : v.np = true) : panK v P N = N := by cases v <;> first | rfl | cases h
def One {α : Type} (r : R α) (Q : α → Prop) (_ : Tok Q := .mk) : Prop := ∃ a, r = .one a ∧ Q a
theorem One.all {α : Type} {r : R α} {Q : α → Prop} (h : One r Q) : r.All Q := by obtain ⟨a, rfl, h⟩ := h; exact h
def AllK {α : Type} (r : R α) (Q : α → Prop) (_ : Tok Q := .mk) : Prop := r.All Q
theorem R.All.ls {α : Type} {Q : α → Prop} {x : R α} (h : x.All Q) : ∀ a ∈ x.ls, Q a := by
  cases x with
  | no => exact h.elim
  | one a => intro b hb; simp only [R.ls, List.mem_singleton] at hb; rw [hb]; exact h
  | many l => exact h
theorem All.join {α : Type} {Q : α → Prop} {x y : R α} (h : x.All Q) (k : y.All Q) : (R.join x y).All Q := by
  have key : ∀ c ∈ x.ls ++ y.ls, Q c := fun c hc => (List.mem_append.1 hc).elim (R.All.ls h c) (R.All.ls k c)
  cases x <;> cases y <;> first
    | exact h.elim
    | exact k.elim
    | exact key
theorem All.binds {α β : Type} {f : α → R β} {Q : β → Prop} : ∀ {l : List α}, (∀ a ∈ l, (f a).All Q) → (R.binds f l).All Q
  | [], _ => fun a ha => by cases ha
  | a :: l, h => All.join (h a List.mem_cons_self) (All.binds fun b hb => h b (List.mem_cons_of_mem _ hb))
theorem All.bind {α β : Type} {r : R α} {f : α → R β} {Q : β → Prop} (h : r.All fun a => (f a).All Q) : (r.bind f).All Q := by
  cases r with
  | no => exact h.elim
  | one a => exact h
  | many l => exact All.binds h
theorem AllK.of_one {α : Type} {r : R α} {Q : α → Prop} (h : One r Q) : AllK r Q := h.all
def condK (v : AV) (A B : Prop) (_ : Tok A := .mk) (_ : Tok B := .mk) : Prop := match v with
  | .bool true => A
  | .bool false => B
  | _ => False
def undK (v : AV) (U N : Prop) (_ : Tok U := .mk) (_ : Tok N := .mk) : Prop := match v with
  | .tup [] => U
  | _ => N
def wantK (F : Fr) (gd : Option (Nat × Bool)) (A B : Prop) : Prop := match gd with
  | none => A
  | some (t, true) => undK (F.get t) B (condK (F.get t) A B)
  | some (t, false) => undK (F.get t) B (condK (F.get t) B A)
def chkK (b : Bool) (N : Prop) (_ : Tok N := .mk) : Prop := b = true ∧ N
def WO (C : Ctx) (call : CallF) : List AOper → Fr → AS → (AE → Fr → AS → Prop) → Prop
  | [], F, S, Q => Q .norm F S
  | o :: os, F, S, Q => wantK F o.gd (AllK (aop C call F S o.op) fun r => panK r.1 (fun x => Q (.pan x) F r.2) (WO C call os (F.put o.dst r.1) r.2 Q)) (WO C call os (F.put o.dst undefA) S Q)
theorem condK_say {v : AV} {A B : Prop} (h : condK v A B) : (v = .bool true ∧ A) ∨ (v = .bool false ∧ B) := by
  unfold condK at h
  split at h
  · exact .inl ⟨rfl, h⟩
  · exact .inr ⟨rfl, h⟩
  · exact h.elim
theorem undK_say {v : AV} {U N : Prop} (h : undK v U N) : (v = .tup [] ∧ U) ∨ N := by
  unfold undK at h
  split at h
  · exact .inl ⟨rfl, h⟩
  · exact .inr h
theorem want_say {F : Fr} {gd : Option (Nat × Bool)} {A B : Prop} (h : wantK F gd A B) : (wantA F gd = some true ∧ A) ∨ (wantA F gd = some false ∧ B) := by
  cases gd with
  | none => exact .inl ⟨rfl, h⟩
  | some g =>
    obtain ⟨t, b⟩ := g
    cases b with
    | true =>
      rcases undK_say h with ⟨h1, h2⟩ | h
      · exact .inr ⟨by simp only [wantA, h1], h2⟩
      rcases condK_say h with ⟨h1, h2⟩ | ⟨h1, h2⟩
      · exact .inl ⟨by simp only [wantA, h1]; rfl, h2⟩
      · exact .inr ⟨by simp only [wantA, h1]; rfl, h2⟩
    | false =>
      rcases undK_say h with ⟨h1, h2⟩ | h
      · exact .inr ⟨by simp only [wantA, h1], h2⟩
      rcases condK_say h with ⟨h1, h2⟩ | ⟨h1, h2⟩
      · exact .inr ⟨by simp only [wantA, h1]; rfl, h2⟩
      · exact .inl ⟨by simp only [wantA, h1]; rfl, h2⟩
theorem WO.all {C : Ctx} {call : CallF} : ∀ {ops : List AOper} {F : Fr} {S : AS} {Q : AE → Fr → AS → Prop}, WO C call ops F S Q → (runOps C call ops F S).All fun r => Q r.1 r.2.1 r.2.2
  | [], F, S, Q, h => h
  | o :: os, F, S, Q, h => by
    simp only [WO] at h
    simp only [runOps]
    rcases want_say h with ⟨h1, h2⟩ | ⟨h1, h2⟩
    · rw [h1]
      refine All.bind (R.All.mono h2 ?_)
      rintro ⟨v, S'⟩ h4
      cases v <;> first
        | exact h4
        | exact WO.all h4
    · rw [h1]
      exact WO.all h2
def sik (op : AOp) : Nat := bif op.acts then 3 else bif op.reads then 2 else 1
def WD (C : Ctx) (call : CallF) : List (AOper × List Nat × List Nat) → Nat → Fr → AS → List SI → (Fr → AS → Prop) → Prop
  | [], _, F, S, _, K => K F S
  | o :: os, i, F, S, acc, K => wantK (F.keep o.2.2) o.1.gd
      (One (aop C call (F.keep o.2.2) S o.1.op) fun r => chkK r.1.np (chkK (acc.all (dchk C o.2.1 ⟨i, sik o.1.op, o.1.op, F.keep o.2.2, S, r.1⟩ r.2))
        (WD C call os (i + 1) (F.put o.1.dst r.1) (bif o.1.op.acts then r.2 else S) (⟨i, sik o.1.op, o.1.op, F.keep o.2.2, S, r.1⟩ :: acc) K)))
      (WD C call os (i + 1) (F.put o.1.dst undefA) S (⟨i, 0, o.1.op, F.keep o.2.2, S, undefA⟩ :: acc) K)
theorem WD.run {C : Ctx} {call : CallF} {K : Fr → AS → Prop} : ∀ {ops : List (AOper × List Nat × List Nat)} {i : Nat} {F : Fr} {S : AS} {acc : List SI}, WD C call ops i F S acc K → ∃ st, runD C call ops i ⟨F, S, acc, none⟩ = some st ∧ st.pan = none ∧ K st.F st.S
  | [], i, F, S, acc, h => ⟨_, rfl, rfl, h⟩
  | o :: os, i, F, S, acc, h => by
    simp only [WD] at h
    simp only [runD, dstep, deadB, cond_false]
    rcases want_say h with ⟨h1, h2⟩ | ⟨h1, h2⟩
    · rw [h1]
      obtain ⟨r, h3, h4, h5, h6⟩ := h2
      obtain ⟨v, S'⟩ := r
      simp only [h3]
      simp only [sik] at h5 h6
      cases v <;> first
        | (cases h4; done)
        | (simp only [h5, Option.isSome_none, Bool.and_false, Bool.not_false, Bool.and_self, cond_true]; exact WD.run h6)
    · rw [h1]
      exact WD.run h2
def thenK (k : Fr → AS → Prop) (Q : AE → Fr → AS → Prop) (e : AE) (F : Fr) (S : AS) : Prop := match e with
  | .norm => k F S
  | e => Q e F S
def blkK (id : Nat) (Q : AE → Fr → AS → Prop) (e : AE) (F : Fr) (S : AS) : Prop := match e with
  | .exit i => if i = id then Q .norm F S else Q (.exit i) F S
  | e => Q e F S
def WC (C : Ctx) (call : CallF) (L : Nat) : AC → Fr → AS → (AE → Fr → AS → Prop) → Prop
  | .bad, _, _, _ => False
  | .skip, F, S, Q => Q .norm F S
  | .reg ops, F, S, Q => WO C call ops F S Q
  | .draw ops, F, S, Q => WD C call ops 0 F S [] fun F S => Q .norm F S
  | .seq a b, F, S, Q => WC C call L a F S (thenK (fun F S => WC C call L b F S Q) Q)
  | .cond x a b, F, S, Q => condK (x.ev F) (WC C call L a F S Q) (WC C call L b F S Q)
  | .block id a, F, S, Q => WC C call L a F S (blkK id Q)
  | .loop kp a, F, S, Q => AllK (iter kp (runC C call L a) L (F.keep kp) S) fun r => Q r.1 r.2.1 r.2.2
  | .exit id, F, S, Q => Q (.exit id) F S
  | .scope a, F, S, Q => WC C call L a F S Q
  | .label, F, S, Q => Q .norm F S
  | .ret, F, S, Q => Q .ret F S
theorem WC.all {C : Ctx} {call : CallF} {L : Nat} : ∀ (c : AC) {F : Fr} {S : AS} {Q : AE → Fr → AS → Prop}, WC C call L c F S Q → (runC C call L c F S).All fun r => Q r.1 r.2.1 r.2.2
  | .bad, _, _, _, h => h.elim
  | .skip, F, S, Q, h => h
  | .reg ops, F, S, Q, h => WO.all h
  | .draw ops, F, S, Q, h => by
    obtain ⟨st, h1, h2, h3⟩ := WD.run h
    simp only [runC, h1, h2]
    exact h3
  | .seq a b, F, S, Q, h => by
    simp only [runC]
    refine All.bind (R.All.mono (WC.all a h) ?_)
    rintro ⟨e, F', S'⟩ hr
    cases e with
    | norm => exact WC.all b hr
    | exit id => exact hr
    | ret => exact hr
    | pan y => exact hr
  | .cond x a b, F, S, Q, h => by
    rcases condK_say h with ⟨h1, h2⟩ | ⟨h1, h2⟩
    · simp only [runC, h1]; exact WC.all a h2
    · simp only [runC, h1]; exact WC.all b h2
  | .block id a, F, S, Q, h => by
    simp only [runC]
    refine All.bind (R.All.mono (WC.all a h) ?_)
    rintro ⟨e, F', S'⟩ hr
    cases e with
    | norm => exact hr
    | exit i =>
      simp only [blkK] at hr
      by_cases hi : i = id
      · subst hi
        rw [if_pos rfl] at hr
        have : Nat.beq i i = true := by simp
        simp only [this, cond_true]
        exact hr
      · rw [if_neg hi] at hr
        have : Nat.beq i id = false := by
          cases hb : Nat.beq i id with
          | false => rfl
          | true => exact absurd (by simpa using hb) hi
        simp only [this, cond_false]
        exact hr
    | ret => exact hr
    | pan y => exact hr
  | .loop kp a, F, S, Q, h => h
  | .exit id, _, _, _, h => h
  | .scope a, F, S, Q, h => WC.all a h
  | .label, _, _, _, h => h
  | .ret, _, _, _, h => h
theorem loop_all {C : Ctx} {call : CallF} {L : Nat} {kp : List Nat} {a : AC} {Q : AE → Fr → AS → Prop} (I : Nat → Fr → AS → Prop)
    (hb : ∀ m F S, I m F S → WC C call L a F S (thenK (fun F' S' => ∃ m', m' < m ∧ I m' (F'.keep kp) S') Q)) {m : Nat} {F : Fr} {S : AS} (h : I m F S) (hm : m < L) : AllK (iter kp (runC C call L a) L F S) fun r => Q r.1 r.2.1 r.2.2 := by
  have key : ∀ (n m : Nat) (F : Fr) (S : AS), m < n → I m F S → AllK (iter kp (runC C call L a) n F S) fun r => Q r.1 r.2.1 r.2.2 := by
    intro n
    induction n with
    | zero => intro m F S h; omega
    | succ n ih =>
      intro m F S hmn hI
      simp only [iter]
      refine All.bind (R.All.mono (WC.all a (hb m F S hI)) ?_)
      rintro ⟨e, F', S'⟩ hr
      cases e with
      | norm =>
        obtain ⟨m', h1, h2⟩ := hr
        exact ih m' _ _ (by omega) h2
      | exit id => exact hr
      | ret => exact hr
      | pan y => exact hr
  exact key L m _ _ hm h
def finA (S : AS) (v : AV) (S' : AS) : AS := match finS S v S' with
  | none => S
  | some S' => S'
def endK (res : List ARes) (S : AS) (T : AV × AS → Prop) (e : AE) (F : Fr) (S' : AS) : Prop := match e with
  | .exit _ => False
  | .pan x => T (.pan x, finA S (.pan x) S')
  | _ => ∃ l, resV F S' res = some l ∧ T (resOne l, finA S (resOne l) S')
theorem merge_alls {T : AV × Option AS → Prop} {r : R (AV × Option AS)} (h : r.All T) : (mergeR r).All T := by
  cases r with
  | no => exact h.elim
  | one a => exact h
  | many l =>
    cases l with
    | nil => exact h
    | cons a l =>
      simp only [mergeR]
      cases l.all (leafBeq a) with
      | true => exact h a List.mem_cons_self
      | false => exact h
theorem call_all {C : Ctx} {G : Giv} {L d f : Nat} {args : List AV} {S : AS} {nt : Nat} {res : List ARes} {code : AC} {T : AV × AS → Prop} (hG : G f = none) (hf : C.fn f = some ⟨nt, res, code, .plain⟩) (hl : Nat.ble args.length nt = true)
    (h : WC C (callE G L d C) L code (params 0 args) ⟨S.objs, S.n, S.n⟩ (endK res S T)) : AllK (callE G L (d + 1) C f args S) T := by
  have h1 := WC.all code h
  show R.All T _
  simp only [callE, hG, hf, hl, cond_true, runB]
  refine All.bind (merge_alls (All.bind (R.All.mono h1 ?_)))
  rintro ⟨e, F, S'⟩ h2
  cases e with
  | exit id => exact h2.elim
  | pan x => exact h2
  | norm =>
    obtain ⟨l, h3, h4⟩ := h2
    simp only [finR, h3]
    exact h4
  | ret =>
    obtain ⟨l, h3, h4⟩ := h2
    simp only [finR, h3]
    exact h4
theorem call_giv {C : Ctx} {G : Giv} {L d f : Nat} {args : List AV} {S : AS} {g : List AV → AS → R (AV × AS)} (hG : G f = some g) : callE G L (d + 1) C f args S = g args S := by
  simp only [callE, hG]
end Go.Proofs.Ytednmmcdjhfflaa.Vai
