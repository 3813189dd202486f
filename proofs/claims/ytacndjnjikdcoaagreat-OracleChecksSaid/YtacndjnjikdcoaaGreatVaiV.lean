/-
  A verified abstract interpreter, part V: code told by what is behind it (a rule for each piece), for runs in which not all is known.
-/
import Derived.Test.YtacndjnjikdcoaaGreatVaiU
namespace Go.Proofs.YtacndjnjikdcoaaGreat.Vai
open Go Go.RowKit
universe u

/-- a mark by which 'simp' leaves alone what is behind a piece, till that piece is done -/
inductive Tok {α : Sort u} (q : α) : Type
  | mk
/-- it is no panic -/
def AV.np : AV → Bool
  | .pan _ => false
  | _ => true
def panK (v : AV) (P : AV → Prop) (N : Prop) (_ : Tok P := .mk) (_ : Tok N := .mk) : Prop := match v with
  | .pan x => P x
  | _ => N
theorem panK_np {v : AV} {P : AV → Prop} {N : Prop} (h : v.np = true) : panK v P N = N := by cases v <;> first | rfl | cases h
/-- it comes to one end, and that is good -/
def One {α : Type} (r : R α) (Q : α → Prop) (_ : Tok Q := .mk) : Prop := ∃ a, r = .one a ∧ Q a
theorem One.all {α : Type} {r : R α} {Q : α → Prop} (h : One r Q) : r.All Q := by obtain ⟨a, rfl, h⟩ := h; exact h
theorem One.mono {α : Type} {r : R α} {Q Q' : α → Prop} (h : One r Q) (k : ∀ a, Q a → Q' a) : One r Q' := let ⟨a, h1, h2⟩ := h; ⟨a, h1, k a h2⟩
theorem One.bind {α β : Type} {r : R α} {f : α → R β} {Q : β → Prop} (h : One r fun a => One (f a) Q) : One (r.bind f) Q := by
  obtain ⟨a, rfl, b, h1, h2⟩ := h
  exact ⟨b, h1, h2⟩

/-- by what is known of a Bool -/
def condK (v : AV) (A B : Prop) (_ : Tok A := .mk) (_ : Tok B := .mk) : Prop := match v with
  | .bool true => A
  | .bool false => B
  | _ => False
def wantK (F : Fr) (gd : Option (Nat × Bool)) (A B : Prop) : Prop := match gd with
  | none => A
  | some (t, true) => condK (F.get t) A B
  | some (t, false) => condK (F.get t) B A
def chkK (b : Bool) (N : Prop) (_ : Tok N := .mk) : Prop := b = true ∧ N

/-- a row of operations -/
def WO (C : Ctx) (call : CallF) : List AOper → Fr → AS → (AE → Fr → AS → Prop) → Prop
  | [], F, S, Q => Q .norm F S
  | o :: os, F, S, Q => wantK F o.gd (One (aop C call F S o.op) fun r => panK r.1 (fun x => Q (.pan x) F r.2) (WO C call os (F.put o.dst r.1) r.2 Q)) (WO C call os (F.put o.dst undefA) S Q)

theorem condK_say {v : AV} {A B : Prop} (h : condK v A B) : (v = .bool true ∧ A) ∨ (v = .bool false ∧ B) := by
  unfold condK at h
  split at h
  · exact .inl ⟨rfl, h⟩
  · exact .inr ⟨rfl, h⟩
  · exact h.elim
theorem want_say {F : Fr} {gd : Option (Nat × Bool)} {A B : Prop} (h : wantK F gd A B) : (wantA F gd = some true ∧ A) ∨ (wantA F gd = some false ∧ B) := by
  cases gd with
  | none => exact .inl ⟨rfl, h⟩
  | some g =>
    obtain ⟨t, b⟩ := g
    cases b with
    | true =>
      rcases condK_say h with ⟨h1, h2⟩ | ⟨h1, h2⟩
      · exact .inl ⟨by simp only [wantA, h1]; rfl, h2⟩
      · exact .inr ⟨by simp only [wantA, h1]; rfl, h2⟩
    | false =>
      rcases condK_say h with ⟨h1, h2⟩ | ⟨h1, h2⟩
      · exact .inr ⟨by simp only [wantA, h1]; rfl, h2⟩
      · exact .inl ⟨by simp only [wantA, h1]; rfl, h2⟩

theorem WO.one {C : Ctx} {call : CallF} : ∀ {ops : List AOper} {F : Fr} {S : AS} {Q : AE → Fr → AS → Prop}, WO C call ops F S Q → One (runOps C call ops F S) fun r => Q r.1 r.2.1 r.2.2
  | [], F, S, Q, h => ⟨_, rfl, h⟩
  | o :: os, F, S, Q, h => by
    simp only [WO] at h
    simp only [runOps]
    rcases want_say h with ⟨h1, h2⟩ | ⟨h1, h2⟩
    · rw [h1]
      obtain ⟨r, h3, h4⟩ := h2
      simp only [h3, R.bind_one]
      obtain ⟨v, S'⟩ := r
      cases v <;> first
        | exact ⟨_, rfl, h4⟩
        | exact WO.one h4
    · rw [h1]
      exact WO.one h2

/-- a region whose order is open: one operation by one; what they do is held against one another -/
def sik (op : AOp) : Nat := bif op.acts then 3 else bif op.reads then 2 else 1
def WD (C : Ctx) (call : CallF) : List (AOper × List Nat × List Nat) → Nat → Fr → AS → List SI → (Fr → AS → Prop) → Prop
  | [], _, F, S, _, K => K F S
  | o :: os, i, F, S, acc, K => wantK (F.keep o.2.2) o.1.gd
      (One (aop C call (F.keep o.2.2) S o.1.op) fun r => chkK r.1.np (chkK (acc.all (dchk C o.2.1 ⟨i, sik o.1.op, o.1.op, F.keep o.2.2, S, r.1⟩ r.2))
        (WD C call os (i + 1) (F.put o.1.dst r.1) (bif o.1.op.acts then r.2 else S) (⟨i, sik o.1.op, o.1.op, F.keep o.2.2, S, r.1⟩ :: acc) K)))
      (WD C call os (i + 1) (F.put o.1.dst undefA) S (⟨i, 0, o.1.op, F.keep o.2.2, S, undefA⟩ :: acc) K)

theorem WD.run {C : Ctx} {call : CallF} {K : Fr → AS → Prop} : ∀ {ops : List (AOper × List Nat × List Nat)} {i : Nat} {F : Fr} {S : AS} {acc : List SI}, WD C call ops i F S acc K → ∃ st, runD C call ops i ⟨F, S, acc, none⟩ = some st ∧ st.pan = none ∧ K st.F st.S
  | [], i, F, S, acc, h => ⟨_, rfl, rfl, h⟩
  | o :: os, i, F, S, acc, h => by
    simp only [WD] at h
    simp only [runD, dstep, deadB, cond_false]
    rcases want_say h with ⟨h1, h2⟩ | ⟨h1, h2⟩
    · rw [h1]
      obtain ⟨r, h3, h4, h5, h6⟩ := h2
      obtain ⟨v, S'⟩ := r
      simp only [h3]
      simp only [sik] at h5 h6
      cases v <;> first
        | (cases h4; done)
        | (simp only [h5, Option.isSome_none, Bool.and_false, Bool.not_false, Bool.and_self, cond_true]; exact WD.run h6)
    · rw [h1]
      exact WD.run h2

def thenK (k : Fr → AS → Prop) (Q : AE → Fr → AS → Prop) (e : AE) (F : Fr) (S : AS) : Prop := match e with
  | .norm => k F S
  | e => Q e F S
def blkK (id : Nat) (Q : AE → Fr → AS → Prop) (e : AE) (F : Fr) (S : AS) : Prop := match e with
  | .exit i => if i = id then Q .norm F S else Q (.exit i) F S
  | e => Q e F S

/-- code -/
def WC (C : Ctx) (call : CallF) (L : Nat) : AC → Fr → AS → (AE → Fr → AS → Prop) → Prop
  | .bad, _, _, _ => False
  | .skip, F, S, Q => Q .norm F S
  | .reg ops, F, S, Q => WO C call ops F S Q
  | .draw ops, F, S, Q => WD C call ops 0 F S [] fun F S => Q .norm F S
  | .seq a b, F, S, Q => WC C call L a F S (thenK (fun F S => WC C call L b F S Q) Q)
  | .cond x a b, F, S, Q => condK (x.ev F) (WC C call L a F S Q) (WC C call L b F S Q)
  | .block id a, F, S, Q => WC C call L a F S (blkK id Q)
  | .loop kp a, F, S, Q => One (iter kp (runC C call L a) L (F.keep kp) S) fun r => Q r.1 r.2.1 r.2.2
  | .exit id, F, S, Q => Q (.exit id) F S
  | .scope a, F, S, Q => WC C call L a F S Q
  | .label, F, S, Q => Q .norm F S
  | .ret, F, S, Q => Q .ret F S

theorem WC.one {C : Ctx} {call : CallF} {L : Nat} : ∀ (c : AC) {F : Fr} {S : AS} {Q : AE → Fr → AS → Prop}, WC C call L c F S Q → One (runC C call L c F S) fun r => Q r.1 r.2.1 r.2.2
  | .bad, _, _, _, h => h.elim
  | .skip, _, _, _, h => ⟨_, rfl, h⟩
  | .reg ops, F, S, Q, h => WO.one h
  | .draw ops, F, S, Q, h => by
    obtain ⟨st, h1, h2, h3⟩ := WD.run h
    simp only [runC, h1, h2]
    exact ⟨_, rfl, h3⟩
  | .seq a b, F, S, Q, h => by
    simp only [runC]
    refine One.bind ((WC.one a h).mono ?_)
    rintro ⟨e, F', S'⟩ hr
    cases e with
    | norm => exact WC.one b hr
    | exit id => exact ⟨_, rfl, hr⟩
    | ret => exact ⟨_, rfl, hr⟩
    | pan y => exact ⟨_, rfl, hr⟩
  | .cond x a b, F, S, Q, h => by
    rcases condK_say h with ⟨h1, h2⟩ | ⟨h1, h2⟩
    · simp only [runC, h1]; exact WC.one a h2
    · simp only [runC, h1]; exact WC.one b h2
  | .block id a, F, S, Q, h => by
    simp only [runC]
    refine One.bind ((WC.one a h).mono ?_)
    rintro ⟨e, F', S'⟩ hr
    cases e with
    | norm => exact ⟨_, rfl, hr⟩
    | exit i =>
      simp only [blkK] at hr
      by_cases hi : i = id
      · subst hi
        rw [if_pos rfl] at hr
        have : Nat.beq i i = true := by simp
        simp only [this, cond_true]
        exact ⟨_, rfl, hr⟩
      · rw [if_neg hi] at hr
        have : Nat.beq i id = false := by
          cases hb : Nat.beq i id with
          | false => rfl
          | true => exact absurd (by simpa using hb) hi
        simp only [this, cond_false]
        exact ⟨_, rfl, hr⟩
    | ret => exact ⟨_, rfl, hr⟩
    | pan y => exact ⟨_, rfl, hr⟩
  | .loop kp a, F, S, Q, h => h
  | .exit id, _, _, _, h => ⟨_, rfl, h⟩
  | .scope a, F, S, Q, h => WC.one a h
  | .label, _, _, _, h => ⟨_, rfl, h⟩
  | .ret, _, _, _, h => ⟨_, rfl, h⟩

/-- a loop, by what holds at the head of each round, and a measure that goes down -/
theorem loop_one {C : Ctx} {call : CallF} {L : Nat} {kp : List Nat} {a : AC} {Q : AE → Fr → AS → Prop} (I : Nat → Fr → AS → Prop)
    (hb : ∀ m F S, I m F S → WC C call L a F S (thenK (fun F' S' => ∃ m', m' < m ∧ I m' (F'.keep kp) S') Q)) {m : Nat} {F : Fr} {S : AS} (h : I m F S) (hm : m < L) : One (iter kp (runC C call L a) L F S) fun r => Q r.1 r.2.1 r.2.2 := by
  have key : ∀ (n m : Nat) (F : Fr) (S : AS), m < n → I m F S → One (iter kp (runC C call L a) n F S) fun r => Q r.1 r.2.1 r.2.2 := by
    intro n
    induction n with
    | zero => intro m F S h; omega
    | succ n ih =>
      intro m F S hmn hI
      simp only [iter]
      refine One.bind ((WC.one a (hb m F S hI)).mono ?_)
      rintro ⟨e, F', S'⟩ hr
      cases e with
      | norm =>
        obtain ⟨m', h1, h2⟩ := hr
        exact ih m' _ _ (by omega) h2
      | exit id => exact ⟨_, rfl, hr⟩
      | ret => exact ⟨_, rfl, hr⟩
      | pan y => exact ⟨_, rfl, hr⟩
  exact key L m _ _ hm h

/-- the memory behind a call -/
def finA (S : AS) (v : AV) (S' : AS) : AS := match finS S v S' with
  | none => S
  | some S' => S'
def endK (res : List ARes) (S : AS) (T : AV × AS → Prop) (e : AE) (F : Fr) (S' : AS) : Prop := match e with
  | .exit _ => False
  | .pan x => T (.pan x, finA S (.pan x) S')
  | _ => ∃ l, resV F S' res = some l ∧ T (resOne l, finA S (resOne l) S')

theorem merge_one {r : R (AV × Option AS)} {a : AV × Option AS} (h : r = .one a) : mergeR r = .one a := by rw [h]; rfl

/-- a call of a plain function that is not given -/
theorem call_one {C : Ctx} {G : Giv} {L d f : Nat} {args : List AV} {S : AS} {nt : Nat} {res : List ARes} {code : AC} {T : AV × AS → Prop} (hG : G f = none) (hf : C.fn f = some ⟨nt, res, code, .plain⟩) (hl : Nat.ble args.length nt = true)
    (h : WC C (callE G L d C) L code (params 0 args) ⟨S.objs, S.n, S.n⟩ (endK res S T)) : One (callE G L (d + 1) C f args S) T := by
  obtain ⟨r, h1, h2⟩ := WC.one code h
  simp only [callE, hG, hf, hl, cond_true, runB, h1, R.bind_one]
  obtain ⟨e, F, S'⟩ := r
  cases e with
  | exit id => exact h2.elim
  | pan x => exact ⟨_, rfl, h2⟩
  | norm =>
    obtain ⟨l, h3, h4⟩ := h2
    simp only [finR, h3, mergeR, R.bind_one, unR]
    exact ⟨_, rfl, h4⟩
  | ret =>
    obtain ⟨l, h3, h4⟩ := h2
    simp only [finR, h3, mergeR, R.bind_one, unR]
    exact ⟨_, rfl, h4⟩

/-- a call of a function that is given -/
theorem call_giv {C : Ctx} {G : Giv} {L d f : Nat} {args : List AV} {S : AS} {g : List AV → AS → R (AV × AS)} {T : AV × AS → Prop} (hG : G f = some g) (h : One (g args S) T) : One (callE G L (d + 1) C f args S) T := by
  obtain ⟨r, h1, h2⟩ := h
  exact ⟨r, by simp only [callE, hG, h1], h2⟩

/-- a law's run, where some functions are given -/
theorem calls_given {P : Program} (hm : P.follows .mixedOrders = true) {kp : Nat → List Nat} {L d f : Nat} {G : Giv} {args : List AV} {cargs : List Value} {S : AS} {ρ : Emb} (w : World) (hGF : GivFro G) (hG : GivOk P w (fun _ _ => none) G) (hS : RS w ρ S w)
    (hr : RelL ρ args cargs) (h : One (callE G L d (ctxE P kp fun _ => none) f args S) fun p => p.1 = .bool true) :
    Calls P f cargs.toArray w fun e w' => e = .returned (.bool true) ∧ Below w.heap.size w w' := by
  refine (call_sound (w0 := w) (ρ0 := fun _ _ => none) hm hGF d hG EnvOk.none EnvFro.none f args S ρ w cargs (fun _ _ _ h => by cases h) hS hr _ h.all).2.mono ?_
  rintro e w' ⟨p, ρ', he, h1, _, hS⟩
  rcases he with ⟨v, rfl, hv⟩ | ⟨y, v, hy, _⟩
  · rw [h1] at hv
    exact ⟨by rw [hv], hS.below⟩
  · rw [hy] at h1; cases h1

/-- what stays as it is while nothing that is there is written -/
theorem RS.of_below {w0 : World} {ρ : Emb} {S : AS} {w w' : World} (h : RS w0 ρ S w) (hb : Below w.heap.size w w') : RS w0 ρ S w' :=
  ⟨h.below.trans (hb.mono h.below.size), h.dom, h.lt, fun v o ho => (h.obj v o ho).of_same (Ext.refl _) hb.size fun _ _ hl hr => hb.block _ ((h.obj v o ho).blk_lt hl hr), h.gens, h.dis⟩

/-- a function that is handed nothing, and says true, whatever the memory is -/
def givTrue (f : Nat) : Giv := fun g => bif Nat.beq g f then some fun args S => match args with | [] => .one (.bool true, S) | _ => .no else none
theorem givTrue_fro (f : Nat) : GivFro (givTrue f) := by
  intro g r h args S p hp
  unfold givTrue at h
  cases hb : Nat.beq g f <;> rw [hb] at h
  · cases h
  · cases h
    cases args with
    | nil => have := ls_one hp; subst this; exact Fro.refl _
    | cons a l => cases hp
theorem givTrue_ok {P : Program} {f : Nat} {w0 : World} {ρ0 : Emb} (he : ∀ w, (callFunc f #[]).run P w = .ok (.enter f #[]) w) (h : ∀ w, Calls P f #[] w fun e w' => e = .returned (.bool true) ∧ Below w.heap.size w w') : GivOk P w0 ρ0 (givTrue f) := by
  intro g r hg args S ρ w cargs h0 hS hr T hT
  unfold givTrue at hg
  cases hb : Nat.beq g f <;> rw [hb] at hg
  · cases hg
  · have : g = f := by simpa using hb
    subst this
    cases hg
    cases args with
    | cons a l => exact hT.elim
    | nil =>
      obtain rfl : cargs = [] := hr
      refine ⟨fun w' => he w', (h w).mono ?_⟩
      rintro e w' ⟨rfl, hbl⟩
      exact ⟨(.bool true, S), ρ, .inl ⟨_, rfl, rfl⟩, hT, Ext.refl _, hS.of_below hbl⟩

end Go.Proofs.YtacndjnjikdcoaaGreat.Vai
