/- Texts of this claim, joined. -/
import Derived.Test.YtednmmcdjhfflaaVaiQ
import Derived.LoopN
import Derived.RangeFuncIn
import Derived.RangeFuncRecord
/-
  A verified abstract interpreter, part R: code.
-/
namespace Go.Proofs.Ytednmmcdjhfflaa.Vai
open Go Go.RowKit
section
variable {F : Fence} {n : Nat} {P : Program} {b : Frame} {a : Act} {k : List Item} {cs : List Frame} {w : World} {Q : Exit → Act → World → Prop}
theorem stepR_scope {c : Code} : step P (lone (b.atR a (.code (.scope c) :: k)) cs w) = .next (lone (b.atR a (.code c :: .inScope c :: k)) cs w) :=
  step_lone_go (by simp [stepG, stepG.exec, Frame.atR])
theorem stepR_inScope {c : Code} : step P (lone (b.atR a (.inScope c :: k)) cs w) = .next (lone (b.atR a k) cs w) :=
  step_lone_go (by simp [stepG, stepG.exec, Frame.atR])
theorem wpIn_scope_straight {c : Code} (h : c.wpIn F n P (Exit.noGoto Q) a w) : (Code.scope c).wpIn F n P Q a w := by
  intro b k cs hro hb hr
  have h0 : (lone (b.atR a (.code (.scope c) :: k)) cs w).fenced P F := fenced_calm hb hr rfl
  obtain ⟨e, a₁, w₁, hq, harr⟩ := h b (.inScope c :: k) cs hro hb hr
  cases e with
  | normal => exact ⟨.normal, a₁, w₁, hq, .head h0 stepR_scope (StepsIn.trans harr (.one (fenced_calm hb hr rfl) stepR_inScope))⟩
  | exit id =>
    have hx : exitTo id (.inScope c :: k) = exitTo id k := by simp [exitTo]
    exact ⟨.exit id, a₁, w₁, hq, fun k' hk => .head h0 stepR_scope (harr.1 k' (by rw [hx]; exact hk)),
      fun hr' hk => let ⟨k₁, h1, h2⟩ := harr.2 hr' (by rw [hx]; exact hk); ⟨k₁, h1, .head h0 stepR_scope h2⟩⟩
  | goto l => exact hq.elim
  | ret => exact ⟨_, a₁, w₁, hq, .of_steps (.one h0 stepR_scope) harr⟩
  | panic ch => exact ⟨_, a₁, w₁, hq, .of_steps (.one h0 stepR_scope) harr⟩
  | outgrown => exact ⟨_, a₁, w₁, hq, .of_steps (.one h0 stepR_scope) harr⟩
end
section
variable {P : Program} {w0 : World} {n : Nat} {call : CallF} {kp : Nat → List Nat} {env : Env} {k : List Nat} {L : Nat}
theorem drew_RS {ρ : Emb} {S : AS} {w : World} (hS : RS w0 ρ S w) : RS w0 ρ S { w with drawn := w.drawn + 1 } := RS.drew hS
def CodeOk (P : Program) (w0 : World) (ρ0 : Emb) (r0 : Option Nat) (m0 n : Nat) (C : Ctx) (call : CallF) (L : Nat) (c : Code) (ac : AC) : Prop :=
  ∀ (F : Fr) (S : AS) (ρ : Emb) (a : Act) (w : World) (ds : List Deferred) (Q : Exit → Act → World → Prop), Ext ρ0 ρ → FRel ρ n F a.tmps → a.defers = ds → RS w0 ρ S w →
    (runC C call L ac F S).All (Good w0 n ds ρ Q) → c.wpIn (fw r0) m0 P Q a w
theorem loop_sound {ρ0 : Emb} {r0 : Option Nat} {m0 : Nat} {C : Ctx} {c : Code} {ac : AC} (h : CodeOk P w0 ρ0 r0 m0 n C call L c ac) : ∀ (m : Nat) (F : Fr) (S : AS) (ρ : Emb) (a : Act) (w : World) (ds : List Deferred) (Q : Exit → Act → World → Prop),
    Ext ρ0 ρ → FRel ρ n F a.tmps → a.defers = ds → RS w0 ρ S w → (iter k (runC C call L ac) m F S).All (Good w0 n ds ρ Q) → Code.roundsIn (fw r0) m0 P c Q m a w
  | 0, F, S, ρ, a, w, ds, Q, h0, hF, hd, hS, hT => hT.elim
  | m + 1, F, S, ρ, a, w, ds, Q, h0, hF, hd, hS, hT => by
    simp only [iter] at hT
    rw [roundsIn_succ]
    refine h F S ρ a w ds _ h0 hF hd hS (R.All.mono (R.All.bind hT) ?_)
    rintro ⟨e, F', S'⟩ hr ρ' x a' w' he hx hF' hd' hS'
    cases e with
    | norm => obtain rfl := hx; exact loop_sound h m _ _ ρ' a' w' ds Q (h0.trans he) (hF'.keep k) hd' hS' (R.All.mono hr fun _ g => g.ext he)
    | exit id => obtain rfl := hx; exact hr ρ' _ a' w' he rfl hF' hd' hS'
    | ret => obtain rfl := hx; exact hr ρ' _ a' w' he rfl hF' hd' hS'
    | pan y => obtain ⟨v, rfl, hv⟩ := hx; exact hr ρ' _ a' w' he ⟨v, rfl, hv⟩ hF' hd' hS'
theorem code_sound (hm : P.follows .mixedOrders = true) {ρ0 : Emb} (hcall : CallOk P w0 ρ0 call) (henv : EnvOk P w0 ρ0 env) {r0 : Option Nat} {m0 : Nat} : ∀ c : Code, CodeOk P w0 ρ0 r0 m0 n (ctxE P kp env) call L c (cCode P n k c) := by
  intro c
  induction c with
  | skip => intro F S ρ a w ds Q h0 hF hd hS hT; exact wpIn_skip (hT ρ _ a w (Ext.refl _) rfl hF hd hS)
  | region id ops o =>
    intro F S ρ a w ds Q h0 hF hd hS hT
    cases o with
    | false =>
      simp only [cCode, runC] at hT
      refine wpIn_region ?_
      rw [List.range_eq_range', ← Array.length_toList]
      exact ops_sound hcall henv ops.toList 0 rfl F S ρ a w h0 hF hd hS hT
    | true =>
      simp only [cCode] at hT
      cases hok : drawOk ops.toList (preOf ops.toList []) (ops.toList.map (usOf ops)) with
      | false => rw [hok] at hT; exact hT.elim
      | true =>
        rw [hok] at hT
        simp only [cond_true, runC] at hT
        split at hT
        case h_2 => exact hT.elim
        rename_i st hst
        refine wpIn_region_any hm (draw_sound hcall henv h0 hF hd (drew_RS hS) hok hst ?_ ?_)
        · intro p x S' hp ρ' a' w' v he hv hsz hd' hS'
          rw [hp] at hT
          exact hT ρ' _ a' w' he ⟨v, rfl, hv⟩ ⟨hsz, fun t => by simp [Fr.get, Rel]⟩ hd' hS'
        · intro hp ρ' a' w' he hF' hd' hS'
          rw [hp] at hT
          exact hT ρ' _ a' w' he rfl hF' hd' hS'
  | seq x y ihx ihy =>
    intro F S ρ a w ds Q h0 hF hd hS hT
    simp only [cCode, runC] at hT
    refine wpIn_seq (ihx F S ρ a w ds _ h0 hF hd hS (R.All.mono (R.All.bind hT) ?_))
    rintro ⟨e, F', S'⟩ hr ρ' z a' w' he hx hF' hd' hS'
    cases e with
    | norm => obtain rfl := hx; exact ihy _ _ ρ' a' w' ds Q (h0.trans he) hF' hd' hS' (R.All.mono hr fun _ g => g.ext he)
    | exit id => obtain rfl := hx; exact hr ρ' _ a' w' he rfl hF' hd' hS'
    | ret => obtain rfl := hx; exact hr ρ' _ a' w' he rfl hF' hd' hS'
    | pan y => obtain ⟨v, rfl, hv⟩ := hx; exact hr ρ' _ a' w' he ⟨v, rfl, hv⟩ hF' hd' hS'
  | cond x y z ihy ihz =>
    intro F S ρ a w ds Q h0 hF hd hS hT
    simp only [cCode] at hT
    cases hx : cX x with
    | none => rw [hx] at hT; exact hT.elim
    | some c =>
      rw [hx] at hT
      simp only [runC] at hT
      have hv := cX_ev hF hx
      split at hT
      · rename_i q
        rw [q] at hv
        exact wpIn_cond_true hv (ihy F S ρ a w ds Q h0 hF hd hS hT)
      · rename_i q
        rw [q] at hv
        exact wpIn_cond_false hv (ihz F S ρ a w ds Q h0 hF hd hS hT)
      · exact hT.elim
  | block id x ih =>
    intro F S ρ a w ds Q h0 hF hd hS hT
    simp only [cCode, runC] at hT
    refine wpIn_block (ih F S ρ a w ds _ h0 hF hd hS (R.All.mono (R.All.bind hT) ?_))
    rintro ⟨e, F', S'⟩ hr ρ' z a' w' he hx hF' hd' hS'
    cases e with
    | norm => obtain rfl := hx; exact hr ρ' _ a' w' he rfl hF' hd' hS'
    | exit i =>
      obtain rfl := hx
      simp only at hr
      simp only [Exit.inBlock]
      cases hb : Nat.beq i id with
      | true =>
        have : i = id := by simpa using hb
        rw [hb] at hr
        rw [if_pos this]
        exact hr ρ' _ a' w' he rfl hF' hd' hS'
      | false =>
        have : ¬ i = id := by intro e; subst e; simp at hb
        rw [hb] at hr
        rw [if_neg this]
        exact hr ρ' _ a' w' he rfl hF' hd' hS'
    | ret => obtain rfl := hx; exact hr ρ' _ a' w' he rfl hF' hd' hS'
    | pan y => obtain ⟨v, rfl, hv⟩ := hx; exact hr ρ' _ a' w' he ⟨v, rfl, hv⟩ hF' hd' hS'
  | loop x ih =>
    intro F S ρ a w ds Q h0 hF hd hS hT
    simp only [cCode, runC] at hT
    exact wpIn_loop_rounds L (loop_sound ih L _ S ρ a w ds Q h0 (hF.keep k) hd hS hT)
  | exit id => intro F S ρ a w ds Q h0 hF hd hS hT; exact wpIn_exit (hT ρ _ a w (Ext.refl _) rfl hF hd hS)
  | scope x ih =>
    intro F S ρ a w ds Q h0 hF hd hS hT
    simp only [cCode, runC] at hT
    refine wpIn_scope_straight (ih F S ρ a w ds _ h0 hF hd hS (R.All.mono hT ?_))
    rintro ⟨e, F', S'⟩ hr ρ' z a' w' he hx hF' hd' hS'
    have := hr ρ' z a' w' he hx hF' hd' hS'
    cases e with
    | pan y => obtain ⟨v, rfl, hv⟩ := hx; exact this
    | _ => obtain rfl := hx; exact this
  | label l => intro F S ρ a w ds Q h0 hF hd hS hT; exact wpIn_label (hT ρ _ a w (Ext.refl _) rfl hF hd hS)
  | ret => intro F S ρ a w ds Q h0 hF hd hS hT; exact wpIn_ret (hT ρ _ a w (Ext.refl _) rfl hF hd hS)
  | _ => intro F S ρ a w ds Q h0 hF hd hS hT; exact hT.elim
end
end Go.Proofs.Ytednmmcdjhfflaa.Vai

/-
  A verified abstract interpreter, part T: ranges over functions.
-/
namespace Go.Proofs.Ytednmmcdjhfflaa.Vai
open Go Go.RowKit
def rawOf (rec : Loop) (k : Nat) : Option Obj :=
  if k = 1 then some (.loop rec)
  else if k = 2 then some (.loop { rec with state := .busy })
  else if k = 3 then some (.loop { rec with state := .done, pending := some .ret })
  else if k = 4 then some (.loop { rec with state := .exhausted })
  else if k = 5 then some (.loop { rec with state := .exhausted, pending := some .ret })
  else if k % 2 = 0 then some (.loop { rec with state := .done, pending := some (.exit ((k - 6) / 2)) })
  else some (.loop { rec with state := .exhausted, pending := some (.exit ((k - 7) / 2)) })
def rawMark (k : Nat) : Option Obj := if k = 0 then some (.deferred (some [])) else some (.deferred none)
section
variable {P : Program} {w0 : World} {ρ : Emb} {S : AS} {w : World} {n : Nat}
theorem RS.heapRaw (h : RS w0 ρ S w) {v k : Nat} (hv : S.get v = some (.raw k)) {b : Base} (hb : ρ v 0 = some b) : ∃ o, b.raw k = some o ∧ w.heap[b.blk]? = some o ∧ w0.heap.size ≤ b.blk ∧ b.off = 0 := by
  obtain ⟨b', o, h1, h2, h3, h4⟩ := h.obj v _ hv
  rw [hb] at h1
  cases h1
  exact ⟨o, h3, h4, h2⟩
theorem RS.rawPut (h : RS w0 ρ S w) {v k k' : Nat} (hv : S.get v = some (.raw k)) {b : Base} (hb : ρ v 0 = some b) {o' : Obj} (hr : b.raw k' = some o') : RS w0 ρ (S.put v (.raw k')) (w.putObj b.blk o') := by
  obtain ⟨o, h1, h2, h3, h4⟩ := h.heapRaw hv hb
  have hlt : b.blk < w.heap.size := (Array.getElem?_eq_some_iff.1 h2).1
  refine h.write (o := .raw k) (x := .raw k') hv rfl rfl rfl rfl (by simp) (Ext.refl _) (fun _ _ _ h => .inr h) ?_ ?_ ?_ ?_
  · intro j _ hj
    exact World.putObj_heap_other fun e => hj 0 b rfl hb e.symm
  · intro g b' hl hb'
    have : g = 0 := hl
    subst this
    exact .inl ⟨0, b', rfl, hb', rfl⟩
  · intro g b' hb'
    exact h.gens v _ hv g b' hb'
  · exact ⟨b, o', hb, ⟨h3, h4⟩, hr, World.putObj_heap_same hlt⟩
theorem RS.rawNew (h : RS w0 ρ S w) (f : Nat → Option Obj) (k : Nat) {o : Obj} (hf : f k = some o) :
    RS w0 (ρ.put S.n 0 ⟨w.heap.size, 0, 0, 0, 0, f⟩) (S.push (.raw k)) (w.alloc o) ∧ Ext ρ (ρ.put S.n 0 ⟨w.heap.size, 0, 0, 0, 0, f⟩) :=
  h.alloc o (.raw k) ⟨w.heap.size, 0, 0, 0, 0, f⟩ rfl (fun _ => Iff.rfl) ⟨_, o, Emb.put_self _ _ _ _, ⟨h.below.size, rfl⟩, hf, World.alloc_heap_new _ _⟩
def MarksOk (ρ : Emb) (S : AS) : List Nat → List Deferred → Prop
  | [], ds => ds = []
  | m :: ms, ds => ∃ d ds', ds = d :: ds' ∧ (∃ b, ρ m 0 = some b ∧ b.raw = rawMark ∧ d.target = .collected b.blk) ∧ m ∉ ms ∧ S.get m = some (.raw 0) ∧ MarksOk ρ S ms ds'
theorem MarksOk.go {ρ ρ' : Emb} {S S' : AS} (he : Ext ρ ρ') : ∀ {ms : List Nat} {ds : List Deferred}, MarksOk ρ S ms ds → (∀ m ∈ ms, S.get m = some (.raw 0) → S'.get m = some (.raw 0)) → MarksOk ρ' S' ms ds
  | [], _, h, _ => h
  | m :: _, _, ⟨d, ds', h1, ⟨b, h2, h3, h4⟩, h5, h6, h7⟩, hg => ⟨d, ds', h1, ⟨b, he _ _ _ h2, h3, h4⟩, h5, hg m List.mem_cons_self h6, MarksOk.go he h7 fun x hx => hg x (List.mem_cons_of_mem _ hx)⟩
theorem MarksOk.fro {ρ ρ' : Emb} {S S' : AS} {ms : List Nat} {ds : List Deferred} (h : MarksOk ρ S ms ds) (hS : RS w0 ρ S w) (he : Ext ρ ρ') (hf : Fro S S') : MarksOk ρ' S' ms ds :=
  h.go he fun m _ hm => hf.mark m (hS.lt m _ hm) hm
def GoodM (w0 : World) (n : Nat) (ρ : Emb) (Q : Exit → Act → World → Prop) (r : (AE × Fr × AS) × List Nat) : Prop :=
  ∀ ρ' e a' w', Ext ρ ρ' → EndX ρ' r.1.1 e → FRel ρ' n r.1.2.1 a'.tmps → MarksOk ρ' r.1.2.2 r.2 a'.defers → RS w0 ρ' r.1.2.2 w' → Q e a' w'
theorem GoodM.ext {ρ ρ' : Emb} {Q : Exit → Act → World → Prop} {r : (AE × Fr × AS) × List Nat} (h : GoodM w0 n ρ Q r) (he : Ext ρ ρ') : GoodM w0 n ρ' Q r :=
  fun ρ'' e a' w' he' => h ρ'' e a' w' (he.trans he')
theorem putPs_rel {ρ : Emb} : ∀ {ps : List Nat} {args : List AV} {cargs : List Value} {F : Fr} {tmps : Array Value}, FRel ρ n F tmps → RelL ρ args cargs → ps.length = args.length → (∀ p ∈ ps, p < n) →
    FRel ρ n (putPs F ps args) ((ps.zip cargs).foldl (fun tmps (t, a) => tmps.setIfInBounds t a) tmps)
  | [], _, _, F, tmps, hF, _, _, _ => by simpa [putPs] using hF
  | _ :: _, [], _, _, _, _, _, hl, _ => by simp at hl
  | p :: ps, x :: args, cargs, F, tmps, hF, hr, hl, hp => by
    obtain ⟨y, ys, rfl, h1, h2⟩ := hr
    have h3 : FRel ρ n (F.put (some p) x) (tmps.setIfInBounds p y) := hF.put (d := some p) (fun t ht => by cases ht; exact hp p List.mem_cons_self) h1 []
    have h4 := putPs_rel (ps := ps) h3 h2 (by simpa using hl) fun q hq => hp q (List.mem_cons_of_mem _ hq)
    simpa only [putPs, List.zip_cons_cons, List.foldl_cons] using h4
theorem rnd_sound (hm : P.follows .mixedOrders = true) {kp : Nat → List Nat} {k : List Nat} {L : Nat} {env : Env} {call : CallF} {ρ0 : Emb} (hcall : CallOk P w0 ρ0 call) (henv : EnvOk P w0 ρ0 env) {v : Nat} {l : Nat} {rec : Loop} (hst : rec.state = .ready) (hpd : rec.pending = none)
    (hv : ρ v 0 = some ⟨l, 0, 0, 0, 0, rawOf rec⟩) {F : Fr} (hF : FRel ρ n F rec.tmps) {ps : List Nat} (hps : rec.params.toList = ps) (hpn : ∀ p ∈ ps, p < n) (h0 : Ext ρ0 ρ) {args : List AV} {cargs : List Value} (hS : RS w0 ρ S w) (hr : RelL ρ args cargs) {T : AV × AS → Prop}
    (hT : (rnd (ctxE P kp env) call L (cCode P n k rec.assign) (cCode P n k rec.body) v F ps args S).All T) :
    S.get v = some (.raw 1) ∧ cargs.length = rec.params.size ∧ ∀ r0 m, RoundIn (fw r0) m P l rec.fn ((rec.params.zip cargs.toArray).foldl (fun tmps (t, a) => tmps.setIfInBounds t a) rec.tmps) rec.assign rec.body w
        fun e w' => ∃ p ρ', EndsAs ρ' p.1 e ∧ T p ∧ Ext ρ ρ' ∧ RS w0 ρ' p.2 w' := by
  unfold rnd at hT
  split at hT
  case h_2 => exact hT.elim
  rename_i hv1
  cases hle : Nat.beq ps.length args.length with
  | false => rw [hle] at hT; exact hT.elim
  | true =>
  rw [hle] at hT
  simp only [cond_true] at hT
  have hle' : ps.length = args.length := by simpa using hle
  have hsz : rec.params.size = ps.length := by rw [← hps, Array.length_toList]
  refine ⟨hv1, by rw [RelL.length hr, hsz, hle'], fun r0 m => roundIn_of_wpIn trivial ?_⟩
  have hfold : (rec.params.zip cargs.toArray).foldl (fun tmps (t, a) => tmps.setIfInBounds t a) rec.tmps = (ps.zip cargs).foldl (fun tmps (t, a) => tmps.setIfInBounds t a) rec.tmps := by
    rw [← hps, ← Array.foldl_toList, Array.toList_zip]
  rw [hfold]
  have hfw : (fw r0).inRound l = fw (some l) := rfl
  rw [hfw]
  refine code_sound (r0 := some l) (m0 := m) hm hcall henv rec.assign (putPs F ps args) S ρ _ w [] _ h0 (putPs_rel hF hr hle' hpn) rfl hS (R.All.mono (R.All.bind hT) ?_)
  rintro ⟨e, F1, S1⟩ hr1 ρ1 z a1 w1 he1 hx hF1 hd1 hS1
  simp only at hr1
  split at hr1
  case h_2 => exact hr1.elim
  rename_i hv2
  obtain rfl := hx
  have hb1 := he1 _ _ _ hv
  obtain ⟨o, q1, q2, _, _⟩ := hS1.heapRaw hv2 hb1
  cases q1
  refine ⟨_, run_beginRound q2 hst, ?_⟩
  have hS2 := hS1.rawPut hv2 hb1 (k' := 2) (o' := .loop { rec with state := .busy }) rfl
  refine code_sound (r0 := some l) (m0 := m) hm hcall henv rec.body F1 _ ρ1 a1 _ [] _ (h0.trans he1) hF1 hd1 hS2 (R.All.mono (R.All.bind hr1) ?_)
  rintro ⟨e2, F2, S2⟩ hr2 ρ2 z2 a2 w2 he2 hx2 hF2 hd2 hS3
  simp only at hr2
  split at hr2
  case h_2 => exact hr2.elim
  rename_i hv3
  have hb2 := he2 _ _ _ hb1
  obtain ⟨o, q3, q4, _, _⟩ := hS3.heapRaw hv3 hb2
  cases q3
  have fin : ∀ (jump : Option Code) (k' : Nat) (x : Bool), rawOf rec k' = some (.loop { rec with state := if jump.isNone then .ready else .done, pending := jump }) → jump.isNone = x → T (.bool x, S2.put v (.raw k')) →
      ∃ u w', (Instr.endRound l jump).run P w2 = .ok u w' ∧ ∃ p ρ', EndsAs ρ' p.1 (.returned u) ∧ T p ∧ Ext ρ ρ' ∧ RS w0 ρ' p.2 w' := by
    intro jump k' x hk hj ht
    refine ⟨_, _, run_endRound jump q4, (.bool x, S2.put v (.raw k')), ρ2, .inl ⟨_, rfl, ?_⟩, ht, he1.trans he2, hS3.rawPut hv3 hb2 hk⟩
    rw [hj]
    rfl
  cases e2 with
  | norm =>
    obtain rfl := hx2
    have he : ({ rec with state := .ready, pending := none } : Loop) = rec := by
      cases rec
      simp only at hst hpd
      subst hst hpd
      rfl
    exact fin none 1 true (by show some (Obj.loop rec) = some (Obj.loop { rec with state := .ready, pending := none }); rw [he]) rfl hr2
  | ret => obtain rfl := hx2; exact fin (some .ret) 3 false rfl rfl hr2
  | exit id =>
    obtain rfl := hx2
    refine fin (some (.exit id)) (6 + 2 * id) false ?_ rfl hr2
    unfold rawOf
    rw [if_neg (by omega), if_neg (by omega), if_neg (by omega), if_neg (by omega), if_neg (by omega), if_pos (by omega)]
    have : (6 + 2 * id - 6) / 2 = id := by omega
    rw [this]
    rfl
  | pan y => exact hr2.elim
theorem codeM_sound (hm : P.follows .mixedOrders = true) {kp : Nat → List Nat} {k : List Nat} {L : Nat} {callc : Env → CallF} {ρ0 : Emb} (hcall : ∀ ρ1 env1, Ext ρ0 ρ1 → EnvOk P w0 ρ1 env1 → EnvFro env1 → CallOk P w0 ρ1 (callc env1)) (hfro : ∀ env1, EnvFro env1 → CallFro (callc env1))
    {env : Env} (henv : EnvOk P w0 ρ0 env) (hE : EnvFro env) {m0 : Nat} : ∀ (c : Code) (F : Fr) (S : AS) (ρ : Emb) (a : Act) (w : World) (ms : List Nat) (Q : Exit → Act → World → Prop), Ext ρ0 ρ → FRel ρ n F a.tmps → MarksOk ρ S ms a.defers → RS w0 ρ S w →
      (runM callc (ctxE P kp env) L (cM P n k c) F S ms).All (GoodM w0 n ρ Q) → c.wpIn (fw none) m0 P Q a w := by
  have plain : ∀ (c : Code) (F : Fr) (S : AS) (ρ : Emb) (a : Act) (w : World) (ms : List Nat) (Q : Exit → Act → World → Prop), Ext ρ0 ρ → FRel ρ n F a.tmps → MarksOk ρ S ms a.defers → RS w0 ρ S w →
      (runM callc (ctxE P kp env) L (.c (cCode P n k c)) F S ms).All (GoodM w0 n ρ Q) → c.wpIn (fw none) m0 P Q a w := by
    intro c F S ρ a w ms Q h0 hF hM hS hT
    simp only [runM] at hT
    have h2 := R.All.and (R.All.bind hT) fun r hr => runC_fro (C := ctxE P kp env) hE (hfro env hE) L _ _ _ r hr
    refine code_sound hm (hcall ρ0 env (Ext.refl _) henv hE) henv c F S ρ a w a.defers Q h0 hF rfl hS (R.All.mono h2 ?_)
    rintro r ⟨hg, hf⟩ ρ' e a' w' he hx hF' hd' hS'
    exact hg ρ' e a' w' he hx hF' (by rw [hd']; exact hM.fro hS he hf) hS'
  intro c
  induction c with
  | seq x y ihx ihy =>
    intro F S ρ a w ms Q h0 hF hM hS hT
    simp only [cM, runM] at hT
    refine wpIn_seq (ihx F S ρ a w ms _ h0 hF hM hS (R.All.mono (R.All.bind hT) ?_))
    rintro ⟨⟨e, F', S'⟩, ms'⟩ hr ρ' z a' w' he hx hF' hM' hS'
    cases e with
    | norm => obtain rfl := hx; exact ihy _ _ ρ' a' w' _ Q (h0.trans he) hF' hM' hS' (R.All.mono hr fun _ g => g.ext he)
    | exit id => obtain rfl := hx; exact hr ρ' _ a' w' he rfl hF' hM' hS'
    | ret => obtain rfl := hx; exact hr ρ' _ a' w' he rfl hF' hM' hS'
    | pan y => obtain ⟨v, rfl, hv⟩ := hx; exact hr ρ' _ a' w' he ⟨v, rfl, hv⟩ hF' hM' hS'
  | cond x y z ihy ihz =>
    intro F S ρ a w ms Q h0 hF hM hS hT
    simp only [cM] at hT
    cases hx : cX x with
    | none => rw [hx] at hT; exact hT.elim
    | some c =>
      rw [hx] at hT
      simp only [runM] at hT
      have hv := cX_ev hF hx
      split at hT
      · rename_i q
        rw [q] at hv
        exact wpIn_cond_true hv (ihy F S ρ a w ms Q h0 hF hM hS hT)
      · rename_i q
        rw [q] at hv
        exact wpIn_cond_false hv (ihz F S ρ a w ms Q h0 hF hM hS hT)
      · exact hT.elim
  | block id x ih =>
    intro F S ρ a w ms Q h0 hF hM hS hT
    simp only [cM, runM] at hT
    refine wpIn_block (ih F S ρ a w ms _ h0 hF hM hS (R.All.mono (R.All.bind hT) ?_))
    rintro ⟨⟨e, F', S'⟩, ms'⟩ hr ρ' z a' w' he hx hF' hM' hS'
    cases e with
    | norm => obtain rfl := hx; exact hr ρ' _ a' w' he rfl hF' hM' hS'
    | exit i =>
      obtain rfl := hx
      simp only at hr
      simp only [Exit.inBlock]
      cases hb : Nat.beq i id with
      | true =>
        have : i = id := by simpa using hb
        rw [hb] at hr
        rw [if_pos this]
        exact hr ρ' _ a' w' he rfl hF' hM' hS'
      | false =>
        have : ¬ i = id := by intro e; subst e; simp at hb
        rw [hb] at hr
        rw [if_neg this]
        exact hr ρ' _ a' w' he rfl hF' hM' hS'
    | ret => obtain rfl := hx; exact hr ρ' _ a' w' he rfl hF' hM' hS'
    | pan y => obtain ⟨v, rfl, hv⟩ := hx; exact hr ρ' _ a' w' he ⟨v, rfl, hv⟩ hF' hM' hS'
  | loop x ih =>
    intro F S ρ a w ms Q h0 hF hM hS hT
    simp only [cM, runM] at hT
    have key : ∀ (m : Nat) (F : Fr) (S : AS) (ρ : Emb) (a : Act) (w : World) (ms : List Nat) (Q : Exit → Act → World → Prop), Ext ρ0 ρ → FRel ρ n F a.tmps → MarksOk ρ S ms a.defers → RS w0 ρ S w →
        (iterM k (runM callc (ctxE P kp env) L (cM P n k x)) m F S ms).All (GoodM w0 n ρ Q) → Code.roundsIn (fw none) m0 P x Q m a w := by
      intro m
      induction m with
      | zero => intro F S ρ a w ms Q h0 hF hM hS hT; exact hT.elim
      | succ m ihm =>
        intro F S ρ a w ms Q h0 hF hM hS hT
        simp only [iterM] at hT
        rw [roundsIn_succ]
        refine ih F S ρ a w ms _ h0 hF hM hS (R.All.mono (R.All.bind hT) ?_)
        rintro ⟨⟨e, F', S'⟩, ms'⟩ hr ρ' z a' w' he hx hF' hM' hS'
        cases e with
        | norm => obtain rfl := hx; exact ihm _ _ ρ' a' w' _ Q (h0.trans he) (hF'.keep k) hM' hS' (R.All.mono hr fun _ g => g.ext he)
        | exit id => obtain rfl := hx; exact hr ρ' _ a' w' he rfl hF' hM' hS'
        | ret => obtain rfl := hx; exact hr ρ' _ a' w' he rfl hF' hM' hS'
        | pan y => obtain ⟨v, rfl, hv⟩ := hx; exact hr ρ' _ a' w' he ⟨v, rfl, hv⟩ hF' hM' hS'
    exact wpIn_loop_rounds L (key L _ S ρ a w ms Q h0 (hF.keep k) hM hS hT)
  | rangeFunc g ps asg body =>
    intro F S ρ a w ms Q h0 hF hM hS hT
    simp only [cM] at hT
    cases hx : cX g with
    | none => rw [hx] at hT; exact hT.elim
    | some c =>
      rw [hx] at hT
      simp only at hT
      cases hpn : ps.toList.all (fun p => Nat.blt p n) with
      | false => rw [hpn] at hT; exact hT.elim
      | true =>
      rw [hpn] at hT
      simp only [cond_true, runM] at hT
      have hpn' : ∀ p ∈ ps.toList, p < n := fun p hp => by simpa using List.all_eq_true.1 hpn p hp
      split at hT
      case h_2 => exact hT.elim
      rename_i gf first cap q
      have hv := cX_ev hF hx
      rw [q] at hv
      simp only [Rel] at hv
      obtain ⟨fs, cs, h1, h2, hv⟩ := hv
      refine wpIn_rangeFunc fun fn _ => ?_
      let rec_ : Loop := { state := .ready, pending := none, fn := fn, tmps := a.tmps, params := ps, assign := asg, body := body, defers := w.heap.size }
      obtain ⟨hS1, he1⟩ := hS.rawNew rawMark 0 (o := .deferred (some [])) rfl
      obtain ⟨hS2, he2⟩ := hS1.rawNew (rawOf rec_) 1 (o := .loop rec_) rfl
      simp only [AS.n_push, World.size_alloc] at hS2 he2
      generalize hρ1 : ρ.put S.n 0 ⟨w.heap.size, 0, 0, 0, 0, rawMark⟩ = ρ1 at hS1 he1 hS2 he2
      have hm1 : ρ1 S.n 0 = some ⟨w.heap.size, 0, 0, 0, 0, rawMark⟩ := by rw [← hρ1]; exact Emb.put_self _ _ _ _
      have hself := Emb.put_self ρ1 (S.n + 1) 0 ⟨w.heap.size + 1, 0, 0, 0, 0, rawOf rec_⟩
      generalize ρ1.put (S.n + 1) 0 ⟨w.heap.size + 1, 0, 0, 0, 0, rawOf rec_⟩ = ρ2 at hS2 he2 hself
      have he02 : Ext ρ ρ2 := he1.trans he2
      have henv2 : EnvOk P w0 ρ2 (fun u => bif Nat.beq u (S.n + 1) then some (rnd (ctxE P kp env) (callc env) L (cCode P n k asg) (cCode P n k body) (S.n + 1) F ps.toList) else env u) := by
        intro v rd hrd
        simp only at hrd
        cases hb : Nat.beq v (S.n + 1) with
        | false => rw [hb] at hrd; exact (henv.ext (h0.trans he02)) v rd hrd
        | true =>
          rw [hb] at hrd
          cases hrd
          have hve : v = S.n + 1 := by simpa using hb
          subst hve
          refine ⟨_, rec_, hself, rfl, fun ρ3 S3 w3 args cargs he3 hS3 hr3 T hT3 => ?_⟩
          exact rnd_sound (rec := rec_) (kp := kp) (k := k) hm (hcall ρ0 env (Ext.refl _) henv hE) henv rfl rfl (he3 _ _ _ hself) (hF.ext (he02.trans he3)) rfl hpn' ((h0.trans he02).trans he3) hS3 hr3 hT3
      have hE2 : EnvFro (fun u => bif Nat.beq u (S.n + 1) then some (rnd (ctxE P kp env) (callc env) L (cCode P n k asg) (cCode P n k body) (S.n + 1) F ps.toList) else env u) := by
        intro v rd hrd
        simp only at hrd
        cases hb : Nat.beq v (S.n + 1) <;> rw [hb] at hrd
        · exact hE v rd hrd
        · cases hrd; exact rnd_fro (C := ctxE P kp env) hE (hfro env hE)
      have hrel : RelL ρ2 (first ++ [.yld (S.n + 1)] ++ cap) (fs ++ [Value.func (.yield (w.heap.size + 1)) #[] #[]] ++ cs) :=
        RelL.append (RelL.append (RelL.ext he02 _ _ h1) ⟨_, [], rfl, ⟨_, hself, rfl⟩, rfl⟩) (RelL.ext he02 _ _ h2)
      have hT' := R.All.and (R.All.bind hT) fun r hr => hfro _ hE2 _ _ _ r hr
      obtain ⟨hent, hc⟩ := hcall ρ2 _ (h0.trans he02) henv2 hE2 gf _ _ ρ2 _ _ (Ext.refl _) hS2 hrel _ hT'
      refine ⟨w.heap.size + 1, [{ target := .collected w.heap.size, args := #[] }], _, { target := .fn (.func gf) ⟨cs⟩, args := (fs ++ [Value.func (.yield (w.heap.size + 1)) #[] #[]]).toArray }, (w.alloc (.deferred (some []))).alloc (.loop rec_), gf, (fs ++ [Value.func (.yield (w.heap.size + 1)) #[] #[]] ++ cs).toArray, (w.alloc (.deferred (some []))).alloc (.loop rec_),
        run_enterLoop_outer fn a.tmps ps asg body, ?_, fun _ _ => trivial, ?_, fw_depth _ _, ?_⟩
      · simp only [resolve, hv, Deferred.ofValue, Sem.run_pure]
        simp [Act.eval]
        rfl
      · simp only [invoke]
        have harr : ((fs ++ [Value.func (.yield (w.heap.size + 1)) #[] #[]]).toArray ++ ⟨cs⟩ : Array Value) = (fs ++ [Value.func (.yield (w.heap.size + 1)) #[] #[]] ++ cs).toArray := by simp
        rw [harr]
        exact hent _
      · refine (callsIn_fw hc).mono ?_
        rintro e w3 ⟨p, ρ3, h3, ⟨h4, h4f⟩, he3, hS3⟩
        obtain ⟨x, S3⟩ := p
        simp only at h3 h4 h4f hS3
        split at h4
        · exact h4.elim
        rename_i hnp
        rcases h3 with ⟨u, rfl, _⟩ | ⟨y, v, rfl, _, _⟩
        case inr => exact (hnp y rfl).elim
        have hb3 := he3 _ _ _ hself
        have hmk : MarksOk ρ3 S3 ms a.defers := hM.fro hS (he02.trans he3) ((Fro.push S (.raw 0)).trans ((Fro.push _ (.raw 1)).trans h4f))
        have hmk0 : S3.get S.n = some (.raw 0) := ((Fro.push (S.push (.raw 0)) (.raw 1)).trans h4f).mark S.n (by simp) (by rw [AS.get_push, if_pos rfl])
        have hnot : S.n ∉ ms := fun hin => by
          have : ∀ {ms : List Nat} {ds : List Deferred}, MarksOk ρ S ms ds → S.n ∈ ms → False := by
            intro ms
            induction ms with
            | nil => intro _ _ h; cases h
            | cons m ms ih =>
              rintro _ ⟨_, _, _, _, _, h6, h7⟩ h
              rcases List.mem_cons.1 h with rfl | h
              · have := hS.lt _ _ h6; omega
              · exact ih h7 h
          exact this hM hin
        have fin : ∀ (k1 k2 : Nat) (e : AE) (r : Loop), S3.get (S.n + 1) = some (.raw k1) → rawOf rec_ k1 = some (.loop r) → r.state ≠ .busy → rawOf rec_ k2 = some (.loop { r with state := .exhausted }) →
            GoodM w0 n ρ Q ((e, F, S3.put (S.n + 1) (.raw k2)), S.n :: ms) → (match e with | .norm => r.pending = none | .ret => r.pending = some .ret | .exit id => r.pending = some (.exit id) | .pan _ => False) →
            rangePost (fw none) m0 P (w.heap.size + 1) Q { a with defers := [{ target := .collected w.heap.size, args := #[] }] ++ a.defers } (.returned u) w3 := by
          intro k1 k2 e r g1 g2 g3 g4 g5 g6
          obtain ⟨o, q1, q2, _, _⟩ := hS3.heapRaw g1 hb3
          have q1' : rawOf rec_ k1 = some o := q1
          rw [g2] at q1'
          cases q1'
          have hS4 : RS w0 ρ3 (S3.put (S.n + 1) (.raw k2)) (w3.putObj (w.heap.size + 1) (.loop { r with state := .exhausted })) := hS3.rawPut g1 hb3 (k' := k2) (o' := .loop { r with state := .exhausted }) g4
          have hmk4 : MarksOk ρ3 (S3.put (S.n + 1) (.raw k2)) (S.n :: ms) ([{ target := .collected w.heap.size, args := #[] }] ++ a.defers) := by
            refine ⟨_, _, rfl, ⟨_, he3 _ _ _ (he2 _ _ _ hm1), rfl, rfl⟩, hnot, ?_, ?_⟩
            · rw [AS.get_put, if_neg (by omega)]; exact hmk0
            · refine hmk.go (Ext.refl _) fun m _ hm => ?_
              rw [AS.get_put, if_neg ?_]
              · exact hm
              · rintro rfl
                obtain ⟨o, q3, _⟩ := hS3.heapRaw hm hb3
                rw [g1] at hm
                cases hm
                have g2' : rawOf rec_ 0 = some (.loop { rec_ with state := .done, pending := some (.exit 0) }) := rfl
                have hmk' := MarksOk.go (S' := S3) (Ext.refl ρ3) hmk fun _ _ h => h
                have : ∀ {ms : List Nat} {ds : List Deferred}, MarksOk ρ S ms ds → ∀ x ∈ ms, x < S.n := by
                  intro ms
                  induction ms with
                  | nil => intro _ _ _ h; cases h
                  | cons m ms ih =>
                    rintro _ ⟨_, _, _, _, _, h6, h7⟩ x h
                    rcases List.mem_cons.1 h with rfl | h
                    · exact hS.lt _ _ h6
                    · exact ih h7 x h
                have := this hM (S.n + 1) (by assumption)
                omega
          refine ⟨r.pending, w3.putObj (w.heap.size + 1) (.loop { r with state := .exhausted }), run_endLoop q2 g3, ?_⟩
          revert hS4
          generalize w3.putObj (w.heap.size + 1) (.loop { r with state := .exhausted }) = w4
          intro hS4
          cases e with
          | norm => simp only at g6; rw [g6]; exact g5 ρ3 _ _ _ (he02.trans he3) rfl (hF.ext (he02.trans he3)) hmk4 hS4
          | ret => simp only at g6; rw [g6]; exact wpIn_ret (g5 ρ3 _ _ _ (he02.trans he3) rfl (hF.ext (he02.trans he3)) hmk4 hS4)
          | exit id => simp only at g6; rw [g6]; exact wpIn_exit (g5 ρ3 _ _ _ (he02.trans he3) rfl (hF.ext (he02.trans he3)) hmk4 hS4)
          | pan y => exact g6.elim
        split at h4
        case h_2 => exact h4.elim
        rename_i k1 g1
        split at h4
        · exact fin 1 4 .norm rec_ g1 rfl (by simp [rec_]) rfl h4 rfl
        · exact fin 3 5 .ret _ g1 rfl (by simp) rfl h4 rfl
        · rename_i n1 n3
          cases hb : (Nat.ble 6 k1 && Nat.beq (k1 % 2) 0) with
          | false => rw [hb] at h4; exact h4.elim
          | true =>
            rw [hb] at h4
            simp only [Bool.and_eq_true, Nat.ble_eq, Nat.beq_eq] at hb
            refine fin k1 (k1 + 1) (.exit ((k1 - 6) / 2)) { rec_ with state := .done, pending := some (.exit ((k1 - 6) / 2)) } g1 ?_ (by simp) ?_ h4 rfl
            · unfold rawOf
              rw [if_neg (by omega), if_neg (by omega), if_neg (by omega), if_neg (by omega), if_neg (by omega), if_pos (by omega)]
            · unfold rawOf
              rw [if_neg (by omega), if_neg (by omega), if_neg (by omega), if_neg (by omega), if_neg (by omega), if_neg (by omega)]
              have : k1 + 1 - 7 = k1 - 6 := by omega
              rw [this]
  | skip => exact plain _
  | region id ops o => exact plain _
  | exit id => exact plain _
  | scope x ih => exact plain _
  | label l => exact plain _
  | ret => exact plain _
  | _ => exact plain _
theorem marks_leave {F : Fence} {m : Nat} {fn : Func} {tmps : Array Value} {R : Ending → World → Prop} {u : FrameMode} (hu : u ≠ .run) : ∀ (ms : List Nat) (ds : List Deferred) (S : AS) (w : World), MarksOk ρ S ms ds → RS w0 ρ S w →
    (∀ w', RS w0 ρ (shutL ms S) w' → LeavesInM F m P fn tmps R [] u w') → LeavesInM F m P fn tmps R ds u w
  | [], _, S, w, h, hS, k => by obtain rfl := h; exact k w hS
  | x :: ms, _, S, w, ⟨d, ds', h1, ⟨b, h2, h3, h4⟩, h5, h6, h7⟩, hS, k => by
    subst h1
    obtain ⟨o, q1, q2, _, _⟩ := hS.heapRaw h6 h2
    rw [h3] at q1
    cases q1
    have hS' := hS.rawPut h6 h2 (k' := 1) (o' := .deferred none) (by rw [h3]; rfl)
    refine ⟨hu, .inl ⟨b.blk, _, h4, run_takeDeferred q2, ?_⟩⟩
    refine marks_leave hu ms ds' _ _ (h7.go (Ext.refl _) fun m hm hg => ?_) hS' k
    rw [AS.get_put, if_neg (by rintro rfl; exact h5 hm)]
    exact hg
end
end Go.Proofs.Ytednmmcdjhfflaa.Vai
