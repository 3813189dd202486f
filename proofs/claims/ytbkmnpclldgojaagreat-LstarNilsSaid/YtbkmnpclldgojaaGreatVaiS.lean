/-
  A verified abstract interpreter, part S: functions and calls.
-/
import Derived.Test.YtbkmnpclldgojaaGreatVaiR
namespace Go.Proofs.YtbkmnpclldgojaaGreat.Vai
open Go Go.RowKit

mutual
theorem Rel.back {ρ ρ' : Emb} (he : Ext ρ ρ') : ∀ (x : AV) (u v : Value), Rel ρ x u → Rel ρ' x v → Rel ρ x v
  | .any, _, _, _, _ => by simp [Rel]
  | .cst _, _, _, _, h => by simpa [Rel] using h
  | .bool _, _, _, _, h => by simpa [Rel] using h
  | .int _ _, _, _, _, h => by simpa [Rel] using h
  | .str _, _, _, _, h => by simpa [Rel] using h
  | .nilp, _, _, _, h => by simpa [Rel] using h
  | .ptr v g o e, _, _, h0, h => by
    simp only [Rel] at h0 h ⊢
    obtain ⟨b, hb, _, _⟩ := h0
    obtain ⟨b', hb', h1, h2⟩ := h
    rw [he _ _ _ hb] at hb'
    cases hb'
    exact ⟨b, hb, h1, h2⟩
  | .nils, _, _, _, h => by simpa [Rel] using h
  | .slice v g q len lim sz, _, _, h0, h => by
    simp only [Rel] at h0 h ⊢
    obtain ⟨b, _, hb, _⟩ := h0
    obtain ⟨b', c, hb', h1⟩ := h
    rw [he _ _ _ hb] at hb'
    cases hb'
    exact ⟨b, c, hb, h1⟩
  | .emp _, _, _, _, h => by simpa [Rel] using h
  | .nilm, _, _, _, h => by simpa [Rel] using h
  | .map m, _, _, h0, h => by
    simp only [Rel] at h0 h ⊢
    obtain ⟨b, hb, _⟩ := h0
    obtain ⟨b', hb', h1⟩ := h
    rw [he _ _ _ hb] at hb'
    cases hb'
    exact ⟨b, hb, h1⟩
  | .nilf, _, _, _, h => by simpa [Rel] using h
  | .fn f a c, _, _, h0, h => by
    simp only [Rel] at h0 h ⊢
    obtain ⟨a0, c0, q1, q2, _⟩ := h0
    obtain ⟨a', c', h1, h2, h3⟩ := h
    exact ⟨a', c', RelL.back he a a0 a' q1 h1, RelL.back he c c0 c' q2 h2, h3⟩
  | .nili, _, _, _, h => by simpa [Rel] using h
  | .ifc t x, _, _, h0, h => by
    simp only [Rel] at h0 h ⊢
    obtain ⟨y0, q1, _⟩ := h0
    obtain ⟨y, h1, h2⟩ := h
    exact ⟨y, Rel.back he x y0 y q1 h1, h2⟩
  | .agg l, _, _, h0, h => by
    simp only [Rel] at h0 h ⊢
    obtain ⟨l0, q1, _⟩ := h0
    obtain ⟨l', h1, h2⟩ := h
    exact ⟨l', RelL.back he l l0 l' q1 h1, h2⟩
  | .tup l, _, _, h0, h => by
    simp only [Rel] at h0 h ⊢
    obtain ⟨l0, q1, _⟩ := h0
    obtain ⟨l', h1, h2⟩ := h
    exact ⟨l', RelL.back he l l0 l' q1 h1, h2⟩
theorem RelL.back {ρ ρ' : Emb} (he : Ext ρ ρ') : ∀ (x : List AV) (u v : List Value), RelL ρ x u → RelL ρ' x v → RelL ρ x v
  | [], _, _, _, h => by simpa [RelL] using h
  | x :: xs, _, _, h0, h => by
    simp only [RelL] at h0 h ⊢
    obtain ⟨y0, ys0, _, q1, q2⟩ := h0
    obtain ⟨y, ys, e, h1, h2⟩ := h
    exact ⟨y, ys, e, Rel.back he x y0 y q1 h1, RelL.back he xs ys0 ys q2 h2⟩
end

theorem RelE.back {ρ ρ' : Emb} (he : Ext ρ ρ') : ∀ (x : List (AV × AV × Nat)) (u v : List MapEntry), RelE ρ x u → RelE ρ' x v → RelE ρ x v
  | [], _, _, _, h => h
  | (k, x, n) :: es, _, _, h0, h => by
    obtain ⟨k0, y0, ys0, _, a1, a2, a3⟩ := h0
    obtain ⟨k', y, ys, e, h1, h2, h3⟩ := h
    exact ⟨k', y, ys, e, Rel.back he k _ _ a1 h1, Rel.back he x _ _ a2 h2, RelE.back he es _ _ a3 h3⟩

theorem Rel.scalar {ρ ρ' : Emb} {x : AV} {v : Value} (hs : x.scalar = true) (h : Rel ρ' x v) : Rel ρ x v := by
  have one : ∀ (y : AV) u, (match y with
    | .bool _ | .int _ _ | .str _ | .nilp | .nils | .nilm | .nilf | .nili => true
    | _ => false) = true → Rel ρ' y u → Rel ρ y u := by
    intro y u hy hr
    cases y <;> first
      | (simp at hy; done)
      | (simpa [Rel] using hr)
  cases x <;> first
    | (simp [AV.scalar] at hs; done)
    | (simpa [Rel] using h)
    | skip
  rename_i l
  simp only [AV.scalar] at hs
  simp only [Rel] at h ⊢
  obtain ⟨l', h1, h2⟩ := h
  refine ⟨l', ?_, h2⟩
  clear h2
  induction l generalizing l' with
  | nil => exact h1
  | cons y l ih =>
    simp only [List.all_cons, Bool.and_eq_true] at hs
    obtain ⟨z, zs, rfl, q1, q2⟩ := h1
    exact ⟨z, zs, rfl, one y z hs.1 q1, ih hs.2 zs q2⟩

/-- An object as it was, in a world behind. -/
theorem RObj.back {B : Nat} {ρ ρ' : Emb} {v : Nat} {w w' : World} {o : AObj} (he : Ext ρ ρ') (h : RObj B ρ v w o) (h' : RObj B ρ' v w' o) : RObj B ρ v w' o := by
  cases o with
  | cells c sz gen lo opn ro =>
    obtain ⟨⟨b, h1, h2, h3, h4, h5⟩, hlo, hg⟩ := h
    obtain ⟨⟨b', g1, g2, g3, g4, g5⟩, _, hg'⟩ := h'
    rw [he _ _ _ h1] at g1
    cases g1
    refine ⟨⟨b, h1, h2, h3, h4, g5⟩, hlo, fun g q1 q2 => ?_⟩
    obtain ⟨b1, r1, r2⟩ := hg g q1 q2
    obtain ⟨b2, s1, s2⟩ := hg' g q1 q2
    rw [he _ _ _ r1] at s1
    cases s1
    refine ⟨b1, r1, s2.sz, s2.lt, s2.low, s2.high, s2.ext, fun i x hi hx => ?_⟩
    obtain ⟨y0, _, k1⟩ := r2.cell i x hi hx
    obtain ⟨y, k2, k3⟩ := s2.cell i x hi hx
    exact ⟨y, k2, Rel.back he x y0 y k1 k3⟩
  | map es clock =>
    obtain ⟨b, es0, h1, h2, h3, h4⟩ := h
    obtain ⟨b', es', g1, g2, g3, g4⟩ := h'
    rw [he _ _ _ h1] at g1
    cases g1
    exact ⟨b, es', h1, h2, g3, RelE.back he _ _ _ h4 g4⟩
  | iter m bs clock rem cur =>
    obtain ⟨b, h1, h2, h3⟩ := h
    obtain ⟨b', g1, g2, g3⟩ := h'
    rw [he _ _ _ h1] at g1
    cases g1
    refine ⟨b, h1, h2, ?_⟩
    cases m with
    | none => exact g3
    | some m =>
      obtain ⟨mb, seen, r1, r2, r3⟩ := h3
      obtain ⟨mb', seen', s1, s2, s3⟩ := g3
      rw [he _ _ _ r1] at s1
      cases s1
      exact ⟨mb, seen', r1, s2, s3⟩

/-- Behind a call that wrote nothing that was there, what was there is as it was. -/
theorem RS.back {w0 : World} {ρ ρ' : Emb} {S S' : AS} {w w' : World} (h : RS w0 ρ S w) (h' : RS w0 ρ' S' w') (he : Ext ρ ρ') (hf : ∀ v, v < S.n → S'.get v = S.get v) : RS w0 ρ S w' := by
  refine ⟨h'.below, h.dom, h.lt, fun v o ho => ?_, h.gens, h.dis⟩
  have hv := h.lt v o ho
  exact RObj.back he (h.obj v o ho) (h'.obj v o (by rw [hf v hv]; exact ho))

theorem RS.mw {w0 : World} {ρ : Emb} {S S' : AS} {w : World} (h : RS w0 ρ S w) (ho : S'.objs = S.objs) (hn : S'.n = S.n) : RS w0 ρ S' w := by
  have hg : ∀ v, S'.get v = S.get v := fun v => by unfold AS.get; rw [ho]
  exact ⟨h.below, fun v g b hb => by rw [hn]; exact h.dom v g b hb, fun v o hv => by rw [hn]; exact h.lt v o (by rw [← hg]; exact hv),
    fun v o hv => h.obj v o (by rw [← hg]; exact hv), fun v o hv => h.gens v o (by rw [← hg]; exact hv),
    fun v v' g g' b b' o o' hne hv hv' => h.dis v v' g g' b b' o o' hne (by rw [← hg]; exact hv) (by rw [← hg]; exact hv')⟩

theorem beqE_eq : ∀ {a b : List (AV × AV × Nat)}, AObj.beq.beqE a b = true → a = b
  | [], [], _ => rfl
  | [], _ :: _, h => by cases h
  | _ :: _, [], h => by cases h
  | (k, x, n) :: l, (k', x', n') :: l', h => by
    simp only [AObj.beq.beqE, Bool.and_eq_true, Nat.beq_eq] at h
    obtain ⟨⟨⟨h1, h2⟩, rfl⟩, h4⟩ := h
    rw [AV.beq_eq h1, AV.beq_eq h2, beqE_eq h4]
theorem natsBeq_eq' : ∀ {a b : List Nat}, natsBeq a b = true → a = b
  | [], [], _ => rfl
  | [], _ :: _, h => by cases h
  | _ :: _, [], h => by cases h
  | a :: as, b :: bs, h => by
    simp only [natsBeq, Bool.and_eq_true, Nat.beq_eq] at h
    rw [h.1, natsBeq_eq' h.2]
theorem optBeq_eq {a b : Option Nat} (h : optBeq a b = true) : a = b := by cases a <;> cases b <;> simp_all [optBeq]
theorem AObj.beq_eq {a b : AObj} (h : AObj.beq a b = true) : a = b := by
  cases a <;> cases b <;> simp only [AObj.beq, Bool.and_eq_true, Bool.false_eq_true, Nat.beq_eq, beq_iff_eq] at h
  · obtain ⟨⟨⟨⟨⟨h1, rfl⟩, rfl⟩, rfl⟩, rfl⟩, rfl⟩ := h
    rw [AV.beqL_eq h1]
  · obtain ⟨h1, rfl⟩ := h
    rw [beqE_eq h1]
  · obtain ⟨⟨⟨⟨h1, h2⟩, rfl⟩, h4⟩, h5⟩ := h
    rw [optBeq_eq h1, natsBeq_eq' h2, natsBeq_eq' h4, optBeq_eq h5]
theorem BT.beq_eq {α : Type} {f : α → α → Bool} (hf : ∀ a b, f a b = true → a = b) : ∀ {s t : BT α}, BT.beq f s t = true → s = t
  | .nil, .nil, _ => rfl
  | .nil, .node .., h => by cases h
  | .node .., .nil, h => by cases h
  | .node a v b, .node a' v' b', h => by
    simp only [BT.beq, Bool.and_eq_true] at h
    obtain ⟨⟨h1, h2⟩, h3⟩ := h
    rw [BT.beq_eq hf h2, BT.beq_eq hf h3]
    cases v <;> cases v' <;> first
      | rfl
      | (simp at h1; done)
      | rw [hf _ _ h1]
theorem leafBeq_eq {a b : AV × Option AS} (h : leafBeq a b = true) : a = b := by
  obtain ⟨x, s⟩ := a
  obtain ⟨y, t⟩ := b
  simp only [leafBeq, Bool.and_eq_true] at h
  obtain ⟨h1, h2⟩ := h
  have h1 := AV.beq_eq h1
  subst h1
  congr 1
  cases s <;> cases t <;> first
    | rfl
    | (simp at h2; done)
    | skip
  rename_i S T
  obtain ⟨o, n, m⟩ := S
  obtain ⟨o', n', m'⟩ := T
  simp only [Bool.and_eq_true, Nat.beq_eq] at h2
  obtain ⟨⟨rfl, rfl⟩, h3⟩ := h2
  rw [BT.beq_eq (fun _ _ => AObj.beq_eq) h3]

theorem merge_all {T : AV × Option AS → Prop} {r : R (AV × Option AS)} (h : (mergeR r).All T) : r.All T := by
  cases r with
  | no => exact h
  | one a => exact h
  | many l =>
    cases l with
    | nil => exact h
    | cons a l =>
      simp only [mergeR] at h
      cases hb : l.all (leafBeq a) with
      | false => rw [hb] at h; exact h
      | true =>
        rw [hb] at h
        intro b hm
        rcases List.mem_cons.1 hm with rfl | hm
        · exact h
        · rw [← leafBeq_eq (List.all_eq_true.1 hb b hm)]; exact h

section
variable {P : Program} {w0 : World} {ρ : Emb} {S : AS} {w : World} {n : Nat} {F : Fr} {tmps : Array Value}

theorem resV_run (hF : FRel ρ n F tmps) (hS : RS w0 ρ S w) (f : ResultVar → Sem Value) (hf : ∀ u, f (.tmp u) = pure (tmps.getD u undef)) (hc : ∀ a t, f (.cell a t) = (do loadVar t (← asAddr (tmps.getD a undef)))) :
    ∀ {rs : List ResultVar} {rs' : List ARes} {l : List AV}, cRes P rs = some rs' → resV F S rs' = some l → ∃ vs, RelL ρ l vs ∧ (rs.mapM f).run P w = .ok vs w
  | [], rs', l, h, hl => by
    cases h; cases hl
    exact ⟨[], rfl, by simp⟩
  | .tmp t :: rs, rs', l, h, hl => by
    simp only [cRes, Option.map_eq_some_iff] at h
    obtain ⟨r1, h1, rfl⟩ := h
    simp only [resV, Option.map_eq_some_iff] at hl
    obtain ⟨l1, h2, rfl⟩ := hl
    obtain ⟨vs, g1, g2⟩ := resV_run hF hS f hf hc h1 h2
    exact ⟨_ :: vs, ⟨_, _, rfl, hF.get t, g1⟩, by simp [List.mapM_cons, hf, g2]⟩
  | .cell p t :: rs, rs', l, h, hl => by
    simp only [cRes] at h
    split at h
    · rename_i r1 hg h1
      cases h
      simp only [resV] at hl
      split at hl
      case h_2 => cases hl
      rename_i x l1 hx h2
      cases hl
      obtain ⟨vs, g1, g2⟩ := resV_run hF hS f hf hc h1 h2
      obtain ⟨ad, v, hp, hcl, hr⟩ := hS.cell (hF.get p) hx
      exact ⟨v :: vs, ⟨_, _, rfl, hr, g1⟩, by simp [List.mapM_cons, hc, hp, asAddr, loadVar, run_isAgg' hg, hcl, g2]⟩
    · rename_i k r1 hg hk h1
      cases h
      simp only [resV] at hl
      split at hl
      case h_2 => cases hl
      rename_i x l1 hx h2
      cases hl
      obtain ⟨vs, g1, g2⟩ := resV_run hF hS f hf hc h1 h2
      have hp := hF.get p
      cases hy : F.get p <;> rw [hy] at hx hp <;> simp only [AS.ldn] at hx <;> first | (cases hx; done) | skip
      rename_i v g of e
      simp only [Rel] at hp
      obtain ⟨b, hb, hle, hp⟩ := hp
      simp only [Option.map_eq_some_iff] at hx
      obtain ⟨l2, hl2, rfl⟩ := hx
      obtain ⟨ys, hlen, hrel, hcell⟩ := hS.cells hb hle hl2
      have hload := run_loadCells_list (P := P) w _ ys hcell
      rw [hlen] at hload
      exact ⟨.agg ⟨ys⟩ :: vs, ⟨_, _, rfl, ⟨ys, hrel, rfl⟩, g1⟩, by simp [List.mapM_cons, hc, hp, asAddr, loadVar, run_isAgg' hg, run_sizeOf' hk, hload, g2]⟩
    · cases h

theorem results_run (hF : FRel ρ n F tmps) (hS : RS w0 ρ S w) {fn : Func} {rs' : List ARes} {l : List AV} (h : cRes P fn.results.toList = some rs') (hl : resV F S rs' = some l) :
    ∃ v, Rel ρ (resOne l) v ∧ (results fn tmps).run P w = .ok v w := by
  have key : ∀ (f : ResultVar → Sem Value), (∀ u, f (.tmp u) = pure (tmps.getD u undef)) → (∀ a t, f (.cell a t) = (do loadVar t (← asAddr (tmps.getD a undef)))) →
      ∃ v, Rel ρ (resOne l) v ∧ (do let vs ← fn.results.mapM f; pure (if h : vs.size = 1 then vs[0] else .tuple vs) : Sem Value).run P w = .ok v w := by
    intro f hf hc
    obtain ⟨vs, h1, h2⟩ := resV_run hF hS f hf hc h hl
    have hm : (fn.results.mapM f).run P w = .ok vs.toArray w := by
      rw [show fn.results = fn.results.toList.toArray from rfl, List.mapM_toArray]
      simp [h2]
    have hlen := RelL.length h1
    match l, vs, h1, hlen, hm with
    | [x], [v], h1, _, hm =>
      obtain ⟨y, ys, e, q1, _⟩ := h1
      cases e
      exact ⟨v, q1, by simp [hm]⟩
    | [], [], _, _, hm => exact ⟨.tuple #[], ⟨[], rfl, rfl⟩, by simp [hm]⟩
    | x :: x' :: l, v :: v' :: vs, h1, _, hm => exact ⟨.tuple (v :: v' :: vs).toArray, ⟨_, h1, rfl⟩, by simp [hm]⟩
  exact key _ (fun _ => rfl) (fun _ _ => rfl)

theorem params_get : ∀ (l : List AV) (i t : Nat), Fr.get (params i l) t = if i ≤ t then (l[t - i]?).getD .any else .any
  | [], i, t => by simp [params, Fr.get]
  | x :: l, i, t => by
    simp only [params, Fr.get_cons, params_get l]
    by_cases e : i = t
    · subst e; simp
    · rw [if_neg e]
      by_cases h : i ≤ t
      · rw [if_pos h, if_pos (by omega)]
        have : t - i = (t - (i + 1)) + 1 := by omega
        rw [this]; simp
      · rw [if_neg h, if_neg (by omega)]

theorem FRel.start {args : List AV} {cargs : List Value} (h : RelL ρ args cargs) (hn : args.length ≤ n) : FRel ρ n (params 0 args) (cargs.toArray ++ Array.replicate (n - cargs.toArray.size) undef) := by
  have hl := RelL.length h
  refine ⟨by simp; omega, fun t => ?_⟩
  rw [params_get, if_pos (Nat.zero_le _), Nat.sub_zero]
  cases hx : args[t]? with
  | none => simp [Rel]
  | some x =>
    obtain ⟨y, hy, hr⟩ := h.get hx
    have ht : t < cargs.length := (List.getElem?_eq_some_iff.1 hy).1
    have : (cargs.toArray ++ Array.replicate (n - cargs.toArray.size) undef).getD t undef = y := by
      rw [Array.getD_eq_getD_getElem?, Array.getElem?_append_left (by simpa using ht)]
      simp [hy]
    rw [this]; exact hr

theorem callFunc_enter {f : Nat} {fn : Func} {c : Code} (hf : P.funcs[f]? = some fn) (hb : fn.body = some c) (hn : (fn.name == "runtime.NumGoroutine") = false) (args : Array Value) (w : World) :
    (callFunc f args).run P w = .ok (.enter f args) w := by
  have hn' : ¬ fn.name = "runtime.NumGoroutine" := by simpa using hn
  unfold callFunc
  simp [hf, hb, hn']

theorem call_sound (hm : P.follows .mixedOrders = true) {kp : Nat → List Nat} {L : Nat} : ∀ d : Nat, CallOk P w0 (callN (ctxOf P kp) L d)
  | 0 => fun _ _ _ _ _ _ _ _ _ h => h.elim
  | d + 1 => by
    intro f args S ρ w cargs hS hr T hT
    simp only [callN] at hT
    split at hT
    case h_1 => exact hT.elim
    rename_i fn hfn
    cases hle : Nat.ble args.length fn.ntmps with
    | false => rw [hle] at hT; exact hT.elim
    | true =>
    rw [hle] at hT
    simp only [cond_true] at hT
    have hle' : args.length ≤ fn.ntmps := by simpa using hle
    have hT := R.All.bind (merge_all (R.All.bind hT))
    have hT := R.All.and hT fun r hr => runC_fro (callN_fro d) L fn.code _ _ r hr
    /- the function -/
    simp only [ctxOf] at hfn
    cases hf : P.funcs[f]? with
    | none => rw [hf] at hfn; cases hfn
    | some fu =>
    rw [hf] at hfn
    simp only [Option.bind_some, cFn] at hfn
    split at hfn
    case h_2 => cases hfn
    rename_i c rs hb hrs
    cases hnm : fu.name == "runtime.NumGoroutine" with
    | true => rw [hnm] at hfn; cases hfn
    | false =>
    rw [hnm] at hfn
    simp only [cond_false, Option.some.injEq] at hfn
    subst hfn
    refine ⟨fun w' => callFunc_enter hf hb hnm _ w', calls_of_wp hf hb ?_⟩
    have hS0 : RS w0 ρ ⟨S.objs, S.n, S.n⟩ w := hS.mw rfl rfl
    refine code_sound hm (call_sound hm d) c _ _ ρ _ w _ (FRel.start hr hle') rfl hS0 (R.All.mono hT ?_)
    rintro ⟨e, F', S'⟩ ⟨hres, hfro⟩ ρ' a' w' he hF' hd' hS'
    simp only at hres hfro
    have fin : e.to = .normal ∨ e.to = .ret → (finR ⟨fu.ntmps, rs, cCode P fu.ntmps (kp f) c⟩ S (e, F', S')).All (fun q => (unR S q).All T) → bodyPost P fu (fun e w' => ∃ p ρ' v, e = .returned v ∧ T p ∧ Ext ρ ρ' ∧ Rel ρ' p.1 v ∧ RS w0 ρ' p.2 w') e.to a' w' := by
      intro hee hres
      have hres' : ∃ l, resV F' S' rs = some l ∧ T (resOne l, match finS S (resOne l) S' with | none => S | some S' => S') := by
        unfold finR at hres
        split at hres
        · exact hres.elim
        · simp only at hres
          cases hl : resV F' S' rs with
          | none => rw [hl] at hres; exact hres.elim
          | some l => rw [hl] at hres; exact ⟨l, rfl, hres⟩
      obtain ⟨l, hl, hTl⟩ := hres'
      obtain ⟨v, hrv, hrun⟩ := results_run hF' hS' hrs hl
      have done : a'.defers = [] ∧ ∃ v, (results fu a'.tmps).run P w' = .ok v w' ∧ ∃ p ρ' v', Ending.returned v = .returned v' ∧ T p ∧ Ext ρ ρ' ∧ Rel ρ' p.1 v' ∧ RS w0 ρ' p.2 w' := by
        refine ⟨hd', v, hrun, ?_⟩
        cases hs : (AV.scalar (resOne l) && Nat.ble S.n S'.mw) with
        | true =>
          have hfs : finS S (resOne l) S' = none := by simp only [finS, hs, cond_true]
          rw [hfs] at hTl
          simp only [Bool.and_eq_true, Nat.ble_eq] at hs
          exact ⟨_, ρ, v, rfl, hTl, Ext.refl _, Rel.scalar hs.1 hrv, hS.back hS' he fun u hu => hfro.get u hu (by omega)⟩
        | false =>
          have hfs : finS S (resOne l) S' = some ⟨S'.objs, S'.n, bif Nat.blt S.mw S'.mw then S.mw else S'.mw⟩ := by simp only [finS, hs, cond_false]
          rw [hfs] at hTl
          exact ⟨_, ρ', v, rfl, hTl, he, hrv, hS'.mw rfl rfl⟩
      rcases hee with h | h <;> rw [h] <;> exact done
    cases e with
    | norm => exact fin (.inl rfl) hres
    | exit id => exact hres.elim
    | ret => exact fin (.inr rfl) hres

/-- the empty memory -/
theorem RS.start (w : World) : RS w (fun _ _ => none) ⟨.nil, 0, 0⟩ w := by
  have hg : ∀ v, AS.get ⟨.nil, 0, 0⟩ v = none := fun v => BT.get_nil v
  refine ⟨Below.refl _ _, (fun _ _ _ h => by cases h), (fun v o h => ?_), (fun v o h => ?_), (fun v o h => ?_), (fun v v' g g' b b' o o' _ h => ?_)⟩ <;> (rw [hg] at h; cases h)

end
end Go.Proofs.YtbkmnpclldgojaaGreat.Vai
