/-
  A verified abstract interpreter, part S: functions and calls.
-/
import Derived.Test.YtednmmcdjhfflaaVaiT
import Derived.Recover
namespace Go.Proofs.Ytednmmcdjhfflaa.Vai
open Go Go.RowKit
def Emb.mix (ρ ρ' : Emb) : Emb := ⟨ρ.at_, ρ'.fz, ρ.N⟩
theorem Ext.mix {ρ ρ' : Emb} (h : Ext ρ ρ') : Ext ρ (ρ.mix ρ') := ⟨fun _ _ _ h => h, h.fz, h.old, rfl⟩
mutual
theorem Rel.back {ρ ρ' : Emb} (he : Ext ρ ρ') : ∀ (x : AV) (u v : Value), Rel ρ x u → Rel ρ' x v → Rel (ρ.mix ρ') x v
  | .any, _, _, _, _ => by simp [Rel]
  | .cst _, _, _, _, h => by simpa [Rel] using h
  | .bool _, _, _, _, h => by simpa [Rel] using h
  | .int _ _, _, _, _, h => by simpa [Rel] using h
  | .str _, _, _, _, h => by simpa [Rel] using h
  | .nilp, _, _, _, h => by simpa [Rel] using h
  | .ptr v g o e, _, _, h0, h => by
    simp only [Rel] at h0 h ⊢
    obtain ⟨b, hb, _, _⟩ := h0
    obtain ⟨b', hb', h1, h2⟩ := h
    rw [he _ _ _ hb] at hb'
    cases hb'
    exact ⟨b, hb, h1, h2⟩
  | .nils, _, _, _, h => by simpa [Rel] using h
  | .slice v g q len lim sz, _, _, h0, h => by
    simp only [Rel] at h0 h ⊢
    obtain ⟨b, _, hb, _⟩ := h0
    obtain ⟨b', c, hb', h1⟩ := h
    rw [he _ _ _ hb] at hb'
    cases hb'
    exact ⟨b, c, hb, h1⟩
  | .emp _, _, _, _, h => by simpa [Rel] using h
  | .nilm, _, _, _, h => by simpa [Rel] using h
  | .map m, _, _, h0, h => by
    simp only [Rel] at h0 h ⊢
    obtain ⟨b, hb, _⟩ := h0
    obtain ⟨b', hb', h1⟩ := h
    rw [he _ _ _ hb] at hb'
    cases hb'
    exact ⟨b, hb, h1⟩
  | .nilf, _, _, _, h => by simpa [Rel] using h
  | .fn f a c, _, _, h0, h => by
    simp only [Rel] at h0 h ⊢
    obtain ⟨a0, c0, q1, q2, _⟩ := h0
    obtain ⟨a', c', h1, h2, h3⟩ := h
    exact ⟨a', c', RelL.back he a a0 a' q1 h1, RelL.back he c c0 c' q2 h2, h3⟩
  | .nili, _, _, _, h => by simpa [Rel] using h
  | .ifc t x, _, _, h0, h => by
    simp only [Rel] at h0 h ⊢
    obtain ⟨y0, q1, _⟩ := h0
    obtain ⟨y, h1, h2⟩ := h
    exact ⟨y, Rel.back he x y0 y q1 h1, h2⟩
  | .agg l, _, _, h0, h => by
    simp only [Rel] at h0 h ⊢
    obtain ⟨l0, q1, _⟩ := h0
    obtain ⟨l', h1, h2⟩ := h
    exact ⟨l', RelL.back he l l0 l' q1 h1, h2⟩
  | .tup l, _, _, h0, h => by
    simp only [Rel] at h0 h ⊢
    obtain ⟨l0, q1, _⟩ := h0
    obtain ⟨l', h1, h2⟩ := h
    exact ⟨l', RelL.back he l l0 l' q1 h1, h2⟩
  | .pan _, _, _, h0, _ => by simp [Rel] at h0
  | .yld v, _, _, h0, h => by
    simp only [Rel] at h0 h ⊢
    obtain ⟨b, hb, _⟩ := h0
    obtain ⟨b', hb', h1⟩ := h
    rw [he _ _ _ hb] at hb'
    cases hb'
    exact ⟨b, hb, h1⟩
  | .row z sz n cs, _, _, h0, h => by
    simp only [Rel] at h0 h ⊢
    obtain ⟨_, _, _, _, _, q⟩ := h0
    obtain ⟨o, c, h1, h2, h3, h4⟩ := h
    refine ⟨o, c, h1, h2, h3, ?_⟩
    rcases q with q | ⟨k0, off0, ob0, _, _, q0⟩
    · exact .inl q
    · refine h4.imp id ?_
      rintro ⟨k, off, ob, g1, g2, g3⟩
      exact ⟨k, off, ob, g1, g2, RelC.back he cs ob0 off0 ob off q0 g3⟩
  | .fp z cs o, _, _, h0, h => by
    simp only [Rel] at h0 h ⊢
    obtain ⟨k0, off0, ob0, _, _, q0⟩ := h0
    obtain ⟨k, off, ob, g1, g2, g3⟩ := h
    exact ⟨k, off, ob, g1, g2, RelC.back he cs ob0 off0 ob off q0 g3⟩
theorem RelC.back {ρ ρ' : Emb} (he : Ext ρ ρ') : ∀ (cs : List AV) (ob0 : Obj) (i0 : Nat) (ob : Obj) (i : Nat), RelC ρ ob0 cs i0 → RelC ρ' ob cs i → RelC (ρ.mix ρ') ob cs i
  | [], _, _, _, _, _, _ => by simp [RelC]
  | a :: as, ob0, i0, ob, i, h0, h => by
    simp only [RelC] at h0 h ⊢
    obtain ⟨⟨y0, _, q1⟩, q2⟩ := h0
    obtain ⟨⟨y, h1, h2⟩, h3⟩ := h
    exact ⟨⟨y, h1, Rel.back he a y0 y q1 h2⟩, RelC.back he as ob0 (i0 + 1) ob (i + 1) q2 h3⟩
theorem RelL.back {ρ ρ' : Emb} (he : Ext ρ ρ') : ∀ (x : List AV) (u v : List Value), RelL ρ x u → RelL ρ' x v → RelL (ρ.mix ρ') x v
  | [], _, _, _, h => by simpa [RelL] using h
  | x :: xs, _, _, h0, h => by
    simp only [RelL] at h0 h ⊢
    obtain ⟨y0, ys0, _, q1, q2⟩ := h0
    obtain ⟨y, ys, e, h1, h2⟩ := h
    exact ⟨y, ys, e, Rel.back he x y0 y q1 h1, RelL.back he xs ys0 ys q2 h2⟩
end
theorem RelE.back {ρ ρ' : Emb} (he : Ext ρ ρ') : ∀ (x : List (AV × AV × Nat)) (u v : List MapEntry), RelE ρ x u → RelE ρ' x v → RelE (ρ.mix ρ') x v
  | [], _, _, _, h => h
  | (k, x, n) :: es, _, _, h0, h => by
    obtain ⟨k0, y0, ys0, _, a1, a2, a3⟩ := h0
    obtain ⟨k', y, ys, e, h1, h2, h3⟩ := h
    exact ⟨k', y, ys, e, Rel.back he k _ _ a1 h1, Rel.back he x _ _ a2 h2, RelE.back he es _ _ a3 h3⟩
mutual
theorem Rel.scal {ρ ρ' : Emb} (hz : ∀ k x, ρ'.fz k = some x → ρ.fz k = some x) : ∀ (x : AV) (v : Value), x.scalar = true → Rel ρ' x v → Rel ρ x v
  | .any, _, _, _ => by simp [Rel]
  | .cst _, _, hs, _ => by simp [AV.scalar] at hs
  | .bool _, _, _, h => by simpa [Rel] using h
  | .int _ _, _, _, h => by simpa [Rel] using h
  | .str _, _, _, h => by simpa [Rel] using h
  | .nilp, _, _, h => by simpa [Rel] using h
  | .ptr _ _ _ _, _, hs, _ => by simp [AV.scalar] at hs
  | .nils, _, _, h => by simpa [Rel] using h
  | .slice _ _ _ _ _ _, _, hs, _ => by simp [AV.scalar] at hs
  | .emp _, _, hs, _ => by simp [AV.scalar] at hs
  | .nilm, _, _, h => by simpa [Rel] using h
  | .map _, _, hs, _ => by simp [AV.scalar] at hs
  | .nilf, _, _, h => by simpa [Rel] using h
  | .fn f a c, v, hs, h => by
    simp only [AV.scalar, Bool.and_eq_true] at hs
    simp only [Rel] at h ⊢
    obtain ⟨a', c', h1, h2, h3⟩ := h
    exact ⟨a', c', RelL.scal hz a a' hs.1 h1, RelL.scal hz c c' hs.2 h2, h3⟩
  | .nili, _, _, h => by simpa [Rel] using h
  | .ifc t x, v, hs, h => by
    simp only [AV.scalar] at hs
    simp only [Rel] at h ⊢
    obtain ⟨y, h1, h2⟩ := h
    exact ⟨y, Rel.scal hz x y hs h1, h2⟩
  | .agg l, v, hs, h => by
    simp only [AV.scalar] at hs
    simp only [Rel] at h ⊢
    obtain ⟨l', h1, h2⟩ := h
    exact ⟨l', RelL.scal hz l l' hs h1, h2⟩
  | .tup l, v, hs, h => by
    simp only [AV.scalar] at hs
    simp only [Rel] at h ⊢
    obtain ⟨l', h1, h2⟩ := h
    exact ⟨l', RelL.scal hz l l' hs h1, h2⟩
  | .pan _, _, hs, _ => by simp [AV.scalar] at hs
  | .yld _, _, hs, _ => by simp [AV.scalar] at hs
  | .row z sz n cs, v, hs, h => by
    simp only [AV.scalar] at hs
    simp only [Rel] at h ⊢
    obtain ⟨o, c, h1, h2, h3, h4⟩ := h
    refine ⟨o, c, h1, h2, h3, h4.imp id ?_⟩
    rintro ⟨k, off, ob, g1, g2, g3⟩
    exact ⟨k, off, ob, g1, g2.imp fun z' q => ⟨hz _ _ q.1, q.2⟩, RelC.scal hz cs ob off hs g3⟩
  | .fp z cs o, v, hs, h => by
    simp only [AV.scalar] at hs
    simp only [Rel] at h ⊢
    obtain ⟨k, off, ob, g1, g2, g3⟩ := h
    exact ⟨k, off, ob, g1, g2.imp fun z' q => ⟨hz _ _ q.1, q.2⟩, RelC.scal hz cs ob off hs g3⟩
theorem RelC.scal {ρ ρ' : Emb} (hz : ∀ k x, ρ'.fz k = some x → ρ.fz k = some x) : ∀ (cs : List AV) (ob : Obj) (i : Nat), AV.scalL cs = true → RelC ρ' ob cs i → RelC ρ ob cs i
  | [], _, _, _, _ => by simp [RelC]
  | a :: as, ob, i, hs, h => by
    simp only [AV.scalL, Bool.and_eq_true] at hs
    simp only [RelC] at h ⊢
    obtain ⟨⟨y, h1, h2⟩, h3⟩ := h
    exact ⟨⟨y, h1, Rel.scal hz a y hs.1 h2⟩, RelC.scal hz as ob (i + 1) hs.2 h3⟩
theorem RelL.scal {ρ ρ' : Emb} (hz : ∀ k x, ρ'.fz k = some x → ρ.fz k = some x) : ∀ (x : List AV) (v : List Value), AV.scalL x = true → RelL ρ' x v → RelL ρ x v
  | [], _, _, h => by simpa [RelL] using h
  | x :: xs, _, hs, h => by
    simp only [AV.scalL, Bool.and_eq_true] at hs
    simp only [RelL] at h ⊢
    obtain ⟨y, ys, e, h1, h2⟩ := h
    exact ⟨y, ys, e, Rel.scal hz x y hs.1 h1, RelL.scal hz xs ys hs.2 h2⟩
end
theorem Rel.scalar {ρ ρ' : Emb} {x : AV} {v : Value} (hs : x.scalar = true) (h : Rel ρ' x v) : Rel (ρ.mix ρ') x v := Rel.scal (ρ := ρ.mix ρ') (ρ' := ρ') (fun _ _ h => h) x v hs h
theorem RObj.back {B : Nat} {ρ ρ' : Emb} {v : Nat} {w w' : World} {o : AObj} (he : Ext ρ ρ') (h : RObj B ρ v w o) (h' : RObj B ρ' v w' o) : RObj B (ρ.mix ρ') v w' o := by
  cases o with
  | cells c sz gen lo opn ro =>
    obtain ⟨⟨b, h1, h2, h3, h4, h5⟩, hlo, hg⟩ := h
    obtain ⟨⟨b', g1, g2, g3, g4, g5⟩, _, hg'⟩ := h'
    rw [he _ _ _ h1] at g1
    cases g1
    refine ⟨⟨b, h1, h2, h3, h4, g5⟩, hlo, fun g q1 q2 => ?_⟩
    obtain ⟨b1, r1, r2⟩ := hg g q1 q2
    obtain ⟨b2, s1, s2⟩ := hg' g q1 q2
    rw [he _ _ _ r1] at s1
    cases s1
    refine ⟨b1, r1, s2.sz, s2.lt, s2.low, s2.high, s2.ext, fun i x hi hx => ?_⟩
    obtain ⟨y0, _, k1⟩ := r2.cell i x hi hx
    obtain ⟨y, k2, k3⟩ := s2.cell i x hi hx
    exact ⟨y, k2, Rel.back he x y0 y k1 k3⟩
  | map es clock =>
    obtain ⟨b, es0, h1, h2, h3, h4⟩ := h
    obtain ⟨b', es', g1, g2, g3, g4⟩ := h'
    rw [he _ _ _ h1] at g1
    cases g1
    exact ⟨b, es', h1, h2, g3, RelE.back he _ _ _ h4 g4⟩
  | iter m bs clock rem cur =>
    obtain ⟨b, h1, h2, h3⟩ := h
    obtain ⟨b', g1, g2, g3⟩ := h'
    rw [he _ _ _ h1] at g1
    cases g1
    refine ⟨b, h1, h2, ?_⟩
    cases m with
    | none => exact g3
    | some m =>
      obtain ⟨mb, seen, r1, r2, r3⟩ := h3
      obtain ⟨mb', seen', s1, s2, s3⟩ := g3
      rw [he _ _ _ r1] at s1
      cases s1
      exact ⟨mb, seen', r1, s2, s3⟩
  | raw k =>
    obtain ⟨b, o, h1, h2, h3, h4⟩ := h
    obtain ⟨b', o', g1, g2, g3, g4⟩ := h'
    rw [he _ _ _ h1] at g1
    cases g1
    exact ⟨b, o', h1, h2, g3, g4⟩
theorem RS.back {w0 : World} {ρ ρ' : Emb} {S S' : AS} {w w' : World} (h : RS w0 ρ S w) (h' : RS w0 ρ' S' w') (he : Ext ρ ρ') (hf : ∀ v, v < S.n → S'.get v = S.get v) : RS w0 (ρ.mix ρ') S w' := by
  refine ⟨h'.below, h.dom, h.lt, fun v o ho => ?_, h.gens, h.dis, fun k z ob hk => ⟨(h'.fz k z ob hk).1, fun v g b o ho hl hr hb => (h'.fz k z ob hk).2 v g b o (by rw [hf v (h.lt v o ho)]; exact ho) hl hr (he _ _ _ hb)⟩, h.N⟩
  have hv := h.lt v o ho
  exact RObj.back he (h.obj v o ho) (h'.obj v o (by rw [hf v hv]; exact ho))
theorem RS.mw {w0 : World} {ρ : Emb} {S S' : AS} {w : World} (h : RS w0 ρ S w) (ho : S'.objs = S.objs) (hn : S'.n = S.n) : RS w0 ρ S' w := by
  have hg : ∀ v, S'.get v = S.get v := fun v => by unfold AS.get; rw [ho]
  exact ⟨h.below, fun v g b hb => by rw [hn]; exact h.dom v g b hb, fun v o hv => by rw [hn]; exact h.lt v o (by rw [← hg]; exact hv),
    fun v o hv => h.obj v o (by rw [← hg]; exact hv), fun v o hv => h.gens v o (by rw [← hg]; exact hv),
    fun v v' g g' b b' o o' hne hv hv' => h.dis v v' g g' b b' o o' hne (by rw [← hg]; exact hv) (by rw [← hg]; exact hv'),
    fun k z ob hk => ⟨(h.fz k z ob hk).1, fun v g b o hv => (h.fz k z ob hk).2 v g b o (by rw [← hg]; exact hv)⟩, h.N⟩
theorem beqE_eq : ∀ {a b : List (AV × AV × Nat)}, AObj.beq.beqE a b = true → a = b
  | [], [], _ => rfl
  | [], _ :: _, h => by cases h
  | _ :: _, [], h => by cases h
  | (k, x, n) :: l, (k', x', n') :: l', h => by
    simp only [AObj.beq.beqE, Bool.and_eq_true, Nat.beq_eq] at h
    obtain ⟨⟨⟨h1, h2⟩, rfl⟩, h4⟩ := h
    rw [AV.beq_eq h1, AV.beq_eq h2, beqE_eq h4]
theorem natsBeq_eq' : ∀ {a b : List Nat}, natsBeq a b = true → a = b
  | [], [], _ => rfl
  | [], _ :: _, h => by cases h
  | _ :: _, [], h => by cases h
  | a :: as, b :: bs, h => by
    simp only [natsBeq, Bool.and_eq_true, Nat.beq_eq] at h
    rw [h.1, natsBeq_eq' h.2]
theorem optBeq_eq {a b : Option Nat} (h : optBeq a b = true) : a = b := by cases a <;> cases b <;> simp_all [optBeq]
theorem AObj.beq_eq {a b : AObj} (h : AObj.beq a b = true) : a = b := by
  cases a <;> cases b <;> simp only [AObj.beq, Bool.and_eq_true, Bool.false_eq_true, Nat.beq_eq, beq_iff_eq] at h
  · obtain ⟨⟨⟨⟨⟨h1, rfl⟩, rfl⟩, rfl⟩, rfl⟩, rfl⟩ := h
    rw [AV.beqL_eq h1]
  · obtain ⟨h1, rfl⟩ := h
    rw [beqE_eq h1]
  · obtain ⟨⟨⟨⟨h1, h2⟩, rfl⟩, h4⟩, h5⟩ := h
    rw [optBeq_eq h1, natsBeq_eq' h2, natsBeq_eq' h4, optBeq_eq h5]
  · rw [h]
theorem BT.beq_eq {α : Type} {f : α → α → Bool} (hf : ∀ a b, f a b = true → a = b) : ∀ {s t : BT α}, BT.beq f s t = true → s = t
  | .nil, .nil, _ => rfl
  | .nil, .node .., h => by cases h
  | .node .., .nil, h => by cases h
  | .node a v b, .node a' v' b', h => by
    simp only [BT.beq, Bool.and_eq_true] at h
    obtain ⟨⟨h1, h2⟩, h3⟩ := h
    rw [BT.beq_eq hf h2, BT.beq_eq hf h3]
    cases v <;> cases v' <;> first
      | rfl
      | (simp at h1; done)
      | rw [hf _ _ h1]
theorem leafBeq_eq {a b : AV × Option AS} (h : leafBeq a b = true) : a = b := by
  obtain ⟨x, s⟩ := a
  obtain ⟨y, t⟩ := b
  simp only [leafBeq, Bool.and_eq_true] at h
  obtain ⟨h1, h2⟩ := h
  have h1 := AV.beq_eq h1
  subst h1
  congr 1
  cases s <;> cases t <;> first
    | rfl
    | (simp at h2; done)
    | skip
  rename_i S T
  obtain ⟨o, n, m⟩ := S
  obtain ⟨o', n', m'⟩ := T
  simp only [Bool.and_eq_true, Nat.beq_eq] at h2
  obtain ⟨⟨rfl, rfl⟩, h3⟩ := h2
  rw [BT.beq_eq (fun _ _ => AObj.beq_eq) h3]
theorem merge_all {T : AV × Option AS → Prop} {r : R (AV × Option AS)} (h : (mergeR r).All T) : r.All T := by
  cases r with
  | no => exact h
  | one a => exact h
  | many l =>
    cases l with
    | nil => exact h
    | cons a l =>
      simp only [mergeR] at h
      cases hb : l.all (leafBeq a) with
      | false => rw [hb] at h; exact h
      | true =>
        rw [hb] at h
        intro b hm
        rcases List.mem_cons.1 hm with rfl | hm
        · exact h
        · rw [← leafBeq_eq (List.all_eq_true.1 hb b hm)]; exact h
section
variable {P : Program} {w0 : World} {ρ : Emb} {S : AS} {w : World} {n : Nat} {F : Fr} {tmps : Array Value}
theorem resV_run (hF : FRel ρ n F tmps) (hS : RS w0 ρ S w) (f : ResultVar → Sem Value) (hf : ∀ u, f (.tmp u) = pure (tmps.getD u undef)) (hc : ∀ a t, f (.cell a t) = (do loadVar t (← asAddr (tmps.getD a undef)))) :
    ∀ {rs : List ResultVar} {rs' : List ARes} {l : List AV}, cRes P rs = some rs' → resV F S rs' = some l → ∃ vs, RelL ρ l vs ∧ (rs.mapM f).run P w = .ok vs w
  | [], rs', l, h, hl => by
    cases h; cases hl
    exact ⟨[], rfl, by simp⟩
  | .tmp t :: rs, rs', l, h, hl => by
    simp only [cRes, Option.map_eq_some_iff] at h
    obtain ⟨r1, h1, rfl⟩ := h
    simp only [resV, Option.map_eq_some_iff] at hl
    obtain ⟨l1, h2, rfl⟩ := hl
    obtain ⟨vs, g1, g2⟩ := resV_run hF hS f hf hc h1 h2
    exact ⟨_ :: vs, ⟨_, _, rfl, hF.get t, g1⟩, by simp [List.mapM_cons, hf, g2]⟩
  | .cell p t :: rs, rs', l, h, hl => by
    simp only [cRes] at h
    split at h
    · rename_i r1 hg h1
      cases h
      simp only [resV] at hl
      split at hl
      case h_2 => cases hl
      rename_i x l1 hx h2
      cases hl
      obtain ⟨vs, g1, g2⟩ := resV_run hF hS f hf hc h1 h2
      obtain ⟨ad, v, hp, hcl, hr⟩ := hS.cell (hF.get p) hx
      exact ⟨v :: vs, ⟨_, _, rfl, hr, g1⟩, by simp [List.mapM_cons, hc, hp, asAddr, loadVar, run_isAgg' hg, hcl, g2]⟩
    · rename_i k r1 hg hk h1
      cases h
      simp only [resV] at hl
      split at hl
      case h_2 => cases hl
      rename_i x l1 hx h2
      cases hl
      obtain ⟨vs, g1, g2⟩ := resV_run hF hS f hf hc h1 h2
      have hp := hF.get p
      cases hy : F.get p <;> rw [hy] at hx hp <;> simp only [AS.ldn] at hx <;> first | (cases hx; done) | skip
      case fp zz cs of =>
        simp only [Rel] at hp
        obtain ⟨kk, off, ob, hp, ⟨_, hk1, _⟩, hcc⟩ := hp
        cases hb : Nat.ble (of + k) cs.length with
        | false => rw [hb] at hx; cases hx
        | true =>
          rw [hb] at hx
          simp only [cond_true, Option.some.injEq] at hx
          subst hx
          obtain ⟨ys, hlen, hrel, hcell⟩ := hS.fcells (n := k) (o := of) hk1 hcc (by simpa using hb)
          have hload := run_loadCells_list (P := P) w _ ys hcell
          rw [hlen] at hload
          exact ⟨.agg ⟨ys⟩ :: vs, ⟨_, _, rfl, ⟨ys, hrel, rfl⟩, g1⟩, by simp [List.mapM_cons, hc, hp, asAddr, loadVar, run_isAgg' hg, run_sizeOf' hk, hload, g2]⟩
      rename_i v g of e
      simp only [Rel] at hp
      obtain ⟨b, hb, hle, hp⟩ := hp
      simp only [Option.map_eq_some_iff] at hx
      obtain ⟨l2, hl2, rfl⟩ := hx
      obtain ⟨ys, hlen, hrel, hcell⟩ := hS.cells hb hle hl2
      have hload := run_loadCells_list (P := P) w _ ys hcell
      rw [hlen] at hload
      exact ⟨.agg ⟨ys⟩ :: vs, ⟨_, _, rfl, ⟨ys, hrel, rfl⟩, g1⟩, by simp [List.mapM_cons, hc, hp, asAddr, loadVar, run_isAgg' hg, run_sizeOf' hk, hload, g2]⟩
    · cases h
theorem results_run (hF : FRel ρ n F tmps) (hS : RS w0 ρ S w) {fn : Func} {rs' : List ARes} {l : List AV} (h : cRes P fn.results.toList = some rs') (hl : resV F S rs' = some l) :
    ∃ v, Rel ρ (resOne l) v ∧ (results fn tmps).run P w = .ok v w := by
  have key : ∀ (f : ResultVar → Sem Value), (∀ u, f (.tmp u) = pure (tmps.getD u undef)) → (∀ a t, f (.cell a t) = (do loadVar t (← asAddr (tmps.getD a undef)))) →
      ∃ v, Rel ρ (resOne l) v ∧ (do let vs ← fn.results.mapM f; pure (if h : vs.size = 1 then vs[0] else .tuple vs) : Sem Value).run P w = .ok v w := by
    intro f hf hc
    obtain ⟨vs, h1, h2⟩ := resV_run hF hS f hf hc h hl
    have hm : (fn.results.mapM f).run P w = .ok vs.toArray w := by
      rw [show fn.results = fn.results.toList.toArray from rfl, List.mapM_toArray]
      simp [h2]
    have hlen := RelL.length h1
    match l, vs, h1, hlen, hm with
    | [x], [v], h1, _, hm =>
      obtain ⟨y, ys, e, q1, _⟩ := h1
      cases e
      exact ⟨v, q1, by simp [hm]⟩
    | [], [], _, _, hm => exact ⟨.tuple #[], ⟨[], rfl, rfl⟩, by simp [hm]⟩
    | x :: x' :: l, v :: v' :: vs, h1, _, hm => exact ⟨.tuple (v :: v' :: vs).toArray, ⟨_, h1, rfl⟩, by simp [hm]⟩
  exact key _ (fun _ => rfl) (fun _ _ => rfl)
theorem params_get : ∀ (l : List AV) (i t : Nat), Fr.get (params i l) t = if i ≤ t then (l[t - i]?).getD .any else .any
  | [], i, t => by simp [params, Fr.get]
  | x :: l, i, t => by
    simp only [params, Fr.get_cons, params_get l]
    by_cases e : i = t
    · subst e; simp
    · rw [if_neg e]
      by_cases h : i ≤ t
      · rw [if_pos h, if_pos (by omega)]
        have : t - i = (t - (i + 1)) + 1 := by omega
        rw [this]; simp
      · rw [if_neg h, if_neg (by omega)]
theorem FRel.start {args : List AV} {cargs : List Value} (h : RelL ρ args cargs) (hn : args.length ≤ n) : FRel ρ n (params 0 args) (cargs.toArray ++ Array.replicate (n - cargs.toArray.size) undef) := by
  have hl := RelL.length h
  refine ⟨by simp; omega, fun t => ?_⟩
  rw [params_get, if_pos (Nat.zero_le _), Nat.sub_zero]
  cases hx : args[t]? with
  | none => simp [Rel]
  | some x =>
    obtain ⟨y, hy, hr⟩ := h.get hx
    have ht : t < cargs.length := (List.getElem?_eq_some_iff.1 hy).1
    have : (cargs.toArray ++ Array.replicate (n - cargs.toArray.size) undef).getD t undef = y := by
      rw [Array.getD_eq_getD_getElem?, Array.getElem?_append_left (by simpa using ht)]
      simp [hy]
    rw [this]; exact hr
theorem callFunc_enter {f : Nat} {fn : Func} {c : Code} (hf : P.funcs[f]? = some fn) (hb : fn.body = some c) (hn : (fn.name == "runtime.NumGoroutine") = false) (args : Array Value) (w : World) :
    (callFunc f args).run P w = .ok (.enter f args) w := by
  have hn' : ¬ fn.name = "runtime.NumGoroutine" := by simpa using hn
  unfold callFunc
  simp [hf, hb, hn']
theorem cFn_say {k : List Nat} {f : Func} {fn : AFn} (h : cFn P k f = some fn) : ∃ c rs, f.body = some c ∧ cRes P f.results.toList = some rs ∧ (f.name == "runtime.NumGoroutine") = false ∧ fn.ntmps = f.ntmps ∧ fn.res = rs ∧
    ((fn.kind = .plain ∧ fn.code = cCode P f.ntmps k c) ∨
     (∃ id ops rest o os, c = .seq (.region id ops false) rest ∧ ops.toList = o :: os ∧ isRcv o = true ∧ cDok f.ntmps o.dst = true ∧ (∀ o' ∈ os, (cOper P ops f.ntmps o').op.calls = false) ∧ fn.kind = .rcv o.dst ∧ fn.code = .seq (.reg (os.map (cOper P ops f.ntmps))) (cCode P f.ntmps k rest)) ∨
     (∃ id ops id2 ops2 rest2 o1 o2 t, c = .seq (.region id ops false) (.seq (.region id2 ops2 false) rest2) ∧ ops2.toList = [o1, o2] ∧ dfrOf o2 = some t ∧
       fn.kind = .dfr (.reg (ops.toList.map (cOper P ops f.ntmps))) [cOper P ops2 f.ntmps o1] t ∧ fn.code = cCode P f.ntmps k rest2)) := by
  unfold cFn at h
  split at h
  case h_2 => cases h
  rename_i c rs hb hrs
  refine ⟨c, rs, hb, hrs, ?_⟩
  cases hnm : f.name == "runtime.NumGoroutine" with
  | true => rw [hnm] at h; cases h
  | false =>
  rw [hnm] at h
  simp only [cond_false] at h
  refine ⟨rfl, ?_⟩
  split at h
  · rename_i id ops rest
    split at h
    · rename_i o os hos
      cases hr : (isRcv o && cDok f.ntmps o.dst && os.all (fun o => !(cOper P ops f.ntmps o).op.calls)) with
      | true =>
        rw [hr] at h
        simp only [Bool.and_eq_true] at hr
        cases h
        exact ⟨rfl, rfl, .inr (.inl ⟨id, ops, rest, o, os, rfl, hos, hr.1.1, hr.1.2, fun o' ho' => by simpa using List.all_eq_true.1 hr.2 o' ho', rfl, rfl⟩)⟩
      | false =>
        rw [hr] at h
        simp only [cond_false] at h
        split at h
        · rename_i id2 ops2 rest2
          split at h
          · rename_i o1 o2 ho2
            split at h
            · rename_i t ht
              cases h
              exact ⟨rfl, rfl, .inr (.inr ⟨id, ops, id2, ops2, rest2, o1, o2, t, rfl, ho2, ht, rfl, rfl⟩)⟩
            · cases h; exact ⟨rfl, rfl, .inl ⟨rfl, rfl⟩⟩
          · cases h; exact ⟨rfl, rfl, .inl ⟨rfl, rfl⟩⟩
        · cases h; exact ⟨rfl, rfl, .inl ⟨rfl, rfl⟩⟩
    · cases h; exact ⟨rfl, rfl, .inl ⟨rfl, rfl⟩⟩
  · cases h; exact ⟨rfl, rfl, .inl ⟨rfl, rfl⟩⟩
theorem cFnM_say {k : List Nat} {f : Func} {fn : AFn} (h : cFnM P k f = some fn) :
    (∃ c rs, f.body = some c ∧ cRes P f.results.toList = some rs ∧ (f.name == "runtime.NumGoroutine") = false ∧ fn.ntmps = f.ntmps ∧ fn.res = rs ∧ fn.kind = .rng (cM P f.ntmps k c)) ∨ cFn P k f = some fn := by
  unfold cFnM at h
  split at h
  case h_2 => cases h
  rename_i c rs hb hrs
  cases hr : hasRf c with
  | false => rw [hr] at h; exact .inr h
  | true =>
    rw [hr] at h
    simp only [cond_true] at h
    cases hnm : f.name == "runtime.NumGoroutine" with
    | true => rw [hnm] at h; cases h
    | false => rw [hnm] at h; cases h; exact .inl ⟨c, rs, hb, hrs, rfl, rfl, rfl, rfl⟩
theorem opsS_sound {call : CallF} {kp : Nat → List Nat} {env : Env} {ops : Array Oper} {ds : List Deferred} {Q : Exit → Act → List Frame → World → Prop} {cs : List Frame} : ∀ (os : List Oper) (i : Nat), ops.toList.drop i = os → (∀ o' ∈ os, (cOper P ops n o').op.calls = false) → ∀ (F : Fr) (S : AS) (ρ : Emb) (a : Act) (w : World),
    FRel ρ n F a.tmps → a.defers = ds → RS w0 ρ S w →
    (runOps (ctxE P kp env) call (os.map (cOper P ops n)) F S).All (Good w0 n ds ρ fun e a w => Q e a cs w) →
    wpOpsS P ops Q (List.range' i os.length) a cs w
  | [], i, _, _, F, S, ρ, a, w, hF, hd, hS, h => by
    exact h ρ _ a w (Ext.refl _) rfl hF hd hS
  | o :: os, i, hdrop, hnc, F, S, ρ, a, w, hF, hd, hS, h => by
    have hoi : ops[i]? = some o := by
      have : ops.toList[i]? = some o := by rw [← List.head?_drop, hdrop]; rfl
      simpa using this
    have hdrop' : ops.toList.drop (i + 1) = os := by rw [← List.drop_drop, hdrop]; rfl
    simp only [List.map_cons, runOps] at h
    simp only [List.length_cons, List.range'_succ, wpOpsS, hoi]
    rcases cOper_say (P := P) (n := n) (ops := ops) (o := o) with ⟨hgd, hb⟩ | ⟨hdst, hlt, hcop, hg⟩
    · exfalso
      rw [hgd, hb] at h
      simp only [wantA, aop, R.bind_no] at h
      exact h
    · cases hwa : wantA F (cOper P ops n o).gd with
      | none => rw [hwa] at h; exact h.elim
      | some wb =>
        rw [hwa] at h
        have hw := wantA_say hF hg hwa
        cases wb with
        | false =>
          rw [if_neg (by rw [hw]; simp)]
          simp only at h
          rw [hdst] at h
          have hu : Rel ρ undefA undef := ⟨[], rfl, rfl⟩
          exact opsS_sound (call := call) (kp := kp) (env := env) os (i + 1) hdrop' (fun o' ho' => hnc o' (List.mem_cons_of_mem _ ho')) _ S ρ _ w (hF.put hlt hu a.defers) (by rw [put_defers]; exact hd) hS h
        | true =>
          rw [if_pos hw]
          simp only at h
          rw [hdst] at h
          have key : o.wp P a w (fun a' w' => wpOpsS P ops Q (List.range' (i + 1) os.length) a' cs w') (fun e a' w' => Q e a' cs w') := by
            refine (sim_op hF hS hcop (hnc o List.mem_cons_self)).wp0 (R.All.bind h) ?_
            · intro p ρ1 v w1 hT he hr hS1
              have hF1 := (hF.ext he).put hlt hr a.defers
              split at hT
              · rename_i y hq; exact absurd hq (isPan_of hr y)
              refine opsS_sound (call := call) (kp := kp) (env := env) (ds := ds) os (i + 1) hdrop' (fun o' ho' => hnc o' (List.mem_cons_of_mem _ ho')) _ p.2 ρ1 _ w1 hF1 (by rw [put_defers]; exact hd) hS1 ?_
              exact R.All.mono hT fun r hr' => hr'.ext he
          unfold Oper.wp at key
          split
          · rename_i w' hr
            rw [hr] at key
            exact key.elim
          · exact key
theorem run_rcv {o : Oper} (h : isRcv o = true) (a : Act) (w : World) : o.guard = none ∧ (execOp a.eval o).run P w = .ok .recover w := by
  unfold isRcv at h
  split at h
  · rename_i c ho hg
    obtain ⟨callee, args, ts⟩ := c
    cases callee with
    | value x => cases h
    | invoke r m => cases h
    | builtin b => cases b <;> first
      | (cases h; done)
      | exact ⟨hg, by simp [execOp, ho, resolve, invoke, builtin]⟩
  · cases h
theorem run_dfr {o : Oper} {t : Nat} (h : dfrOf o = some t) (a : Act) (w : World) {g : Fn} {x y : Array Value} (hv : a.tmps.getD t undef = .func g x y) :
    o.guard = none ∧ o.dst = none ∧ (execOp a.eval o).run P w = .ok (.defer { target := .fn g y, args := x }) w := by
  unfold dfrOf at h
  split at h
  · rename_i c ho hg hd
    obtain ⟨callee, args, ts⟩ := c
    simp only at h
    split at h
    · rename_i q2
      cases h
      have : args = #[] := by rw [← Array.toList_eq_nil_iff]; exact q2
      subst this
      have hv' : a.eval (.tmp t) = .func g x y := hv
      exact ⟨hg, hd, by simp [execOp, ho, resolve, hv', Deferred.ofValue]⟩
    · cases h
  · cases h
theorem op1_sound {ρ0 : Emb} {call : CallF} {kp : Nat → List Nat} {env : Env} (hcall : CallOk P w0 ρ0 call) (henv : EnvOk P w0 ρ0 env) (h0 : Ext ρ0 ρ) {r0 : Option Nat} {m0 : Nat} {ops : Array Oper} {ds : List Deferred} {Q : Exit → Act → World → Prop} {i : Nat} {o : Oper} (hoi : ops[i]? = some o) {rest : List Nat} {a : Act}
    (hF : FRel ρ n F a.tmps) (hd : a.defers = ds) (hS : RS w0 ρ S w) {G : AE × Fr × AS → Prop} (h : (runOps (ctxE P kp env) call [cOper P ops n o] F S).All G)
    (hK : ∀ F' S' ρ' a' w', G (.norm, F', S') → Ext ρ ρ' → FRel ρ' n F' a'.tmps → a'.defers = ds → RS w0 ρ' S' w' → wpOpsIn (fw r0) m0 P ops Q rest a' w')
    (hP : ∀ y S', ¬ G (.pan y, F, S')) : wpOpsIn (fw r0) m0 P ops Q (i :: rest) a w := by
  simp only [runOps] at h
  simp only [wpOpsIn, hoi]
  rcases cOper_say (P := P) (n := n) (ops := ops) (o := o) with ⟨hgd, hb⟩ | ⟨hdst, hlt, hcop, hg⟩
  · exfalso
    rw [hgd, hb] at h
    simp only [wantA, aop, R.bind_no] at h
    exact h
  · cases hwa : wantA F (cOper P ops n o).gd with
    | none => rw [hwa] at h; exact h.elim
    | some wb =>
      rw [hwa] at h
      have hw := wantA_say hF hg hwa
      cases wb with
      | false =>
        rw [if_neg (by rw [hw]; simp)]
        simp only at h
        rw [hdst] at h
        have hu : Rel ρ undefA undef := ⟨[], rfl, rfl⟩
        refine ⟨fun _ _ => trivial, ?_⟩
        exact hK _ _ ρ _ w h (Ext.refl _) (hF.put hlt hu a.defers) (by rw [put_defers]; exact hd) hS
      | true =>
        rw [if_pos hw]
        simp only at h
        rw [hdst] at h
        refine oper_sound hcall henv h0 hF hS hcop (R.All.bind h) ?_ ?_
        · intro p ρ1 v w1 hT he hr hS1
          split at hT
          · rename_i y hq; exact absurd hq (isPan_of hr y)
          exact hK _ _ ρ1 _ w1 hT he ((hF.ext he).put hlt hr a.defers) (by rw [put_defers]; exact hd) hS1
        · intro p ρ1 y v w1 hT hp he hr hS1
          simp only [hp] at hT
          exact absurd hT (hP y _)
def RvAs (ρ : Emb) (rv : AV) (u u' : FrameMode) : Prop :=
  (u = .returning ∧ u' = .returning ∧ rv = .nili) ∨ ∃ v, u = .panicking [{ v, recovered := false }] ∧ u' = .panicking [{ v, recovered := true }] ∧ Rel ρ rv v
theorem callR_sound (hm : P.follows .mixedOrders = true) {kp : Nat → List Nat} {L : Nat} {ρ0 : Emb} {env : Env} {call : CallF} (hcall : CallOk P w0 ρ0 call) (henv : EnvOk P w0 ρ0 env) (h0 : Ext ρ0 ρ) {g : Nat} {args : List AV} {cargs : List Value} {rv : AV} {u u' : FrameMode}
    (hr : RelL ρ args cargs) (hS : RS w0 ρ S w) (hrv : RvAs ρ rv u u') {T : AS → Prop} (hT : (callR (ctxE P kp env) call L g args rv S).All T) :
    (∀ w', (callFunc g cargs.toArray).run P w' = .ok (.enter g cargs.toArray) w') ∧
    CallsD P g cargs.toArray u w fun e uu w' => (∃ v, e = .returned v) ∧ uu = u' ∧ ∃ S' ρ', T S' ∧ Ext ρ ρ' ∧ RS w0 ρ' S' w' := by
  unfold callR at hT
  split at hT
  case h_1 => exact hT.elim
  rename_i fn hfn
  simp only [ctxE] at hfn
  cases hf : P.funcs[g]? with
  | none => rw [hf] at hfn; cases hfn
  | some fu =>
  rw [hf] at hfn
  simp only [Option.bind_some] at hfn
  split at hT
  case h_2 => exact hT.elim
  rename_i dst hk
  rcases cFnM_say hfn with ⟨_, _, _, _, _, _, _, h1⟩ | hfn
  · rw [hk] at h1; cases h1
  obtain ⟨c, rs, hb, hrs, hnm, hn, hres, hkind⟩ := cFn_say hfn
  rcases hkind with ⟨h1, _⟩ | ⟨id, ops, rest, o, os, rfl, hos, hrcv, hdok, hnc, h1, hcode⟩ | ⟨_, _, _, _, _, _, _, _, _, _, _, h1, _⟩
  · rw [hk] at h1; cases h1
  case inr.inr => rw [hk] at h1; cases h1
  rw [hk] at h1
  cases h1
  cases hle : Nat.ble args.length fn.ntmps with
  | false => rw [hle] at hT; exact hT.elim
  | true =>
  rw [hle] at hT
  simp only [cond_true] at hT
  have hle' : args.length ≤ fu.ntmps := by rw [← hn]; simpa using hle
  refine ⟨fun w' => callFunc_enter hf hb hnm _ w', callsD_of_wpS hf hb fun c₀ cs hu => ?_⟩
  have hT := R.All.bind hT
  rw [hcode] at hT
  simp only [runC] at hT
  have hT := R.All.bind hT
  have hF0 := FRel.start hr hle'
  have hdlt : ∀ t, o.dst = some t → t < fu.ntmps := fun t ht => by rw [ht] at hdok; simpa [cDok] using hdok
  refine wpS_seq (wpS_region ?_)
  have hsz : ops.size = os.length + 1 := by rw [← Array.length_toList, hos]; rfl
  have ho0 : ops[0]? = some o := by
    have : ops.toList[0]? = some o := by rw [hos]; rfl
    simpa using this
  have hdrop : ops.toList.drop 1 = os := by rw [hos]; rfl
  rw [hsz, List.range_eq_range', List.range'_succ]
  have hrun := run_rcv (P := P) hrcv { tmps := cargs.toArray ++ Array.replicate (fu.ntmps - cargs.toArray.size) undef, defers := [] } w
  simp only [wpOpsS, ho0]
  have hwant : Region.wanted o (yielded ops (cargs.toArray ++ Array.replicate (fu.ntmps - cargs.toArray.size) undef)) = true := by simp [Region.wanted, hrun.1]
  rw [if_pos hwant, hrun.2]
  simp only
  have fin : ∀ (v : Value) (cs' : List Frame), Rel ρ rv v → (∃ uu, uu = u' ∧ cs' = { c₀ with mode := uu } :: cs) →
      wpOpsS P ops (Exit.thenS (rest.wpS P (bodyPostS P fu c₀ cs fun e uu w' => (∃ v, e = .returned v) ∧ uu = u' ∧ ∃ S' ρ', T S' ∧ Ext ρ ρ' ∧ RS w0 ρ' S' w')) (bodyPostS P fu c₀ cs fun e uu w' => (∃ v, e = .returned v) ∧ uu = u' ∧ ∃ S' ρ', T S' ∧ Ext ρ ρ' ∧ RS w0 ρ' S' w'))
        (List.range' (0 + 1) os.length) (({ tmps := cargs.toArray ++ Array.replicate (fu.ntmps - cargs.toArray.size) undef, defers := [] } : Act).put o.dst v) cs' w := by
    rintro v cs' hv ⟨uu, hu', rfl⟩
    have hF1 : FRel ρ fu.ntmps ((params 0 args).put o.dst rv) (({ tmps := cargs.toArray ++ Array.replicate (fu.ntmps - cargs.toArray.size) undef, defers := [] } : Act).put o.dst v).tmps := hF0.put hdlt hv []
    refine opsS_sound (call := call) (kp := kp) (env := env) (ds := []) os 1 hdrop hnc _ S ρ _ w hF1 (by rw [put_defers]) hS (R.All.mono hT ?_)
    rintro ⟨e, F', S'⟩ hq ρ1 z a1 w1 he1 hx hF' hd' hS'
    have endq : ∀ (ρ2 : Emb) (e2 : AE) (z2 : Exit) (F2 : Fr) (S2 : AS) (a2 : Act) (w2 : World), (e2 = .norm ∧ z2 = .normal) ∨ (e2 = .ret ∧ z2 = .ret) → (endR fn (e2, F2, S2)).All T → Ext ρ ρ2 → FRel ρ2 fu.ntmps F2 a2.tmps → a2.defers = [] → RS w0 ρ2 S2 w2 →
        bodyPostS P fu c₀ cs (fun e uu w' => (∃ v, e = .returned v) ∧ uu = u' ∧ ∃ S' ρ', T S' ∧ Ext ρ ρ' ∧ RS w0 ρ' S' w') z2 a2 ({ c₀ with mode := uu } :: cs) w2 := by
      intro ρ2 e2 z2 F2 S2 a2 w2 hz hend he2 hF2 hd2 hS2
      have hres' : ∃ l, resV F2 S2 rs = some l ∧ T S2 := by
        unfold endR at hend
        split at hend
        · exact hend.elim
        · exact hend.elim
        · simp only [hres] at hend
          cases hl : resV F2 S2 rs with
          | none => rw [hl] at hend; exact hend.elim
          | some l => rw [hl] at hend; exact ⟨l, rfl, hend⟩
      obtain ⟨l, hl, hTl⟩ := hres'
      obtain ⟨v2, _, hrun2⟩ := results_run hF2 hS2 hrs hl
      have done : a2.defers = [] ∧ ∃ uv, ({ c₀ with mode := uu } :: cs : List Frame) = { c₀ with mode := uv } :: cs ∧ ∃ v, (results fu a2.tmps).run P w2 = .ok v w2 ∧ (∃ v', Ending.returned v = .returned v') ∧ uv = u' ∧ ∃ S' ρ', T S' ∧ Ext ρ ρ' ∧ RS w0 ρ' S' w2 :=
        ⟨hd2, uu, rfl, v2, hrun2, ⟨v2, rfl⟩, hu', S2, ρ2, hTl, he2, hS2⟩
      rcases hz with ⟨_, rfl⟩ | ⟨_, rfl⟩ <;> exact done
    cases e with
    | norm =>
      obtain rfl := hx
      refine wpS_of_wp ((wpIn_wide (n := 0)).1 (code_sound (r0 := none) (m0 := 0) hm hcall henv rest _ _ ρ1 a1 w1 [] _ (h0.trans he1) hF' hd' hS' (R.All.mono hq ?_)))
      rintro ⟨e2, F2, S2⟩ hq2 ρ2 z2 a2 w2 he2 hx2 hF2 hd2 hS2
      cases e2 with
      | norm => obtain rfl := hx2; exact endq ρ2 _ _ F2 S2 a2 w2 (.inl ⟨rfl, rfl⟩) hq2 (he1.trans he2) hF2 hd2 hS2
      | ret => obtain rfl := hx2; exact endq ρ2 _ _ F2 S2 a2 w2 (.inr ⟨rfl, rfl⟩) hq2 (he1.trans he2) hF2 hd2 hS2
      | exit id => exact hq2.elim
      | pan y => exact hq2.elim
    | ret => obtain rfl := hx; exact endq ρ1 _ _ F' S' a1 w1 (.inr ⟨rfl, rfl⟩) hq he1 hF' hd' hS'
    | exit id => exact hq.elim
    | pan y => exact hq.elim
  rcases hrv with ⟨rfl, rfl, rfl⟩ | ⟨v, rfl, rfl, hv⟩
  · have : recoverD (c₀ :: cs) = none := by simp [recoverD, hu]
    rw [this]
    exact fin .nilIface _ rfl ⟨c₀.mode, hu, rfl⟩
  · have : recoverD (c₀ :: cs) = some (v, { c₀ with mode := .panicking [{ v, recovered := true }] } :: cs) := by simp [recoverD, hu]
    rw [this]
    exact fin v _ hv ⟨_, rfl, rfl⟩
def GivOk (P : Program) (w0 : World) (ρ0 : Emb) (G : Giv) : Prop :=
  ∀ f g, G f = some g → ∀ (args : List AV) (S : AS) (ρ : Emb) (w : World) (cargs : List Value), Ext ρ0 ρ → RS w0 ρ S w → RelL ρ args cargs → ∀ T : AV × AS → Prop, (g args S).All T →
    (∀ w', (callFunc f cargs.toArray).run P w' = .ok (.enter f cargs.toArray) w') ∧
    Calls P f cargs.toArray w fun e w' => ∃ p ρ', EndsAs ρ' p.1 e ∧ T p ∧ Ext ρ ρ' ∧ RS w0 ρ' p.2 w'
theorem GivOk.none {P : Program} {w0 : World} {ρ0 : Emb} : GivOk P w0 ρ0 fun _ => none := fun _ _ h => by cases h
theorem GivOk.ext {P : Program} {w0 : World} {ρ0 ρ1 : Emb} {G : Giv} (h : GivOk P w0 ρ0 G) (he : Ext ρ0 ρ1) : GivOk P w0 ρ1 G := fun f g hg args S ρ w cargs h1 => h f g hg args S ρ w cargs (he.trans h1)
theorem call_sound (hm : P.follows .mixedOrders = true) {kp : Nat → List Nat} {L : Nat} {G : Giv} (hGF : GivFro G) : ∀ (d : Nat) {ρ0 : Emb} {env : Env}, GivOk P w0 ρ0 G → EnvOk P w0 ρ0 env → EnvFro env → CallOk P w0 ρ0 (callE G L d (ctxE P kp env))
  | 0, _, _, _, _, _ => fun _ _ _ _ _ _ _ _ _ _ h => h.elim
  | d + 1, ρ0, env, hG, henv, hE => by
    intro f args S ρ w cargs h0 hS hr T hT
    have henv' := henv.ext h0
    have ihc : CallOk P w0 ρ (callE G L d (ctxE P kp env)) := call_sound hm hGF d (hG.ext h0) henv' hE
    simp only [callE] at hT
    split at hT
    · rename_i g hg
      exact hG f g hg args S ρ w cargs h0 hS hr T hT
    split at hT
    case h_1 => exact hT.elim
    rename_i fn hfn
    cases hle : Nat.ble args.length fn.ntmps with
    | false => rw [hle] at hT; exact hT.elim
    | true =>
    rw [hle] at hT
    simp only [cond_true] at hT
    simp only [ctxE] at hfn
    cases hf : P.funcs[f]? with
    | none => rw [hf] at hfn; cases hfn
    | some fu =>
    rw [hf] at hfn
    simp only [Option.bind_some] at hfn
    rcases cFnM_say hfn with ⟨c, rs, hb, hrs, hnm, hn, hres, hk⟩ | hfn
    ·
      rw [hk] at hT
      simp only at hT
      have hT := R.All.bind (merge_all (R.All.bind hT))
      have hle' : args.length ≤ fu.ntmps := by rw [← hn]; simpa using hle
      have hS0 : RS w0 ρ ⟨S.objs, S.n, S.n⟩ w := hS.mw rfl rfl
      have hF0 := FRel.start hr hle'
      refine ⟨fun w' => callFunc_enter hf hb hnm _ w', calls_fw (r := none) (n := 0) (callsIn_of_wp_marks hf hb trivial ?_)⟩
      have hT := R.All.and hT fun r hr => runM_fro (fun e he => callE_fro hGF d (ctxE P kp e) he) (C := ctxE P kp env) hE L _ _ _ _ r hr
      refine codeM_sound hm (callc := fun e => callE G L d (ctxE P kp e)) (ρ0 := ρ) ?_ (fun e he => callE_fro hGF d (ctxE P kp e) he) henv' hE c _ _ ρ _ w [] _ (Ext.refl _) hF0 rfl hS0 (R.All.mono hT ?_)
      · intro ρ1 env1 he1 hv1 hf1
        exact call_sound hm hGF d (hG.ext (h0.trans he1)) hv1 hf1
      · rintro ⟨⟨e, F', S'⟩, ms⟩ ⟨hres1, hfro, hms⟩ ρ' z a' w' he hx hF' hM' hS'
        simp only at hfro hms
        have hms' : ∀ m ∈ ms, S.n ≤ m := fun m hm => (hms m hm).elim (fun h => by cases h) id
        have fin : e = .norm ∨ e = .ret → LeavesInM (fw none) 0 P fu a'.tmps (fun e w' => ∃ p ρ', EndsAs ρ' p.1 e ∧ T p ∧ Ext ρ ρ' ∧ RS w0 ρ' p.2 w') a'.defers .returning w' := by
          intro hee
          refine marks_leave (by simp) ms _ S' w' hM' hS' fun w2 hS2 => ?_
          have hres' : ∃ l, resV F' (shutL ms S') rs = some l ∧ T (resOne l, match finS S (resOne l) (shutL ms S') with | none => S | some S' => S') := by
            unfold finM at hres1
            rcases hee with rfl | rfl <;>
            · simp only [hres] at hres1
              cases hl : resV F' (shutL ms S') rs with
              | none => rw [hl] at hres1; exact hres1.elim
              | some l => rw [hl] at hres1; exact ⟨l, rfl, hres1⟩
          obtain ⟨l, hl, hTl⟩ := hres'
          obtain ⟨v, hrv, hrun⟩ := results_run hF' hS2 hrs hl
          refine ⟨v, hrun, ?_⟩
          have hf2 := Fro.shutL ms hfro hms'
          cases hs : (AV.scalar (resOne l) && Nat.ble S.n (shutL ms S').mw) with
          | true =>
            have hfs : finS S (resOne l) (shutL ms S') = none := by simp only [finS, hs, cond_true]
            rw [hfs] at hTl
            simp only [Bool.and_eq_true, Nat.ble_eq] at hs
            exact ⟨_, ρ.mix ρ', .inl ⟨v, rfl, Rel.scalar hs.1 hrv⟩, hTl, he.mix, hS.back hS2 he fun u hu => hf2.get u hu (by omega)⟩
          | false =>
            have hfs : finS S (resOne l) (shutL ms S') = some ⟨(shutL ms S').objs, (shutL ms S').n, bif Nat.blt S.mw (shutL ms S').mw then S.mw else (shutL ms S').mw⟩ := by simp only [finS, hs, cond_false]
            rw [hfs] at hTl
            exact ⟨_, ρ', .inl ⟨v, rfl, hrv⟩, hTl, he, hS2.mw rfl rfl⟩
        cases e with
        | norm => obtain rfl := hx; exact fin (.inl rfl)
        | ret => obtain rfl := hx; exact fin (.inr rfl)
        | exit id => exact hres1.elim
        | pan y => exact hres1.elim
    obtain ⟨c, rs, hb, hrs, hnm, hn, hres, hkind⟩ := cFn_say hfn
    have hnr : ∀ m, fn.kind ≠ .rng m := by
      intro m hm
      rcases hkind with ⟨hk, _⟩ | ⟨_, _, _, _, _, _, _, _, _, _, hk, _⟩ | ⟨_, _, _, _, _, _, _, _, _, _, _, hk, _⟩ <;> (rw [hm] at hk; cases hk)
    split at hT
    · rename_i m hk; exact absurd hk (hnr m)
    have hT := R.All.bind (merge_all (R.All.bind hT))
    have hT := R.All.and hT fun r hr => runB_fro hE (callE_fro hGF d _ hE) r hr
    have hle' : args.length ≤ fu.ntmps := by rw [← hn]; simpa using hle
    have hS0 : RS w0 ρ ⟨S.objs, S.n, S.n⟩ w := hS.mw rfl rfl
    have hF0 := FRel.start hr hle'
    refine ⟨fun w' => callFunc_enter hf hb hnm _ w', ?_⟩
    have finV : ∀ (e : AE) (F' : Fr) (S' : AS) (ρ' : Emb) (tmps' : Array Value) (w' : World), e = .norm ∨ e = .ret → (finR fn S (e, F', S')).All (fun q => (unR S q).All T) → Fro ⟨S.objs, S.n, S.n⟩ S' → Ext ρ ρ' → FRel ρ' fu.ntmps F' tmps' → RS w0 ρ' S' w' →
        ∃ v, (results fu tmps').run P w' = .ok v w' ∧ ∃ p ρ', EndsAs ρ' p.1 (.returned v) ∧ T p ∧ Ext ρ ρ' ∧ RS w0 ρ' p.2 w' := by
      intro e F' S' ρ' tmps' w' hee hres1 hfro he hF' hS'
      have hres' : ∃ l, resV F' S' rs = some l ∧ T (resOne l, match finS S (resOne l) S' with | none => S | some S' => S') := by
        unfold finR at hres1
        rcases hee with rfl | rfl <;>
        · simp only [hres] at hres1
          cases hl : resV F' S' rs with
          | none => rw [hl] at hres1; exact hres1.elim
          | some l => rw [hl] at hres1; exact ⟨l, rfl, hres1⟩
      obtain ⟨l, hl, hTl⟩ := hres'
      obtain ⟨v, hrv, hrun⟩ := results_run hF' hS' hrs hl
      refine ⟨v, hrun, ?_⟩
      cases hs : (AV.scalar (resOne l) && Nat.ble S.n S'.mw) with
      | true =>
        have hfs : finS S (resOne l) S' = none := by simp only [finS, hs, cond_true]
        rw [hfs] at hTl
        simp only [Bool.and_eq_true, Nat.ble_eq] at hs
        exact ⟨_, ρ.mix ρ', .inl ⟨v, rfl, Rel.scalar hs.1 hrv⟩, hTl, he.mix, hS.back hS' he fun u hu => hfro.get u hu (by omega)⟩
      | false =>
        have hfs : finS S (resOne l) S' = some ⟨S'.objs, S'.n, bif Nat.blt S.mw S'.mw then S.mw else S'.mw⟩ := by simp only [finS, hs, cond_false]
        rw [hfs] at hTl
        exact ⟨_, ρ', .inl ⟨v, rfl, hrv⟩, hTl, he, hS'.mw rfl rfl⟩
    have finP : ∀ (y : AV) (F' : Fr) (S' : AS) (ρ' : Emb) (v : Value) (w' : World), (finR fn S (.pan y, F', S')).All (fun q => (unR S q).All T) → Ext ρ ρ' → Rel ρ' y v → RS w0 ρ' S' w' →
        ∃ p ρ', EndsAs ρ' p.1 (.panicked [{ v, recovered := false }]) ∧ T p ∧ Ext ρ ρ' ∧ RS w0 ρ' p.2 w' := by
      intro y F' S' ρ' v w' hres1 he hv hS'
      have hfs : finS S (.pan y) S' = some ⟨S'.objs, S'.n, bif Nat.blt S.mw S'.mw then S.mw else S'.mw⟩ := by simp only [finS, AV.scalar, Bool.false_and, cond_false]
      have hTl : T (.pan y, ⟨S'.objs, S'.n, bif Nat.blt S.mw S'.mw then S.mw else S'.mw⟩) := by
        unfold finR at hres1
        simp only [hfs] at hres1
        exact hres1
      exact ⟨_, ρ', .inr ⟨y, v, rfl, rfl, hv⟩, hTl, he, hS'.mw rfl rfl⟩
    rcases hkind with ⟨hk, hcode⟩ | ⟨_, _, _, _, _, _, _, _, _, _, hk, _⟩ | ⟨id, ops, id2, ops2, rest2, o1, o2, t, rfl, ho2, hdf, hk, hcode⟩
    ·
      refine calls_of_wp hf hb ((wpIn_wide (n := 0)).1 ?_)
      simp only [runB, hk, hcode] at hT
      refine code_sound (r0 := none) (m0 := 0) hm ihc henv' c _ _ ρ _ w [] _ (Ext.refl _) hF0 rfl hS0 (R.All.mono hT ?_)
      rintro ⟨e, F', S'⟩ ⟨hres1, hfro⟩ ρ' z a' w' he hx hF' hd' hS'
      simp only at hres1 hfro
      cases e with
      | norm => obtain rfl := hx; obtain ⟨v, h1, h2⟩ := finV _ F' S' ρ' a'.tmps w' (.inl rfl) hres1 hfro he hF' hS'; exact ⟨hd', v, h1, h2⟩
      | ret => obtain rfl := hx; obtain ⟨v, h1, h2⟩ := finV _ F' S' ρ' a'.tmps w' (.inr rfl) hres1 hfro he hF' hS'; exact ⟨hd', v, h1, h2⟩
      | exit id => exact hres1.elim
      | pan y => obtain ⟨v, rfl, hv⟩ := hx; exact ⟨hd', finP y F' S' ρ' v w' hres1 he hv hS'⟩
    · simp only [runB, hk] at hT; exact hT.elim
    ·
      refine calls_of_wp_defers hf hb ((wpIn_wide (n := 0)).1 ?_)
      simp only [runB, hk, hcode] at hT
      have hTf := hT
      have hT := R.All.bind (R.All.mono hT fun _ h => h)
      simp only [runC] at hT
      refine wpIn_seq (wpIn_region ?_)
      rw [List.range_eq_range', ← Array.length_toList]
      refine ops_sound (r0 := none) (m := 0) (ds := []) ihc henv' ops.toList 0 rfl _ _ ρ _ w (Ext.refl _) hF0 rfl hS0 (R.All.mono hT ?_)
      rintro ⟨e, F1, S1⟩ h1 ρ1 z a1 w1 he1 hx1 hF1 hd1 hS1
      cases e with
      | exit id => exact h1.elim
      | ret => exact h1.elim
      | pan y => exact h1.elim
      | norm =>
      obtain rfl := hx1
      simp only at h1
      refine wpIn_seq (wpIn_region ?_)
      have hsz : ops2.size = 2 := by rw [← Array.length_toList, ho2]; rfl
      have hr2 : List.range ops2.size = [0, 1] := by rw [hsz]; rfl
      have g0 : ops2[0]? = some o1 := by
        have : ops2.toList[0]? = some o1 := by rw [ho2]; rfl
        simpa using this
      have g1 : ops2[1]? = some o2 := by
        have : ops2.toList[1]? = some o2 := by rw [ho2]; rfl
        simpa using this
      rw [hr2]
      refine op1_sound (r0 := none) (m0 := 0) (kp := kp) (ds := []) ihc henv' he1 g0 hF1 hd1 hS1 (R.All.bind h1) ?_ (fun _ _ h => h)
      intro F2 S2 ρ2 a2 w2 h2 he2 hF2 hd2 hS2
      simp only at h2
      unfold runF at h2
      split at h2
      case h_2 => exact h2.elim
      rename_i g first cap hg
      have hgv := hF2.get t
      rw [hg] at hgv
      simp only [Rel] at hgv
      obtain ⟨first', cap', hfi, hca, hgv⟩ := hgv
      obtain ⟨d1, d2, d3⟩ := run_dfr (P := P) hdf a2 w2 hgv
      have hw : Region.wanted o2 (yielded ops2 a2.tmps) = true := by simp [Region.wanted, d1]
      simp only [wpOpsIn, g1]
      rw [if_pos hw]
      refine ⟨fun _ _ => trivial, ?_⟩
      rw [fw_round, Oper.semAt_none, d3, Oper.uponIn_defer, d2]
      simp only [Act.put, Exit.then]
      refine code_sound (r0 := none) (m0 := 0) hm ihc henv' rest2 F2 S2 ρ2 _ w2 [{ target := .fn (.func g) ⟨cap'⟩, args := ⟨first'⟩ }] _ (he1.trans he2) hF2 (by rw [hd2]) hS2 (R.All.mono (R.All.bind h2) ?_)
      rintro ⟨e3, F3, S3⟩ h3 ρ3 z3 a3 w3 he3 hx3 hF3 hd3 hS3
      have hargs : RelL ρ3 (first ++ cap) (first' ++ cap') := RelL.append (RelL.ext (he3) _ _ hfi) (RelL.ext (he3) _ _ hca)
      have harr : (⟨first'⟩ ++ ⟨cap'⟩ : Array Value) = (first' ++ cap').toArray := by simp
      have he03 := (he1.trans he2).trans he3
      have leave : ∀ (rv : AV) (u u' : FrameMode), u ≠ .run → RvAs ρ3 rv u u' → settle u' = .returning → (callR (ctxE P kp env) (callE G L d (ctxE P kp env)) L g (first ++ cap) rv S3).All (fun S4 => (finR fn S (.ret, F3, S4)).All (fun q => (unR S q).All T) ∧ Fro ⟨S.objs, S.n, S.n⟩ S4) →
          Leaves P fu a3.tmps (fun e w' => ∃ p ρ', EndsAs ρ' p.1 e ∧ T p ∧ Ext ρ ρ' ∧ RS w0 ρ' p.2 w') a3.defers u w3 := by
        intro rv u u' hu hrv hset hcr
        rw [hd3]
        obtain ⟨q1, q2⟩ := callR_sound hm ihc henv' he03 hargs hS3 hrv hcr
        refine leaves_cons hu (f := g) (args := (first' ++ cap').toArray) ?_ (q2.mono ?_)
        · simp only [invoke, harr]; exact q1 w3
        · rintro e4 uu w4 ⟨⟨v4, rfl⟩, rfl, S4, ρ4, ⟨hT4, hf4⟩, he4, hS4⟩
          simp only [hset]
          obtain ⟨v, h5, h6⟩ := finV _ F3 S4 ρ4 a3.tmps w4 (.inr rfl) hT4 hf4 (he03.trans he4) (hF3.ext he4) hS4
          exact ⟨v, h5, h6⟩
      cases e3 with
      | norm => obtain rfl := hx3; exact leave .nili .returning .returning (by simp) (.inl ⟨rfl, rfl, rfl⟩) rfl (R.All.bind h3)
      | ret => obtain rfl := hx3; exact leave .nili .returning .returning (by simp) (.inl ⟨rfl, rfl, rfl⟩) rfl (R.All.bind h3)
      | pan y => obtain ⟨v, rfl, hv⟩ := hx3; exact leave y _ _ (by simp) (.inr ⟨v, rfl, rfl, hv⟩) rfl (R.All.bind h3)
      | exit id => exact h3.elim
theorem RS.start (w : World) (fz : Nat → Option (Nat × Obj)) (N : Nat) (hN : N ≤ w.heap.size) (h : ∀ k z ob, fz k = some (z, ob) → w.heap[k]? = some ob) : RS w ⟨fun _ _ => none, fz, N⟩ ⟨.nil, 0, 0⟩ w := by
  have hg : ∀ v, AS.get ⟨.nil, 0, 0⟩ v = none := fun v => BT.get_nil v
  refine ⟨Below.refl _ _, (fun _ _ _ h => by cases h), (fun v o h => ?_), (fun v o h => ?_), (fun v o h => ?_), (fun v v' g g' b b' o o' _ h => ?_), fun k z ob hk => ⟨h k z ob hk, fun v g b o h => ?_⟩, hN⟩ <;> (rw [hg] at h; cases h)
theorem RS.start0 (w : World) : RS w Emb.nil ⟨.nil, 0, 0⟩ w := RS.start w _ 0 (Nat.zero_le _) fun _ _ _ h => by cases h
end
end Go.Proofs.Ytednmmcdjhfflaa.Vai
