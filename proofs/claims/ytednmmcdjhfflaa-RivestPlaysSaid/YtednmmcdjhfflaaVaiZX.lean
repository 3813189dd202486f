/- A text of this claim. -/
import Derived.Test.YtednmmcdjhfflaaVaiZW
namespace Go.Proofs.Ytednmmcdjhfflaa.Vai
open Go
set_option linter.unusedSimpArgs false
set_option linter.unusedVariables false
mutual
def AV.low (m : Nat) : AV → Bool
  | .ptr v _ _ _ => Nat.blt v m
  | .slice v _ _ _ _ _ => Nat.blt v m
  | .map v => Nat.blt v m
  | .yld v => Nat.blt v m
  | .fn _ a c => AV.lowL m a && AV.lowL m c
  | .ifc _ x => AV.low m x
  | .agg l => AV.lowL m l
  | .tup l => AV.lowL m l
  | .row _ _ _ l => AV.lowL m l
  | .fp _ l _ => AV.lowL m l
  | _ => true
def AV.lowL (m : Nat) : List AV → Bool
  | [] => true
  | a :: l => AV.low m a && AV.lowL m l
end
structure LowE (m : Nat) (ρ ρ' : Emb) : Prop where
  at_ : ∀ v g b, v < m → ρ v g = some b → ρ' v g = some b
  fz : ∀ k x, ρ.fz k = some x → ρ'.fz k = some x
mutual
theorem Rel.low {m : Nat} {ρ ρ' : Emb} (h : LowE m ρ ρ') : ∀ (a : AV) (v : Value), a.low m = true → Rel ρ a v → Rel ρ' a v
  | .any, _, hs, r => by simp [Rel] at r ⊢
  | .cst _, _, hs, r => by simpa [Rel] using r
  | .bool _, _, hs, r => by simpa [Rel] using r
  | .int _ _, _, hs, r => by simpa [Rel] using r
  | .str _, _, hs, r => by simpa [Rel] using r
  | .nilp, _, hs, r => by simpa [Rel] using r
  | .ptr v g o e, _, hs, r => by
    simp only [AV.low, Bool.and_eq_true] at hs
    simp only [Rel] at r ⊢
    obtain ⟨b, hb, h1, h2⟩ := r
    exact ⟨b, h.at_ _ _ _ (by simpa using hs) hb, h1, h2⟩
  | .nils, _, hs, r => by simpa [Rel] using r
  | .slice v g q len lim sz, _, hs, r => by
    simp only [AV.low, Bool.and_eq_true] at hs
    simp only [Rel] at r ⊢
    obtain ⟨b, c, hb, h1⟩ := r
    exact ⟨b, c, h.at_ _ _ _ (by simpa using hs) hb, h1⟩
  | .emp _, _, hs, r => by simpa [Rel] using r
  | .nilm, _, hs, r => by simpa [Rel] using r
  | .map m, _, hs, r => by
    simp only [AV.low, Bool.and_eq_true] at hs
    simp only [Rel] at r ⊢
    obtain ⟨b, hb, h1⟩ := r
    exact ⟨b, h.at_ _ _ _ (by simpa using hs) hb, h1⟩
  | .nilf, _, hs, r => by simpa [Rel] using r
  | .fn f a c, _, hs, r => by
    simp only [AV.low, Bool.and_eq_true] at hs
    simp only [Rel] at r ⊢
    obtain ⟨a', c', h1, h2, h3⟩ := r
    exact ⟨a', c', RelL.low h a a' hs.1 h1, RelL.low h c c' hs.2 h2, h3⟩
  | .nili, _, hs, r => by simpa [Rel] using r
  | .ifc t x, _, hs, r => by
    simp only [AV.low, Bool.and_eq_true] at hs
    simp only [Rel] at r ⊢
    obtain ⟨y, h1, h2⟩ := r
    exact ⟨y, Rel.low h x y hs h1, h2⟩
  | .agg l, _, hs, r => by
    simp only [AV.low, Bool.and_eq_true] at hs
    simp only [Rel] at r ⊢
    obtain ⟨l', h1, h2⟩ := r
    exact ⟨l', RelL.low h l l' hs h1, h2⟩
  | .tup l, _, hs, r => by
    simp only [AV.low, Bool.and_eq_true] at hs
    simp only [Rel] at r ⊢
    obtain ⟨l', h1, h2⟩ := r
    exact ⟨l', RelL.low h l l' hs h1, h2⟩
  | .pan _, _, hs, r => by simp [Rel] at r
  | .yld v, _, hs, r => by
    simp only [AV.low, Bool.and_eq_true] at hs
    simp only [Rel] at r ⊢
    obtain ⟨b, hb, h1⟩ := r
    exact ⟨b, h.at_ _ _ _ (by simpa using hs) hb, h1⟩
  | .row z sz n cs, _, hs, r => by
    simp only [AV.low, Bool.and_eq_true] at hs
    simp only [Rel] at r ⊢
    obtain ⟨o, c, h1, h2, h3, h4⟩ := r
    refine ⟨o, c, h1, h2, h3, h4.imp id ?_⟩
    rintro ⟨k, off, ob, q1, q2, q3⟩
    exact ⟨k, off, ob, q1, q2.imp fun z' q => ⟨h.fz _ _ q.1, q.2⟩, RelC.low h ob cs off hs q3⟩
  | .fp z cs o, _, hs, r => by
    simp only [AV.low, Bool.and_eq_true] at hs
    simp only [Rel] at r ⊢
    obtain ⟨k, off, ob, q1, q2, q3⟩ := r
    exact ⟨k, off, ob, q1, q2.imp fun z' q => ⟨h.fz _ _ q.1, q.2⟩, RelC.low h ob cs off hs q3⟩
theorem RelC.low {m : Nat} {ρ ρ' : Emb} (h : LowE m ρ ρ') (ob : Obj) : ∀ (cs : List AV) (i : Nat), AV.lowL m cs = true → RelC ρ ob cs i → RelC ρ' ob cs i
  | [], _, hs, _ => by simp [RelC]
  | a :: as, i, hs, r => by
    simp only [AV.lowL, Bool.and_eq_true] at hs
    simp only [RelC] at r ⊢
    obtain ⟨⟨y, h1, h2⟩, h3⟩ := r
    exact ⟨⟨y, h1, Rel.low h a y hs.1 h2⟩, RelC.low h ob as (i + 1) hs.2 h3⟩
theorem RelL.low {m : Nat} {ρ ρ' : Emb} (h : LowE m ρ ρ') : ∀ (a : List AV) (v : List Value), AV.lowL m a = true → RelL ρ a v → RelL ρ' a v
  | [], _, hs, r => by simpa [RelL] using r
  | x :: xs, _, hs, r => by
    simp only [AV.lowL, Bool.and_eq_true] at hs
    simp only [RelL] at r ⊢
    obtain ⟨y, ys, e, h1, h2⟩ := r
    exact ⟨y, ys, e, Rel.low h x y hs.1 h1, RelL.low h xs ys hs.2 h2⟩
end
mutual
theorem AV.low_mono {m n : Nat} (h : m ≤ n) : ∀ a : AV, a.low m = true → a.low n = true
  | .ptr v _ _ _, hs => by simp only [AV.low, Nat.blt_eq] at hs ⊢; omega
  | .slice v _ _ _ _ _, hs => by simp only [AV.low, Nat.blt_eq] at hs ⊢; omega
  | .map v, hs => by simp only [AV.low, Nat.blt_eq] at hs ⊢; omega
  | .yld v, hs => by simp only [AV.low, Nat.blt_eq] at hs ⊢; omega
  | .fn _ a c, hs => by simp only [AV.low, Bool.and_eq_true] at hs ⊢; exact ⟨AV.lowL_mono h a hs.1, AV.lowL_mono h c hs.2⟩
  | .ifc _ x, hs => by simp only [AV.low] at hs ⊢; exact AV.low_mono h x hs
  | .agg l, hs => by simp only [AV.low] at hs ⊢; exact AV.lowL_mono h l hs
  | .tup l, hs => by simp only [AV.low] at hs ⊢; exact AV.lowL_mono h l hs
  | .row _ _ _ l, hs => by simp only [AV.low] at hs ⊢; exact AV.lowL_mono h l hs
  | .fp _ l _, hs => by simp only [AV.low] at hs ⊢; exact AV.lowL_mono h l hs
  | .any, _ => rfl
  | .cst _, _ => rfl
  | .bool _, _ => rfl
  | .int _ _, _ => rfl
  | .str _, _ => rfl
  | .nilp, _ => rfl
  | .nils, _ => rfl
  | .emp _, _ => rfl
  | .nilm, _ => rfl
  | .nilf, _ => rfl
  | .nili, _ => rfl
  | .pan _, _ => rfl
theorem AV.lowL_mono {m n : Nat} (h : m ≤ n) : ∀ l : List AV, AV.lowL m l = true → AV.lowL n l = true
  | [], _ => rfl
  | a :: l, hs => by
    simp only [AV.lowL, Bool.and_eq_true] at hs ⊢
    exact ⟨AV.low_mono h a hs.1, AV.lowL_mono h l hs.2⟩
end
theorem lowL_get {m : Nat} : ∀ {cs : List AV} {i : Nat} {x : AV}, AV.lowL m cs = true → cs[i]? = some x → x.low m = true
  | c :: cs, 0, x, h, hx => by
    simp only [AV.lowL, Bool.and_eq_true] at h
    cases hx
    exact h.1
  | c :: cs, i + 1, x, h, hx => by
    simp only [AV.lowL, Bool.and_eq_true] at h
    exact lowL_get h.2 (by simpa using hx)
  | [], _, _, _, hx => by simp at hx
def Emb.cut (ρ : Emb) (m : Nat) : Emb := ⟨fun v g => if v < m then ρ v g else none, ρ.fz, ρ.N⟩
theorem Emb.cut_lt {ρ : Emb} {m v g : Nat} (h : v < m) : (ρ.cut m) v g = ρ v g := by simp [Emb.cut, h]
theorem Emb.cut_say {ρ : Emb} {m v g : Nat} {b : Base} (h : (ρ.cut m) v g = some b) : v < m ∧ ρ v g = some b := by
  unfold Emb.cut at h
  by_cases hv : v < m
  · simp [hv] at h; exact ⟨hv, h⟩
  · simp [hv] at h
theorem LowE.cut (ρ : Emb) (m : Nat) : LowE m ρ (ρ.cut m) := ⟨fun v g b hv h => by rw [Emb.cut_lt hv]; exact h, fun _ _ h => h⟩
def AObj.low (m : Nat) : AObj → Prop
  | .cells c _ _ _ _ _ => AV.lowL m c = true
  | .map es _ => ∀ e ∈ es, e.1.low m = true ∧ e.2.1.low m = true
  | _ => False
theorem RelE.low {m : Nat} {ρ ρ' : Emb} (h : LowE m ρ ρ') : ∀ (a : List (AV × AV × Nat)) (l : List MapEntry), (∀ e ∈ a, e.1.low m = true ∧ e.2.1.low m = true) → RelE ρ a l → RelE ρ' a l
  | [], _, _, r => r
  | (k, x, n) :: es, _, hs, r => by
    obtain ⟨k', y, ys, e, h0, h1, h2⟩ := r
    obtain ⟨q1, q2⟩ := hs _ List.mem_cons_self
    exact ⟨k', y, ys, e, Rel.low h k k' q1 h0, Rel.low h x y q2 h1, RelE.low h es ys (fun e he => hs e (List.mem_cons_of_mem _ he)) h2⟩
def CutM (S S' : AS) : Prop := ∀ v o, S'.get v = some o → v < S'.n ∧ S.get v = some o ∧ o.low S'.n
theorem AObj.low_mono {m n : Nat} (h : m ≤ n) {o : AObj} (hs : o.low m) : o.low n := by
  cases o with
  | cells c _ _ _ _ _ => exact AV.lowL_mono h c hs
  | map es _ => exact fun e he => ⟨AV.low_mono h _ (hs e he).1, AV.low_mono h _ (hs e he).2⟩
  | iter _ _ _ _ _ => exact hs
  | raw _ => exact hs
theorem lowL_ints {m : Nat} : ∀ {xs : List Int}, AV.lowL m (ints xs) = true
  | [] => rfl
  | x :: xs => by rw [ints_cons]; simp only [AV.lowL, AV.low, lowL_ints, Bool.and_self]
theorem lowL_rows {m z : Nat} : ∀ {l : List (List Int)}, AV.lowL m (rows z l) = true
  | [] => rfl
  | x :: l => by
    show AV.lowL m (rowI z x :: rows z l) = true
    simp only [AV.lowL, AV.low, lowL_ints, lowL_rows, Bool.and_self]
theorem RS.cut {w0 : World} {ρ : Emb} {S S' : AS} {w : World} (hS : RS w0 ρ S w) (h : CutM S S') : RS w0 (ρ.cut S'.n) S' w := by
  refine ⟨hS.below, fun v g b hb => (Emb.cut_say hb).1, fun v o hv => (h v o hv).1, fun v o hv => ?_, fun v o hv g b hb => ?_, fun v v' g g' b b' o o' hne hv hv' l1 l2 r1 r2 e1 e2 => ?_, fun k z ob hk => ⟨(hS.fz k z ob hk).1, fun v g b o hv hl hr hb => ?_⟩, hS.N⟩
  · obtain ⟨hlt, hg, hlow⟩ := h v o hv
    cases o with
    | cells c sz gen lo opn ro =>
      obtain ⟨⟨b, g1, g2, g3, g4, g5⟩, hlo, hgn⟩ := hS.obj v _ hg
      refine ⟨⟨b, by rw [Emb.cut_lt hlt]; exact g1, g2, g3, g4, g5⟩, hlo, fun g q1 q2 => ?_⟩
      obtain ⟨b', r1, r2⟩ := hgn g q1 q2
      refine ⟨b', by rw [Emb.cut_lt hlt]; exact r1, r2.sz, r2.lt, r2.low, r2.high, r2.ext, fun i x hi hx => ?_⟩
      obtain ⟨y, hy, hr⟩ := r2.cell i x hi hx
      exact ⟨y, hy, Rel.low (LowE.cut ρ _) x y (lowL_get hlow hx) hr⟩
    | map es clock =>
      obtain ⟨b, es', g1, g2, g3, g4⟩ := hS.obj v _ hg
      exact ⟨b, es', by rw [Emb.cut_lt hlt]; exact g1, g2, g3, RelE.low (LowE.cut ρ _) es _ hlow g4⟩
    | iter m bs clock rem cur => exact hlow.elim
    | raw k => exact hlow.elim
  · obtain ⟨hlt, hg, _⟩ := h v o hv
    exact hS.gens v o hg g b (Emb.cut_say hb).2
  · exact hS.dis v v' g g' b b' o o' hne (h v o hv).2.1 (h v' o' hv').2.1 l1 l2 r1 r2 (Emb.cut_say e1).2 (Emb.cut_say e2).2
  · exact (hS.fz k z ob hk).2 v g b o (h v o hv).2.1 hl hr (Emb.cut_say hb).2
def endG (res : List ARes) (r : AV) (S' : AS) (e : AE) (F : Fr) (S1 : AS) : Prop := match e with
  | .exit _ => False
  | .pan _ => False
  | _ => ∃ l, resV F S1 res = some l ∧ ∃ S2, Weak (params 0 [resOne l]) S1 (params 0 [r]) S2 ∧ CutM S2 S' ∧ r.low S'.n = true
theorem giv_runS {P : Program} {kp : Nat → List Nat} {f : Nat} {args : List AV} {S S' : AS} {nt : Nat} {res : List ARes} {code : AC} {r : AV}
    (hf : (ctxE P kp fun _ => none).fn f = some ⟨nt, res, code, .plain⟩) (hl : Nat.ble args.length nt = true) (hn : S.n ≤ S'.n)
    (h : WS P code (params 0 args) ⟨S.objs, S.n, S.n⟩ (endG res r S')) (w0 : World) (ρ : Emb) (w : World) (cargs : List Value) (hS : RS w0 ρ S w) (hr : RelL ρ args cargs) :
    (∀ w', (callFunc f cargs.toArray).run P w' = .ok (.enter f cargs.toArray) w') ∧ Calls P f cargs.toArray w fun e w' => ∃ ρ', EndsAs ρ' r e ∧ Ext ρ ρ' ∧ RS w0 ρ' S' w' := by
  simp only [ctxE] at hf
  cases hfu : P.funcs[f]? with
  | none => rw [hfu] at hf; cases hf
  | some fu =>
  rw [hfu] at hf
  simp only [Option.bind_some] at hf
  have hS0 : RS w0 ρ ⟨S.objs, S.n, S.n⟩ w := hS.mw rfl rfl
  rcases cFnM_say hf with ⟨c, rs, hb, hrs, hnm, hn', hres, hk⟩ | hf
  · cases hk
  obtain ⟨c, rs, hb, hrs, hnm, hn', hres, hkind⟩ := cFn_say hf
  simp only at hn' hres
  subst hres
  have hcode : code = cCode P fu.ntmps (kp f) c := by
    rcases hkind with ⟨_, hcode⟩ | ⟨_, _, _, _, _, _, _, _, _, _, hk, _⟩ | ⟨_, _, _, _, _, _, _, _, _, _, _, hk, _⟩
    · exact hcode
    · cases hk
    · cases hk
  have hle : args.length ≤ fu.ntmps := by rw [← hn']; simpa using hl
  have hF0 := FRel.start hr hle
  refine ⟨fun w' => callFunc_enter hfu hb hnm _ w', calls_of_wp hfu hb ((wpIn_wide (n := 0)).1 ?_)⟩
  refine h c fu.ntmps (kp f) hcode.symm w0 ρ _ w [] _ hF0 rfl hS0 ?_
  rintro ⟨e, F', S1⟩ hend ρ' zz a' w' he hx hF' hd' hS'
  have fin : endG res r S' .ret F' S1 → ∃ v, (results fu a'.tmps).run P w' = .ok v w' ∧ ∃ ρ'', EndsAs ρ'' r (.returned v) ∧ Ext ρ ρ'' ∧ RS w0 ρ'' S' w' := by
    rintro ⟨l, hl, S2, hw, hc, hlow⟩
    obtain ⟨v, hrv, hrun⟩ := results_run hF' hS' hrs hl
    have hrl : RelL ρ' [resOne l] [v] := ⟨v, [], rfl, hrv, rfl⟩
    have hF1 := FRel.start (n := 1) hrl (Nat.le_refl _)
    obtain ⟨ρ2, hx2, hS2, hF2⟩ := hw w0 ρ' w' _ _ hS' hF1
    have hr2 : Rel ρ2 r v := hF2.get 0
    refine ⟨v, hrun, ρ2.cut S'.n, .inl ⟨v, rfl, Rel.low (LowE.cut ρ2 _) r v hlow hr2⟩, ?_, hS2.cut hc⟩
    have hx3 := he.trans hx2
    exact ⟨fun u g b hb => by rw [Emb.cut_lt (Nat.lt_of_lt_of_le (hS.dom u g b hb) hn)]; exact hx3.at_ u g b hb, hx3.fz, hx3.old, hx3.N⟩
  cases e with
  | norm => obtain rfl := hx; obtain ⟨v, h1, h2⟩ := fin hend; exact ⟨hd', v, h1, h2⟩
  | ret => obtain rfl := hx; obtain ⟨v, h1, h2⟩ := fin hend; exact ⟨hd', v, h1, h2⟩
  | exit id => exact hend.elim
  | pan y => exact hend.elim
def GivS (P : Program) (f : Nat) (g : List AV → AS → Option (AV × AS)) : Prop := ∀ args S r S', g args S = some (r, S') → Fro S S' ∧ ∀ (w0 : World) (ρ : Emb) (w : World) (cargs : List Value), RS w0 ρ S w → RelL ρ args cargs →
    (∀ w', (callFunc f cargs.toArray).run P w' = .ok (.enter f cargs.toArray) w') ∧ Calls P f cargs.toArray w fun e w' => ∃ ρ', EndsAs ρ' r e ∧ Ext ρ ρ' ∧ RS w0 ρ' S' w'
def stG (g : List AV → AS → Option (AV × AS)) (args : List AV) (S : AS) : R (AV × AS) := match g args S with
  | some p => .one p
  | none => .no
theorem Fine.state {P : Program} {G : Giv} (hG : Fine P G) {f : Nat} {g : List AV → AS → Option (AV × AS)} (h : GivS P f g) : Fine P (addG f (stG g) G) := by
  refine hG.add (fun args S p hp => ?_) fun w0 args S ρ w cargs hS hr T hT => ?_
  · unfold stG at hp
    cases hg : g args S with
    | none => rw [hg] at hp; cases hp
    | some q => rw [hg] at hp; obtain ⟨r, S'⟩ := q; simp only [R.one, R.ls, List.mem_singleton] at hp; subst hp; exact (h args S r S' hg).1
  · unfold stG at hT
    cases hg : g args S with
    | none => rw [hg] at hT; exact hT.elim
    | some q =>
      obtain ⟨r, S'⟩ := q
      rw [hg] at hT
      obtain ⟨q1, q2⟩ := (h args S r S' hg).2 w0 ρ w cargs hS hr
      exact ⟨q1, q2.mono fun e w' ⟨ρ', a1, a2, a3⟩ => ⟨(r, S'), ρ', a1, hT, a2, a3⟩⟩
end Go.Proofs.Ytednmmcdjhfflaa.Vai
