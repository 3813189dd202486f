/-
  A verified abstract interpreter, part ZW: code told by what it does to the machine: what is known may be told anew between two pieces of it (rows that were made become frozen, what is not needed any more is forgotten).
-/
import Derived.Test.YtednmmcdjhfflaaVaiZ
namespace Go.Proofs.Ytednmmcdjhfflaa.Vai
open Go Go.RowKit
def Weak (F : Fr) (S : AS) (F' : Fr) (S' : AS) : Prop := ∀ (w0 : World) (ρ : Emb) (w : World) (n : Nat) (tmps : Array Value), RS w0 ρ S w → FRel ρ n F tmps → ∃ ρ', Ext ρ ρ' ∧ RS w0 ρ' S' w ∧ FRel ρ' n F' tmps
def FrD (S S' : AS) (x r : AV) : Prop := ∀ (w0 : World) (ρ : Emb) (w : World) (v : Value) (fz' : Nat → Option (Nat × Obj)), RS w0 ρ S w → Rel ρ x v → (∀ k a, ρ.fz k = some a → fz' k = some a) →
  (∀ k a, fz' k = some a → ρ.fz k = some a ∨ ρ.N ≤ k) → (∀ u g b o ob, S.get u = some o → o.live g → o.ro = false → S'.get u = none → ρ u g = some b → w.heap[b.blk]? = some ob → fz' b.blk = some (1, ob)) → Rel ⟨ρ.at_, fz', ρ.N⟩ r v
def FrDL (S S' : AS) : List AV → List AV → Prop
  | [], [] => True
  | x :: xs, r :: rs => FrD S S' x r ∧ FrDL S S' xs rs
  | _, _ => False
section
variable {S S' : AS} {x r : AV} {xs rs : List AV}
theorem FrD.refl : FrD S S' x x := fun _ ρ _ v fz' _ hr hz ho _ => Rel.ext (ρ := ρ) (ρ' := ⟨ρ.at_, fz', ρ.N⟩) ⟨fun _ _ _ h => h, hz, ho, rfl⟩ x v hr
theorem FrD.any : FrD S S' x .any := fun _ _ _ _ _ _ _ _ _ _ => trivial
theorem FrD.wk {y : AV} (h : FrD S S' x y) (k : Wk y r) : FrD S S' x r := fun w0 ρ w v fz' hS hr hz ho hn => k _ v (h w0 ρ w v fz' hS hr hz ho hn)
theorem FrD.nils (z sz : Nat) : FrD S S' .nils (.row z sz 0 []) := FrD.refl.wk (Wk.nils z sz)
theorem FrDL.refl : ∀ {xs : List AV}, FrDL S S' xs xs
  | [] => trivial
  | _ :: _ => ⟨FrD.refl, FrDL.refl⟩
theorem FrDL.len : ∀ {xs rs : List AV}, FrDL S S' xs rs → xs.length = rs.length
  | [], [], _ => rfl
  | [], _ :: _, h => h.elim
  | _ :: _, [], h => h.elim
  | _ :: _, _ :: _, h => congrArg (· + 1) (FrDL.len h.2)
theorem FrDL.get : ∀ {xs rs : List AV} {i : Nat} {r : AV}, FrDL S S' xs rs → rs[i]? = some r → ∃ x, xs[i]? = some x ∧ FrD S S' x r
  | [], [], _, _, _, hr => by simp at hr
  | [], _ :: _, _, _, h, _ => h.elim
  | _ :: _, [], _, _, h, _ => h.elim
  | x :: xs, r :: rs, i, r', h, hr => by
    cases i with
    | zero => simp at hr; subst hr; exact ⟨x, by simp, h.1⟩
    | succ i => simp at hr; obtain ⟨y, h1, h2⟩ := FrDL.get h.2 hr; exact ⟨y, by simpa using h1, h2⟩
theorem FrDL.mk : ∀ {xs rs : List AV}, xs.length = rs.length → (∀ (i : Nat) x r, xs[i]? = some x → rs[i]? = some r → FrD S S' x r) → FrDL S S' xs rs
  | [], [], _, _ => trivial
  | [], _ :: _, h, _ => by simp at h
  | _ :: _, [], h, _ => by simp at h
  | x :: xs, r :: rs, hl, h => ⟨h 0 x r (by simp) (by simp), FrDL.mk (by simpa using hl) fun i y s hy hs => h (i + 1) y s (by simpa using hy) (by simpa using hs)⟩
theorem FrDL.rel : ∀ {xs rs : List AV}, FrDL S S' xs rs → ∀ {w0 : World} {ρ : Emb} {w : World} {vs : List Value} {fz' : Nat → Option (Nat × Obj)}, RS w0 ρ S w → RelL ρ xs vs → (∀ k a, ρ.fz k = some a → fz' k = some a) →
    (∀ k a, fz' k = some a → ρ.fz k = some a ∨ ρ.N ≤ k) → (∀ u g b o ob, S.get u = some o → o.live g → o.ro = false → S'.get u = none → ρ u g = some b → w.heap[b.blk]? = some ob → fz' b.blk = some (1, ob)) → RelL ⟨ρ.at_, fz', ρ.N⟩ rs vs
  | [], [], _, _, _, _, _, _, _, hr, _, _, _ => hr
  | [], _ :: _, h, _, _, _, _, _, _, _, _, _, _ => h.elim
  | _ :: _, [], h, _, _, _, _, _, _, _, _, _, _ => h.elim
  | x :: xs, r :: rs, h, w0, ρ, w, vs, fz', hS, hr, hz, ho, hn => by
    obtain ⟨y, ys, rfl, h1, h2⟩ := hr
    exact ⟨y, ys, rfl, h.1 w0 ρ w y fz' hS h1 hz ho hn, FrDL.rel h.2 hS h2 hz ho hn⟩
theorem FrD.agg (h : FrDL S S' xs rs) : FrD S S' (.agg xs) (.agg rs) := fun _ _ _ _ _ hS hr hz ho hn => by
  obtain ⟨l, h1, h2⟩ := hr
  exact ⟨l, h.rel hS h1 hz ho hn, h2⟩
theorem FrD.tup (h : FrDL S S' xs rs) : FrD S S' (.tup xs) (.tup rs) := fun _ _ _ _ _ hS hr hz ho hn => by
  obtain ⟨l, h1, h2⟩ := hr
  exact ⟨l, h.rel hS h1 hz ho hn, h2⟩
theorem FrD.slice {v g q n sz z0 gen lo : Nat} {lim : Option Nat} {opn : Bool} {c : List AV} (hg : S.get v = some (.cells c z0 gen lo opn false)) (hd : S'.get v = none) (h1 : lo ≤ g) (h2 : g ≤ gen) (h3 : (q + n) * sz ≤ c.length)
    (h : FrDL S S' ((c.drop (q * sz)).take (n * sz)) rs) : FrD S S' (.slice v g q n lim sz) (.row 1 sz n rs) := by
  intro w0 ρ w vv fz' hS hr hz ho hn
  obtain ⟨b, cp, hb, hext, hcp, rfl, _⟩ := hr
  have hrow := hS.row hb hg h1 h2
  have hlt := hrow.lt
  have hob : w.heap[b.blk]? = some w.heap[b.blk] := Array.getElem?_eq_getElem hlt
  have hfz := hn v g b _ _ hg ⟨h1, h2⟩ rfl hd hb hob
  have e1 : (q + n) * sz = q * sz + n * sz := Nat.add_mul _ _ _
  have hlen := h.len
  rw [List.length_take, List.length_drop] at hlen
  refine ⟨_, cp, rfl, ⟨hcp, fun e => by cases e⟩, by omega, .inr ⟨b.blk, b.off + q * sz, _, rfl, ⟨1, hfz, Nat.le_refl _⟩, RelC.mk fun j x hx => ?_⟩⟩
  obtain ⟨y, hy, hf⟩ := h.get hx
  have hj : j < n * sz := by
    rcases Nat.lt_or_ge j (n * sz) with hj | hj
    · exact hj
    · rw [List.getElem?_take, if_neg (by omega)] at hy; cases hy
  rw [List.getElem?_take, if_pos hj, List.getElem?_drop] at hy
  obtain ⟨u, hu, hru⟩ := hrow.cell (q * sz + j) y (by omega) hy
  refine ⟨u, ?_, hf w0 ρ w u fz' hS hru hz ho hn⟩
  rw [← objCell_cell hob, ← hu, Nat.add_assoc]
theorem FrD.gw {lo sz n : Nat} {a : AV} {cs : List AV} (h : Gw S lo sz a n cs) (hd : ∀ v, a.own = some v → S'.get v = none) (hr : FrDL S S' cs rs) : FrD S S' a (.row 1 sz n rs) := by
  rcases h.ow with ⟨rfl, rfl, rfl⟩ | ⟨v, g, l0, opn, rfl, h2, h3, h4⟩
  · have := hr.len
    obtain rfl : rs = [] := List.eq_nil_of_length_eq_zero this.symm
    exact FrD.nils 1 sz
  · refine FrD.slice h2 (hd v rfl) h3 (Nat.le_refl _) (by rw [Nat.zero_add]; omega) ?_
    rw [Nat.zero_mul, List.drop_zero, ← h4, List.take_length]
    exact hr
theorem FrD.lies {u g n sz z0 gen lo : Nat} {b : Bool} {cs : List AV} (hg : S.get u = some (.cells cs z0 gen lo b false)) (hd : S'.get u = none) (h1 : lo ≤ g) (h2 : g ≤ gen) (hl : cs.length = n * sz) (h : FrDL S S' cs rs) : FrD S S' (.slice u g 0 n none sz) (.row 1 sz n rs) := by
  refine FrD.slice hg hd h1 h2 (by rw [Nat.zero_add]; omega) ?_
  rw [Nat.zero_mul, List.drop_zero, ← hl, List.take_length]
  exact h
end
def WkO (S S' : AS) (o o' : AObj) : Prop := o = o' ∨ ∃ cs cs' sz gen lo opn, o = .cells cs sz gen lo opn false ∧ o' = .cells cs' sz gen lo opn false ∧ FrDL S S' cs cs'
theorem WkO.refl {S S' : AS} {o : AObj} : WkO S S' o o := .inl rfl
theorem WkO.cells {S S' : AS} {cs cs' : List AV} {sz gen lo : Nat} {opn : Bool} (h : FrDL S S' cs cs') : WkO S S' (.cells cs sz gen lo opn false) (.cells cs' sz gen lo opn false) := .inr ⟨cs, cs', sz, gen, lo, opn, rfl, rfl, h⟩
theorem WkO.live {S S' : AS} {o o' : AObj} (h : WkO S S' o o') (g : Nat) : (o'.live g ↔ o.live g) ∧ o'.ro = o.ro ∧ o'.top = o.top := by
  rcases h with rfl | ⟨_, _, _, _, _, _, rfl, rfl, _⟩
  · exact ⟨Iff.rfl, rfl, rfl⟩
  · exact ⟨Iff.rfl, rfl, rfl⟩
open Classical in
noncomputable def fzDrop (ρ : Emb) (S S' : AS) (w : World) (k : Nat) : Option (Nat × Obj) := match ρ.fz k with
  | some a => some a
  | none => if ∃ u g b o, S.get u = some o ∧ o.live g ∧ o.ro = false ∧ S'.get u = none ∧ ρ u g = some b ∧ b.blk = k then (w.heap[k]?).map (1, ·) else none
theorem Weak.mk {F F' : Fr} {S S' : AS} (hn : S'.n = S.n) (hO : ∀ v o', S'.get v = some o' → ∃ o, S.get v = some o ∧ WkO S S' o o') (hF : ∀ t, FrD S S' (F.get t) (F'.get t)) : Weak F S F' S' := by
  intro w0 ρ w n tmps hS hFr
  have hz : ∀ k a, ρ.fz k = some a → fzDrop ρ S S' w k = some a := fun k a h => by unfold fzDrop; rw [h]
  have hsay : ∀ k a, fzDrop ρ S S' w k = some a → ρ.fz k = some a ∨ ((∃ u g b o, S.get u = some o ∧ o.live g ∧ o.ro = false ∧ S'.get u = none ∧ ρ u g = some b ∧ b.blk = k) ∧ w.heap[k]? = some a.2) := by
    intro k a h
    unfold fzDrop at h
    split at h
    · rename_i b hb; cases h; exact .inl hb
    · split at h
      · rename_i he
        cases hh : w.heap[k]? with
        | none => rw [hh] at h; cases h
        | some o => rw [hh] at h; cases h; exact .inr ⟨he, rfl⟩
      · cases h
  have hold : ∀ k a, fzDrop ρ S S' w k = some a → ρ.fz k = some a ∨ ρ.N ≤ k := by
    intro k a h
    rcases hsay k a h with h | ⟨⟨u, g, b, o, h1, h2, h3, _, h5, rfl⟩, _⟩
    · exact .inl h
    · exact .inr (Nat.le_trans hS.N ((hS.obj u o h1).blk_high h2 h3 h5))
  have hnew : ∀ u g b o ob, S.get u = some o → o.live g → o.ro = false → S'.get u = none → ρ u g = some b → w.heap[b.blk]? = some ob → fzDrop ρ S S' w b.blk = some (1, ob) := by
    intro u g b o ob h1 h2 h3 h4 h5 h6
    have hnf : ρ.fz b.blk = none := by
      cases e : ρ.fz b.blk with
      | none => rfl
      | some a => exact absurd rfl ((hS.fz _ _ _ e).2 u g b o h1 h2 h3 h5)
    unfold fzDrop
    rw [hnf]
    simp only
    rw [if_pos ⟨u, g, b, o, h1, h2, h3, h4, h5, rfl⟩, h6]
    rfl
  have hx : Ext ρ ⟨ρ.at_, fzDrop ρ S S' w, ρ.N⟩ := ⟨fun _ _ _ h => h, hz, hold, rfl⟩
  refine ⟨⟨ρ.at_, fzDrop ρ S S' w, ρ.N⟩, hx, ⟨hS.below, fun v g b hb => by rw [hn]; exact hS.dom v g b hb, fun v o hv => ?_, fun v o' hv => ?_, fun v o' hv => ?_, fun v v' g g' b b' o o' hne hv hv' => ?_, fun k z ob hk => ?_, hS.N⟩, ⟨hFr.size, fun t => hF t w0 ρ w _ _ hS (hFr.get t) hz hold hnew⟩⟩
  · rw [hn]
    obtain ⟨o1, h1, _⟩ := hO v o hv
    exact hS.lt v o1 h1
  · obtain ⟨o, h1, h2⟩ := hO v o' hv
    have hob := hS.obj v o h1
    rcases h2 with rfl | ⟨cs, cs', sz, gen, lo, opn, rfl, rfl, hc⟩
    · exact hob.of_same hx (Nat.le_refl _) fun _ _ _ _ => rfl
    · obtain ⟨⟨b, g1, g2, g3, g4, g5⟩, hlo, hg⟩ := hob
      have hl := hc.len
      refine ⟨⟨b, g1, by rw [← hl]; exact g2, by rw [← hl]; exact g3, fun ho => by rw [← hl]; exact g4 ho, g5⟩, hlo, fun g q1 q2 => ?_⟩
      obtain ⟨b', r1, r2⟩ := hg g q1 q2
      refine ⟨b', r1, r2.sz, r2.lt, r2.low, r2.high, by rw [← hl]; exact r2.ext, fun i x hi hx' => ?_⟩
      obtain ⟨y, hy, hf⟩ := hc.get hx'
      obtain ⟨u, hu, hru⟩ := r2.cell i y hi hy
      exact ⟨u, hu, hf w0 ρ w u _ hS hru hz hold hnew⟩
  · intro g b hb
    obtain ⟨o, h1, h2⟩ := hO v o' hv
    rw [(h2.live g).2.2]
    exact hS.gens v o h1 g b hb
  · intro l1 l2 r1 r2 e1 e2
    obtain ⟨o1, p1, p2⟩ := hO v o hv
    obtain ⟨o2, p3, p4⟩ := hO v' o' hv'
    exact hS.dis v v' g g' b b' o1 o2 hne p1 p3 ((p2.live g).1.1 l1) ((p4.live g').1.1 l2) (by rw [← (p2.live g).2.1]; exact r1) (by rw [← (p4.live g').2.1]; exact r2) e1 e2
  · rcases hsay k (z, ob) hk with h | ⟨⟨u, g, b, o, h1, h2, h3, h4, h5, rfl⟩, h6⟩
    · refine ⟨(hS.fz k z ob h).1, fun v g b o' hv hl hr hb => ?_⟩
      obtain ⟨o1, p1, p2⟩ := hO v o' hv
      exact (hS.fz k z ob h).2 v g b o1 p1 ((p2.live g).1.1 hl) (by rw [← (p2.live g).2.1]; exact hr) hb
    · refine ⟨h6, fun v g' b' o' hv hl hr hb => ?_⟩
      obtain ⟨o1, p1, p2⟩ := hO v o' hv
      have hne : v ≠ u := by rintro rfl; rw [h4] at hv; cases hv
      exact hS.dis v u g' g b' b o1 o hne p1 h1 ((p2.live g').1.1 hl) h2 (by rw [← (p2.live g').2.1]; exact hr) h3 hb h5
def WS (P : Program) (c : AC) (F : Fr) (S : AS) (Q : AE → Fr → AS → Prop) : Prop := ∀ (code : Code) (n : Nat) (k : List Nat), cCode P n k code = c → ∀ (w0 : World) (ρ : Emb) (a : Act) (w : World) (ds : List Deferred) (Qw : Exit → Act → World → Prop),
  FRel ρ n F a.tmps → a.defers = ds → RS w0 ρ S w → (∀ r : AE × Fr × AS, Q r.1 r.2.1 r.2.2 → Good w0 n ds ρ Qw r) → code.wpIn (fw none) 0 P Qw a w
theorem WS.weak {P : Program} {c : AC} {F F' : Fr} {S S' : AS} {Q : AE → Fr → AS → Prop} (hw : Weak F S F' S') (h : WS P c F' S' Q) : WS P c F S Q := by
  intro code n k hc w0 ρ a w ds Qw hF hd hS hQ
  obtain ⟨ρ', he, hS', hF'⟩ := hw w0 ρ w n a.tmps hS hF
  exact h code n k hc w0 ρ' a w ds Qw hF' hd hS' fun r hr => (hQ r hr).ext he
theorem WS.of_wc {P : Program} (hm : P.follows .mixedOrders = true) {kp : Nat → List Nat} {G : Giv} (hG : Fine P G) {L d : Nat} {c : AC} {F : Fr} {S : AS} {Q : AE → Fr → AS → Prop}
    (h : WC (ctxE P kp fun _ => none) (callE G L d (ctxE P kp fun _ => none)) L c F S Q) : WS P c F S Q := by
  intro code n k hc w0 ρ a w ds Qw hF hd hS hQ
  have h := WC.all c h
  subst hc
  exact code_sound (r0 := none) (m0 := 0) hm (call_sound (w0 := w0) hm hG.fro d (hG.ok _ _) EnvOk.none EnvFro.none) EnvOk.none code F S ρ a w ds Qw (Ext.refl _) hF hd hS (R.All.mono h fun r hr => hQ r hr)
theorem WS.seq {P : Program} {a b : AC} {F : Fr} {S : AS} {Q : AE → Fr → AS → Prop} (h : WS P a F S (thenK (fun F S => WS P b F S Q) Q)) : WS P (.seq a b) F S Q := by
  intro code n k hc w0 ρ ac w ds Qw hF hd hS hQ
  have : ∃ x y, code = .seq x y ∧ cCode P n k x = a ∧ cCode P n k y = b := by
    cases code with
    | seq x y => simp only [cCode, AC.seq.injEq] at hc; exact ⟨x, y, rfl, hc.1, hc.2⟩
    | region id ops o =>
      cases o with
      | false => simp only [cCode] at hc; cases hc
      | true =>
        simp only [cCode] at hc
        cases hb : drawOk ops.toList (preOf ops.toList []) (ops.toList.map (usOf ops)) <;> rw [hb] at hc <;> cases hc
    | cond x y z =>
      simp only [cCode] at hc
      cases hx : cX x <;> rw [hx] at hc <;> cases hc
    | _ => simp only [cCode] at hc; cases hc
  obtain ⟨x, y, rfl, ha, hb⟩ := this
  refine wpIn_seq (h x n k ha w0 ρ ac w ds _ hF hd hS ?_)
  rintro ⟨e, F', S'⟩ hr ρ' z a' w' he hx hF' hd' hS'
  cases e with
  | norm => obtain rfl := hx; exact hr y n k hb w0 ρ' a' w' ds Qw hF' hd' hS' fun r hr => (hQ r hr).ext he
  | exit id => obtain rfl := hx; exact hQ (.exit id, F', S') hr ρ' _ a' w' he rfl hF' hd' hS'
  | ret => obtain rfl := hx; exact hQ (.ret, F', S') hr ρ' _ a' w' he rfl hF' hd' hS'
  | pan v => obtain ⟨u, rfl, hv⟩ := hx; exact hQ (.pan v, F', S') hr ρ' _ a' w' he ⟨u, rfl, hv⟩ hF' hd' hS'
theorem WS.step {P : Program} (hm : P.follows .mixedOrders = true) {kp : Nat → List Nat} {G : Giv} (hG : Fine P G) {L d : Nat} {a b : AC} {F : Fr} {S : AS} {Q : AE → Fr → AS → Prop}
    (h : WC (ctxE P kp fun _ => none) (callE G L d (ctxE P kp fun _ => none)) L a F S (thenK (fun F S => WS P b F S Q) Q)) : WS P (.seq a b) F S Q := WS.seq (WS.of_wc hm hG h)
theorem WS.cond {P : Program} {x : AX} {a b : AC} {F : Fr} {S : AS} {Q : AE → Fr → AS → Prop} (h : condK (x.ev F) (WS P a F S Q) (WS P b F S Q)) : WS P (.cond x a b) F S Q := by
  intro code n k hc w0 ρ ac w ds Qw hF hd hS hQ
  have : ∃ x' y z, code = .cond x' y z ∧ cX x' = some x ∧ cCode P n k y = a ∧ cCode P n k z = b := by
    cases code with
    | cond x' y z =>
      simp only [cCode] at hc
      cases hx : cX x' with
      | none => rw [hx] at hc; cases hc
      | some c =>
        rw [hx] at hc
        simp only [AC.cond.injEq] at hc
        obtain ⟨rfl, h2, h3⟩ := hc
        exact ⟨x', y, z, rfl, hx, h2, h3⟩
    | region id ops o =>
      cases o with
      | false => simp only [cCode] at hc; cases hc
      | true =>
        simp only [cCode] at hc
        cases hb : drawOk ops.toList (preOf ops.toList []) (ops.toList.map (usOf ops)) <;> rw [hb] at hc <;> cases hc
    | _ => simp only [cCode] at hc; cases hc
  obtain ⟨x', y, z, rfl, hx, ha, hb⟩ := this
  have hv := cX_ev hF hx
  rcases condK_say h with ⟨h1, h2⟩ | ⟨h1, h2⟩
  · rw [h1] at hv
    exact wpIn_cond_true hv (h2 y n k ha w0 ρ ac w ds Qw hF hd hS hQ)
  · rw [h1] at hv
    exact wpIn_cond_false hv (h2 z n k hb w0 ρ ac w ds Qw hF hd hS hQ)
def mkS (l : List (Nat × AObj)) (n : Nat) : AS := ⟨l.foldr (fun p t => BT.set t p.1 p.2) .nil, n, 0⟩
theorem mkS_nil {n v : Nat} : (mkS [] n).get v = none := BT.get_nil v
theorem mkS_cons {n v u : Nat} {o : AObj} {l : List (Nat × AObj)} : (mkS ((u, o) :: l) n).get v = if v = u then some o else (mkS l n).get v := BT.get_set _ _ _ _
theorem mkS_n {n : Nat} {l : List (Nat × AObj)} : (mkS l n).n = n := rfl
def FrFL (S S' : AS) (F : Fr) : Fr → Prop
  | [] => True
  | (t, v) :: l => FrD S S' (F.get t) v ∧ FrFL S S' F l
def MkL (S S' : AS) : List (Nat × AObj) → Prop
  | [] => True
  | (v, o') :: l => (∃ o, S.get v = some o ∧ WkO S S' o o') ∧ MkL S S' l
theorem Weak.to {F : Fr} {S : AS} (F' : Fr) (l : List (Nat × AObj)) (hF : FrFL S (mkS l S.n) F F') (hO : MkL S (mkS l S.n) l) : Weak F S F' (mkS l S.n) := by
  refine Weak.mk rfl (fun v o' hv => ?_) fun t => ?_
  · have key : ∀ (S' : AS) (l' : List (Nat × AObj)), MkL S S' l' → (mkS l' S.n).get v = some o' → ∃ o, S.get v = some o ∧ WkO S S' o o' := by
      intro S' l'
      induction l' with
      | nil => intro _ h; rw [mkS_nil] at h; cases h
      | cons p l' ih =>
        intro hO h
        obtain ⟨u, ob⟩ := p
        rw [mkS_cons] at h
        split at h
        · rename_i e; cases h; subst e; exact hO.1
        · exact ih hO.2 h
    exact key _ l hO hv
  · generalize mkS l S.n = S' at hF ⊢
    induction F' with
    | nil => exact FrD.any
    | cons p F' ih =>
      obtain ⟨u, v⟩ := p
      rw [get_cons']
      split
      · rename_i e; subst e; exact hF.1
      · exact ih hF.2
theorem Wf.mkS {S S' : AS} (h : Wf S) : ∀ {l : List (Nat × AObj)}, MkL S S' l → Wf (mkS l S.n)
  | [], _ => fun v o ho => by rw [mkS_nil] at ho; cases ho
  | (u, ob) :: l, hO => fun v o ho => by
    rw [mkS_cons] at ho
    split at ho
    · rename_i e; subst e
      obtain ⟨o1, h1, _⟩ := hO.1
      exact h _ _ h1
    · exact Wf.mkS h hO.2 v o ho
theorem pure_runS {P : Program} {kp : Nat → List Nat} {f : Nat} {args : List AV} {nt : Nat} {res : List ARes} {code : AC} {r : AV}
    (hf : (ctxE P kp fun _ => none).fn f = some ⟨nt, res, code, .plain⟩) (hl : Nat.ble args.length nt = true)
    (h : WS P code (params 0 args) E0 (endP res r)) : PureOk P f args r := by
  intro w fz cargs hz hr
  simp only [ctxE] at hf
  cases hfu : P.funcs[f]? with
  | none => rw [hfu] at hf; cases hf
  | some fu =>
  rw [hfu] at hf
  simp only [Option.bind_some] at hf
  have hS : RS w (.fr fz w.heap.size) E0 w := RS.start w fz _ (Nat.le_refl _) hz
  rcases cFnM_say hf with ⟨c, rs, hb, hrs, hnm, hn, hres, hk⟩ | hf
  · cases hk
  obtain ⟨c, rs, hb, hrs, hnm, hn, hres, hkind⟩ := cFn_say hf
  simp only at hn hres
  subst hres
  have hcode : code = cCode P fu.ntmps (kp f) c := by
    rcases hkind with ⟨_, hcode⟩ | ⟨_, _, _, _, _, _, _, _, _, _, hk, _⟩ | ⟨_, _, _, _, _, _, _, _, _, _, _, hk, _⟩
    · exact hcode
    · cases hk
    · cases hk
  have hle : args.length ≤ fu.ntmps := by rw [← hn]; simpa using hl
  have hF0 := FRel.start hr hle
  refine ⟨fun w' => callFunc_enter hfu hb hnm _ w', calls_of_wp hfu hb ((wpIn_wide (n := 0)).1 ?_)⟩
  refine h c fu.ntmps (kp f) hcode.symm w (.fr fz w.heap.size) _ w [] _ hF0 rfl hS ?_
  rintro ⟨e, F', S'⟩ hend ρ' zz a' w' he hx hF' hd' hS'
  have fin : endP res r .ret F' S' → ∃ v, (results fu a'.tmps).run P w' = .ok v w' ∧ ∃ v' fz', Ending.returned v = .returned v' ∧ Below w.heap.size w w' ∧ (∀ k a, fz k = some a → fz' k = some a) ∧ (∀ k a, fz' k = some a → fz k = some a ∨ w.heap.size ≤ k) ∧
      (∀ k z ob, fz' k = some (z, ob) → w'.heap[k]? = some ob) ∧ Rel (.fr fz' w.heap.size) r v' := by
    rintro ⟨l, hl, hfr⟩
    obtain ⟨v, hrv, hrun⟩ := results_run hF' hS' hrs hl
    refine ⟨v, hrun, v, fzNew ρ'.fz w.heap.size w', rfl, hS'.below, fun k a hk => fzNew_old (he.fz k a hk), fun k a hk => ?_, fun k z ob hk => ?_, ?_⟩
    · rcases fzNew_say hk with q | q
      · exact he.old k _ q
      · exact .inr q.1
    · rcases fzNew_say hk with q | q
      · exact (hS'.fz k z ob q).1
      · exact q.2
    · exact hfr w ρ' w' v _ _ hS' hrv (fun k a hk => fzNew_old hk) fun k ob hk hn ho => fzNew_new hn hk ho
  cases e with
  | norm => obtain rfl := hx; obtain ⟨v, h1, h2⟩ := fin hend; exact ⟨hd', v, h1, h2⟩
  | ret => obtain rfl := hx; obtain ⟨v, h1, h2⟩ := fin hend; exact ⟨hd', v, h1, h2⟩
  | exit id => exact hend.elim
  | pan y => exact hend.elim
end Go.Proofs.Ytednmmcdjhfflaa.Vai
