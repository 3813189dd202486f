/-
  A verified abstract interpreter, part Q: the frame: what a run leaves as it was.
-/
import Derived.Test.YtednmmcdjhfflaaVaiP
namespace Go.Proofs.Ytednmmcdjhfflaa.Vai
open Go Go.RowKit
structure Fro (S S' : AS) : Prop where
  n : S.n ≤ S'.n
  mw : S'.mw ≤ S.mw
  get : ∀ v, v < S.n → v < S'.mw → S'.get v = S.get v
  mark : ∀ v, v < S.n → S.get v = some (.raw 0) → S'.get v = some (.raw 0)
theorem Fro.refl (S : AS) : Fro S S := ⟨Nat.le_refl _, Nat.le_refl _, fun _ _ _ => rfl, fun _ _ h => h⟩
theorem Fro.trans {a b c : AS} (h : Fro a b) (k : Fro b c) : Fro a c :=
  ⟨Nat.le_trans h.n k.n, Nat.le_trans k.mw h.mw, fun v h1 h2 => by
    have := h.n; have := k.mw
    rw [k.get v (by omega) h2, h.get v h1 (by omega)], fun v h1 h2 => k.mark v (by have := h.n; omega) (h.mark v h1 h2)⟩
theorem Fro.push (S : AS) (o : AObj) : Fro S (S.push o) :=
  ⟨by simp, Nat.le_refl _, (fun v h1 _ => by rw [AS.get_push, if_neg (by omega)]), fun v h1 h2 => by rw [AS.get_push, if_neg (by omega)]; exact h2⟩
theorem Fro.newRow (S : AS) (c : List AV) (sz : Nat) (opn : Bool) : Fro S (S.newRow c sz opn) := Fro.push S _
theorem blt_false {a b : Nat} (h : Nat.blt a b = false) : ¬ a < b := by
  intro hh
  have : Nat.blt a b = true := by simpa using hh
  rw [h] at this; cases this
theorem mw_put (S : AS) (v : Nat) (o : AObj) : (S.put v o).mw ≤ S.mw ∧ (S.put v o).mw ≤ v := by
  simp only [AS.put]
  cases h : Nat.blt v S.mw with
  | true => have : v < S.mw := by simpa using h
            simp; omega
  | false => have := blt_false h
             simp; omega
theorem Fro.put (S : AS) (v : Nat) (o : AObj) (hv : S.get v ≠ some (.raw 0)) : Fro S (S.put v o) :=
  ⟨by simp, (mw_put S v o).1, fun u _ h2 => by
    have := (mw_put S v o).2
    rw [AS.get_put, if_neg (by omega)], fun u _ h2 => by
    rw [AS.get_put, if_neg (by intro e; subst e; exact hv h2)]; exact h2⟩
theorem Fro.stl {S S' : AS} {v g o e : Nat} {xs : List AV} (h : S.stl v g o e xs = some S') : Fro S S' := by
  unfold AS.stl at h
  split at h
  · rename_i hg
    have := cond_some h
    rw [← this]; exact Fro.put _ _ _ (by rw [hg]; simp)
  · cases h
theorem Fro.st {S S' : AS} {n : Nat} {a x : AV} (h : S.st n a x = some S') : Fro S S' := by
  unfold AS.st at h
  split at h
  · cases hb : Nat.beq _ n <;> rw [hb] at h
    · cases h
    · exact Fro.stl h
  · cases h
theorem Fro.mup {S S' : AS} {kk : Nat} {m k x : AV} (h : S.mup kk m k x = some S') : Fro S S' := by
  unfold AS.mup at h
  split at h
  case h_2 => cases h
  split at h
  case h_2 => cases h
  rename_i hg
  cases hb : !(isKey kk k) <;> rw [hb] at h
  · simp only [cond_false] at h
    split at h <;> cases h <;> exact Fro.put _ _ _ (by rw [hg]; simp)
  · cases h
theorem Fro.appN {S : AS} {sz bytes n : Nat} {x : AV} {ys : List AV} {r : AV × AS} (h : S.appN sz bytes x n ys = some r) : Fro S r.2 := by
  unfold AS.appN at h
  split at h
  · have := cond_some h; subst this; exact Fro.newRow _ _ _ _
  · have := cond_some h; subst this; exact Fro.newRow _ _ _ _
  · rename_i v g q len lim z
    generalize (!(Nat.beq z sz && Nat.ble ((len + n) * bytes) bound46 && Nat.ble (len + n) bound46)) = b0 at h
    cases b0
    case true => cases h
    simp only [cond_false] at h
    split at h
    case h_2 => cases h
    rename_i c vz gen lo opn ro hg
    generalize (aroom lim vz sz q len n c.length && Nat.beq g gen && !ro && Nat.ble ((q + len + n) * sz) c.length) = b1 at h
    cases b1
    · simp only [cond_false] at h
      generalize (agrows lim vz sz q len n c.length (!opn && Nat.beq g gen) && Nat.ble lo g && Nat.ble g gen) = b2 at h
      cases b2
      · simp only [cond_false] at h
        have := cond_some h; subst this; exact Fro.put _ _ _ (by rw [hg]; simp)
      · simp only [cond_true] at h; cases h; exact Fro.newRow _ _ _ _
    · simp only [cond_true] at h
      split at h
      · cases h; exact Fro.stl (by assumption)
      · cases h
  · cases h
theorem Fro.app {S : AS} {sz bytes : Nat} {x y : AV} {r : AV × AS} (h : S.app sz bytes x y = some r) : Fro S r.2 := by
  unfold AS.app at h
  split at h
  · split at h <;> first | (cases h; exact Fro.refl _) | cases h
  · cases hb : Nat.beq sz 0 <;> rw [hb] at h
    · exact Fro.appN h
    · cases h
  · cases h
theorem Fro.rng {S : AS} {m : AV} {r : AV × AS} (h : S.rng m = some r) : Fro S r.2 := by
  unfold AS.rng at h
  split at h
  · cases h; exact Fro.push _ _
  · split at h
    · have := cond_some h; subst this; exact Fro.push _ _
    · cases h
  · cases h
theorem Fro.nxtL {S : AS} {i m clock : Nat} {bs all : List Nat} {es : List (AV × AV × Nat)} (hi : S.get i ≠ some (.raw 0)) : ∀ {l : List Nat} {r : List (AV × AS)}, S.nxtL i m bs clock all es l = some r → ∀ p ∈ r, Fro S p.2
  | [], r, h, p, hp => by cases h; cases hp
  | b :: l, r, h, p, hp => by
    simp only [AS.nxtL] at h
    split at h
    case h_2 => cases h
    rename_i k x r' _ hr'
    cases h
    rcases List.mem_cons.1 hp with rfl | hp
    · exact Fro.put _ _ _ hi
    · exact Fro.nxtL hi hr' p hp
theorem Fro.nxt {S : AS} {x : AV} : ∀ p ∈ (S.nxt x).ls, Fro S p.2 := by
  intro p hp
  unfold AS.nxt at hp
  split at hp
  case h_2 => cases hp
  split at hp
  · simp only [R.ls, List.mem_singleton] at hp; subst hp; exact Fro.refl _
  · rename_i i m bs clock rem cur hg
    have hi : ∀ j, S.get j = some (.iter (some m) bs clock rem cur) → S.get j ≠ some (.raw 0) := fun j h => by rw [h]; simp
    split at hp
    case h_2 => cases hp
    rename_i es clock' _
    generalize (!(Nat.beq clock clock' && natsBeq bs (bornsE es) && bs.all (fun b => Nat.blt b clock) && incr bs)) = b0 at hp
    cases b0
    case true => cases hp
    simp only [cond_false] at hp
    split at hp
    · simp only [R.ls, List.mem_singleton] at hp; subst hp; exact Fro.put _ _ _ (hi _ hg)
    · split at hp
      · simp only [R.ls, List.mem_singleton] at hp; subst hp; exact Fro.put _ _ _ (hi _ hg)
      · cases hp
    · split at hp
      · exact Fro.nxtL (hi _ hg) (by assumption) p hp
      · cases hp
  · cases hp
def EnvFro (env : Env) : Prop := ∀ v rd, env v = some rd → ∀ args S, ∀ p ∈ (rd args S).ls, Fro S p.2
theorem EnvFro.none : EnvFro fun _ => none := fun _ _ h => by cases h
def CallFro (call : CallF) : Prop := ∀ f args S, ∀ p ∈ (call f args S).ls, Fro S p.2
theorem ls_withS {S : AS} {o : Option AV} {p : AV × AS} (h : p ∈ (withS S o).ls) : p.2 = S := by
  cases o
  · cases h
  · simp only [withS, R.ls, List.mem_singleton] at h; rw [h]
theorem ls_ofO {α : Type} {o : Option α} {p : α} (h : p ∈ (R.ofO o).ls) : o = some p := by
  cases o
  · cases h
  · simp only [R.ofO, R.ls, List.mem_singleton] at h; rw [h]
theorem ls_one {α : Type} {a p : α} (h : p ∈ (R.one a).ls) : p = a := by simpa [R.ls] using h
theorem ls_cond {α : Type} {b : Bool} {x y : R α} {p : α} (h : p ∈ (bif b then x else y).ls) : p ∈ x.ls ∨ p ∈ y.ls := by
  cases b
  · exact .inr h
  · exact .inl h
theorem aop_fro {C : Ctx} {call : CallF} (hE : EnvFro C.env) (hc : CallFro call) {F : Fr} {S : AS} {op : AOp} : ∀ p ∈ (aop C call F S op).ls, Fro S p.2 := by
  intro p hp
  have same : p.2 = S → Fro S p.2 := fun h => by rw [h]; exact Fro.refl _
  by_cases hclr : ∃ sz z x, op = .clr sz z x
  · obtain ⟨sz, z, x, rfl⟩ := hclr
    simp only [aop] at hp
    split at hp
    · have := ls_one hp; subst this; exact Fro.refl _
    · have := ls_one hp; subst this; exact Fro.refl _
    · split at hp
      · have := ls_one hp; subst this; exact Fro.refl _
      · rcases ls_cond hp with hp | hp
        · split at hp
          · rename_i S' hst; have := ls_one hp; subst this; exact Fro.stl hst
          · cases hp
        · cases hp
    · cases hp
  cases op <;> first
    | (exact absurd ⟨_, _, _, rfl⟩ hclr)
    | skip
  all_goals simp only [aop] at hp
  all_goals first
    | (cases hp; done)
    | exact same (ls_withS hp)
    | (have := ls_one hp; subst this; first | exact Fro.refl _ | exact Fro.newRow _ _ _ _ | exact Fro.push _ _)
    | exact Fro.rng (ls_ofO hp)
    | exact Fro.nxt p hp
    | exact Fro.app (ls_ofO hp)
    | exact hc _ _ _ p hp
    | ((repeat' split at hp) <;> first
        | (cases hp; done)
        | exact same (ls_withS hp)
        | exact hc _ _ _ p hp
        | exact hE _ _ (by assumption) _ _ p hp
        | (have := ls_one hp; subst this; first | exact Fro.refl _ | exact Fro.newRow _ _ _ _ | exact Fro.push _ _ | exact Fro.st (by assumption) | exact Fro.mup (by assumption) | exact Fro.stl (by assumption))
        | (rcases ls_cond hp with hp | hp <;> first
            | (cases hp; done)
            | (have := ls_one hp; subst this; first | exact Fro.refl _ | exact Fro.newRow _ _ _ _)
            | exact Fro.appN (ls_ofO hp)
            | (rcases ls_cond hp with hp | hp <;> first | (cases hp; done) | (have := ls_one hp; subst this; exact Fro.refl _))))
theorem ls_bind {α β : Type} {r : R α} {f : α → R β} {b : β} (h : b ∈ (r.bind f).ls) : ∃ a ∈ r.ls, b ∈ (f a).ls := by
  cases r with
  | no => cases h
  | one a => exact ⟨a, by simp [R.ls], h⟩
  | many l =>
    have key : ∀ l : List α, b ∈ (R.binds f l).ls → ∃ a ∈ l, b ∈ (f a).ls := by
      intro l
      induction l with
      | nil => intro h; cases h
      | cons x l ih =>
        intro h
        simp only [R.binds] at h
        have : b ∈ (f x).ls ∨ b ∈ (R.binds f l).ls := by
          generalize f x = u at h ⊢
          generalize R.binds f l = v at h ⊢
          cases u <;> cases v <;> simp_all [R.join, R.ls]
        rcases this with h | h
        · exact ⟨x, by simp, h⟩
        · obtain ⟨a, h1, h2⟩ := ih h; exact ⟨a, by simp [h1], h2⟩
    exact key l h
theorem R.All.and {α : Type} {Q U : α → Prop} {r : R α} (h : r.All Q) (k : ∀ a ∈ r.ls, U a) : r.All fun a => Q a ∧ U a := by
  cases r with
  | no => exact h
  | one a => exact ⟨h, k a (by simp [R.ls])⟩
  | many l => exact fun a ha => ⟨h a ha, k a ha⟩
theorem runOps_fro {C : Ctx} {call : CallF} (hE : EnvFro C.env) (hc : CallFro call) : ∀ (ops : List AOper) (F : Fr) (S : AS), ∀ r ∈ (runOps C call ops F S).ls, Fro S r.2.2
  | [], F, S, r, h => by have := ls_one h; subst this; exact Fro.refl _
  | o :: os, F, S, r, h => by
    simp only [runOps] at h
    split at h
    · cases h
    · exact runOps_fro hE hc os _ _ r h
    · obtain ⟨p, hp, h⟩ := ls_bind h
      split at h
      · have := ls_one h; subst this; exact aop_fro hE hc p hp
      · exact (aop_fro hE hc p hp).trans (runOps_fro hE hc os _ _ r h)
def PanFro (S : AS) (st : DSt) : Prop := ∀ p x S', st.pan = some (p, x, S') → Fro S S'
theorem dstep_fro {C : Ctx} {call : CallF} (hE : EnvFro C.env) (hc : CallFro call) {o : AOper} {pr us : List Nat} {i : Nat} {st st' : DSt} {S0 : AS} (h : dstep C call o pr us i st = some st') (h0 : Fro S0 st.S) (hp : PanFro S0 st) : Fro S0 st'.S ∧ PanFro S0 st' := by
  unfold dstep at h
  generalize deadB st.pan pr = dead at h
  cases dead with
  | true =>
    simp only [cond_true] at h
    cases hb : isBad o.op with
    | true => rw [hb] at h; cases h
    | false => rw [hb] at h; cases h; exact ⟨h0, hp⟩
  | false =>
  simp only [cond_false] at h
  split at h
  · cases h
  · cases h; exact ⟨h0, hp⟩
  · split at h
    case h_2 => cases h
    rename_i r hr
    have hf : Fro st.S r.2 := aop_fro hE hc r (by rw [hr]; simp [R.ls])
    split at h
    · split at h
      · cases h
      · have := cond_some h
        subst this
        refine ⟨h0, fun p x S' he => ?_⟩
        cases he
        exact h0.trans hf
    · have := cond_some h
      subst this
      refine ⟨?_, hp⟩
      cases ha : o.op.acts with
      | false => simpa [ha] using h0
      | true => simpa [ha] using h0.trans hf
theorem runD_fro {C : Ctx} {call : CallF} (hE : EnvFro C.env) (hc : CallFro call) {S0 : AS} : ∀ (ops : List (AOper × List Nat × List Nat)) (i : Nat) (st st' : DSt), runD C call ops i st = some st' → Fro S0 st.S → PanFro S0 st → Fro S0 st'.S ∧ PanFro S0 st'
  | [], i, st, st', h, h0, hp => by cases h; exact ⟨h0, hp⟩
  | o :: os, i, st, st', h, h0, hp => by
    simp only [runD] at h
    split at h
    · cases h
    · rename_i s1 h1
      obtain ⟨g1, g2⟩ := dstep_fro hE hc h1 h0 hp
      exact runD_fro hE hc os _ _ _ h g1 g2
theorem iter_fro {kp : List Nat} {body : Fr → AS → CodeR} (hb : ∀ F S, ∀ r ∈ (body F S).ls, Fro S r.2.2) : ∀ (n : Nat) (F : Fr) (S : AS), ∀ r ∈ (iter kp body n F S).ls, Fro S r.2.2
  | 0, F, S, r, h => by cases h
  | n + 1, F, S, r, h => by
    simp only [iter] at h
    obtain ⟨p, hp, h⟩ := ls_bind h
    split at h
    · exact (hb F S p hp).trans (iter_fro hb n _ _ r h)
    · have := ls_one h; subst this; exact hb F S p hp
theorem runC_fro {C : Ctx} {call : CallF} (hE : EnvFro C.env) (hc : CallFro call) (L : Nat) : ∀ (c : AC) (F : Fr) (S : AS), ∀ r ∈ (runC C call L c F S).ls, Fro S r.2.2
  | .bad, F, S, r, h => by cases h
  | .skip, F, S, r, h => by have := ls_one h; subst this; exact Fro.refl _
  | .reg ops, F, S, r, h => runOps_fro hE hc ops F S r h
  | .draw ops, F, S, r, h => by
    simp only [runC] at h
    split at h
    · rename_i st hst
      obtain ⟨g1, g2⟩ := runD_fro (S0 := S) hE hc ops 0 _ _ hst (Fro.refl _) (fun _ _ _ h => by cases h)
      split at h
      · have := ls_one h; subst this; exact g1
      · rename_i p hp
        have := ls_one h; subst this
        exact g2 p.1 p.2.1 p.2.2 hp
    · cases h
  | .seq a b, F, S, r, h => by
    simp only [runC] at h
    obtain ⟨p, hp, h⟩ := ls_bind h
    split at h
    · exact (runC_fro hE hc L a F S p hp).trans (runC_fro hE hc L b _ _ r h)
    · have := ls_one h; subst this; exact runC_fro hE hc L a F S p hp
  | .cond x a b, F, S, r, h => by
    simp only [runC] at h
    split at h
    · exact runC_fro hE hc L a F S r h
    · exact runC_fro hE hc L b F S r h
    · cases h
  | .block id a, F, S, r, h => by
    simp only [runC] at h
    obtain ⟨p, hp, h⟩ := ls_bind h
    split at h
    · rcases ls_cond h with h | h <;> (have := ls_one h; subst this; exact runC_fro hE hc L a F S p hp)
    · have := ls_one h; subst this; exact runC_fro hE hc L a F S p hp
  | .loop kp a, F, S, r, h => by
    simp only [runC] at h
    exact iter_fro (fun F S => runC_fro hE hc L a F S) L _ _ r h
  | .exit id, F, S, r, h => by have := ls_one h; subst this; exact Fro.refl _
  | .scope a, F, S, r, h => by simp only [runC] at h; exact runC_fro hE hc L a F S r h
  | .label, F, S, r, h => by have := ls_one h; subst this; exact Fro.refl _
  | .ret, F, S, r, h => by have := ls_one h; subst this; exact Fro.refl _
theorem ls_merge {r : R (AV × Option AS)} {p : AV × Option AS} (h : p ∈ (mergeR r).ls) : p ∈ r.ls := by
  cases r with
  | no => exact h
  | one a => exact h
  | many l =>
    cases l with
    | nil => exact h
    | cons a l =>
      simp only [mergeR] at h
      cases hb : l.all (leafBeq a) <;> rw [hb] at h
      · exact h
      · have := ls_one h; subst this; simp [R.ls]
theorem callR_fro {C : Ctx} {call : CallF} (hE : EnvFro C.env) (hc : CallFro call) {L g : Nat} {args : List AV} {rv : AV} {S : AS} : ∀ S' ∈ (callR C call L g args rv S).ls, Fro S S' := by
  intro S' h
  unfold callR at h
  split at h
  · cases h
  · split at h
    · rcases ls_cond h with h | h
      case inr => cases h
      obtain ⟨r, hr, h⟩ := ls_bind h
      have hf := runC_fro hE hc L _ _ _ r hr
      unfold endR at h
      split at h
      · cases h
      · cases h
      · split at h
        · have := ls_one h; subst this; exact hf
        · cases h
    · cases h
theorem runB_fro {C : Ctx} {call : CallF} (hE : EnvFro C.env) (hc : CallFro call) {L : Nat} {fn : AFn} {F : Fr} {S : AS} : ∀ r ∈ (runB C call L fn F S).ls, Fro S r.2.2 := by
  intro r h
  unfold runB at h
  split at h
  · exact runC_fro hE hc L _ _ _ r h
  · cases h
  · cases h
  · obtain ⟨p, hp, h⟩ := ls_bind h
    have h1 := runC_fro hE hc L _ _ _ p hp
    split at h
    case h_2 => cases h
    obtain ⟨q, hq, h⟩ := ls_bind h
    have h2 := runOps_fro hE hc _ _ _ q hq
    split at h
    case h_2 => cases h
    unfold runF at h
    split at h
    case h_2 => cases h
    obtain ⟨u, hu, h⟩ := ls_bind h
    have h3 := runC_fro hE hc L _ _ _ u hu
    split at h
    case h_2 => cases h
    obtain ⟨S', hS', h⟩ := ls_bind h
    have h4 := callR_fro hE hc S' hS'
    have := ls_one h; subst this
    exact ((h1.trans h2).trans h3).trans h4
theorem Fro.put_new {a b : AS} (h : Fro a b) {m : Nat} (hm : a.n ≤ m) (o : AObj) : Fro a (b.put m o) :=
  ⟨by simpa using h.n, Nat.le_trans (mw_put b m o).1 h.mw, fun v h1 h2 => by
    have := (mw_put b m o).1
    rw [AS.get_put, if_neg (by omega)]; exact h.get v h1 (by omega), fun v h1 h2 => by
    rw [AS.get_put, if_neg (by omega)]; exact h.mark v h1 h2⟩
theorem Fro.shutL {a : AS} : ∀ (ms : List Nat) {b : AS}, Fro a b → (∀ m ∈ ms, a.n ≤ m) → Fro a (shutL ms b)
  | [], _, h, _ => h
  | m :: ms, _, h, hm => Fro.shutL ms (h.put_new (hm m List.mem_cons_self) _) fun x hx => hm x (List.mem_cons_of_mem _ hx)
theorem rnd_fro {C : Ctx} {call : CallF} (hE : EnvFro C.env) (hc : CallFro call) {L : Nat} {asg body : AC} {v : Nat} {F : Fr} {ps : List Nat} (args : List AV) (S : AS) : ∀ p ∈ (rnd C call L asg body v F ps args S).ls, Fro S p.2 := by
  intro p hp
  unfold rnd at hp
  split at hp
  case h_2 => cases hp
  rename_i hv
  rcases ls_cond hp with hp | hp
  case inr => cases hp
  obtain ⟨r, hr, hp⟩ := ls_bind hp
  have h1 := runC_fro hE hc L _ _ _ r hr
  split at hp
  case h_2 => cases hp
  rename_i _ hv1
  obtain ⟨q, hq, hp⟩ := ls_bind hp
  have h2 := (h1.trans (Fro.put _ v (.raw 2) (by rw [hv1]; simp))).trans (runC_fro hE hc L _ _ _ q hq)
  split at hp
  case h_2 => cases hp
  rename_i hv2
  split at hp <;> first
    | (cases hp; done)
    | (have := ls_one hp; subst this; exact h2.trans (Fro.put _ v _ (by rw [hv2]; simp)))
def MFro (S : AS) (ms : List Nat) (r : (AE × Fr × AS) × List Nat) : Prop := Fro S r.1.2.2 ∧ ∀ m ∈ r.2, m ∈ ms ∨ S.n ≤ m
theorem MFro.trans {S : AS} {ms : List Nat} {r q : (AE × Fr × AS) × List Nat} (h : MFro S ms r) (k : MFro r.1.2.2 r.2 q) : MFro S ms q :=
  ⟨h.1.trans k.1, fun m hm => (k.2 m hm).elim (fun h' => h.2 m h') fun h' => .inr (Nat.le_trans h.1.n h')⟩
theorem iterM_fro {kp : List Nat} {body : Fr → AS → List Nat → CodeM} (hb : ∀ F S ms, ∀ r ∈ (body F S ms).ls, MFro S ms r) : ∀ (n : Nat) (F : Fr) (S : AS) (ms : List Nat), ∀ r ∈ (iterM kp body n F S ms).ls, MFro S ms r
  | 0, F, S, ms, r, h => by cases h
  | n + 1, F, S, ms, r, h => by
    simp only [iterM] at h
    obtain ⟨p, hp, h⟩ := ls_bind h
    have h1 := hb F S ms p hp
    split at h
    · exact h1.trans (iterM_fro hb n _ _ _ r h)
    · have := ls_one h; subst this; exact h1
theorem runM_fro {callc : Env → CallF} {C : Ctx} (hc : ∀ env, EnvFro env → CallFro (callc env)) (hE : EnvFro C.env) (L : Nat) : ∀ (c : MC) (F : Fr) (S : AS) (ms : List Nat), ∀ r ∈ (runM callc C L c F S ms).ls, MFro S ms r
  | .c a, F, S, ms, r, h => by
    simp only [runM] at h
    obtain ⟨p, hp, h⟩ := ls_bind h
    have := ls_one h; subst this
    exact ⟨runC_fro hE (hc _ hE) L a F S p hp, fun m hm => .inl hm⟩
  | .seq a b, F, S, ms, r, h => by
    simp only [runM] at h
    obtain ⟨p, hp, h⟩ := ls_bind h
    have h1 := runM_fro hc hE L a F S ms p hp
    split at h
    · exact h1.trans (runM_fro hc hE L b _ _ _ r h)
    · have := ls_one h; subst this; exact h1
  | .cond x a b, F, S, ms, r, h => by
    simp only [runM] at h
    split at h
    · exact runM_fro hc hE L a F S ms r h
    · exact runM_fro hc hE L b F S ms r h
    · cases h
  | .block id a, F, S, ms, r, h => by
    simp only [runM] at h
    obtain ⟨p, hp, h⟩ := ls_bind h
    have h1 := runM_fro hc hE L a F S ms p hp
    split at h
    · rcases ls_cond h with h | h <;> (have := ls_one h; subst this; exact h1)
    · have := ls_one h; subst this; exact h1
  | .loop kp a, F, S, ms, r, h => by
    simp only [runM] at h
    exact iterM_fro (fun F S ms => runM_fro hc hE L a F S ms) L _ _ _ r h
  | .rf x ps asg body, F, S, ms, r, h => by
    simp only [runM] at h
    split at h
    case h_2 => cases h
    obtain ⟨p, hp, h⟩ := ls_bind h
    have hE' : EnvFro (fun u => bif Nat.beq u (S.n + 1) then some (rnd C (callc C.env) L asg body (S.n + 1) F ps) else C.env u) := by
      intro v rd hv
      simp only at hv
      cases hb : Nat.beq v (S.n + 1) <;> rw [hb] at hv
      · exact hE v rd hv
      · cases hv; exact rnd_fro hE (hc _ hE)
    have h1 := (Fro.push S (.raw 0)).trans ((Fro.push _ (.raw 1)).trans (hc _ hE' _ _ _ p hp))
    have hm : ∀ m ∈ S.n :: ms, m ∈ ms ∨ S.n ≤ m := fun m hm => (List.mem_cons.1 hm).elim (fun e => .inr (by omega)) .inl
    split at h
    · cases h
    · split at h
      case h_2 => cases h
      split at h
      · have := ls_one h; subst this; exact ⟨h1.put_new (by omega) _, hm⟩
      · have := ls_one h; subst this; exact ⟨h1.put_new (by omega) _, hm⟩
      · rcases ls_cond h with h | h
        · have := ls_one h; subst this; exact ⟨h1.put_new (by omega) _, hm⟩
        · cases h
def GivFro (G : Giv) : Prop := ∀ f g, G f = some g → ∀ args S, ∀ p ∈ (g args S).ls, Fro S p.2
theorem GivFro.none : GivFro fun _ => none := fun _ _ h => by cases h
theorem finS_fro {S S' : AS} (hf : Fro ⟨S.objs, S.n, S.n⟩ S') (v : AV) : Fro S (match finS S v S' with | none => S | some S' => S') := by
  have h1 := hf.n
  have h2 := hf.mw
  simp only at h1 h2
  simp only [finS]
  cases hs : (AV.scalar v && Nat.ble S.n S'.mw) with
  | true => exact Fro.refl S
  | false =>
    simp only [cond_false]
    refine ⟨h1, ?_, fun v hv1 hv2 => ?_, fun v hv1 hv2 => ?_⟩
    · simp only
      cases hb : Nat.blt S.mw S'.mw with
      | true => exact Nat.le_refl _
      | false => have := blt_false hb
                 simp; omega
    · have : v < S'.mw := by
        simp only at hv2
        cases hb : Nat.blt S.mw S'.mw with
        | true => have : S.mw < S'.mw := by simpa using hb
                  rw [hb] at hv2; simp at hv2; omega
        | false => rw [hb] at hv2; simpa using hv2
      exact hf.get v hv1 this
    · exact hf.mark v hv1 hv2
theorem callE_fro {G : Giv} (hG : GivFro G) {L : Nat} : ∀ (d : Nat) (C : Ctx), EnvFro C.env → CallFro (callE G L d C)
  | 0, _, _ => fun _ _ _ p hp => by cases hp
  | d + 1, C, hE => fun f args S p hp => by
    simp only [callE] at hp
    split at hp
    · rename_i g hg; exact hG f g hg args S p hp
    split at hp
    · cases hp
    · rename_i fn _
      rcases ls_cond hp with hp | hp
      case inr => cases hp
      split at hp
      · obtain ⟨q, hq, hp⟩ := ls_bind hp
        have hq := ls_merge hq
        obtain ⟨r, hr, hq⟩ := ls_bind hq
        have hf := runM_fro (fun e he => callE_fro hG d { C with env := e } he) hE L _ _ _ _ r hr
        have hs := Fro.shutL r.2 hf.1 fun m hm => by
          rcases hf.2 m hm with h | h
          · cases h
          · exact h
        have hp := ls_one hp
        subst hp
        unfold finM at hq
        split at hq
        · cases hq
        · cases hq
        · split at hq
          case h_2 => cases hq
          have := ls_one hq
          subst this
          exact finS_fro hs _
      · obtain ⟨q, hq, hp⟩ := ls_bind hp
        have hq := ls_merge hq
        obtain ⟨r, hr, hq⟩ := ls_bind hq
        have hf := runB_fro hE (callE_fro hG d C hE) r hr
        have hp := ls_one hp
        subst hp
        unfold finR at hq
        split at hq
        · cases hq
        · rename_i x _
          have := ls_one hq
          subst this
          exact finS_fro hf (.pan x)
        · split at hq
          case h_2 => cases hq
          have := ls_one hq
          subst this
          exact finS_fro hf _
end Go.Proofs.Ytednmmcdjhfflaa.Vai
