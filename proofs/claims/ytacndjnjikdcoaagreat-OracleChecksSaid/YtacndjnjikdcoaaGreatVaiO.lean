/-
  A verified abstract interpreter, part O: a row of operations in the order of the text.
-/
import Derived.Test.YtacndjnjikdcoaaGreatVaiN
namespace Go.Proofs.YtacndjnjikdcoaaGreat.Vai
open Go Go.RowKit

section
variable {P : Program} {w0 : World} {ρ ρ' : Emb} {S : AS} {w : World} {n : Nat} {F : Fr} {a : Act} {call : CallF} {kp : Nat → List Nat} {env : Env} {tmps : Array Value}

theorem FRel.ext (h : FRel ρ n F tmps) (he : Ext ρ ρ') : FRel ρ' n F tmps := ⟨h.size, fun t => Rel.ext he _ _ (h.get t)⟩

theorem Fr.get_cons (d : Nat) (v : AV) (F : Fr) (t : Nat) : Fr.get ((d, v) :: F) t = if d = t then v else Fr.get F t := by
  simp only [Fr.get]
  cases h : Nat.beq d t with
  | true => have : d = t := by simpa using h
            simp [this]
  | false =>
    have : ¬ d = t := by intro e; subst e; simp at h
    simp [this]

theorem FRel.put (h : FRel ρ n F tmps) {d : Option Nat} {x : AV} {v : Value} (hd : ∀ t, d = some t → t < n) (hr : Rel ρ x v) (df : List Deferred) :
    FRel ρ n (F.put d x) ((⟨tmps, df⟩ : Act).put d v).tmps := by
  cases d with
  | none => exact h
  | some d =>
    have hlt := hd d rfl
    refine ⟨by simp [Act.put, h.size], fun t => ?_⟩
    simp only [Fr.put, Fr.get_cons, Act.put]
    by_cases e : d = t
    · subst e
      have : d < tmps.size := by rw [h.size]; exact hlt
      simp [this, hr]
    · have := h.get t
      simp only [if_neg e]
      simpa [Array.getElem?_setIfInBounds_ne e] using this

theorem FRel.keep (h : FRel ρ n F tmps) : ∀ l : List Nat, FRel ρ n (F.keep l) tmps := by
  intro l
  refine ⟨h.size, fun t => ?_⟩
  induction l with
  | nil => simp [Fr.keep, Fr.get, Rel]
  | cons u l ih =>
    simp only [Fr.keep, Fr.get_cons]
    by_cases e : u = t
    · subst e; rw [if_pos rfl]; exact h.get u
    · simp only [if_neg e]; exact ih

theorem put_defers (a : Act) (d : Option Nat) (v : Value) : (a.put d v).defers = a.defers := by cases d <;> rfl

/-- what the compiled operation keeps of the operation -/
theorem cOper_say {ops : Array Oper} {o : Oper} : ((cOper P ops n o).gd = none ∧ (cOper P ops n o).op = .bad) ∨
    ((cOper P ops n o).dst = o.dst ∧ (∀ t, o.dst = some t → t < n) ∧ cOp P o.op = some (cOper P ops n o).op ∧
    (((cOper P ops n o).gd = none ∧ o.guard = none) ∨ ∃ j b t, o.guard = some (j, b) ∧ (ops[j]?).bind (·.dst) = some t ∧ (cOper P ops n o).gd = some (t, b))) := by
  unfold cOper
  split
  case h_2 => exact .inl ⟨rfl, rfl⟩
  rename_i g ao hg hao hd
  refine .inr ⟨rfl, fun t ht => ?_, hao, ?_⟩
  · rw [ht] at hd; simpa [cDok] using hd
  · cases hgd : o.guard with
    | none => rw [hgd] at hg; cases hg; exact .inl ⟨rfl, rfl⟩
    | some jb =>
      obtain ⟨j, b⟩ := jb
      rw [hgd] at hg
      simp only [cGd] at hg
      split at hg
      · rename_i t ht; cases hg; exact .inr ⟨j, b, t, rfl, ht, rfl⟩
      · cases hg

theorem wantA_say (hF : FRel ρ n F a.tmps) {ops : Array Oper} {o : Oper} {gd : Option (Nat × Bool)} (hg : (gd = none ∧ o.guard = none) ∨ ∃ j b t, o.guard = some (j, b) ∧ (ops[j]?).bind (·.dst) = some t ∧ gd = some (t, b)) {b : Bool} (h : wantA F gd = some b) :
    Region.wanted o (yielded ops a.tmps) = b := by
  rcases hg with ⟨h1, h2⟩ | ⟨j, c, t, h1, h2, h3⟩
  · rw [h1] at h
    simp only [wantA, Option.some.injEq] at h
    subst h
    simp [Region.wanted, h2]
  · rw [h3] at h
    simp only [wantA] at h
    split at h
    case h_2 => cases h
    rename_i d q
    cases h
    have := hF.get t
    rw [q] at this
    simp only [Rel] at this
    have ht : a.tmps[t]? = some (.bool d) := by
      cases hq : a.tmps[t]? with
      | none =>
        have h2 : a.tmps.getD t undef = undef := by simp [hq]
        rw [h2] at this; cases this
      | some u =>
        have h2 : a.tmps.getD t undef = u := by simp [hq]
        rw [h2] at this; rw [this]
    have hy : yielded ops a.tmps j = some d := by
      unfold yielded
      rw [h2]
      simp [ht]
    simp only [Region.wanted, h1, hy]
    simp

/-- what an end of a code is to the machine -/
def EndX (ρ : Emb) : AE → Exit → Prop
  | .norm, e => e = .normal
  | .exit id, e => e = .exit id
  | .ret, e => e = .ret
  | .pan y, e => ∃ v, e = .panic [{ v, recovered := false }] ∧ Rel ρ y v

/-- what an end is to be good for -/
def Good (w0 : World) (n : Nat) (ds : List Deferred) (ρ : Emb) (Q : Exit → Act → World → Prop) (r : AE × Fr × AS) : Prop :=
  ∀ ρ' e a' w', Ext ρ ρ' → EndX ρ' r.1 e → FRel ρ' n r.2.1 a'.tmps → a'.defers = ds → RS w0 ρ' r.2.2 w' → Q e a' w'

theorem Good.ext {ds : List Deferred} {ρ ρ' : Emb} {Q : Exit → Act → World → Prop} {r : AE × Fr × AS} (h : Good w0 n ds ρ Q r) (he : Ext ρ ρ') : Good w0 n ds ρ' Q r :=
  fun ρ'' e a' w' he' => h ρ'' e a' w' (he.trans he')

theorem isPan_of {ρ : Emb} {x : AV} {v : Value} (h : Rel ρ x v) : ∀ y, x ≠ .pan y := by
  rintro y rfl; simp [Rel] at h

theorem ops_sound {ρ0 : Emb} (hcall : CallOk P w0 ρ0 call) (henv : EnvOk P w0 ρ0 env) {r0 : Option Nat} {m : Nat} {ops : Array Oper} {ds : List Deferred} {Q : Exit → Act → World → Prop} : ∀ (os : List Oper) (i : Nat), ops.toList.drop i = os → ∀ (F : Fr) (S : AS) (ρ : Emb) (a : Act) (w : World),
    Ext ρ0 ρ → FRel ρ n F a.tmps → a.defers = ds → RS w0 ρ S w →
    (runOps (ctxE P kp env) call (os.map (cOper P ops n)) F S).All (Good w0 n ds ρ Q) →
    wpOpsIn (fw r0) m P ops Q (List.range' i os.length) a w
  | [], i, _, F, S, ρ, a, w, h0, hF, hd, hS, h => by
    exact h ρ _ a w (Ext.refl _) rfl hF hd hS
  | o :: os, i, hdrop, F, S, ρ, a, w, h0, hF, hd, hS, h => by
    have hoi : ops[i]? = some o := by
      have : ops.toList[i]? = some o := by rw [← List.head?_drop, hdrop]; rfl
      simpa using this
    have hdrop' : ops.toList.drop (i + 1) = os := by rw [← List.drop_drop, hdrop]; rfl
    simp only [List.map_cons, runOps] at h
    simp only [List.length_cons, List.range'_succ, wpOpsIn, hoi]
    rcases cOper_say (P := P) (n := n) (ops := ops) (o := o) with ⟨hgd, hb⟩ | ⟨hdst, hlt, hcop, hg⟩
    · exfalso
      rw [hgd, hb] at h
      simp only [wantA, aop, R.bind_no] at h
      exact h
    · cases hwa : wantA F (cOper P ops n o).gd with
      | none => rw [hwa] at h; exact h.elim
      | some wb =>
        rw [hwa] at h
        have hw := wantA_say hF hg hwa
        cases wb with
        | false =>
          rw [if_neg (by rw [hw]; simp)]
          simp only at h
          rw [hdst] at h
          have hu : Rel ρ undefA undef := ⟨[], rfl, rfl⟩
          refine ⟨fun _ _ => trivial, ?_⟩
          exact ops_sound hcall henv os (i + 1) hdrop' _ S ρ _ w h0 (hF.put hlt hu a.defers) (by rw [put_defers]; exact hd) hS h
        | true =>
          rw [if_pos hw]
          simp only at h
          rw [hdst] at h
          refine oper_sound hcall henv h0 hF hS hcop (R.All.bind h) ?_ ?_
          · intro p ρ1 v w1 hT he hr hS1
            have hF1 := (hF.ext he).put hlt hr a.defers
            split at hT
            · rename_i y hq; exact absurd hq (isPan_of hr y)
            refine ops_sound (ds := ds) hcall henv os (i + 1) hdrop' _ p.2 ρ1 _ w1 (h0.trans he) hF1 (by rw [put_defers]; exact hd) hS1 ?_
            exact R.All.mono hT fun r hr' => hr'.ext he
          · intro p ρ1 y v w1 hT hp he hr hS1
            simp only [hp] at hT
            exact hT ρ1 _ a w1 he ⟨v, rfl, hr⟩ (hF.ext he) hd hS1

end
end Go.Proofs.YtacndjnjikdcoaaGreat.Vai
