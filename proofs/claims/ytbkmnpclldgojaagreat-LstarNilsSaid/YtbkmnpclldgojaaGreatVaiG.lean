/-
  A verified abstract interpreter, part G: the operations that call nothing, second part: numbers, comparisons, structs, new rows.
-/
import Derived.Test.YtbkmnpclldgojaaGreatVaiF
import Derived.Laws.Strings
namespace Go.Proofs.YtbkmnpclldgojaaGreat.Vai
open Go Go.RowKit

section
variable {P : Program} {w0 : World} {ρ : Emb} {S : AS} {w : World} {n : Nat} {F : Fr} {a : Act}

theorem run_aint {op : BinOp} {t : TypeId} {k : IntKind} {x y : Int} {z : AV} (hs : isShift op = false) (h : aint op k x y = some z) : ∃ v, Rel ρ z v ∧ (binOp op t (.int k x) (.int k y)).run P w = .ok v w := by
  cases op <;> simp only [aint, isShift, Bool.true_eq_false, Option.some.injEq] at h hs <;> first
    | (subst h; exact ⟨_, rfl, by simp [binOp, Op.intArith, Op.intCmp, Op.intBits]⟩)
    | (split at h; · cases h
       · rename_i hy; cases h; exact ⟨_, rfl, by simp [binOp, Op.intDiv, hy]⟩)

theorem run_ashift {op : BinOp} {t : TypeId} {k k' : IntKind} {x y : Int} {z : AV} (h : ashift op k x y = some z) : ∃ v, Rel ρ z v ∧ (binOp op t (.int k x) (.int k' y)).run P w = .ok v w := by
  unfold ashift at h
  split at h
  · cases h
  · rename_i hy
    split at h
    · cases h; exact ⟨_, rfl, by simp [binOp, Op.shift, hy]⟩
    · cases h; exact ⟨_, rfl, by simp [binOp, Op.shift, hy]⟩
    · cases h

theorem eqGuard_plain {op : BinOp} {t : TypeId} {x y : Operand} {u v : Value} (h1 : u ≠ .nilIface) (h2 : ∀ c, u ≠ .agg c) : (eqGuard op t x y u v).run P w = .ok () w := by
  cases u <;> first
    | exact absurd rfl h1
    | exact absurd rfl (h2 _)
    | (cases op <;> rfl)

theorem append_mk (x y : List UInt8) : (ByteArray.mk x.toArray) ++ (ByteArray.mk y.toArray) = ByteArray.mk (x ++ y).toArray := by
  apply ByteArray.ext
  simp

theorem sim_bin (C : Ctx) (call : CallF) (hF : FRel ρ n F a.tmps) (hS : RS w0 ρ S w) {o : Oper} {op : BinOp} {t u : TypeId} {x y : Operand} {x' y' : AX} (ho : o.op = .binOp op t x y u) (h1 : cX x = some x') (h2 : cX y = some y') :
    Sim P w0 ρ w (execOp a.eval o) (aop C call F S (.bin op x' y')) := by
  have hx := cX_ev hF h1
  have hy := cX_ev hF h2
  simp only [aop]
  refine Sim.with hS fun z hz => ?_
  unfold abin at hz
  split at hz
  · rename_i k i k' j q1 q2
    rw [q1] at hx; rw [q2] at hy
    simp only [Rel] at hx hy
    have hg := eqGuard_plain (P := P) (w := w) (op := op) (t := t) (x := x) (y := y) (u := .int k i) (v := .int k' j) (by simp) (by simp)
    cases hsh : isShift op with
    | true =>
      rw [hsh] at hz
      obtain ⟨v, hv, hr⟩ := run_ashift (P := P) (ρ := ρ) (w := w) (t := t) (k' := k') hz
      exact ⟨v, hv, by simp [execOp, ho, hx, hy, hg, hr]⟩
    | false =>
      rw [hsh] at hz
      simp only [cond_false] at hz
      cases hk : kindBeq k k' with
      | false => rw [hk] at hz; cases hz
      | true =>
        rw [hk] at hz
        have := kindBeq_eq hk
        subst this
        obtain ⟨v, hv, hr⟩ := run_aint (P := P) (ρ := ρ) (w := w) (t := t) hsh hz
        exact ⟨v, hv, by simp [execOp, ho, hx, hy, hg, hr]⟩
  · rename_i s s' q1 q2
    rw [q1] at hx; rw [q2] at hy
    simp only [Rel] at hx hy
    have hg := eqGuard_plain (P := P) (w := w) (op := op) (t := t) (x := x) (y := y) (u := .string ⟨s.toArray⟩) (v := .string ⟨s'.toArray⟩) (by simp) (by simp)
    split at hz
    · cases hz; exact ⟨_, rfl, by simp [execOp, ho, hx, hy, hg, binOp, Op.stringOp]⟩
    · cases hz; exact ⟨_, rfl, by simp [execOp, ho, hx, hy, hg, binOp, Op.stringOp]⟩
    · cases hb : Nat.ble (s.length + s'.length) bound46 with
      | false => rw [hb] at hz; cases hz
      | true =>
        rw [hb] at hz
        cases hz
        have hle : s.length + s'.length ≤ 70368744177664 := by simpa [bound46] using hb
        have hsz : ¬ ((ByteArray.mk s.toArray).size + (ByteArray.mk s'.toArray).size : Int) > IntKind.i64.max := by
          have : IntKind.i64.max = 9223372036854775807 := by decide
          rw [this]
          simp [ByteArray.size]; omega
        refine ⟨.string ⟨(s ++ s').toArray⟩, rfl, ?_⟩
        simp only [execOp, ho, hx, hy, Sem.run_bind, hg, Result.andThen_ok, binOp, Op.stringOp, append_mk]
        rw [if_neg (by push_cast; exact hsz)]
        rfl
    · cases hz
  · cases hz

theorem maxDepth_succ : Op.maxDepth = 9999 + 1 := rfl

theorem binOp_eq {op : BinOp} {neg : Bool} (hop : op = (bif neg then .neq else .eql)) {t : TypeId} {u v : Value} {r : Bool} (q1 : ∀ k i, u ≠ .int k i) (q2 : ∀ k i, u ≠ .float k i) (q3 : ∀ k i j, u ≠ .complex k i j) (q4 : ∀ s, u ≠ .string s)
    (hr : (Op.equal t u v).run P w = .ok r w) : (binOp op t u v).run P w = .ok (.bool (bif neg then !r else r)) w := by
  subst hop
  cases neg <;> cases u <;> first
    | exact absurd rfl (q1 _ _)
    | exact absurd rfl (q2 _ _)
    | exact absurd rfl (q3 _ _ _)
    | exact absurd rfl (q4 _)
    | (simp only [cond_true, cond_false, binOp, Sem.run_bind, hr, Result.andThen_ok]; rfl)

theorem equal_bool {t : TypeId} {c b : Bool} (d : Nat) (hu : P.underlying t = some .bool) : (Op.equalIn (d + 1) t (.bool c) (.bool b)).run P w = .ok (c == b) w := by
  simp only [Op.equalIn, Sem.run_bind, run_underlying hu, Result.andThen_ok]; rfl
theorem equal_ptr1 {t : TypeId} {e : TypeId} (d : Nat) (hu : P.underlying t = some (.pointer e)) : (Op.equalIn (d + 1) t (.pointer none) (.pointer none)).run P w = .ok true w := by
  simp only [Op.equalIn, Sem.run_bind, run_underlying hu, Result.andThen_ok]; rfl
theorem equal_ptr2 {t : TypeId} {e : TypeId} {p : Addr} (d : Nat) (hu : P.underlying t = some (.pointer e)) : (Op.equalIn (d + 1) t (.pointer none) (.pointer (some p))).run P w = .ok false w := by
  simp only [Op.equalIn, Sem.run_bind, run_underlying hu, Result.andThen_ok]; rfl
theorem equal_ptr3 {t : TypeId} {e : TypeId} {p : Addr} (d : Nat) (hu : P.underlying t = some (.pointer e)) : (Op.equalIn (d + 1) t (.pointer (some p)) (.pointer none)).run P w = .ok false w := by
  simp only [Op.equalIn, Sem.run_bind, run_underlying hu, Result.andThen_ok]; rfl
theorem equal_ifc1 {t : TypeId} {m : Array (String × TypeId)} (d : Nat) (hu : P.underlying t = some (.interface m)) : (Op.equalIn (d + 1) t (.nilIface) (.nilIface)).run P w = .ok true w := by
  simp only [Op.equalIn, Sem.run_bind, run_underlying hu, Result.andThen_ok]; rfl
theorem equal_ifc2 {t : TypeId} {q : TypeId} {m : Array (String × TypeId)} {v : Value} (d : Nat) (hu : P.underlying t = some (.interface m)) : (Op.equalIn (d + 1) t (.nilIface) (.iface q v)).run P w = .ok false w := by
  simp only [Op.equalIn, Sem.run_bind, run_underlying hu, Result.andThen_ok]; rfl
theorem equal_ifc3 {t : TypeId} {q : TypeId} {m : Array (String × TypeId)} {v : Value} (d : Nat) (hu : P.underlying t = some (.interface m)) : (Op.equalIn (d + 1) t (.iface q v) (.nilIface)).run P w = .ok false w := by
  simp only [Op.equalIn, Sem.run_bind, run_underlying hu, Result.andThen_ok]; rfl
theorem equal_sl1 {t : TypeId} {e : TypeId} (d : Nat) (hu : P.underlying t = some (.slice e)) : (Op.equalIn (d + 1) t (.slice none 0 0) (.slice none 0 0)).run P w = .ok true w := by
  simp only [Op.equalIn, Sem.run_bind, run_underlying hu, Result.andThen_ok]; rfl
theorem equal_sl2 {t : TypeId} {e : TypeId} {p : Addr} {i : Nat} {j : Nat} (d : Nat) (hu : P.underlying t = some (.slice e)) : (Op.equalIn (d + 1) t (.slice none 0 0) (.slice (some p) i j)).run P w = .ok false w := by
  simp only [Op.equalIn, Sem.run_bind, run_underlying hu, Result.andThen_ok]; rfl
theorem equal_sl3 {t : TypeId} {e : TypeId} {p : Addr} {i : Nat} {j : Nat} (d : Nat) (hu : P.underlying t = some (.slice e)) : (Op.equalIn (d + 1) t (.slice (some p) i j) (.slice none 0 0)).run P w = .ok false w := by
  simp only [Op.equalIn, Sem.run_bind, run_underlying hu, Result.andThen_ok]; rfl
theorem equal_mp1 {t : TypeId} {e : TypeId} {e2 : TypeId} (d : Nat) (hu : P.underlying t = some (.map e e2)) : (Op.equalIn (d + 1) t (.map none) (.map none)).run P w = .ok true w := by
  simp only [Op.equalIn, Sem.run_bind, run_underlying hu, Result.andThen_ok]; rfl
theorem equal_mp2 {t : TypeId} {e : TypeId} {e2 : TypeId} {i : Nat} (d : Nat) (hu : P.underlying t = some (.map e e2)) : (Op.equalIn (d + 1) t (.map none) (.map (some i))).run P w = .ok false w := by
  simp only [Op.equalIn, Sem.run_bind, run_underlying hu, Result.andThen_ok]; rfl
theorem equal_mp3 {t : TypeId} {e : TypeId} {e2 : TypeId} {i : Nat} (d : Nat) (hu : P.underlying t = some (.map e e2)) : (Op.equalIn (d + 1) t (.map (some i)) (.map none)).run P w = .ok false w := by
  simp only [Op.equalIn, Sem.run_bind, run_underlying hu, Result.andThen_ok]; rfl
theorem equal_fu1 {t : TypeId} {ps : Array TypeId} {rs : Array TypeId} {vr : Bool} (d : Nat) (hu : P.underlying t = some (.func ps rs vr)) : (Op.equalIn (d + 1) t (.nilFunc) (.nilFunc)).run P w = .ok true w := by
  simp only [Op.equalIn, Sem.run_bind, run_underlying hu, Result.andThen_ok]; rfl
theorem equal_fu2 {t : TypeId} {ps : Array TypeId} {rs : Array TypeId} {vr : Bool} {f : Fn} {xs : Array Value} {ys : Array Value} (d : Nat) (hu : P.underlying t = some (.func ps rs vr)) : (Op.equalIn (d + 1) t (.nilFunc) (.func f xs ys)).run P w = .ok false w := by
  simp only [Op.equalIn, Sem.run_bind, run_underlying hu, Result.andThen_ok]; rfl
theorem equal_fu3 {t : TypeId} {ps : Array TypeId} {rs : Array TypeId} {vr : Bool} {f : Fn} {xs : Array Value} {ys : Array Value} (d : Nat) (hu : P.underlying t = some (.func ps rs vr)) : (Op.equalIn (d + 1) t (.func f xs ys) (.nilFunc)).run P w = .ok false w := by
  simp only [Op.equalIn, Sem.run_bind, run_underlying hu, Result.andThen_ok]; rfl

/-- what the kind says of the type -/
def EKSay (P : Program) (t : TypeId) (lit : Bool) : EK → Prop
  | .bool => P.underlying t = some .bool
  | .ptr => ∃ e k, P.underlying t = some (.pointer e) ∧ sizeO P e = some (k + 1)
  | .ifc l => l = lit ∧ ∃ m, P.underlying t = some (.interface m)
  | .sl => ∃ e, P.underlying t = some (.slice e)
  | .mp => ∃ k e, P.underlying t = some (.map k e)
  | .fu => ∃ a b c, P.underlying t = some (.func a b c)
theorem ekOf_say {t : TypeId} {lit : Bool} {k : EK} (h : ekOf P t lit = some k) : EKSay P t lit k := by
  unfold ekOf at h
  split at h
  · rename_i hu; cases h; exact hu
  · rename_i e hu
    split at h
    · cases h
    · rename_i q hq hk; cases h
      cases q with
      | zero => exact absurd rfl hq
      | succ q => exact ⟨e, q, hu, hk⟩
    · cases h
  · rename_i m hu; cases h; exact ⟨rfl, m, hu⟩
  · rename_i e hu; cases h; exact ⟨e, hu⟩
  · rename_i e hu; cases h; exact ⟨_, _, hu⟩
  · rename_i e hu; cases h; exact ⟨_, _, _, hu⟩
  · cases h

theorem eqGuard_nil {op : BinOp} {t : TypeId} {x y : Operand} (h : (isConst x || isConst y) = true) : (eqGuard op t x y .nilIface .nilIface).run P w = .ok () w := by
  cases x <;> cases y <;> first
    | (simp [isConst] at h; done)
    | (cases op <;> rfl)
theorem eqGuard_nil1 {op : BinOp} {t : TypeId} {x y : Operand} {u : TypeId} {v : Value} : (eqGuard op t x y .nilIface (.iface u v)).run P w = .ok () w := by
  cases op <;> rfl

theorem sim_eq (C : Ctx) (call : CallF) (hF : FRel ρ n F a.tmps) (hS : RS w0 ρ S w) {o : Oper} {op : BinOp} {neg : Bool} {t u : TypeId} {x y : Operand} {x' y' : AX} {k : EK} (ho : o.op = .binOp op t x y u) (h1 : cX x = some x') (h2 : cX y = some y')
    (hop : op = (bif neg then .neq else .eql)) (hk : ekOf P t (isConst x || isConst y) = some k) : Sim P w0 ρ w (execOp a.eval o) (aop C call F S (.eq neg k x' y')) := by
  have hx := cX_ev hF h1
  have hy := cX_ev hF h2
  have hsay := ekOf_say hk
  simp only [aop]
  split
  case h_2 => exact Sim.no
  rename_i b hb
  refine Sim.same hS rfl ?_
  have key : (eqGuard op t x y (a.eval x) (a.eval y)).run P w = .ok () w ∧ (binOp op t (a.eval x) (a.eval y)).run P w = .ok (.bool (bif neg then !b else b)) w := by
    unfold aeq at hb
    split at hb <;> first | (cases hb; done) | skip
    all_goals
      rename_i q1 q2
      rw [q1] at hx; rw [q2] at hy
      simp only [Rel] at hx hy
    case h_1 =>
      cases hb
      have hu : P.underlying t = some .bool := hsay
      rw [hx, hy]
      exact ⟨eqGuard_plain (by simp) (by simp), binOp_eq hop (by simp) (by simp) (by simp) (by simp) (equal_bool 9999 hu)⟩
    case h_2 =>
      obtain ⟨e, kk, hu, hsz⟩ := hsay
      rw [hx, hy]
      cases hb
      exact ⟨eqGuard_plain (by simp) (by simp), binOp_eq hop (by simp) (by simp) (by simp) (by simp) (equal_ptr1 9999 hu)⟩
    case h_3 =>
      obtain ⟨e, kk, hu, hsz⟩ := hsay
      obtain ⟨b1, _, _, hy⟩ := hy
      rw [hx, hy]
      cases hb
      exact ⟨eqGuard_plain (by simp) (by simp), binOp_eq hop (by simp) (by simp) (by simp) (by simp) (equal_ptr2 9999 hu)⟩
    case h_4 =>
      obtain ⟨e, kk, hu, hsz⟩ := hsay
      obtain ⟨b1, _, _, hx⟩ := hx
      rw [hx, hy]
      cases hb
      exact ⟨eqGuard_plain (by simp) (by simp), binOp_eq hop (by simp) (by simp) (by simp) (by simp) (equal_ptr3 9999 hu)⟩
    case h_5 =>
      obtain ⟨hlit, m, hu⟩ := hsay
      rw [hx, hy]
      subst hlit
      cases hl : (isConst x || isConst y) with
      | false => rw [hl] at hb; cases hb
      | true =>
        rw [hl] at hb
        cases hb
        exact ⟨eqGuard_nil hl, binOp_eq hop (by simp) (by simp) (by simp) (by simp) (equal_ifc1 9999 hu)⟩
    case h_6 =>
      obtain ⟨hlit, m, hu⟩ := hsay
      obtain ⟨y1, _, hy⟩ := hy
      rw [hx, hy]
      cases hb
      exact ⟨eqGuard_nil1, binOp_eq hop (by simp) (by simp) (by simp) (by simp) (equal_ifc2 9999 hu)⟩
    case h_7 =>
      obtain ⟨hlit, m, hu⟩ := hsay
      obtain ⟨y1, _, hx⟩ := hx
      rw [hx, hy]
      cases hb
      exact ⟨eqGuard_plain (by simp) (by simp), binOp_eq hop (by simp) (by simp) (by simp) (by simp) (equal_ifc3 9999 hu)⟩
    case h_8 =>
      obtain ⟨e, hu⟩ := hsay
      rw [hx, hy]
      cases hb
      exact ⟨eqGuard_plain (by simp) (by simp), binOp_eq hop (by simp) (by simp) (by simp) (by simp) (equal_sl1 9999 hu)⟩
    case h_9 =>
      obtain ⟨e, hu⟩ := hsay
      obtain ⟨b1, c1, _, _, _, hy, _⟩ := hy
      rw [hx, hy]
      cases hb
      exact ⟨eqGuard_plain (by simp) (by simp), binOp_eq hop (by simp) (by simp) (by simp) (by simp) (equal_sl2 9999 hu)⟩
    case h_10 =>
      obtain ⟨e, hu⟩ := hsay
      obtain ⟨b1, c1, _, _, _, hx, _⟩ := hx
      rw [hx, hy]
      cases hb
      exact ⟨eqGuard_plain (by simp) (by simp), binOp_eq hop (by simp) (by simp) (by simp) (by simp) (equal_sl3 9999 hu)⟩
    case h_11 =>
      obtain ⟨e, hu⟩ := hsay
      obtain ⟨a1, c1, hy, _⟩ := hy
      rw [hx, hy]
      cases hb
      exact ⟨eqGuard_plain (by simp) (by simp), binOp_eq hop (by simp) (by simp) (by simp) (by simp) (equal_sl2 9999 hu)⟩
    case h_12 =>
      obtain ⟨e, hu⟩ := hsay
      obtain ⟨a1, c1, hx, _⟩ := hx
      rw [hx, hy]
      cases hb
      exact ⟨eqGuard_plain (by simp) (by simp), binOp_eq hop (by simp) (by simp) (by simp) (by simp) (equal_sl3 9999 hu)⟩
    case h_13 =>
      obtain ⟨e1, e2, hu⟩ := hsay
      rw [hx, hy]
      cases hb
      exact ⟨eqGuard_plain (by simp) (by simp), binOp_eq hop (by simp) (by simp) (by simp) (by simp) (equal_mp1 9999 hu)⟩
    case h_14 =>
      obtain ⟨e1, e2, hu⟩ := hsay
      obtain ⟨b1, _, hy⟩ := hy
      rw [hx, hy]
      cases hb
      exact ⟨eqGuard_plain (by simp) (by simp), binOp_eq hop (by simp) (by simp) (by simp) (by simp) (equal_mp2 9999 hu)⟩
    case h_15 =>
      obtain ⟨e1, e2, hu⟩ := hsay
      obtain ⟨b1, _, hx⟩ := hx
      rw [hx, hy]
      cases hb
      exact ⟨eqGuard_plain (by simp) (by simp), binOp_eq hop (by simp) (by simp) (by simp) (by simp) (equal_mp3 9999 hu)⟩
    case h_16 =>
      obtain ⟨e1, e2, e3, hu⟩ := hsay
      rw [hx, hy]
      cases hb
      exact ⟨eqGuard_plain (by simp) (by simp), binOp_eq hop (by simp) (by simp) (by simp) (by simp) (equal_fu1 9999 hu)⟩
    case h_17 =>
      obtain ⟨e1, e2, e3, hu⟩ := hsay
      obtain ⟨a1, c1, _, _, hy⟩ := hy
      rw [hx, hy]
      cases hb
      exact ⟨eqGuard_plain (by simp) (by simp), binOp_eq hop (by simp) (by simp) (by simp) (by simp) (equal_fu2 9999 hu)⟩
    case h_18 =>
      obtain ⟨e1, e2, e3, hu⟩ := hsay
      obtain ⟨a1, c1, _, _, hx⟩ := hx
      rw [hx, hy]
      cases hb
      exact ⟨eqGuard_plain (by simp) (by simp), binOp_eq hop (by simp) (by simp) (by simp) (by simp) (equal_fu3 9999 hu)⟩
  simp [execOp, ho, key.1, key.2]

end
end Go.Proofs.YtbkmnpclldgojaaGreat.Vai
