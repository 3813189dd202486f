/-
  A verified abstract interpreter, part G: the operations that call nothing, second part: numbers, comparisons, structs, new rows.
-/
import Derived.Test.YtednmmcdjhfflaaVaiF
import Derived.Laws.Strings
namespace Go.Proofs.Ytednmmcdjhfflaa.Vai
open Go Go.RowKit
section
variable {P : Program} {w0 : World} {ρ : Emb} {S : AS} {w : World} {n : Nat} {F : Fr} {a : Act}
theorem run_aint {op : BinOp} {t : TypeId} {k : IntKind} {x y : Int} {z : AV} (hs : isShift op = false) (h : aint op k x y = some z) : ∃ v, Rel ρ z v ∧ (binOp op t (.int k x) (.int k y)).run P w = .ok v w := by
  cases op <;> simp only [aint, isShift, Bool.true_eq_false, Option.some.injEq] at h hs <;> first
    | (subst h; exact ⟨_, rfl, by simp [binOp, Op.intArith, Op.intCmp, Op.intBits]⟩)
    | (split at h; · cases h
       · rename_i hy; cases h; exact ⟨_, rfl, by simp [binOp, Op.intDiv, hy]⟩)
theorem run_ashift {op : BinOp} {t : TypeId} {k k' : IntKind} {x y : Int} {z : AV} (h : ashift op k x y = some z) : ∃ v, Rel ρ z v ∧ (binOp op t (.int k x) (.int k' y)).run P w = .ok v w := by
  unfold ashift at h
  split at h
  · cases h
  · rename_i hy
    split at h
    · cases h; exact ⟨_, rfl, by simp [binOp, Op.shift, hy]⟩
    · cases h; exact ⟨_, rfl, by simp [binOp, Op.shift, hy]⟩
    · cases h
theorem eqGuard_plain {op : BinOp} {t : TypeId} {x y : Operand} {u v : Value} (h1 : u ≠ .nilIface) (h2 : ∀ c, u ≠ .agg c) : (eqGuard op t x y u v).run P w = .ok () w := by
  cases u <;> first
    | exact absurd rfl h1
    | exact absurd rfl (h2 _)
    | (cases op <;> rfl)
theorem append_mk (x y : List UInt8) : (ByteArray.mk x.toArray) ++ (ByteArray.mk y.toArray) = ByteArray.mk (x ++ y).toArray := by
  apply ByteArray.ext
  simp
theorem sim_bin (C : Ctx) (call : CallF) (hF : FRel ρ n F a.tmps) (hS : RS w0 ρ S w) {o : Oper} {op : BinOp} {t u : TypeId} {x y : Operand} {x' y' : AX} (ho : o.op = .binOp op t x y u) (h1 : cX x = some x') (h2 : cX y = some y') :
    Sim P w0 ρ w (execOp a.eval o) (aop C call F S (.bin op x' y')) := by
  have hx := cX_ev hF h1
  have hy := cX_ev hF h2
  simp only [aop]
  refine Sim.with hS fun z hz => ?_
  unfold abin at hz
  split at hz
  · rename_i k i k' j q1 q2
    rw [q1] at hx; rw [q2] at hy
    simp only [Rel] at hx hy
    have hg := eqGuard_plain (P := P) (w := w) (op := op) (t := t) (x := x) (y := y) (u := .int k i) (v := .int k' j) (by simp) (by simp)
    cases hsh : isShift op with
    | true =>
      rw [hsh] at hz
      obtain ⟨v, hv, hr⟩ := run_ashift (P := P) (ρ := ρ) (w := w) (t := t) (k' := k') hz
      exact ⟨v, hv, by simp [execOp, ho, hx, hy, hg, hr]⟩
    | false =>
      rw [hsh] at hz
      simp only [cond_false] at hz
      cases hk : kindBeq k k' with
      | false => rw [hk] at hz; cases hz
      | true =>
        rw [hk] at hz
        have := kindBeq_eq hk
        subst this
        obtain ⟨v, hv, hr⟩ := run_aint (P := P) (ρ := ρ) (w := w) (t := t) hsh hz
        exact ⟨v, hv, by simp [execOp, ho, hx, hy, hg, hr]⟩
  · rename_i s s' q1 q2
    rw [q1] at hx; rw [q2] at hy
    simp only [Rel] at hx hy
    have hg := eqGuard_plain (P := P) (w := w) (op := op) (t := t) (x := x) (y := y) (u := .string ⟨s.toArray⟩) (v := .string ⟨s'.toArray⟩) (by simp) (by simp)
    split at hz
    · cases hz; exact ⟨_, rfl, by simp [execOp, ho, hx, hy, hg, binOp, Op.stringOp]⟩
    · cases hz; exact ⟨_, rfl, by simp [execOp, ho, hx, hy, hg, binOp, Op.stringOp]⟩
    · cases hb : Nat.ble (s.length + s'.length) bound46 with
      | false => rw [hb] at hz; cases hz
      | true =>
        rw [hb] at hz
        cases hz
        have hle : s.length + s'.length ≤ 70368744177664 := by simpa [bound46] using hb
        have hsz : ¬ ((ByteArray.mk s.toArray).size + (ByteArray.mk s'.toArray).size : Int) > IntKind.i64.max := by
          have : IntKind.i64.max = 9223372036854775807 := by decide
          rw [this]
          simp [ByteArray.size]; omega
        refine ⟨.string ⟨(s ++ s').toArray⟩, rfl, ?_⟩
        simp only [execOp, ho, hx, hy, Sem.run_bind, hg, Result.andThen_ok, binOp, Op.stringOp, append_mk]
        rw [if_neg (by push_cast; exact hsz)]
        rfl
    · cases hz
  · cases hz
theorem binOp_eq {op : BinOp} {neg : Bool} (hop : op = (bif neg then .neq else .eql)) {t : TypeId} {u v : Value} {r : Bool} (q1 : ∀ k i, u ≠ .int k i) (q2 : ∀ k i, u ≠ .float k i) (q3 : ∀ k i j, u ≠ .complex k i j) (q4 : ∀ s, u ≠ .string s)
    (hr : (Op.equal t u v).run P w = .ok r w) : (binOp op t u v).run P w = .ok (.bool (bif neg then !r else r)) w := by
  subst hop
  cases neg <;> cases u <;> first
    | exact absurd rfl (q1 _ _)
    | exact absurd rfl (q2 _ _)
    | exact absurd rfl (q3 _ _ _)
    | exact absurd rfl (q4 _)
    | (simp only [cond_true, cond_false, binOp, Sem.run_bind, hr, Result.andThen_ok]; rfl)
theorem equal_bool {t : TypeId} {c b : Bool} (d : Nat) (hu : P.underlying t = some .bool) : (Op.equalIn (d + 1) t (.bool c) (.bool b)).run P w = .ok (c == b) w := by
  simp only [Op.equalIn, Sem.run_bind, run_underlying hu, Result.andThen_ok]; rfl
theorem equal_ptr1 {t : TypeId} {e : TypeId} (d : Nat) (hu : P.underlying t = some (.pointer e)) : (Op.equalIn (d + 1) t (.pointer none) (.pointer none)).run P w = .ok true w := by
  simp only [Op.equalIn, Sem.run_bind, run_underlying hu, Result.andThen_ok]; rfl
theorem equal_ptr2 {t : TypeId} {e : TypeId} {p : Addr} (d : Nat) (hu : P.underlying t = some (.pointer e)) : (Op.equalIn (d + 1) t (.pointer none) (.pointer (some p))).run P w = .ok false w := by
  simp only [Op.equalIn, Sem.run_bind, run_underlying hu, Result.andThen_ok]; rfl
theorem equal_ptr3 {t : TypeId} {e : TypeId} {p : Addr} (d : Nat) (hu : P.underlying t = some (.pointer e)) : (Op.equalIn (d + 1) t (.pointer (some p)) (.pointer none)).run P w = .ok false w := by
  simp only [Op.equalIn, Sem.run_bind, run_underlying hu, Result.andThen_ok]; rfl
theorem equal_ifc1 {t : TypeId} {m : Array (String × TypeId)} (d : Nat) (hu : P.underlying t = some (.interface m)) : (Op.equalIn (d + 1) t (.nilIface) (.nilIface)).run P w = .ok true w := by
  simp only [Op.equalIn, Sem.run_bind, run_underlying hu, Result.andThen_ok]; rfl
theorem equal_ifc2 {t : TypeId} {q : TypeId} {m : Array (String × TypeId)} {v : Value} (d : Nat) (hu : P.underlying t = some (.interface m)) : (Op.equalIn (d + 1) t (.nilIface) (.iface q v)).run P w = .ok false w := by
  simp only [Op.equalIn, Sem.run_bind, run_underlying hu, Result.andThen_ok]; rfl
theorem equal_ifc3 {t : TypeId} {q : TypeId} {m : Array (String × TypeId)} {v : Value} (d : Nat) (hu : P.underlying t = some (.interface m)) : (Op.equalIn (d + 1) t (.iface q v) (.nilIface)).run P w = .ok false w := by
  simp only [Op.equalIn, Sem.run_bind, run_underlying hu, Result.andThen_ok]; rfl
theorem equal_sl1 {t : TypeId} {e : TypeId} (d : Nat) (hu : P.underlying t = some (.slice e)) : (Op.equalIn (d + 1) t (.slice none 0 0) (.slice none 0 0)).run P w = .ok true w := by
  simp only [Op.equalIn, Sem.run_bind, run_underlying hu, Result.andThen_ok]; rfl
theorem equal_sl2 {t : TypeId} {e : TypeId} {p : Addr} {i : Nat} {j : Nat} (d : Nat) (hu : P.underlying t = some (.slice e)) : (Op.equalIn (d + 1) t (.slice none 0 0) (.slice (some p) i j)).run P w = .ok false w := by
  simp only [Op.equalIn, Sem.run_bind, run_underlying hu, Result.andThen_ok]; rfl
theorem equal_sl3 {t : TypeId} {e : TypeId} {p : Addr} {i : Nat} {j : Nat} (d : Nat) (hu : P.underlying t = some (.slice e)) : (Op.equalIn (d + 1) t (.slice (some p) i j) (.slice none 0 0)).run P w = .ok false w := by
  simp only [Op.equalIn, Sem.run_bind, run_underlying hu, Result.andThen_ok]; rfl
theorem equal_mp1 {t : TypeId} {e : TypeId} {e2 : TypeId} (d : Nat) (hu : P.underlying t = some (.map e e2)) : (Op.equalIn (d + 1) t (.map none) (.map none)).run P w = .ok true w := by
  simp only [Op.equalIn, Sem.run_bind, run_underlying hu, Result.andThen_ok]; rfl
theorem equal_mp2 {t : TypeId} {e : TypeId} {e2 : TypeId} {i : Nat} (d : Nat) (hu : P.underlying t = some (.map e e2)) : (Op.equalIn (d + 1) t (.map none) (.map (some i))).run P w = .ok false w := by
  simp only [Op.equalIn, Sem.run_bind, run_underlying hu, Result.andThen_ok]; rfl
theorem equal_mp3 {t : TypeId} {e : TypeId} {e2 : TypeId} {i : Nat} (d : Nat) (hu : P.underlying t = some (.map e e2)) : (Op.equalIn (d + 1) t (.map (some i)) (.map none)).run P w = .ok false w := by
  simp only [Op.equalIn, Sem.run_bind, run_underlying hu, Result.andThen_ok]; rfl
theorem equal_fu1 {t : TypeId} {ps : Array TypeId} {rs : Array TypeId} {vr : Bool} (d : Nat) (hu : P.underlying t = some (.func ps rs vr)) : (Op.equalIn (d + 1) t (.nilFunc) (.nilFunc)).run P w = .ok true w := by
  simp only [Op.equalIn, Sem.run_bind, run_underlying hu, Result.andThen_ok]; rfl
theorem equal_fu2 {t : TypeId} {ps : Array TypeId} {rs : Array TypeId} {vr : Bool} {f : Fn} {xs : Array Value} {ys : Array Value} (d : Nat) (hu : P.underlying t = some (.func ps rs vr)) : (Op.equalIn (d + 1) t (.nilFunc) (.func f xs ys)).run P w = .ok false w := by
  simp only [Op.equalIn, Sem.run_bind, run_underlying hu, Result.andThen_ok]; rfl
theorem equal_fu3 {t : TypeId} {ps : Array TypeId} {rs : Array TypeId} {vr : Bool} {f : Fn} {xs : Array Value} {ys : Array Value} (d : Nat) (hu : P.underlying t = some (.func ps rs vr)) : (Op.equalIn (d + 1) t (.func f xs ys) (.nilFunc)).run P w = .ok false w := by
  simp only [Op.equalIn, Sem.run_bind, run_underlying hu, Result.andThen_ok]; rfl
theorem intBeq_beq (a b : Int) : intBeq a b = (a == b) := by
  cases hi : intBeq a b with
  | true => rw [intBeq_eq hi]; simp
  | false =>
    symm
    rw [Bool.eq_false_iff]
    intro hc
    have : a = b := by simpa using hc
    subst this
    rw [intBeq_self] at hi; cases hi
theorem kk_split {k j k' j' : IntKind} {a c b d : Int} {r : Bool} (h : (bif kindBeq k j && kindBeq k' j' then some (intBeq a c && intBeq b d) else none) = some r) : k = j ∧ k' = j' ∧ r = (a == c && b == d) := by
  cases hq : (kindBeq k j && kindBeq k' j') with
  | false => rw [hq] at h; cases h
  | true =>
    rw [hq] at h
    simp only [Bool.and_eq_true] at hq
    simp only [cond_true, Option.some.injEq] at h
    exact ⟨kindBeq_eq hq.1, kindBeq_eq hq.2, by rw [← h, intBeq_beq, intBeq_beq]⟩
theorem rel_pair {k k' : IntKind} {a b : Int} {v : Value} (h : Rel ρ (.agg [.int k a, .int k' b]) v) : v = .agg #[.int k a, .int k' b] := by
  obtain ⟨l, ⟨y, ys, rfl, h1, z, zs, rfl, h2, h3⟩, rfl⟩ := h
  simp only [Rel] at h1 h2
  simp only [RelL] at h3
  rw [h1, h2, h3]
def PairSay (P : Program) (t : TypeId) (d : TypeDesc) : Prop :=
  ∃ f g k j, d = .struct #[f, g] ∧ f.name ≠ "_" ∧ g.name ≠ "_" ∧ f.offset = 0 ∧ g.offset = 1 ∧ P.underlying f.type = some (.int k) ∧ P.underlying g.type = some (.int j) ∧ P.stoodInHeld t = false ∧ P.eqGuardType P.depth t = false
theorem intT_say {t : TypeId} (h : intT P t = true) : ∃ k, P.underlying t = some (.int k) := by
  unfold intT at h
  split at h
  · exact ⟨_, by assumption⟩
  · cases h
theorem pairO_say {t : TypeId} {fs : Array Field} (h : pairO P t fs = true) : PairSay P t (.struct fs) := by
  unfold pairO at h
  split at h
  · rename_i f g hl
    simp only [Bool.and_eq_true, bne_iff_ne, ne_eq, Nat.beq_eq, Bool.not_eq_true'] at h
    obtain ⟨⟨⟨⟨⟨⟨⟨h1, h2⟩, h3⟩, h4⟩, h5⟩, h6⟩, h7⟩, h8⟩ := h
    obtain ⟨k, hk⟩ := intT_say h5
    obtain ⟨j, hj⟩ := intT_say h6
    exact ⟨f, g, k, j, by rw [← hl], h1, h2, h3, h4, hk, hj, h7, h8⟩
  · cases h
theorem run_isAgg_int {t : TypeId} {k : IntKind} (h : P.underlying t = some (.int k)) (w : World) : (isAgg t).run P w = .ok false w := by
  simp [isAgg, run_underlying h]
theorem run_part_int {t : TypeId} {k : IntKind} (h : P.underlying t = some (.int k)) {cs : Array Value} {o : Nat} {v : Value} (hv : cs[o]? = some v) (w : World) : (part t cs o).run P w = .ok v w := by
  simp [part, run_isAgg_int h, hv]
theorem equal_int {t : TypeId} {k : IntKind} (d : Nat) (hu : P.underlying t = some (.int k)) {i j : IntKind} {x y : Int} (h : i = j) : (Op.equalIn (d + 1) t (.int i x) (.int j y)).run P w = .ok (x == y) w := by
  subst h
  simp only [Op.equalIn, Sem.run_bind, run_underlying hu, Result.andThen_ok, if_true]; rfl
theorem equal_pair {t : TypeId} {d : TypeDesc} (m : Nat) (hu : P.underlying t = some d) (hs : PairSay P t d) {i j : IntKind} {x y x' y' : Int} :
    (Op.equalIn (m + 2) t (.agg #[.int i x, .int j y]) (.agg #[.int i x', .int j y'])).run P w = .ok (x == x' && y == y') w := by
  obtain ⟨f, g, k, l, rfl, h1, h2, h3, h4, h5, h6, h7, h8⟩ := hs
  have p1 : ∀ (a b : Value), (part f.type #[a, b] f.offset).run P w = .ok a w := fun a b => run_part_int h5 (by rw [h3]; rfl) w
  have p2 : ∀ (a b : Value), (part g.type #[a, b] g.offset).run P w = .ok b w := fun a b => run_part_int h6 (by rw [h4]; rfl) w
  have e1 := equal_int (w := w) m h5 (i := i) (j := i) (x := x) (y := x') rfl
  have e2 := equal_int (w := w) m h6 (i := j) (j := j) (x := y) (y := y') rfl
  unfold Op.equalIn
  simp only [Sem.run_bind, run_underlying hu, Result.andThen_ok, run_program, h7]
  cases hx : x == x' <;> cases hy : y == y' <;> simp [h1, h2, p1, p2, e1, e2, hx, hy]
theorem eqGuard_pair {op : BinOp} {t : TypeId} {x y : Operand} {a b : Array Value} (h : P.eqGuardType P.depth t = false) : (eqGuard op t x y (.agg a) (.agg b)).run P w = .ok () w := by
  unfold eqGuard
  cases op <;> simp [h]
def EKSay (P : Program) (t : TypeId) (lit : Bool) : EK → Prop
  | .bool => P.underlying t = some .bool
  | .ptr => ∃ e k, P.underlying t = some (.pointer e) ∧ sizeO P e = some (k + 1)
  | .ifc l => l = lit ∧ ∃ m, P.underlying t = some (.interface m)
  | .sl => ∃ e, P.underlying t = some (.slice e)
  | .mp => ∃ k e, P.underlying t = some (.map k e)
  | .fu => ∃ a b c, P.underlying t = some (.func a b c)
  | .pair => ∃ d, P.underlying t = some d ∧ PairSay P t d
theorem ekOf_say {t : TypeId} {lit : Bool} {k : EK} (h : ekOf P t lit = some k) : EKSay P t lit k := by
  unfold ekOf at h
  split at h
  · rename_i hu; cases h; exact hu
  · rename_i e hu
    split at h
    · cases h
    · rename_i q hq hk; cases h
      cases q with
      | zero => exact absurd rfl hq
      | succ q => exact ⟨e, q, hu, hk⟩
    · cases h
  · rename_i m hu; cases h; exact ⟨rfl, m, hu⟩
  · rename_i e hu; cases h; exact ⟨e, hu⟩
  · rename_i e hu; cases h; exact ⟨_, _, hu⟩
  · rename_i e hu; cases h; exact ⟨_, _, _, hu⟩
  · rename_i fs hu
    cases hp : pairO P t fs with
    | false => rw [hp] at h; cases h
    | true => rw [hp] at h; cases h; exact ⟨_, hu, pairO_say hp⟩
  · cases h
theorem eqGuard_nil {op : BinOp} {t : TypeId} {x y : Operand} (h : (isConst x || isConst y) = true) : (eqGuard op t x y .nilIface .nilIface).run P w = .ok () w := by
  cases x <;> cases y <;> first
    | (simp [isConst] at h; done)
    | (cases op <;> rfl)
theorem eqGuard_nil1 {op : BinOp} {t : TypeId} {x y : Operand} {u : TypeId} {v : Value} : (eqGuard op t x y .nilIface (.iface u v)).run P w = .ok () w := by
  cases op <;> rfl
theorem sim_eq (C : Ctx) (call : CallF) (hF : FRel ρ n F a.tmps) (hS : RS w0 ρ S w) {o : Oper} {op : BinOp} {neg : Bool} {t u : TypeId} {x y : Operand} {x' y' : AX} {k : EK} (ho : o.op = .binOp op t x y u) (h1 : cX x = some x') (h2 : cX y = some y')
    (hop : op = (bif neg then .neq else .eql)) (hk : ekOf P t (isConst x || isConst y) = some k) : Sim P w0 ρ w (execOp a.eval o) (aop C call F S (.eq neg k x' y')) := by
  have hx := cX_ev hF h1
  have hy := cX_ev hF h2
  have hsay := ekOf_say hk
  simp only [aop]
  split
  case h_2 => exact Sim.no
  rename_i b hb
  refine Sim.same hS rfl ?_
  have key : (eqGuard op t x y (a.eval x) (a.eval y)).run P w = .ok () w ∧ (binOp op t (a.eval x) (a.eval y)).run P w = .ok (.bool (bif neg then !b else b)) w := by
    unfold aeq at hb
    split at hb <;> first | (cases hb; done) | skip
    all_goals
      rename_i q1 q2
      rw [q1] at hx; rw [q2] at hy
      simp only [Rel] at hx hy
    case h_1 =>
      cases hb
      have hu : P.underlying t = some .bool := hsay
      rw [hx, hy]
      exact ⟨eqGuard_plain (by simp) (by simp), binOp_eq hop (by simp) (by simp) (by simp) (by simp) (equal_bool 9999 hu)⟩
    case h_2 =>
      obtain ⟨e, kk, hu, hsz⟩ := hsay
      rw [hx, hy]
      cases hb
      exact ⟨eqGuard_plain (by simp) (by simp), binOp_eq hop (by simp) (by simp) (by simp) (by simp) (equal_ptr1 9999 hu)⟩
    case h_3 =>
      obtain ⟨e, kk, hu, hsz⟩ := hsay
      obtain ⟨b1, _, _, hy⟩ := hy
      rw [hx, hy]
      cases hb
      exact ⟨eqGuard_plain (by simp) (by simp), binOp_eq hop (by simp) (by simp) (by simp) (by simp) (equal_ptr2 9999 hu)⟩
    case h_4 =>
      obtain ⟨e, kk, hu, hsz⟩ := hsay
      obtain ⟨b1, _, _, hx⟩ := hx
      rw [hx, hy]
      cases hb
      exact ⟨eqGuard_plain (by simp) (by simp), binOp_eq hop (by simp) (by simp) (by simp) (by simp) (equal_ptr3 9999 hu)⟩
    case h_5 =>
      obtain ⟨hlit, m, hu⟩ := hsay
      rw [hx, hy]
      subst hlit
      cases hl : (isConst x || isConst y) with
      | false => rw [hl] at hb; cases hb
      | true =>
        rw [hl] at hb
        cases hb
        exact ⟨eqGuard_nil hl, binOp_eq hop (by simp) (by simp) (by simp) (by simp) (equal_ifc1 9999 hu)⟩
    case h_6 =>
      obtain ⟨hlit, m, hu⟩ := hsay
      obtain ⟨y1, _, hy⟩ := hy
      rw [hx, hy]
      cases hb
      exact ⟨eqGuard_nil1, binOp_eq hop (by simp) (by simp) (by simp) (by simp) (equal_ifc2 9999 hu)⟩
    case h_7 =>
      obtain ⟨hlit, m, hu⟩ := hsay
      obtain ⟨y1, _, hx⟩ := hx
      rw [hx, hy]
      cases hb
      exact ⟨eqGuard_plain (by simp) (by simp), binOp_eq hop (by simp) (by simp) (by simp) (by simp) (equal_ifc3 9999 hu)⟩
    case h_8 =>
      obtain ⟨e, hu⟩ := hsay
      rw [hx, hy]
      cases hb
      exact ⟨eqGuard_plain (by simp) (by simp), binOp_eq hop (by simp) (by simp) (by simp) (by simp) (equal_sl1 9999 hu)⟩
    case h_9 =>
      obtain ⟨e, hu⟩ := hsay
      obtain ⟨b1, c1, _, _, _, hy, _⟩ := hy
      rw [hx, hy]
      cases hb
      exact ⟨eqGuard_plain (by simp) (by simp), binOp_eq hop (by simp) (by simp) (by simp) (by simp) (equal_sl2 9999 hu)⟩
    case h_10 =>
      obtain ⟨e, hu⟩ := hsay
      obtain ⟨b1, c1, _, _, _, hx, _⟩ := hx
      rw [hx, hy]
      cases hb
      exact ⟨eqGuard_plain (by simp) (by simp), binOp_eq hop (by simp) (by simp) (by simp) (by simp) (equal_sl3 9999 hu)⟩
    case h_11 =>
      obtain ⟨e, hu⟩ := hsay
      obtain ⟨a1, c1, hy, _⟩ := hy
      rw [hx, hy]
      cases hb
      exact ⟨eqGuard_plain (by simp) (by simp), binOp_eq hop (by simp) (by simp) (by simp) (by simp) (equal_sl2 9999 hu)⟩
    case h_12 =>
      obtain ⟨e, hu⟩ := hsay
      obtain ⟨a1, c1, hx, _⟩ := hx
      rw [hx, hy]
      cases hb
      exact ⟨eqGuard_plain (by simp) (by simp), binOp_eq hop (by simp) (by simp) (by simp) (by simp) (equal_sl3 9999 hu)⟩
    case h_13 =>
      obtain ⟨e1, e2, hu⟩ := hsay
      rw [hx, hy]
      cases hb
      exact ⟨eqGuard_plain (by simp) (by simp), binOp_eq hop (by simp) (by simp) (by simp) (by simp) (equal_mp1 9999 hu)⟩
    case h_14 =>
      obtain ⟨e1, e2, hu⟩ := hsay
      obtain ⟨b1, _, hy⟩ := hy
      rw [hx, hy]
      cases hb
      exact ⟨eqGuard_plain (by simp) (by simp), binOp_eq hop (by simp) (by simp) (by simp) (by simp) (equal_mp2 9999 hu)⟩
    case h_15 =>
      obtain ⟨e1, e2, hu⟩ := hsay
      obtain ⟨b1, _, hx⟩ := hx
      rw [hx, hy]
      cases hb
      exact ⟨eqGuard_plain (by simp) (by simp), binOp_eq hop (by simp) (by simp) (by simp) (by simp) (equal_mp3 9999 hu)⟩
    case h_16 =>
      obtain ⟨e1, e2, e3, hu⟩ := hsay
      rw [hx, hy]
      cases hb
      exact ⟨eqGuard_plain (by simp) (by simp), binOp_eq hop (by simp) (by simp) (by simp) (by simp) (equal_fu1 9999 hu)⟩
    case h_17 =>
      obtain ⟨e1, e2, e3, hu⟩ := hsay
      obtain ⟨a1, c1, _, _, hy⟩ := hy
      rw [hx, hy]
      cases hb
      exact ⟨eqGuard_plain (by simp) (by simp), binOp_eq hop (by simp) (by simp) (by simp) (by simp) (equal_fu2 9999 hu)⟩
    case h_18 =>
      obtain ⟨e1, e2, e3, hu⟩ := hsay
      obtain ⟨a1, c1, _, _, hx⟩ := hx
      rw [hx, hy]
      cases hb
      exact ⟨eqGuard_plain (by simp) (by simp), binOp_eq hop (by simp) (by simp) (by simp) (by simp) (equal_fu3 9999 hu)⟩
    case h_19 =>
      obtain ⟨d, hu, hp⟩ := hsay
      have hx := rel_pair (ρ := ρ) hx
      have hy := rel_pair (ρ := ρ) hy
      rw [hx, hy]
      obtain ⟨rfl, rfl, rfl⟩ := kk_split hb
      refine ⟨?_, binOp_eq hop (by simp) (by simp) (by simp) (by simp) (equal_pair 9998 hu hp)⟩
      obtain ⟨_, _, _, _, _, _, _, _, _, _, _, _, hg⟩ := hp
      exact eqGuard_pair hg
    case h_20 n _ =>
      obtain ⟨e, hu⟩ := hsay
      obtain ⟨o1, c1, hy, _, _, hy1⟩ := hy
      cases hn : Nat.beq n 0 with
      | true => rw [hn] at hb; cases hb
      | false =>
        rw [hn] at hb
        cases hb
        rcases hy1 with rfl | ⟨_, _, _, rfl, _⟩
        · cases hn
        rw [hx, hy]
        exact ⟨eqGuard_plain (by simp) (by simp), binOp_eq hop (by simp) (by simp) (by simp) (by simp) (equal_sl2 9999 hu)⟩
    case h_21 n _ =>
      obtain ⟨e, hu⟩ := hsay
      obtain ⟨o1, c1, hx, _, _, hx1⟩ := hx
      cases hn : Nat.beq n 0 with
      | true => rw [hn] at hb; cases hb
      | false =>
        rw [hn] at hb
        cases hb
        rcases hx1 with rfl | ⟨_, _, _, rfl, _⟩
        · cases hn
        rw [hx, hy]
        exact ⟨eqGuard_plain (by simp) (by simp), binOp_eq hop (by simp) (by simp) (by simp) (by simp) (equal_sl3 9999 hu)⟩
    case h_22 =>
      obtain ⟨e, kk, hu, hsz⟩ := hsay
      obtain ⟨_, _, _, hy, _⟩ := hy
      rw [hx, hy]
      cases hb
      exact ⟨eqGuard_plain (by simp) (by simp), binOp_eq hop (by simp) (by simp) (by simp) (by simp) (equal_ptr2 9999 hu)⟩
    case h_23 =>
      obtain ⟨e, kk, hu, hsz⟩ := hsay
      obtain ⟨_, _, _, hx, _⟩ := hx
      rw [hx, hy]
      cases hb
      exact ⟨eqGuard_plain (by simp) (by simp), binOp_eq hop (by simp) (by simp) (by simp) (by simp) (equal_ptr3 9999 hu)⟩
  simp [execOp, ho, key.1, key.2]
end
end Go.Proofs.Ytednmmcdjhfflaa.Vai
