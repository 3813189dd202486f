/-
  A verified abstract interpreter, part X: rows in the abstract memory: reading, cutting, going on.
-/
import Derived.Test.YtednmmcdjhfflaaVaiW
namespace Go.Proofs.Ytednmmcdjhfflaa.Vai
open Go Go.RowKit
def lenA : AV → Option AV
  | .nils => some (.int .i64 0)
  | .emp _ => some (.int .i64 0)
  | .slice _ _ _ n _ _ => some (.int .i64 n)
  | .row _ _ n _ => some (.int .i64 n)
  | _ => none
def ixsA (sz : Nat) (x i : AV) : Option AV := match x with
  | .slice v g q len _ z => match aidx len i with
    | some i => bif Nat.beq z sz then some (.ptr v g ((q + i) * sz) ((q + i + 1) * sz)) else none
    | none => none
  | .row zo z n cs => match aidx n i with
    | some i => bif Nat.beq z sz then some (.fp zo cs (i * sz)) else none
    | none => none
  | _ => none
section
variable {C : Ctx} {call : CallF} {F : Fr} {S : AS}
theorem aop_len0 {x : AX} : aop C call F S (.len 0 x) = withS S (lenA (x.ev F)) := by
  simp only [aop]
  cases x.ev F <;> rfl
theorem aop_ixs {sz : Nat} {x i : AX} : aop C call F S (.ixs sz x i) = withS S (ixsA sz (x.ev F) (i.ev F)) := by
  simp only [aop, ixsA]
  cases x.ev F <;> first
    | rfl
    | skip
  · rename_i v g q len lim z
    dsimp only
    generalize aidx len (i.ev F) = r
    cases r with
    | none => rfl
    | some j =>
      simp only
      cases Nat.beq z sz <;> rfl
  · rename_i v z len c
    dsimp only
    generalize aidx len (i.ev F) = r
    cases r with
    | none => rfl
    | some j =>
      simp only
      cases Nat.beq z sz <;> rfl
end
def Wf (S : AS) : Prop := ∀ v o, S.get v = some o → v < S.n
theorem RS.wf {w0 : World} {ρ : Emb} {S : AS} {w : World} (h : RS w0 ρ S w) : Wf S := h.lt
theorem Wf.push {S : AS} (h : Wf S) (o : AObj) : Wf (S.push o) := by
  intro v x hx
  rw [AS.get_push] at hx
  simp only [AS.n_push]
  split at hx
  · omega
  · have := h v x hx; omega
theorem Wf.put {S : AS} (h : Wf S) {v : Nat} (hv : v < S.n) (o : AObj) : Wf (S.put v o) := by
  intro u x hx
  rw [AS.get_put] at hx
  simp only [AS.n_put]
  split at hx
  · omega
  · exact h u x hx
theorem Wf.none {S : AS} (h : Wf S) {v : Nat} (hv : S.n ≤ v) : S.get v = .none := by
  cases e : S.get v with
  | none => rfl
  | some o => have := h v o e; omega
structure Kp (u : Nat → Prop) (S S' : AS) : Prop where
  n : S.n ≤ S'.n
  get : ∀ v, v < S.n → ¬ u v → S'.get v = S.get v
  wf : Wf S'
  mw : ∀ m, m ≤ S.n → (∀ v, u v → m ≤ v) → m ≤ S.mw → m ≤ S'.mw
theorem mw_put_ge {S : AS} {v m : Nat} {o : AObj} (h1 : m ≤ v) (h2 : m ≤ S.mw) : m ≤ (S.put v o).mw := by
  simp only [AS.put]
  cases Nat.blt v S.mw <;> simp only [cond_true, cond_false] <;> assumption
section
variable {u u' : Nat → Prop} {S S' S'' : AS}
theorem Kp.refl (h : Wf S) : Kp u S S := ⟨Nat.le_refl _, fun _ _ _ => rfl, h, fun _ _ _ h => h⟩
theorem Kp.push (h : Kp u S S') (o : AObj) : Kp u S (S'.push o) := ⟨by have := h.n; simp only [AS.n_push]; omega, fun v hv hu => by rw [AS.get_push, if_neg (by have := h.n; omega)]; exact h.get v hv hu, h.wf.push o, h.mw⟩
theorem Kp.put (h : Kp u S S') {v : Nat} (hv : v < S'.n) (hu : v < S.n → u v) (o : AObj) : Kp u S (S'.put v o) := ⟨h.n, fun x hx hn => by
  rw [AS.get_put, if_neg (by rintro rfl; exact hn (hu hx))]; exact h.get x hx hn, h.wf.put hv o, fun m h1 h2 h3 => mw_put_ge (by
    rcases Nat.lt_or_ge v S.n with hlt | hge
    · exact h2 v (hu hlt)
    · omega) (h.mw m h1 h2 h3)⟩
theorem Kp.at (h : Kp u S S') {v : Nat} {o : AObj} (hS : Wf S) (hv : S.get v = some o) (hu : ¬ u v) : S'.get v = some o := by rw [h.get v (hS v o hv) hu]; exact hv
theorem finA_or (S : AS) (v : AV) (S' : AS) : finA S v S' = S ∧ v.scalar = true ∨ finA S v S' = ⟨S'.objs, S'.n, bif Nat.blt S.mw S'.mw then S.mw else S'.mw⟩ := by
  unfold finA finS
  cases h : (v.scalar && Nat.ble S.n S'.mw) with
  | true => exact .inl ⟨rfl, by simp only [Bool.and_eq_true] at h; exact h.1⟩
  | false => exact .inr rfl
theorem finA_get {v : AV} (h : v.scalar = false) (w : Nat) : (finA S v S').get w = S'.get w := by
  rcases finA_or S v S' with ⟨_, h1⟩ | h1
  · rw [h] at h1; cases h1
  · rw [h1]; rfl
theorem finA_sc {v : AV} (h1 : v.scalar = true) (h2 : S.n ≤ S'.mw) : finA S v S' = S := by
  unfold finA finS
  rw [h1, ble_dec, decide_eq_true h2]
  rfl
def finB (S S' : AS) : AS := ⟨S'.objs, S'.n, bif Nat.blt S.mw S'.mw then S.mw else S'.mw⟩
theorem finA_if {v : AV} (h1 : v.scalar = true) : finA S v S' = if S.n ≤ S'.mw then S else finB S S' := by
  unfold finA finS finB
  rw [h1, ble_dec]
  by_cases h : S.n ≤ S'.mw <;> simp [h]
theorem Kp.fin {v : AV} (hS : Wf S) (h : Kp u ⟨S.objs, S.n, S.n⟩ S') : Kp u S (finA S v S') := by
  rcases finA_or S v S' with ⟨h1, _⟩ | h1 <;> rw [h1]
  · exact Kp.refl hS
  · refine ⟨h.n, h.get, h.wf, fun m h1 h2 h3 => ?_⟩
    have := h.mw m h1 h2 h1
    cases Nat.blt S.mw S'.mw <;> simp only [cond_true, cond_false] <;> assumption
end
def Rd (S : AS) (sz : Nat) (a : AV) (n : Nat) (cs : List AV) : Prop :=
  (n = 0 ∧ cs = [] ∧ (a = .nils ∨ ∃ z, a = .emp z)) ∨
  ∃ v g q lim c z gen lo opn ro, a = .slice v g q n lim sz ∧ S.get v = some (.cells c z gen lo opn ro) ∧ lo ≤ g ∧ g ≤ gen ∧ (q + n) * sz ≤ c.length ∧ (∀ m, lim = some m → n ≤ m) ∧ cs = (c.drop (q * sz)).take (n * sz)
def AV.own : AV → Option Nat
  | .slice v _ _ _ _ _ => some v
  | _ => none
section
variable {S S' : AS} {sz n : Nat} {a : AV} {cs : List AV}
theorem Rd.nils : Rd S sz .nils 0 [] := .inl ⟨rfl, rfl, .inl rfl⟩
theorem Rd.len (h : Rd S sz a n cs) : lenA a = some (.int .i64 n) := by
  rcases h with ⟨rfl, _, rfl | ⟨z, rfl⟩⟩ | ⟨v, g, q, lim, c, z, gen, lo, opn, ro, rfl, _⟩ <;> rfl
theorem Rd.cs_len (h : Rd S sz a n cs) : cs.length = n * sz := by
  rcases h with ⟨rfl, rfl, _⟩ | ⟨v, g, q, lim, c, z, gen, lo, opn, ro, _, _, _, _, h, _, rfl⟩
  · simp
  · rw [List.length_take, List.length_drop]
    have : (q + n) * sz = q * sz + n * sz := Nat.add_mul _ _ _
    omega
theorem Rd.np (h : Rd S sz a n cs) : a.np = true := by
  rcases h with ⟨rfl, _, rfl | ⟨z, rfl⟩⟩ | ⟨v, g, q, lim, c, z, gen, lo, opn, ro, rfl, _⟩ <;> rfl
theorem Rd.one (h : Rd S sz a n cs) : a.one = true := by
  rcases h with ⟨rfl, _, rfl | ⟨z, rfl⟩⟩ | ⟨v, g, q, lim, c, z, gen, lo, opn, ro, rfl, _⟩ <;> rfl
theorem Rd.cells (h : Rd S sz a n cs) : a.cellsOf = some [a] := by
  rcases h with ⟨rfl, _, rfl | ⟨z, rfl⟩⟩ | ⟨v, g, q, lim, c, z, gen, lo, opn, ro, rfl, _⟩ <;> rfl
theorem Rd.pan (h : Rd S sz a n cs) {P : AV → Prop} {N : Prop} : panK a P N = N := panK_np h.np
theorem Rd.go (h : Rd S sz a n cs) (hg : ∀ v o, a.own = some v → S.get v = some o → S'.get v = some o) : Rd S' sz a n cs := by
  rcases h with h | ⟨v, g, q, lim, c, z, gen, lo, opn, ro, h1, h2, h3⟩
  · exact .inl h
  · exact .inr ⟨v, g, q, lim, c, z, gen, lo, opn, ro, h1, hg v _ (by rw [h1]; rfl) h2, h3⟩
theorem Rd.lt (h : Rd S sz a n cs) (hS : Wf S) {v : Nat} (hv : a.own = some v) : v < S.n := by
  rcases h with ⟨_, _, rfl | ⟨z, rfl⟩⟩ | ⟨v', g, q, lim, c, z, gen, lo, opn, ro, rfl, h2, _⟩
  · cases hv
  · cases hv
  · cases hv; exact hS _ _ h2
theorem aidx_nat {k : IntKind} {i : Int} {len : Nat} (h0 : 0 ≤ i) (h1 : i < len) : aidx len (.int k i) = some i.toNat := by
  obtain ⟨j, rfl⟩ : ∃ j : Nat, i = j := ⟨i.toNat, by omega⟩
  show (bif Nat.blt j len then some j else none) = some j
  rw [show Nat.blt j len = true by rw [blt_dec]; exact decide_eq_true (by omega)]
  rfl
theorem Rd.at (h : Rd S sz a n cs) {k : IntKind} {i : Int} (h0 : 0 ≤ i) (h1 : i < n) : ∃ v g o e, ixsA sz a (.int k i) = some (.ptr v g o e) ∧ (∀ j, j < sz → S.ld1 (.ptr v g (o + j) e) = cs[i.toNat * sz + j]?) ∧ S.ldn sz (.ptr v g o e) = some (.agg ((cs.drop (i.toNat * sz)).take sz)) ∧ a.own = some v := by
  rcases h with ⟨rfl, _, _⟩ | ⟨v, g, q, lim, c, z, gen, lo, opn, ro, rfl, h2, h3, h4, h5, _, rfl⟩
  · omega
  refine ⟨v, g, (q + i.toNat) * sz, (q + i.toNat + 1) * sz, by simp only [ixsA, aidx_nat h0 h1, beq_dec, decide_true, cond_true], ?_, ?_, rfl⟩
  · intro j hj
    have e1 : (q + n) * sz = q * sz + n * sz := Nat.add_mul _ _ _
    have e2 : (q + i.toNat) * sz = q * sz + i.toNat * sz := Nat.add_mul _ _ _
    have e3 : (q + i.toNat + 1) * sz = (q + i.toNat) * sz + sz := Nat.succ_mul _ _
    have e4 : (i.toNat + 1) * sz ≤ n * sz := Nat.mul_le_mul_right _ (by omega)
    have e5 : (i.toNat + 1) * sz = i.toNat * sz + sz := Nat.succ_mul _ _
    simp only [AS.ld1, h2, ble_dec, blt_dec]
    rw [decide_eq_true h3, decide_eq_true h4, decide_eq_true (by omega)]
    simp only [Bool.and_self, cond_true]
    rw [List.getElem?_take_of_lt (by omega), List.getElem?_drop, e2, Nat.add_assoc]
  · have e1 : (q + n) * sz = q * sz + n * sz := Nat.add_mul _ _ _
    have e2 : (q + i.toNat) * sz = q * sz + i.toNat * sz := Nat.add_mul _ _ _
    have e3 : (q + i.toNat + 1) * sz = (q + i.toNat) * sz + sz := Nat.succ_mul _ _
    have e4 : (i.toNat + 1) * sz ≤ n * sz := Nat.mul_le_mul_right _ (by omega)
    have e5 : (i.toNat + 1) * sz = i.toNat * sz + sz := Nat.succ_mul _ _
    simp only [AS.ldn, AS.ldl, h2, ble_dec]
    rw [decide_eq_true h3, decide_eq_true h4, decide_eq_true (by omega)]
    simp only [Bool.and_self, cond_true, Option.map_some]
    congr 2
    rw [List.drop_take, List.take_take, List.drop_drop, e2, Nat.min_eq_left (by omega)]
theorem Rd.slc (h : Rd S sz a n cs) {lo hi : Option AV} {l r : Nat} (hlo : optN 0 lo = some l) (hhi : optN n hi = some r) (h1 : l ≤ r) (h2 : r ≤ n) :
    ∃ y, S.slc sz a lo hi none = some y ∧ Rd S sz y (r - l) ((cs.drop (l * sz)).take ((r - l) * sz)) ∧ (∀ v, y.own = some v → a.own = some v) := by
  rcases h with ⟨rfl, rfl, ha⟩ | ⟨v, g, q, lim, c, z, gen, lo', opn, ro, rfl, g2, g3, g4, g5, g6, rfl⟩
  · obtain rfl : r = 0 := by omega
    obtain rfl : l = 0 := by omega
    rcases ha with rfl | ⟨z, rfl⟩
    · refine ⟨.nils, ?_, .inl ⟨rfl, by simp, .inl rfl⟩, fun v hv => by cases hv⟩
      simp only [AS.slc, hlo, hhi, show optN 0 (none : Option AV) = some 0 from rfl]
    · refine ⟨.emp z, ?_, .inl ⟨rfl, by simp, .inr ⟨z, rfl⟩⟩, fun v hv => by cases hv⟩
      simp only [AS.slc, hlo, hhi]
  · have e1 : (q + n) * sz = q * sz + n * sz := Nat.add_mul _ _ _
    have e2 : (q + l) * sz = q * sz + l * sz := Nat.add_mul _ _ _
    have e3 : (q + l + (r - l)) * sz ≤ (q + n) * sz := Nat.mul_le_mul_right _ (by omega)
    have ecs : (((c.drop (q * sz)).take (n * sz)).drop (l * sz)).take ((r - l) * sz) = (c.drop ((q + l) * sz)).take ((r - l) * sz) := by
      have e4 : (r - l) * sz ≤ (n - l) * sz := Nat.mul_le_mul_right _ (by omega)
      have e5 : (n - l) * sz = n * sz - l * sz := Nat.sub_mul _ _ _
      rw [List.drop_take, List.take_take, List.drop_drop, e2, Nat.min_eq_left (by omega)]
    have hk : S.known sz v g q n lim r = n ∨ (∃ m, lim = some m ∧ S.known sz v g q n lim r = m) := by
      unfold AS.known
      cases lim with
      | none => left; simp only [ble_dec, decide_eq_true h2, cond_true]
      | some m => right; exact ⟨m, rfl, rfl⟩
    have hk2 : Nat.ble r (S.known sz v g q n lim r) = true := by
      rw [ble_dec]
      rcases hk with hk | ⟨m, rfl, hk⟩ <;> rw [hk]
      · exact decide_eq_true h2
      · have := g6 m rfl; exact decide_eq_true (by omega)
    simp only [AS.slc, beq_dec, decide_true, Bool.not_true, cond_false, hlo, hhi, hk2]
    rw [ble_dec, decide_eq_true h1, ble_dec, decide_eq_true h2]
    simp only [Bool.not_true, Bool.false_and, cond_false]
    cases lim with
    | none =>
      simp only
      cases hb : (decide (r = l) && !(decide (l = 0))) with
      | true =>
        simp only [Bool.and_eq_true, decide_eq_true_eq] at hb
        refine ⟨.emp false, rfl, .inl ⟨by omega, ?_, .inr ⟨_, rfl⟩⟩, fun v hv => by cases hv⟩
        rw [show r - l = 0 by omega]; simp
      | false => exact ⟨_, rfl, .inr ⟨v, g, q + l, none, c, z, gen, lo', opn, ro, rfl, g2, g3, g4, by omega, by simp, ecs⟩, fun _ h => h⟩
    | some m =>
      simp only
      cases hb : (decide (m = l) && !(decide (l = 0))) with
      | true =>
        simp only [Bool.and_eq_true, decide_eq_true_eq] at hb
        have := g6 m rfl
        refine ⟨.emp true, rfl, .inl ⟨by omega, ?_, .inr ⟨_, rfl⟩⟩, fun v hv => by cases hv⟩
        rw [show r - l = 0 by omega]; simp
      | false => exact ⟨_, rfl, .inr ⟨v, g, q + l, some (m - l), c, z, gen, lo', opn, ro, rfl, g2, g3, g4, by omega, fun m' hm' => by cases hm'; have := g6 m rfl; omega, ecs⟩, fun _ h => h⟩
theorem Rd.src (h : Rd S sz a n cs) : S.src sz a = some (n, cs) := by
  rcases h with ⟨rfl, rfl, rfl | ⟨z, rfl⟩⟩ | ⟨v, g, q, lim, c, z, gen, lo', opn, ro, rfl, g2, g3, g4, g5, g6, rfl⟩
  · rfl
  · rfl
  · have e1 : (q + n) * sz = q * sz + n * sz := Nat.add_mul _ _ _
    simp only [AS.src, beq_dec, decide_true, cond_true, AS.ldl, g2, ble_dec]
    rw [decide_eq_true g3, decide_eq_true g4, decide_eq_true (by omega)]
    rfl
end
def Ow (S : AS) (sz : Nat) (a : AV) (n : Nat) (cs : List AV) : Prop :=
  (a = .nils ∧ n = 0 ∧ cs = []) ∨ ∃ v g lo opn, a = .slice v g 0 n none sz ∧ S.get v = some (.cells cs sz g lo opn false) ∧ lo ≤ g ∧ cs.length = n * sz
section
variable {S S' : AS} {sz n : Nat} {a : AV} {cs : List AV}
theorem Ow.nils : Ow S sz .nils 0 [] := .inl ⟨rfl, rfl, rfl⟩
theorem Ow.rd (h : Ow S sz a n cs) : Rd S sz a n cs := by
  rcases h with ⟨rfl, rfl, rfl⟩ | ⟨v, g, lo, opn, rfl, h2, h3, h4⟩
  · exact Rd.nils
  · exact .inr ⟨v, g, 0, none, cs, sz, g, lo, opn, false, rfl, h2, h3, Nat.le_refl _, by rw [h4, Nat.zero_add]; exact Nat.le_refl _, by simp, by rw [Nat.zero_mul, List.drop_zero, ← h4, List.take_length]⟩
theorem Ow.go (h : Ow S sz a n cs) (hg : ∀ v o, a.own = some v → S.get v = some o → S'.get v = some o) : Ow S' sz a n cs := by
  rcases h with h | ⟨v, g, lo, opn, h1, h2, h3⟩
  · exact .inl h
  · exact .inr ⟨v, g, lo, opn, h1, hg v _ (by rw [h1]; rfl) h2, h3⟩
theorem Ow.new (c : List AV) (sz n : Nat) (opn : Bool) (h : c.length = n * sz) : Ow (S.newRow c sz opn) sz (.slice S.n 0 0 n none sz) n c :=
  .inr ⟨S.n, 0, 0, opn, rfl, by rw [AS.newRow, AS.get_push, if_pos rfl], Nat.le_refl _, h⟩
theorem Ow.app (h : Ow S sz a n cs) (hS : Wf S) {y : AV} {m : Nat} {ys : List AV} (hy : Rd S sz y m ys) {bytes : Nat} (hsz : sz ≠ 0) (hb1 : (n + m) * bytes ≤ bound46) (hb2 : n + m ≤ bound46) (hone : ys.all AV.one = true) :
    ∃ a' S', S.app sz bytes a y = some (a', S') ∧ Ow S' sz a' (n + m) (cs ++ ys) ∧ Kp (fun v => a.own = some v) S S' ∧ (a'.own = a.own ∨ a'.own = some S.n) := by
  have hyl := hy.cs_len
  cases m with
  | zero =>
    obtain rfl : ys = [] := List.eq_nil_of_length_eq_zero (by omega)
    refine ⟨a, S, ?_, by simpa using h, Kp.refl hS, .inl rfl⟩
    rcases h with ⟨rfl, _, _⟩ | ⟨v, g, lo, opn, rfl, _⟩ <;> simp only [AS.app, hy.src]
  | succ m =>
    have hz : Nat.beq sz 0 = false := by rw [beq_dec]; exact decide_eq_false hsz
    have hpos : 0 < (m + 1) * sz := Nat.mul_pos (by omega) (by omega)
    simp only [AS.app, hy.src, hz, cond_false]
    rcases h with ⟨rfl, rfl, rfl⟩ | ⟨v, g, lo, opn, rfl, h2, h3, h4⟩
    · refine ⟨.slice S.n 0 0 (m + 1) none sz, S.newRow ys sz true, ?_, ?_, (Kp.refl hS).push _, .inr rfl⟩
      · simp only [AS.appN, ble_dec]
        rw [decide_eq_true (by rwa [Nat.zero_add] at hb1), decide_eq_true (by omega)]
        rfl
      · rw [Nat.zero_add, List.nil_append]
        exact Ow.new ys sz (m + 1) true hyl
    · have hb : (Nat.beq sz sz && Nat.ble ((n + (m + 1)) * bytes) bound46 && Nat.ble (n + (m + 1)) bound46) = true := by
        rw [beq_dec, ble_dec, ble_dec, decide_eq_true rfl, decide_eq_true hb1, decide_eq_true hb2]; rfl
      have e1 : (0 + n + (m + 1)) * sz = n * sz + (m + 1) * sz := by rw [Nat.zero_add]; exact Nat.add_mul _ _ _
      have hroom : aroom none sz sz 0 n (m + 1) cs.length = false := by
        simp only [aroom, beq_dec, ble_dec, decide_true, Bool.true_and]
        exact decide_eq_false (by omega)
      simp only [AS.appN, hb, Bool.not_true, cond_false, h2, hroom, Bool.false_and]
      cases opn with
      | true =>
        refine ⟨.slice v (g + 1) 0 (n + (m + 1)) none sz, S.put v (.cells (cs ++ ys) sz (g + 1) lo true false), ?_, .inr ⟨v, g + 1, lo, true, rfl, by rw [AS.get_put, if_pos rfl], by omega, ?_⟩, ?_, .inl rfl⟩
        · have hgr : agrows none sz sz 0 n (m + 1) cs.length (!true && Nat.beq g g) = false := by simp [agrows]
          rw [hgr]
          simp only [Bool.false_and, cond_false, beq_dec, decide_true, Option.isNone_none, hone, Bool.not_false, decide_eq_true h4.symm, Bool.and_self, cond_true]
        · rw [List.length_append, h4, hyl]; exact (Nat.add_mul _ _ _).symm
        · exact (Kp.refl (u := fun w => (AV.slice v g 0 n none sz).own = some w) hS).put (hS _ _ h2) (fun _ => rfl) _
      | false =>
        refine ⟨.slice S.n 0 0 (n + (m + 1)) none sz, S.newRow ((cs.drop (0 * sz)).take (n * sz) ++ ys) sz true, ?_, ?_, (Kp.refl hS).push _, .inr rfl⟩
        · have hgr : agrows none sz sz 0 n (m + 1) cs.length (!false && Nat.beq g g) = true := by
            simp only [agrows, beq_dec, blt_dec, decide_true, Bool.not_false, Bool.and_self, Bool.true_and]
            exact decide_eq_true (by omega)
          simp only [hgr, ble_dec, decide_eq_true h3, Nat.le_refl, decide_true, Bool.and_self, cond_true]
        · have : (cs.drop (0 * sz)).take (n * sz) = cs := by rw [Nat.zero_mul, List.drop_zero, ← h4, List.take_length]
          rw [this]
          exact Ow.new _ sz _ true (by rw [List.length_append, h4, hyl]; exact (Nat.add_mul _ _ _).symm)
end
theorem wrap64_id {n : Int} (h0 : -9223372036854775808 ≤ n) (h1 : n ≤ 9223372036854775807) : IntKind.wrap .i64 n = n := by
  have e : IntKind.wrap .i64 n = if n % 18446744073709551616 ≥ 9223372036854775808 then n % 18446744073709551616 - 18446744073709551616 else n % 18446744073709551616 := by
    unfold IntKind.wrap
    simp [IntKind.bits, IntKind.signed]
  rw [e]
  split <;> omega
theorem Rd.fin {S S' : AS} {sz n : Nat} {a v : AV} {cs : List AV} (h : Rd S' sz a n cs) (hv : ∀ u, a.own = some u → v.scalar = false) : Rd (finA S v S') sz a n cs :=
  h.go fun u o h1 h2 => by rw [finA_get (hv u h1)]; exact h2
theorem Ow.fin {S S' : AS} {sz n : Nat} {a v : AV} {cs : List AV} (h : Ow S' sz a n cs) (hv : ∀ u, a.own = some u → v.scalar = false) : Ow (finA S v S') sz a n cs :=
  h.go fun u o h1 h2 => by rw [finA_get (hv u h1)]; exact h2
def ints (xs : List Int) : List AV := xs.map (.int .i64)
theorem ints_len (xs : List Int) : (ints xs).length = xs.length := List.length_map _
abbrev RdI (S : AS) (a : AV) (xs : List Int) : Prop := Rd S 1 a xs.length (ints xs)
theorem ints_one (xs : List Int) : (ints xs).all AV.one = true := by simp [ints, AV.one]
section
variable {S S' : AS} {a : AV} {xs : List Int}
theorem RdI.at (h : RdI S a xs) {k : IntKind} {i : Int} (h0 : 0 ≤ i) (h1 : i < xs.length) : ∃ v g o e, ixsA 1 a (.int k i) = some (.ptr v g o e) ∧ ldO (S.get v) g o e = some (.int .i64 (xs.getD i.toNat 0)) ∧ a.own = some v := by
  obtain ⟨v, g, o, e, q1, q2, _, q3⟩ := Rd.at h (k := k) h0 h1
  refine ⟨v, g, o, e, q1, ?_, q3⟩
  have := q2 0 (by omega)
  rw [Nat.add_zero] at this
  rw [← ld1_ptr, this, Nat.mul_one, Nat.add_zero, ints, List.getElem?_map, List.getD_eq_getElem?_getD, List.getElem?_eq_getElem (by omega)]
  rfl
theorem RdI.slc (h : RdI S a xs) {lo hi : Option AV} {l r : Nat} (hlo : optN 0 lo = some l) (hhi : optN xs.length hi = some r) (h1 : l ≤ r) (h2 : r ≤ xs.length) :
    ∃ y, S.slc 1 a lo hi none = some y ∧ RdI S y ((xs.drop l).take (r - l)) ∧ (∀ v, y.own = some v → a.own = some v) := by
  obtain ⟨y, q1, q2, q3⟩ := Rd.slc h hlo hhi h1 h2
  refine ⟨y, q1, ?_, q3⟩
  have e : ((xs.drop l).take (r - l)).length = r - l := by rw [List.length_take, List.length_drop]; omega
  show Rd S 1 y ((xs.drop l).take (r - l)).length (ints ((xs.drop l).take (r - l)))
  rw [e]
  rw [Nat.mul_one, Nat.mul_one] at q2
  unfold ints at q2 ⊢
  rwa [List.map_take, List.map_drop]
end
end Go.Proofs.Ytednmmcdjhfflaa.Vai
