/-
  A verified abstract interpreter, part L: maps.
-/
import Derived.Test.YtednmmcdjhfflaaVaiK
namespace Go.Proofs.Ytednmmcdjhfflaa.Vai
open Go Go.RowKit
section
variable {P : Program} {w0 : World} {ρ : Emb} {S : AS} {w : World} {n : Nat} {F : Fr} {a : Act}
def KKSay (P : Program) (t : TypeId) (kk : Nat) (d : TypeDesc) : Prop :=
  match kk with
  | 0 => ∃ k, d = .int k
  | 1 => d = .string
  | 2 => d = .bool
  | 3 => PairSay P t d
  | _ => False
theorem keyO_say {t : TypeId} {kk : Nat} (h : keyO P t = some kk) : ∃ d, P.underlying t = some d ∧ KKSay P t kk d := by
  unfold keyO at h
  split at h
  · rename_i k hu; cases h; exact ⟨_, hu, k, rfl⟩
  · rename_i hu; cases h; exact ⟨_, hu, rfl⟩
  · rename_i hu; cases h; exact ⟨_, hu, rfl⟩
  · rename_i fs hu
    cases hp : pairO P t fs with
    | false => rw [hp] at h; cases h
    | true => rw [hp] at h; cases h; exact ⟨_, hu, pairO_say hp⟩
  · cases h
theorem ba_eq (a b : List UInt8) : ((ByteArray.mk a.toArray) == (ByteArray.mk b.toArray)) = (a == b) := by
  show (ByteArray.mk a.toArray).beq _ = _
  rw [Bool.eq_iff_iff]
  simp [ByteArray.beq]
theorem keyEq_rel {kt : TypeId} {kk : Nat} {d : TypeDesc} {k k' : AV} {v v' : Value} {b : Bool} (hs : KKSay P kt kk d) (hkk : kk ≠ 3) (hk : Rel ρ k v) (hk' : Rel ρ k' v') (h : keyEq kk k k' = some b) :
    Instr.sameNow d v v' = some b ∧ (b = true → v' = v) := by
  unfold keyEq at h
  split at h
  · rename_i k1 a1 k2 b1
    obtain ⟨kd, rfl⟩ := hs
    simp only [Rel] at hk hk'
    subst hk; subst hk'
    cases hq : kindBeq k1 k2 with
    | false => rw [hq] at h; cases h
    | true =>
      rw [hq] at h
      have := kindBeq_eq hq
      subst this
      cases h
      refine ⟨by simp [Instr.sameNow, intBeq_beq], fun hb => ?_⟩
      rw [intBeq_eq hb]
  · obtain rfl : d = .string := hs
    simp only [Rel] at hk hk'
    subst hk; subst hk'
    cases h
    exact ⟨by simp only [Instr.sameNow, ba_eq], fun hb => by rw [eq_of_beq hb]⟩
  · obtain rfl : d = .bool := hs
    simp only [Rel] at hk hk'
    subst hk; subst hk'
    cases h
    exact ⟨by simp only [Instr.sameNow], fun hb => by rw [eq_of_beq hb]⟩
  · exact absurd rfl hkk
  · cases h
theorem keyEq_pair {kt : TypeId} {d : TypeDesc} {k k' : AV} {v v' : Value} {b : Bool} (hu : P.underlying kt = some d) (hs : PairSay P kt d) (hk : Rel ρ k v) (hk' : Rel ρ k' v') (h : keyEq 3 k k' = some b) :
    (Op.equal kt v v').run P w = .ok b w ∧ (b = true → v' = v) ∧ ∃ a, v = .agg a := by
  unfold keyEq at h
  split at h <;> first | (rename_i h3; cases h3; done) | skip
  · rw [rel_pair hk, rel_pair hk']
    obtain ⟨rfl, rfl, rfl⟩ := kk_split h
    refine ⟨equal_pair 9998 hu hs, fun hb => ?_, _, rfl⟩
    simp only [Bool.and_eq_true, beq_iff_eq] at hb
    rw [hb.1, hb.2]
  · cases h
theorem findK_rel {kt : TypeId} {kk : Nat} {d : TypeDesc} {k : AV} {v : Value} (hs : KKSay P kt kk d) (hkk : kk ≠ 3) (hk : Rel ρ k v) : ∀ {es : List (AV × AV × Nat)} {l : List MapEntry} {i : Nat} {r : Option (Nat × AV)}, RelE ρ es l → findK kk k es i = some r →
    (r = none ∧ Instr.findNow d v l i = some none) ∨ ∃ j x y e, r = some (i + j, x) ∧ Rel ρ x y ∧ Instr.findNow d v l i = some (some (i + j, y)) ∧ l[j]? = some e ∧ e.key = v ∧ e.val = y
  | [], l, i, r, hr, h => by
    simp only [RelE] at hr; subst hr
    simp only [findK, Option.some.injEq] at h; subst h
    exact .inl ⟨rfl, rfl⟩
  | (k', x, b) :: es, l, i, r, hr, h => by
    obtain ⟨k1, y, ys, rfl, h0, h1, h2⟩ := hr
    simp only [findK] at h
    split at h
    · rename_i hq
      cases h
      obtain ⟨q1, q2⟩ := keyEq_rel hs hkk hk h0 hq
      exact .inr ⟨0, x, y, _, rfl, h1, by simp [Instr.findNow, q1], rfl, q2 rfl, rfl⟩
    · rename_i hq
      obtain ⟨q1, _⟩ := keyEq_rel hs hkk hk h0 hq
      rcases findK_rel hs hkk hk h2 h with ⟨p1, p2⟩ | ⟨j, x', y', e, p1, p2, p3, p4, p5⟩
      · exact .inl ⟨p1, by simp [Instr.findNow, q1, p2]⟩
      · exact .inr ⟨j + 1, x', y', e, by rw [p1, Nat.add_assoc, Nat.add_comm 1 j], p2, by simp [Instr.findNow, q1, p3, Nat.add_assoc, Nat.add_comm 1 j], by simpa using p4, p5⟩
    · cases h
theorem findK_pair {kt : TypeId} {d : TypeDesc} {k : AV} {v : Value} (hu : P.underlying kt = some d) (hs : PairSay P kt d) (hk : Rel ρ k v) : ∀ {es : List (AV × AV × Nat)} {l : List MapEntry} {i : Nat} {r : Option (Nat × AV)}, RelE ρ es l → findK 3 k es i = some r →
    (r = none ∧ (Instr.findAsking kt v l i).run P w = .ok none w) ∨ ∃ j x y e, r = some (i + j, x) ∧ Rel ρ x y ∧ (Instr.findAsking kt v l i).run P w = .ok (some (i + j, y)) w ∧ l[j]? = some e ∧ e.key = v ∧ e.val = y
  | [], l, i, r, hr, h => by
    simp only [RelE] at hr; subst hr
    simp only [findK, Option.some.injEq] at h; subst h
    exact .inl ⟨rfl, by simp [Instr.findAsking]⟩
  | (k', x, b) :: es, l, i, r, hr, h => by
    obtain ⟨k1, y, ys, rfl, h0, h1, h2⟩ := hr
    simp only [findK] at h
    split at h
    · rename_i hq
      cases h
      obtain ⟨q1, q2, _⟩ := keyEq_pair (w := w) hu hs hk h0 hq
      exact .inr ⟨0, x, y, _, rfl, h1, by simp [Instr.findAsking, q1], rfl, q2 rfl, rfl⟩
    · rename_i hq
      obtain ⟨q1, _⟩ := keyEq_pair (w := w) hu hs hk h0 hq
      rcases findK_pair hu hs hk h2 h with ⟨p1, p2⟩ | ⟨j, x', y', e, p1, p2, p3, p4, p5⟩
      · exact .inl ⟨p1, by simp [Instr.findAsking, q1, p2]⟩
      · exact .inr ⟨j + 1, x', y', e, by rw [p1, Nat.add_assoc, Nat.add_comm 1 j], p2, by simp [Instr.findAsking, q1, p3, Nat.add_assoc, Nat.add_comm 1 j], by simpa using p4, p5⟩
    · cases h
theorem run_checkKey {kk : Nat} {kt : TypeId} {d : TypeDesc} (hu : P.underlying kt = some d) (hs : KKSay P kt kk d) (e : Bool) (k : AV) (v : Value) (hr : Rel ρ k v) (hik : isKey kk k = true) : (Instr.checkKey e 10000 kt v).run P w = .ok () w := by
  have key : ∀ m, (Instr.checkKey e (m + 2) kt v).run P w = .ok () w := by
    intro m
    unfold KKSay at hs
    split at hs
    · obtain ⟨k, rfl⟩ := hs
      simp only [Instr.checkKey, Sem.run_bind, run_underlying hu, Result.andThen_ok]; rfl
    · subst hs; simp only [Instr.checkKey, Sem.run_bind, run_underlying hu, Result.andThen_ok]; rfl
    · subst hs; simp only [Instr.checkKey, Sem.run_bind, run_underlying hu, Result.andThen_ok]; rfl
    · unfold isKey at hik
      split at hik <;> first | (rename_i h3; cases h3; done) | (cases hik; done) | skip
      rw [rel_pair hr]
      obtain ⟨f, g, k, j, rfl, h1, h2, h3, h4, h5, h6, h7, h8⟩ := hs
      have p1 : ∀ (a b : Value), (part f.type #[a, b] f.offset).run P w = .ok a w := fun a b => run_part_int h5 (by rw [h3]; rfl) w
      have p2 : ∀ (a b : Value), (part g.type #[a, b] g.offset).run P w = .ok b w := fun a b => run_part_int h6 (by rw [h4]; rfl) w
      have c1 : ∀ (q : IntKind) (a : Int), (Instr.checkKey e (m + 1) f.type (.int q a)).run P w = .ok () w := fun q a => by
        simp only [Instr.checkKey, Sem.run_bind, run_underlying h5, Result.andThen_ok]; rfl
      have c2 : ∀ (q : IntKind) (a : Int), (Instr.checkKey e (m + 1) g.type (.int q a)).run P w = .ok () w := fun q a => by
        simp only [Instr.checkKey, Sem.run_bind, run_underlying h6, Result.andThen_ok]; rfl
      unfold Instr.checkKey
      simp [run_underlying hu, h1, h2, p1, p2, c1, c2]
    · exact hs.elim
  exact key 9998
theorem run_findKey' {kt : TypeId} {d : TypeDesc} (hu : P.underlying kt = some d) {v : Value} {l : List MapEntry} {r : Option (Nat × Value)} (h : Instr.findNow d v l 0 = some r) : (Instr.findKey kt v l).run P w = .ok r w := by
  simp [Instr.findKey, run_underlying hu, h]
theorem findK_run {kt : TypeId} {kk : Nat} {d : TypeDesc} {k : AV} {v : Value} (hu : P.underlying kt = some d) (hs : KKSay P kt kk d) (hk : Rel ρ k v) {es : List (AV × AV × Nat)} {l : List MapEntry} {r : Option (Nat × AV)} (hr : RelE ρ es l) (h : findK kk k es 0 = some r) :
    (r = none ∧ (Instr.findKey kt v l).run P w = .ok none w) ∨ ∃ j x y e, r = some (j, x) ∧ Rel ρ x y ∧ (Instr.findKey kt v l).run P w = .ok (some (j, y)) w ∧ l[j]? = some e ∧ e.key = v ∧ e.val = y := by
  by_cases hkk : kk = 3
  · subst hkk
    have hs : PairSay P kt d := hs
    cases es with
    | nil =>
      simp only [RelE] at hr; subst hr
      simp only [findK, Option.some.injEq] at h; subst h
      exact .inl ⟨rfl, run_findKey' hu rfl⟩
    | cons e0 es =>
      have hnone : Instr.findNow d v l 0 = none := by
        obtain ⟨k', x, b⟩ := e0
        obtain ⟨k1, y, ys, rfl, h0, h1, h2⟩ := hr
        have : ∃ bb, keyEq 3 k k' = some bb := by
          simp only [findK] at h
          split at h
          · exact ⟨_, by assumption⟩
          · exact ⟨_, by assumption⟩
          · cases h
        obtain ⟨bb, hbb⟩ := this
        obtain ⟨_, _, a, ha⟩ := keyEq_pair (w := w) hu hs hk h0 hbb
        obtain ⟨f, g, q, j, rfl, _⟩ := hs
        simp [Instr.findNow, Instr.sameNow]
      have hf : (Instr.findKey kt v l).run P w = (Instr.findAsking kt v l).run P w := by simp [Instr.findKey, run_underlying hu, hnone]
      rw [hf]
      rcases findK_pair (w := w) hu hs hk hr h with h | ⟨j, x, y, e, p1, p2, p3, p4⟩
      · exact .inl h
      · rw [Nat.zero_add] at p1 p3
        exact .inr ⟨j, x, y, e, p1, p2, p3, p4⟩
  · rcases findK_rel hs hkk hk hr h with ⟨p1, p2⟩ | ⟨j, x, y, e, p1, p2, p3, p4⟩
    · exact .inl ⟨p1, run_findKey' hu p2⟩
    · rw [Nat.zero_add] at p1 p3
      exact .inr ⟨j, x, y, e, p1, p2, run_findKey' hu p3, p4⟩
theorem sim_look (C : Ctx) (call : CallF) (hF : FRel ρ n F a.tmps) (hS : RS w0 ρ S w) {o : Oper} {t kt e : TypeId} {m k : Operand} {m' k' : AX} {ok : Bool} {z : Value} {kk : Nat}
    (ho : o.op = .lookup t m k ok) (h1 : cX m = some m') (h2 : cX k = some k') (hu : P.underlying t = some (.map kt e)) (hz : zeroO P e = some z) (hk : keyO P kt = some kk) :
    Sim P w0 ρ w (execOp a.eval o) (aop C call F S (.look kk (AV.ofV z) ok m' k')) := by
  have hm := cX_ev hF h1
  have hkv := cX_ev hF h2
  obtain ⟨d, hkt, hsay⟩ := keyO_say hk
  simp only [aop]
  refine Sim.with hS fun r hr => ?_
  have fin : ∀ (x : AV) (y : Value) (b : Bool), Rel ρ x y → ∃ v, Rel ρ (bif ok then .tup [x, .bool b] else x) v ∧ v = (if ok = true then Value.tuple #[y, .bool b] else y) := by
    intro x y b hxy
    cases ok with
    | true => exact ⟨_, ⟨[y, .bool b], ⟨y, _, rfl, hxy, _, _, rfl, rfl, rfl⟩, rfl⟩, rfl⟩
    | false => exact ⟨_, hxy, rfl⟩
  unfold AS.look at hr
  simp only at hr
  cases hik : isKey kk (k'.ev F) with
  | false => rw [hik] at hr; cases hr
  | true =>
  rw [hik] at hr
  simp only [Bool.not_true, cond_false] at hr
  split at hr
  · rename_i q; rw [q] at hm; simp only [Rel] at hm
    cases hr
    obtain ⟨v, hv, he⟩ := fin (AV.ofV z) z false (Rel.ofV ρ z)
    refine ⟨v, hv, ?_⟩
    have hf : (Instr.findKey kt (a.eval k) []).run P w = .ok none w := run_findKey' hkt rfl
    simp [execOp, ho, hm, Instr.lookup, run_underlying hu, run_checkKey hkt hsay _ _ _ hkv hik, hf, run_zeroValue' hz, he]
  · rename_i v q; rw [q] at hm; simp only [Rel] at hm
    obtain ⟨b, hb, hmv⟩ := hm
    split at hr
    case h_2 => cases hr
    rename_i es clock hg
    obtain ⟨es', hh, hre, _⟩ := hS.map hb hg
    have hgo := run_getObj (P := P) hh (by simp)
    split at hr
    · rename_i i x hf
      cases hr
      rcases findK_run (w := w) hkt hsay hkv hre hf with ⟨p1, _⟩ | ⟨j, x', y', e', p1, p2, p3, _⟩
      · cases p1
      · cases p1
        obtain ⟨v', hv', he⟩ := fin x y' true p2
        refine ⟨v', hv', ?_⟩
        have hf' := p3
        simp [execOp, ho, hmv, Instr.lookup, run_underlying hu, hgo, run_checkKey hkt hsay _ _ _ hkv hik, hf', he]
    · rename_i hf
      cases hr
      rcases findK_run (w := w) hkt hsay hkv hre hf with ⟨_, p2⟩ | ⟨j, x', y', e', p1, _⟩
      · obtain ⟨v', hv', he⟩ := fin (AV.ofV z) z false (Rel.ofV ρ z)
        refine ⟨v', hv', ?_⟩
        have hf' := p2
        simp [execOp, ho, hmv, Instr.lookup, run_underlying hu, hgo, run_checkKey hkt hsay _ _ _ hkv hik, hf', run_zeroValue' hz, he]
      · cases p1
    · cases hr
  · cases hr
theorem setE_rel : ∀ {es : List (AV × AV × Nat)} {l : List MapEntry} {i : Nat} {x : AV} {y v : Value} {e : MapEntry}, RelE ρ es l → Rel ρ x y → l[i]? = some e → e.key = v →
    RelE ρ (setE i x es) (l.modify i fun e => ⟨v, y, e.born⟩)
  | [], l, i, x, y, v, e, hr, _, he, _ => by simp only [RelE] at hr; subst hr; simp at he
  | (k, u, b) :: es, l, i, x, y, v, e, hr, hx, he, hv => by
    obtain ⟨k1, u', ys, rfl, h0, h1, h2⟩ := hr
    cases i with
    | zero =>
      simp only [List.getElem?_cons_zero, Option.some.injEq] at he
      subst he
      simp only at hv
      subst hv
      exact ⟨_, y, ys, rfl, h0, hx, h2⟩
    | succ i =>
      simp only [setE, consS_eq, List.modify_succ_cons]
      exact ⟨k1, u', _, rfl, h0, h1, setE_rel h2 hx (by simpa using he) hv⟩
theorem RelE.snoc : ∀ {es : List (AV × AV × Nat)} {l : List MapEntry} {k x : AV} {kv y : Value} {b : Nat}, RelE ρ es l → Rel ρ k kv → Rel ρ x y → RelE ρ (es ++ [(k, x, b)]) (l ++ [⟨kv, y, b⟩])
  | [], l, k, x, kv, y, b, hr, hk, hx => by simp only [RelE] at hr; subst hr; exact ⟨kv, y, [], rfl, hk, hx, rfl⟩
  | (k0, u, b0) :: es, l, k, x, kv, y, b, hr, hk, hx => by
    obtain ⟨k1, u', ys, rfl, h0, h1, h2⟩ := hr
    exact ⟨k1, u', _, rfl, h0, h1, RelE.snoc h2 hk hx⟩
theorem RS.setMap (hS : RS w0 ρ S w) {v : Nat} {b : Base} {es es1 : List (AV × AV × Nat)} {clock clock1 : Nat} {l1 : Array MapEntry} (hb : ρ v 0 = some b) (hg : S.get v = some (.map es clock)) (hr : RelE ρ es1 l1.toList) :
    (setObj b.blk (.map l1 clock1)).run P w = .ok () { w with heap := w.heap.setIfInBounds b.blk (.map l1 clock1) } ∧
    RS w0 ρ (S.put v (.map es1 clock1)) { w with heap := w.heap.setIfInBounds b.blk (.map l1 clock1) } := by
  obtain ⟨es', hh, _, hlow⟩ := hS.map hb hg
  have hlt : b.blk < w.heap.size := (Array.getElem?_eq_some_iff.1 hh).1
  refine ⟨by simp only [setObj, Sem.run, hh], ?_⟩
  refine hS.write hg rfl rfl rfl rfl (by simp) (Ext.refl _) (fun _ _ _ h => .inr h) ?_ ?_ ?_ ?_
  · intro k _ hk
    rw [Array.getElem?_setIfInBounds_ne (hk 0 b rfl hb)]
  · intro g' b' hl hb'
    exact .inl ⟨g', b', hl, hb', rfl⟩
  · intro g' b' hb'
    exact hS.gens v _ hg g' b' hb'
  · exact ⟨b, l1, hb, hlow, by simp [hlt], hr⟩
theorem sameBits_key {kk : Nat} {k : AV} {v : Value} (hk : isKey kk k = true) (hr : Rel ρ k v) : Instr.sameBits 10000 v v = true := by
  have key : ∀ m, Instr.sameBits (m + 2) v v = true := by
    intro m
    unfold isKey at hk
    split at hk <;> first | (cases hk; done) | (simp only [Rel] at hr; subst hr; simp [Instr.sameBits]; done) | (simp only [Rel] at hr; subst hr; simp only [Instr.sameBits]; rw [ba_eq]; simp; done) | (rw [rel_pair hr]; simp [Instr.sameBits])
  exact key 9998
theorem sim_mup (C : Ctx) (call : CallF) (hF : FRel ρ n F a.tmps) (hS : RS w0 ρ S w) {o : Oper} {t kt e : TypeId} {m k x : Operand} {m' k' x' : AX} {kk : Nat}
    (ho : o.op = .mapUpdate t m k x ∨ o.op = .insert t m k x) (h1 : cX m = some m') (h2 : cX k = some k') (h3 : cX x = some x') (hu : P.underlying t = some (.map kt e)) (hk : keyO P kt = some kk) :
    Sim P w0 ρ w (execOp a.eval o) (aop C call F S (.mup kk m' k' x')) := by
  have hm := cX_ev hF h1
  have hkv := cX_ev hF h2
  have hxv := cX_ev hF h3
  obtain ⟨d, hkt, hsay⟩ := keyO_say hk
  have hexec : (execOp a.eval o) = (do Instr.mapUpdate t (a.eval m) (a.eval k) (a.eval x); pure Next.skip) := by
    rcases ho with ho | ho <;> simp only [execOp, ho]
  simp only [aop]
  cases hr : S.mup kk (m'.ev F) (k'.ev F) (x'.ev F) with
  | none => exact Sim.no
  | some S' =>
    unfold AS.mup at hr
    split at hr
    case h_2 => cases hr
    rename_i v q; rw [q] at hm; simp only [Rel] at hm
    obtain ⟨b, hb, hmv⟩ := hm
    split at hr
    case h_2 => cases hr
    rename_i es clock hg
    obtain ⟨es', hh, hre, hlow⟩ := hS.map hb hg
    have hgo := run_getObj (P := P) hh (by simp)
    cases hik : isKey kk (k'.ev F) with
    | false => rw [hik] at hr; cases hr
    | true =>
    rw [hik] at hr
    simp only [Bool.not_true, cond_false] at hr
    split at hr
    · rename_i i x1 hf
      cases hr
      rcases findK_run (w := w) hkt hsay hkv hre hf with ⟨p1, _⟩ | ⟨j, x2, y2, e2, p1, p2, p3, p4, p5, p6⟩
      · cases p1
      · cases p1
        have hset := setE_rel (ρ := ρ) (i := i) hre hxv p4 p5
        obtain ⟨hrun, hS'⟩ := hS.setMap (P := P) (clock1 := clock) (l1 := es'.modify i fun e => ⟨a.eval k, a.eval x, e.born⟩) hb hg (by simpa using hset)
        have hkey : ((Option.map (fun x => x.key) es'[i]?).getD (a.eval k)) = a.eval k := by
          have : es'[i]? = some e2 := by simpa using p4
          rw [this]; simp [p5]
        refine Sim.one (Ext.refl _) ⟨[], rfl, rfl⟩ hS' (.inr ⟨?_, rfl⟩)
        rw [hexec]
        have hf' := p3
        simp only [Instr.mapUpdate, Sem.run_bind, run_underlying hu, Result.andThen_ok, hmv, hgo, run_checkKey hkt hsay _ _ _ hkv hik, hf', hkey, Instr.keyThatStays, sameBits_key hik hkv, if_true, Sem.run_pure, hrun]
    · rename_i hf
      cases hr
      rcases findK_run (w := w) hkt hsay hkv hre hf with ⟨_, p2⟩ | ⟨j, x2, y2, e2, p1, _⟩
      · obtain ⟨hrun, hS'⟩ := hS.setMap (P := P) (clock1 := clock + 1) (l1 := es'.push ⟨a.eval k, a.eval x, clock⟩) (es1 := es ++ [(k'.ev F, x'.ev F, clock)]) hb hg (by simpa using RelE.snoc hre hkv hxv)
        refine Sim.one (Ext.refl _) ⟨[], rfl, rfl⟩ hS' (.inr ⟨?_, rfl⟩)
        rw [hexec]
        have hf' := p2
        simp only [Instr.mapUpdate, Sem.run_bind, run_underlying hu, Result.andThen_ok, hmv, hgo, run_checkKey hkt hsay _ _ _ hkv hik, hf', Sem.run_pure, hrun]
      · cases p1
    · cases hr
theorem sim_mkmap (C : Ctx) (call : CallF) (hS : RS w0 ρ S w) {o : Oper} {t : TypeId} (ho : o.op = .makeMap t none) : Sim P w0 ρ w (execOp a.eval o) (aop C call F S .mkmap) := by
  have hnone : ρ S.n 0 = none := by
    cases e : ρ S.n 0 with
    | none => rfl
    | some b' => have := hS.dom _ _ _ e; omega
  simp only [aop]
  have key := hS.alloc (.map #[] 0) (.map [] 0) ⟨w.heap.size, 0, 0, 0, 0, fun _ => none⟩ rfl (fun g => by simp only [AObj.live]) ⟨_, #[], Emb.put_self _ _ _ _, hS.below.size, heap_alloc_new _ _, rfl⟩
  refine Sim.one key.2 (v := .map (some w.heap.size)) ⟨_, Emb.put_self _ _ _ _, rfl⟩ key.1 (.inl ?_)
  simp [execOp, ho, Instr.makeMap]
theorem bornsE_rel : ∀ {es : List (AV × AV × Nat)} {l : List MapEntry}, RelE ρ es l → l.map (·.born) = bornsE es
  | [], l, h => by simp only [RelE] at h; subst h; rfl
  | (k, x, b) :: es, l, h => by
    obtain ⟨k', y, ys, rfl, _, _, h2⟩ := h
    simp [bornsE, bornsE_rel h2]
theorem sim_rng (C : Ctx) (call : CallF) (hF : FRel ρ n F a.tmps) (hS : RS w0 ρ S w) {o : Oper} {t kt e : TypeId} {x : Operand} {x' : AX} (ho : o.op = .range t x) (h1 : cX x = some x') (hu : P.underlying t = some (.map kt e)) :
    Sim P w0 ρ w (execOp a.eval o) (aop C call F S (.rng x')) := by
  have hx := cX_ev hF h1
  have hnone : ρ S.n 0 = none := by
    cases e : ρ S.n 0 with
    | none => rfl
    | some b' => have := hS.dom _ _ _ e; omega
  simp only [aop]
  cases hr : S.rng (x'.ev F) with
  | none => exact Sim.no
  | some r =>
    simp only [R.ofO]
    unfold AS.rng at hr
    split at hr
    · rename_i q; rw [q] at hx; simp only [Rel] at hx
      cases hr
      have key := hS.alloc (.mapIter none 0 #[] 0) (.iter none [] 0 [] none) ⟨w.heap.size, 0, 0, 0, 0, fun _ => none⟩ rfl (fun g => by simp only [AObj.live]) ⟨_, Emb.put_self _ _ _ _, ⟨hS.below.size, rfl⟩, 0, #[], 0, heap_alloc_new _ _⟩
      refine Sim.one key.2 (v := .pointer (some ⟨w.heap.size, 0, none⟩)) ⟨_, Emb.put_self _ _ _ _, Nat.le_refl _, rfl⟩ key.1 (.inl ?_)
      simp [execOp, ho, Instr.range, run_underlying hu, hx]
    · rename_i v q; rw [q] at hx; simp only [Rel] at hx
      obtain ⟨b, hb, hv⟩ := hx
      split at hr
      case h_2 => cases hr
      rename_i es clock hg
      obtain ⟨es', hh, hre, hlow⟩ := hS.map hb hg
      have hgo := run_getObj (P := P) hh (by simp)
      cases hal : (bornsE es).all (fun b => Nat.blt b clock) with
      | false => rw [hal] at hr; cases hr
      | true =>
      rw [hal] at hr
      cases hr
      have hvn : v ≠ S.n := by have := hS.lt _ _ hg; omega
      have key := hS.alloc (.mapIter (some b.blk) clock #[] clock) (.iter (some v) (bornsE es) clock (bornsE es) none) ⟨w.heap.size, 0, 0, 0, 0, fun _ => none⟩ rfl (fun g => by simp only [AObj.live]) ⟨_, Emb.put_self _ _ _ _, ⟨hS.below.size, rfl⟩, b, #[], by rw [Emb.put_other _ _ (.inl hvn)]; exact hb, heap_alloc_new _ _, (List.filter_eq_self.2 (by simp)).symm, by simp⟩
      refine Sim.one key.2 (v := .pointer (some ⟨w.heap.size, 0, none⟩)) ⟨_, Emb.put_self _ _ _ _, Nat.le_refl _, rfl⟩ key.1 (.inl ?_)
      simp [execOp, ho, Instr.range, run_underlying hu, hv, hgo]
    · cases hr
theorem lookE_rel : ∀ {es : List (AV × AV × Nat)} {l : List MapEntry} {b : Nat} {k x : AV}, RelE ρ es l → lookE b es = some (k, x) → ∃ e, l.find? (fun e => e.born == b) = some e ∧ Rel ρ k e.key ∧ Rel ρ x e.val ∧ e.born = b
  | [], l, b, k, x, hr, h => by simp [lookE] at h
  | (k0, u, b0) :: es, l, b, k, x, hr, h => by
    obtain ⟨k1, u', ys, rfl, h0, h1, h2⟩ := hr
    simp only [lookE] at h
    cases hb : Nat.beq b0 b with
    | true =>
      rw [hb] at h
      cases h
      have : b0 = b := by simpa using hb
      exact ⟨⟨k1, u', b0⟩, by simp [List.find?, this], h0, h1, this⟩
    | false =>
      rw [hb] at h
      obtain ⟨e, he, h3⟩ := lookE_rel h2 h
      have : ¬ b0 = b := by intro e; subst e; simp at hb
      refine ⟨e, ?_, h3⟩
      have hb' : (b0 == b) = false := by simpa using this
      simp only [List.find?, hb', he]
theorem lookE_mem : ∀ {es : List (AV × AV × Nat)} {l : List MapEntry} {b : Nat} {k x : AV}, RelE ρ es l → lookE b es = some (k, x) → ∃ e ∈ l, Rel ρ k e.key ∧ Rel ρ x e.val ∧ e.born = b := by
  intro es l b k x hr h
  obtain ⟨e, he, h1, h2, h3⟩ := lookE_rel hr h
  exact ⟨e, List.mem_of_find?_eq_some he, h1, h2, h3⟩
theorem RS.setIter (hS : RS w0 ρ S w) {v : Nat} {b mb : Base} {m clock : Nat} {bs rem rem' : List Nat} {cur cur' : Option Nat} {seen' : Array Nat} (hb : ρ v 0 = some b) (hg : S.get v = some (.iter (some m) bs clock rem cur)) (hm : ρ m 0 = some mb)
    (hok : IterOk bs rem' cur' seen') :
    (setObj b.blk (.mapIter (some mb.blk) clock seen' clock)).run P w = .ok () { w with heap := w.heap.setIfInBounds b.blk (.mapIter (some mb.blk) clock seen' clock) } ∧
    RS w0 ρ (S.put v (.iter (some m) bs clock rem' cur')) { w with heap := w.heap.setIfInBounds b.blk (.mapIter (some mb.blk) clock seen' clock) } := by
  obtain ⟨b1, h1, h2, mb1, seen, h3, h4, h5⟩ := hS.obj v _ hg
  rw [hb] at h1; cases h1
  have hlt : b.blk < w.heap.size := (Array.getElem?_eq_some_iff.1 h4).1
  refine ⟨by simp only [setObj, Sem.run, h4], ?_⟩
  refine hS.write hg rfl rfl rfl rfl (by simp) (Ext.refl _) (fun _ _ _ h => .inr h) ?_ ?_ ?_ ?_
  · intro k _ hk
    rw [Array.getElem?_setIfInBounds_ne (hk 0 b rfl hb)]
  · intro g' b' hl hb'
    exact .inl ⟨g', b', hl, hb', rfl⟩
  · intro g' b' hb'
    exact hS.gens v _ hg g' b' hb'
  · exact ⟨b, hb, h2, mb, seen', hm, by simp [hlt], hok⟩
theorem RS.overIter (hS : RS w0 ρ S w) {v m clock : Nat} {bs rem : List Nat} {cur : Option Nat} (hg : S.get v = some (.iter (some m) bs clock rem cur)) : RS w0 ρ (S.put v (.iter (some m) bs clock rem none)) w := by
  obtain ⟨b1, h1, h2, mb1, seen, h3, h4, h5⟩ := hS.obj v _ hg
  refine hS.write hg rfl rfl rfl rfl (Nat.le_refl _) (Ext.refl _) (fun _ _ _ h => .inr h) (fun _ _ _ => rfl) ?_ ?_ ?_
  · intro g' b' hl hb'
    exact .inl ⟨g', b', hl, hb', rfl⟩
  · intro g' b' hb'
    exact hS.gens v _ hg g' b' hb'
  · exact ⟨b1, h1, h2, mb1, seen, h3, h4, h5.1, by simp⟩
theorem nxtL_get {i m clock : Nat} {bs all : List Nat} {es : List (AV × AV × Nat)} : ∀ {rem : List Nat} {l : List (AV × AS)} {b : Nat}, S.nxtL i m bs clock all es rem = some l → b ∈ rem →
    ∃ k x, lookE b es = some (k, x) ∧ (AV.tup [.bool true, k, x], S.put i (.iter (some m) bs clock (all.filter fun c => !(Nat.beq c b)) (some b))) ∈ l
  | [], _, _, _, hm => by cases hm
  | c :: rem, l, b, h, hm => by
    simp only [AS.nxtL] at h
    split at h
    case h_2 => cases h
    rename_i k x r hk hr
    cases h
    rcases List.mem_cons.1 hm with rfl | hm
    · exact ⟨k, x, hk, List.mem_cons_self⟩
    · obtain ⟨k', x', h1, h2⟩ := nxtL_get hr hm
      exact ⟨k', x', h1, List.mem_cons_of_mem _ h2⟩
theorem filter_born : ∀ (l : List MapEntry) (p : Nat → Bool), (l.filter fun e => p e.born).map (·.born) = (l.map (·.born)).filter p
  | [], _ => rfl
  | e :: l, p => by
    simp only [List.filter_cons, List.map_cons]
    cases p e.born <;> simp [filter_born l p]
theorem natsBeq_eq : ∀ {a b : List Nat}, natsBeq a b = true → a = b
  | [], [], _ => rfl
  | [], _ :: _, h => by cases h
  | _ :: _, [], h => by cases h
  | x :: xs, y :: ys, h => by
    simp only [natsBeq, Bool.and_eq_true, Nat.beq_eq] at h
    rw [h.1, natsBeq_eq h.2]
theorem incr_head : ∀ {l : List Nat} {a : Nat}, incr (a :: l) = true → (∀ b ∈ l, a < b) ∧ incr l = true
  | [], _, _ => ⟨by simp, rfl⟩
  | c :: l, a, h => by
    simp only [incr, Bool.and_eq_true, Nat.blt_eq] at h
    obtain ⟨h1, h2⟩ := h
    obtain ⟨h3, _⟩ := incr_head h2
    refine ⟨fun b hb => ?_, h2⟩
    rcases List.mem_cons.1 hb with rfl | hb
    · exact h1
    · have := h3 b hb; omega
theorem incr_inj : ∀ {l : List MapEntry} {bs : List Nat} {e e' : MapEntry}, incr bs = true → l.map (·.born) = bs → e ∈ l → e' ∈ l → e.born = e'.born → e = e'
  | [], _, _, _, _, _, h, _, _ => by cases h
  | x :: l, bs, e, e', hi, hb, he, he', hq => by
    subst hb
    have hi' : incr (x.born :: l.map (fun e => e.born)) = true := hi
    obtain ⟨h1, h2⟩ := incr_head hi'
    rcases List.mem_cons.1 he with rfl | he1 <;> rcases List.mem_cons.1 he' with rfl | he1'
    · rfl
    · have := h1 e'.born (List.mem_map_of_mem he1'); omega
    · have := h1 e.born (List.mem_map_of_mem he1); omega
    · exact incr_inj h2 rfl he1 he1' hq
theorem sim_nxt (C : Ctx) (call : CallF) (hF : FRel ρ n F a.tmps) (hS : RS w0 ρ S w) {o : Oper} {x : Operand} {x' : AX} (ho : o.op = .next x false) (h1 : cX x = some x') :
    Sim P w0 ρ w (execOp a.eval o) (aop C call F S (.nxt x')) := by
  have hx := cX_ev hF h1
  have hexec : ∀ {v : Value} {w' : World}, (Instr.next (a.eval x) false o.type).run P w = .ok v w' → (execOp a.eval o).run P w = .ok (.value v) w' := by
    intro v w' hv; simp [execOp, ho, hv]
  simp only [aop]
  unfold AS.nxt
  split
  case h_2 => exact Sim.no
  rename_i i g ex q
  rw [q] at hx
  simp only [Rel] at hx
  obtain ⟨b, hb, _, hp⟩ := hx
  split
  case h_3 => exact Sim.no
  ·
    rename_i bs clock rem cur hg
    have hg0 : g = 0 := by have := hS.gens i _ hg _ _ hb; simpa [AObj.top] using this
    subst hg0
    obtain ⟨b1, h1', ⟨hlow, hoff⟩, since, seen, last, hh⟩ := hS.obj i _ hg
    rw [hb] at h1'; cases h1'
    rw [hoff] at hp
    refine Sim.same hS ⟨[.bool false], ⟨_, _, rfl, rfl, rfl⟩, rfl⟩ (hexec ?_)
    have hgo := run_getObj (P := P) hh (by simp)
    simp [hp, Instr.next, hgo]
  · rename_i m bs clock rem cur hg
    have hg0 : g = 0 := by have := hS.gens i _ hg _ _ hb; simpa [AObj.top] using this
    subst hg0
    obtain ⟨b1, h1', ⟨hlow, hoff⟩, mb, seen, hmb, hh, hok⟩ := hS.obj i _ hg
    rw [hb] at h1'; cases h1'
    rw [hoff] at hp
    have hgo := run_getObj (P := P) hh (by simp)
    split
    case h_2 => exact Sim.no
    rename_i es clock' hgm
    obtain ⟨es', hhm, hre, _⟩ := hS.map hmb hgm
    have hgom := run_getObj (P := P) hhm (by simp)
    cases hc : (Nat.beq clock clock' && natsBeq bs (bornsE es) && bs.all (fun b => Nat.blt b clock) && incr bs) with
    | false => exact Sim.no
    | true =>
    simp only [Bool.and_eq_true, Nat.beq_eq] at hc
    obtain ⟨⟨⟨rfl, hbs⟩, hall⟩, hinc⟩ := hc
    have hbs' := natsBeq_eq hbs
    have hborn : es'.toList.map (·.born) = bs := by rw [hbs']; exact bornsE_rel hre
    have hlt : ∀ e ∈ es'.toList, e.born < clock := by
      intro e he
      have : e.born ∈ bs := by rw [← hborn]; exact List.mem_map_of_mem he
      have := List.all_eq_true.1 hall _ this
      simpa using this
    simp only [Bool.not_true, cond_false]
    have hleft : (es'.filter fun e => !seen.contains e.born).toList.map (·.born) = rem := by
      rw [Array.toList_filter, filter_born es'.toList (fun b => !seen.contains b), hborn]; exact hok.1.symm
    have hnob : (!seen.isEmpty && !es'.isEmpty && es'.all fun x => decide (x.born ≥ clock)) = false := by
      cases he : es'.isEmpty with
      | true => simp
      | false =>
        have : es'.all (fun x => decide (x.born ≥ clock)) = false := by
          rw [Bool.eq_false_iff]
          intro hc
          have h0 : 0 < es'.size := by
            rcases Nat.eq_zero_or_pos es'.size with h | h
            · rw [Array.isEmpty] at he; simp [h] at he
            · exact h
          have h1 := Array.all_eq_true.1 hc 0 h0
          have h2 := hlt es'[0] (by simp)
          simp at h1; omega
        simp [this]
    have hold : ((es'.filter fun e => !seen.contains e.born).filter fun x => decide (x.born < clock)) = es'.filter fun e => !seen.contains e.born := by
      rw [Array.filter_eq_self]
      intro e he
      have : e ∈ es' := (Array.mem_filter.1 he).1
      simpa using hlt e (by simpa using this)
    have hnew : ((es'.filter fun e => !seen.contains e.born).filter fun x => decide (x.born ≥ clock)) = #[] := by
      rw [Array.filter_eq_empty_iff]
      intro e he
      have : e ∈ es' := (Array.mem_filter.1 he).1
      have := hlt e (by simpa using this)
      simp; omega
    generalize hL : (es'.filter fun e => !seen.contains e.born) = left at hleft hold hnew
    have hsub : ∀ e ∈ left.toList, e ∈ es'.toList := by
      intro e he
      subst hL
      have he' : e ∈ es'.filter fun e => !seen.contains e.born := by simpa using he
      simpa using (Array.mem_filter.1 he').1
    have hnext : ∀ (k : Nat) (w1 : World) (e : MapEntry), (choose (.mapNext left.size)).run P w = .ok k w1 → left.toList ≠ [] → left[k]? = some e →
        (Instr.next (.pointer (some ⟨b.blk, 0, none⟩)) false o.type).run P w = ((setObj b.blk (.mapIter (some mb.blk) clock (seen.push e.born) clock)).run P w1).andThen fun _ w2 => .ok (.tuple #[.bool true, e.key, e.val]) w2 := by
      intro k w1 e hch hne hk
      have hemp : left.isEmpty = false := by
        cases hq : left.isEmpty with
        | false => rfl
        | true => exact absurd (by simpa [Array.isEmpty] using hq) hne
      have hcand : ((if left.isEmpty = true then #[none] else #[]) ++ Array.map some (left ++ #[])) = left.map some := by
        rw [hemp]; simp
      simp only [Instr.next, Sem.run_bind, hgo, Result.andThen_ok, hgom, hnob, Bool.false_eq_true, if_false, hL, hold, hnew, hcand, Array.size_map, hch, Array.getElem?_map, hk, Option.map_some]
      rfl
    have hone : ∀ (bn : Nat) (kx x : AV) (e : MapEntry) (w1 : World), RS w0 ρ S w1 → lookE bn es = some (kx, x) → e ∈ es'.toList → e.born = bn →
        ∃ w2, (setObj b.blk (.mapIter (some mb.blk) clock (seen.push e.born) clock)).run P w1 = .ok () w2 ∧ Rel ρ (.tup [.bool true, kx, x]) (.tuple #[.bool true, e.key, e.val]) ∧
          RS w0 ρ (S.put i (.iter (some m) bs clock (rem.filter fun c => !(Nat.beq c bn)) (some bn))) w2 := by
      intro bn kx x e w1 hS1 hlk hmem hbn
      obtain ⟨e', hmem', hk1, hx1, hb1⟩ := lookE_mem hre hlk
      have : e' = e := incr_inj hinc hborn hmem' hmem (by rw [hb1, hbn])
      subst this
      have hok' : IterOk bs (rem.filter fun c => !(Nat.beq c bn)) (some bn) (seen.push e'.born) := by
        refine ⟨?_, by simp [hb1]⟩
        rw [hok.1, List.filter_filter]
        apply List.filter_congr
        intro c _
        rw [hb1]
        simp only [Array.contains_push]
        cases hq : Nat.beq c bn with
        | true =>
          have : c = bn := by simpa using hq
          subst this; simp
        | false =>
          have : ¬ c = bn := by intro h; subst h; simp at hq
          simp [this]
      obtain ⟨r1, r2⟩ := hS1.setIter (P := P) hb hg hmb hok'
      exact ⟨_, r1, ⟨[.bool true, e'.key, e'.val], ⟨_, _, rfl, rfl, _, _, rfl, hk1, _, _, rfl, hx1, rfl⟩, rfl⟩, r2⟩
    split
    ·
      have hl0 : left = #[] := by
        have : left.toList = [] := by simpa using hleft
        simpa using this
      have := hS.overIter hg
      refine Sim.one (Ext.refl _) (v := .tuple #[.bool false]) ⟨[.bool false], ⟨_, _, rfl, rfl, rfl⟩, rfl⟩ this (.inl (hexec ?_))
      rw [hp, Nat.zero_add]
      subst hl0
      simp only [Instr.next, Sem.run_bind, hgo, Result.andThen_ok, hgom, hnob, Bool.false_eq_true, if_false, hL, hold, hnew]
      simp [Question.forced]
    ·
      rename_i bn
      split
      case h_2 => exact Sim.no
      rename_i kx x hlk
      obtain ⟨e, hle⟩ : ∃ e, left.toList = [e] := by
        match hq : left.toList, hleft with
        | [e], _ => exact ⟨e, rfl⟩
      have heb : e.born = bn := by rw [hle] at hleft; simpa using hleft
      have hsz : left.size = 1 := by rw [← Array.length_toList, hle]; rfl
      obtain ⟨w2, q1, q2, q3⟩ := hone bn kx x e w hS hlk (hsub e (by rw [hle]; simp)) heb
      have hf : ([bn].filter fun c => !(Nat.beq c bn)) = [] := by simp
      rw [hf] at q3
      refine Sim.one (Ext.refl _) q2 q3 (.inl (hexec ?_))
      rw [hp, Nat.zero_add, hnext 0 w e (by simp [hsz, Question.forced]) (by rw [hle]; simp) (by rw [← Array.getElem?_toList, hle]; rfl), q1]
      rfl
    ·
      rename_i hne0 hne1
      split
      case h_2 => exact Sim.no
      rename_i l hnl
      intro T hT
      have hsz : left.size = rem.length := by rw [← Array.length_toList, ← hleft]; simp
      have h2 : 2 ≤ rem.length := by
        match rem, hne0, hne1 with
        | [], h, _ => exact absurd rfl h
        | [b1], _, h => exact absurd rfl (h b1)
        | _ :: _ :: _, _, _ => simp
      have hnf : (Question.mapNext left.size).forced = false := by simp [Question.forced]; omega
      have hch : (choose (.mapNext left.size)).run P w = .ok ((Question.mapNext left.size).cut (w.tape w.drawn (.mapNext left.size))) w.drew := by
        rw [run_choose, hnf]; rfl
      have hklt : (Question.mapNext left.size).cut (w.tape w.drawn (.mapNext left.size)) < left.size := by
        simp only [Question.cut]; exact Nat.mod_lt _ (by omega)
      generalize (Question.mapNext left.size).cut (w.tape w.drawn (.mapNext left.size)) = k at hch hklt
      have hek : left[k]? = some left[k] := Array.getElem?_eq_getElem hklt
      have hemem : left[k] ∈ left.toList := by simp
      have hbmem : left[k].born ∈ rem := by rw [← hleft]; exact List.mem_map_of_mem hemem
      obtain ⟨kx, x, hlk, hin⟩ := nxtL_get hnl hbmem
      obtain ⟨w2, q1, q2, q3⟩ := hone left[k].born kx x left[k] w.drew hS.drew hlk (hsub _ hemem) rfl
      refine ⟨_, ρ, _, w2, hT _ hin, Ext.refl _, q2, q3, .inl (hexec ?_)⟩
      rw [hp, Nat.zero_add, hnext k w.drew left[k] hch (by intro h; rw [h] at hemem; cases hemem) hek, q1]
      rfl
theorem sim_ent (C : Ctx) (call : CallF) (hF : FRel ρ n F a.tmps) (hS : RS w0 ρ S w) {o : Oper} {x : Operand} {x' : AX} (ho : o.op = .entry x) (h1 : cX x = some x') :
    Sim P w0 ρ w (execOp a.eval o) (aop C call F S (.ent x')) := by
  have hx := cX_ev hF h1
  simp only [aop]
  refine Sim.with hS fun z hz => ?_
  unfold AS.ent at hz
  split at hz
  case h_2 => cases hz
  rename_i i g ex q
  rw [q] at hx
  simp only [Rel] at hx
  obtain ⟨b, hb, _, hp⟩ := hx
  split at hz
  case h_2 => cases hz
  rename_i m bs clock rem cb hg
  have hg0 : g = 0 := by have := hS.gens i _ hg _ _ hb; simpa [AObj.top] using this
  subst hg0
  obtain ⟨b1, h1', ⟨hlow, hoff⟩, mb, seen, hmb, hh, hok⟩ := hS.obj i _ hg
  rw [hb] at h1'; cases h1'
  rw [hoff] at hp
  have hgo := run_getObj (P := P) hh (by simp)
  split at hz
  case h_2 => cases hz
  rename_i es clock' hgm
  obtain ⟨es', hhm, hre, _⟩ := hS.map hmb hgm
  have hgom := run_getObj (P := P) hhm (by simp)
  cases hc : Nat.beq clock clock' with
  | false => rw [hc] at hz; cases hz
  | true =>
  rw [hc] at hz
  have : clock = clock' := by simpa using hc
  subst this
  simp only [cond_true] at hz
  cases hlk : lookE cb es with
  | none => rw [hlk] at hz; cases hz
  | some kx =>
    obtain ⟨kx, x⟩ := kx
    rw [hlk] at hz
    cases hz
    obtain ⟨e, he, hk1, hx1, hb1⟩ := lookE_rel hre hlk
    refine ⟨.tuple #[e.key, e.val], ⟨[e.key, e.val], ⟨_, _, rfl, hk1, _, _, rfl, hx1, rfl⟩, rfl⟩, ?_⟩
    have hback := hok.2 cb rfl
    have hfind : Array.find? (fun x => x.born == cb) es' = some e := by rw [← Array.find?_toList]; exact he
    simp [execOp, ho, hp, Instr.entry, hgo, hback, hgom, hfind]
end
end Go.Proofs.Ytednmmcdjhfflaa.Vai
