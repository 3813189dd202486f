/-
  A verified abstract interpreter, part J: appending.
-/
import Derived.Test.YtednmmcdjhfflaaVaiI
namespace Go.Proofs.Ytednmmcdjhfflaa.Vai
open Go Go.RowKit
section
variable {P : Program} {w0 : World} {ρ : Emb} {S : AS} {w : World} {n : Nat} {F : Fr} {a : Act}
theorem cell?_heap {w w' : World} (h : w'.heap = w.heap) (x : Addr) : w'.cell? x = w.cell? x := by unfold World.cell?; rw [h]
theorem src_rel (hS : RS w0 ρ S w) {y : AV} {vy : Value} {sz m : Nat} {ys : List AV} (hr : Rel ρ y vy) (h : S.src sz y = some (m, ys)) :
    ∃ news : List Value, RelL ρ ys news ∧ news.length = m * sz ∧ (∀ w', (Builtin.lenOf vy).run P w' = .ok m w') ∧
      ∀ w', w'.heap = w.heap → (Builtin.firstCells sz m vy).run P w' = .ok news.toArray w' := by
  unfold AS.src at h
  split at h
  · simp only [Rel] at hr; cases h
    exact ⟨[], rfl, by simp, fun w' => by simp [hr, Builtin.lenOf], fun w' _ => by simp [hr, Builtin.firstCells]⟩
  · simp only [Rel] at hr; cases h
    obtain ⟨ad, c, rfl, _⟩ := hr
    exact ⟨[], rfl, by simp, fun w' => by simp [Builtin.lenOf], fun w' _ => by simp [Builtin.firstCells, loadCells, loadCellsFrom]⟩
  · rename_i s
    simp only [Rel] at hr
    cases h1 : Nat.beq sz 1 with
    | false => rw [h1] at h; cases h
    | true =>
      rw [h1] at h
      cases h
      have hsz : sz = 1 := by simpa using h1
      subst hsz
      refine ⟨s.map fun b => Value.int .u8 b.toNat, ?_, by simp, fun w' => by simp [hr, Builtin.lenOf, ByteArray.size], fun w' _ => ?_⟩
      · refine RelL.mk (by simp) fun i x hx => ?_
        simp only [List.getElem?_map] at hx ⊢
        cases hq : s[i]? with
        | none => rw [hq] at hx; cases hx
        | some u => rw [hq] at hx; cases hx; exact ⟨_, rfl, rfl⟩
      · have := extract_mk s 0 s.length
        simp only [List.drop_zero, Nat.sub_zero, List.take_length] at this
        simp [hr, Builtin.firstCells, this]
  · rename_i v g q len lim z
    simp only [Rel] at hr
    obtain ⟨b, c, hb, hext, hc, hp, _⟩ := hr
    cases hz : Nat.beq z sz with
    | false => rw [hz] at h; cases h
    | true =>
      rw [hz] at h
      have : z = sz := by simpa using hz
      subst this
      simp only [cond_true] at h
      cases hl : S.ldl v g (q * z) ((q + len) * z) (len * z) with
      | none => rw [hl] at h; cases h
      | some l =>
        rw [hl] at h
        cases h
        obtain ⟨vs, hlen, hrel, hcell⟩ := hS.cells hb hext hl
        refine ⟨vs, hrel, hlen, fun w' => by simp [hp, Builtin.lenOf], fun w' hw' => ?_⟩
        rw [hp]
        exact run_firstCells_some (P := P) w' z _ _ _ c vs hlen (fun j u hu => by rw [cell?_heap hw']; exact hcell j u hu)
  · rename_i zo z len cs
    simp only [Rel] at hr
    obtain ⟨ad, c, hp, hc, hcl, had⟩ := hr
    cases hz : Nat.beq z sz with
    | false => rw [hz] at h; cases h
    | true =>
      rw [hz] at h
      have : z = sz := by simpa using hz
      subst this
      cases h
      by_cases h0 : m = 0
      · subst h0
        obtain rfl : ys = [] := List.eq_nil_of_length_eq_zero (by omega)
        refine ⟨[], rfl, by simp, fun w' => by simp [hp, Builtin.lenOf], fun w' _ => ?_⟩
        cases ad <;> simp [hp, Builtin.firstCells, loadCells, loadCellsFrom]
      · rcases had with had | ⟨kk, off, ob, rfl, ⟨_, g1, _⟩, g2⟩
        · exact absurd had h0
        obtain ⟨vs, hlen, hrel, hcell⟩ := hS.fcells (o := 0) (n := m * z) g1 g2 (by omega)
        rw [List.drop_zero, ← hcl, List.take_length] at hrel
        refine ⟨vs, hrel, hlen, fun w' => by simp [hp, Builtin.lenOf], fun w' hw' => ?_⟩
        rw [hp]
        exact run_firstCells_some (P := P) w' z _ _ _ c vs hlen (fun j u hu => by rw [cell?_heap hw']; exact hcell j u hu)
  · cases h
structure AppTy (P : Program) (t u e : TypeId) (i : TypeInfo) (z : Value) (ud : TypeDesc) : Prop where
  ht : P.underlying t = some (.slice e)
  hu : P.underlying u = some ud
  hi : P.info? e = some i
  hz : i.zero = some z
  zs : z.cells.size = i.size
  noint : ∀ k, ud ≠ .int k
theorem append_room {t u e ty : TypeId} {i : TypeInfo} {z : Value} {ud : TypeDesc} (T : AppTy P t u e i z ud) {vy : Value} {m : Nat} {news : List Value} (hlen : (Builtin.lenOf vy).run P w = .ok m w)
    (hnews : (Builtin.firstCells i.size m vy).run P w = .ok news.toArray w) {base : Option Addr} {sLen sCap : Nat} (hroom : sLen + m ≤ sCap) {w' : World}
    (hst : match base with | none => news = [] ∧ w' = w | some ad => (storeCells (ad.add (sLen * i.size)) news).run P w = .ok () w') :
    (Builtin.append_ #[t, u] ty #[.slice base sLen sCap, vy]).run P w = .ok (.slice base (sLen + m) sCap) w' := by
  have hi := T.noint
  cases base with
  | none =>
    obtain ⟨rfl, rfl⟩ := hst
    simp only [Builtin.append_, List.getElem?_toArray, List.getElem?_cons_zero, List.getElem?_cons_succ, Sem.run_bind, run_underlying T.ht, Result.andThen_ok, sizeOf, typeInfo, run_program, T.hi, Sem.run_pure, run_underlying T.hu, hlen, if_pos hroom, Bool.false_eq_true, if_false, Bool.not_false, if_true, hnews]
  | some ad =>
    simp only at hst
    simp only [Builtin.append_, List.getElem?_toArray, List.getElem?_cons_zero, List.getElem?_cons_succ, Sem.run_bind, run_underlying T.ht, Result.andThen_ok, sizeOf, typeInfo, run_program, T.hi, Sem.run_pure, run_underlying T.hu, hlen, if_pos hroom, Bool.false_eq_true, if_false, Bool.not_false, if_true, hnews, hst]
theorem zeroCells_size (z : Array Value) (m : Nat) : (Builtin.zeroCells z m).size = m * z.size := by simp [Builtin.zeroCells]
theorem append_grow {t u e ty : TypeId} {i : TypeInfo} {z : Value} {ud : TypeDesc} (T : AppTy P t u e i z ud) {vy : Value} {m : Nat} {news olds : List Value} (hlen : (Builtin.lenOf vy).run P w = .ok m w)
    (hnews : (Builtin.firstCells i.size m vy).run P w.drew = .ok news.toArray w.drew) {base : Option Addr} {sLen sCap : Nat} (hg : sCap < sLen + m)
    (holds : (Builtin.firstCells i.size sLen (.slice base sLen sCap)).run P w.drew = .ok olds.toArray w.drew) (h46 : sLen + m ≤ bound46) (hby : (sLen + m) * i.bytes ≤ bound46) :
    (Builtin.append_ #[t, u] ty #[.slice base sLen sCap, vy]).run P w = .ok (.slice (some ⟨w.heap.size, 0, none⟩) (sLen + m) (grownCap w (sLen + m) sCap e))
      (w.drew.alloc (.cells (olds.toArray ++ news.toArray ++ Builtin.zeroCells z.cells (grownCap w (sLen + m) sCap e - (sLen + m))) e)) := by
  unfold bound46 at h46 hby
  have hi := T.noint
  have hn : ¬ (sLen + m ≤ sCap) := by omega
  have hfit := growslice_fits (need := sLen + m) (old := sCap) (bytes := i.bytes) hg (by omega)
  have h48' : ¬ (281474976710656 < Builtin.nextslicecap (sLen + m) sCap * i.bytes) := by omega
  have h63 : ¬ (9223372036854775807 < ((sLen : Int) + (m : Int))) := by omega
  simp [Builtin.append_, run_underlying T.ht, run_underlying T.hu, sizeOf, typeInfo, zeroValue, T.hi, T.hz, hlen, hn, h63, h48', Question.forced, hnews, holds, newRow, grownCap]
  congr 2
  apply Array.ext'
  simp [List.append_assoc]
theorem appendz_room {t u e ty : TypeId} {i : TypeInfo} {z : Value} {ku : IntKind} (ht : P.underlying t = some (.slice e)) (hu : P.underlying u = some (.int ku)) (hi : P.info? e = some i) (hz : i.zero = some z) {m : Nat}
    (hm : m * i.size ≠ 0) (h46 : m ≤ bound46) (hby : m * i.bytes ≤ bound46) {ad : Addr} {sLen sCap : Nat} (hroom : sLen + m ≤ sCap) {w' : World}
    (hst : (storeCells (ad.add (sLen * i.size)) (Builtin.zeroCells z.cells m).toList).run P w = .ok () w') :
    (Builtin.append_ #[t, u] ty #[.slice (some ad) sLen sCap, .int .i64 m]).run P w = .ok (.slice (some ad) (sLen + m) sCap) w' := by
  unfold bound46 at h46 hby
  have wl : IntKind.i64.wrap (m : Int) = m := by rw [IntKind.wrap_i64]; omega
  have n1 : ¬ ((m : Int) < 0) := by omega
  have n2 : ¬ (281474976710656 < (m : Int) * (i.bytes : Int)) := by
    have : ((m * i.bytes : Nat) : Int) ≤ 70368744177664 := by omega
    rw [Int.natCast_mul] at this; omega
  simp [Builtin.append_, run_underlying ht, run_underlying hu, sizeOf, typeInfo, zeroValue, hi, hz, asInt, asIntOf, wl, n1, n2, hm, hroom, hst]
theorem appendz_grow {t u e ty : TypeId} {i : TypeInfo} {z : Value} {ku : IntKind} (ht : P.underlying t = some (.slice e)) (hu : P.underlying u = some (.int ku)) (hi : P.info? e = some i) (hz : i.zero = some z) {m : Nat}
    (hm : m * i.size ≠ 0) {base : Option Addr} {sLen sCap : Nat} (hg : sCap < sLen + m) {olds : List Value}
    (holds : (Builtin.firstCells i.size sLen (.slice base sLen sCap)).run P w.drew = .ok olds.toArray w.drew) (h46 : sLen + m ≤ bound46) (hby : (sLen + m) * i.bytes ≤ bound46) :
    (Builtin.append_ #[t, u] ty #[.slice base sLen sCap, .int .i64 m]).run P w = .ok (.slice (some ⟨w.heap.size, 0, none⟩) (sLen + m) (grownCap w (sLen + m) sCap e))
      (w.drew.alloc (.cells (olds.toArray ++ Builtin.zeroCells z.cells m ++ Builtin.zeroCells z.cells (grownCap w (sLen + m) sCap e - (sLen + m))) e)) := by
  unfold bound46 at h46 hby
  have wl : IntKind.i64.wrap (m : Int) = m := by rw [IntKind.wrap_i64]; omega
  have n1 : ¬ ((m : Int) < 0) := by omega
  have n2 : ¬ (281474976710656 < (m : Int) * (i.bytes : Int)) := by
    have h1 : m * i.bytes ≤ (sLen + m) * i.bytes := Nat.mul_le_mul_right _ (by omega)
    have : ((m * i.bytes : Nat) : Int) ≤ 70368744177664 := by omega
    rw [Int.natCast_mul] at this; omega
  have hn : ¬ (sLen + m ≤ sCap) := by omega
  have hfit := growslice_fits (need := sLen + m) (old := sCap) (bytes := i.bytes) hg (by omega)
  have h48' : ¬ (281474976710656 < Builtin.nextslicecap (sLen + m) sCap * i.bytes) := by omega
  have h63 : ¬ (9223372036854775807 < ((sLen : Int) + (m : Int))) := by omega
  simp [Builtin.append_, run_underlying ht, run_underlying hu, sizeOf, typeInfo, zeroValue, hi, hz, asInt, asIntOf, wl, n1, n2, hm, hn, h63, h48', Question.forced, holds, newRow, grownCap]
structure Appends (P : Program) (t u e ty : TypeId) (i : TypeInfo) (z : Value) (vy : Value) (w : World) (m : Nat) (news : List Value) : Prop where
  room : ∀ (ad : Addr) (sLen sCap : Nat) (w' : World), sLen + m ≤ sCap → (storeCells (ad.add (sLen * i.size)) news).run P w = .ok () w' →
    (Builtin.append_ #[t, u] ty #[.slice (some ad) sLen sCap, vy]).run P w = .ok (.slice (some ad) (sLen + m) sCap) w'
  grow : ∀ (base : Option Addr) (sLen sCap : Nat) (olds : List Value), sCap < sLen + m → (Builtin.firstCells i.size sLen (.slice base sLen sCap)).run P w.drew = .ok olds.toArray w.drew →
    sLen + m ≤ bound46 → (sLen + m) * i.bytes ≤ bound46 →
    (Builtin.append_ #[t, u] ty #[.slice base sLen sCap, vy]).run P w = .ok (.slice (some ⟨w.heap.size, 0, none⟩) (sLen + m) (grownCap w (sLen + m) sCap e))
      (w.drew.alloc (.cells (olds.toArray ++ news.toArray ++ Builtin.zeroCells z.cells (grownCap w (sLen + m) sCap e - (sLen + m))) e))
theorem appended_row (hS : RS w0 ρ S w) (e : TypeId) {z : Value} {sz sLen m cap : Nat} {olds news : List Value} {c : List AV} (hzs : z.cells.size = sz) (hlen : c.length = (sLen + m) * sz) (hc : RelL ρ c (olds ++ news)) (hcap : sLen + m ≤ cap) :
    ∃ ρ', Ext ρ ρ' ∧ Rel ρ' (.slice S.n 0 0 (sLen + m) none sz) (.slice (some ⟨w.heap.size, 0, none⟩) (sLen + m) cap) ∧
      RS w0 ρ' (S.newRow c sz true) (w.drew.alloc (.cells (olds.toArray ++ news.toArray ++ Builtin.zeroCells z.cells (cap - (sLen + m))) e)) := by
  have hl := RelL.length hc
  have hl' : olds.length + news.length = (sLen + m) * sz := by simp at hl; omega
  have hmul : (sLen + m) * sz + (cap - (sLen + m)) * sz = cap * sz := by rw [← Nat.add_mul]; congr 1; omega
  obtain ⟨ρ', he, hpl, hS'⟩ := hS.drew.newRow e (c := c) (sz := sz) (cap := cap) (opn := true) (vs := olds.toArray ++ news.toArray ++ Builtin.zeroCells z.cells (cap - (sLen + m)))
    (by simp only [Array.size_append, List.size_toArray, zeroCells_size, hzs]; omega) (by rw [hlen]; exact Nat.mul_le_mul_right _ hcap) (by simp) (fun i x hx => by
      obtain ⟨y, hy, hr⟩ := hc.get hx
      refine ⟨y, ?_, hr⟩
      have hi : i < olds.length + news.length := by
        rcases Nat.lt_or_ge i (olds ++ news).length with h | h
        · simpa using h
        · rw [List.getElem?_eq_none h] at hy; cases hy
      rw [Array.getElem?_append_left (by simpa using hi)]
      simpa using hy)
  refine ⟨ρ', he, ⟨_, cap, hpl, ?_, hcap, by simp, by simp⟩, hS'⟩
  simp only [Nat.zero_add]; omega
theorem appN_sim (hS : RS w0 ρ S w) {t u e ty : TypeId} {i : TypeInfo} {z : Value} {vx vy : Value} {x : AV} {m : Nat} {ys : List AV} {news : List Value} (hm : 0 < m) (hsz : 0 < i.size) (hzs : z.cells.size = i.size) (hx : Rel ρ x vx)
    (hys : RelL ρ ys news) (hnl : news.length = m * i.size) (A : Appends P t u e ty i z vy w m news) {r : AV × AS} (h : S.appN i.size i.bytes x m ys = some r) :
    ∃ ρ' v w', Ext ρ ρ' ∧ Rel ρ' r.1 v ∧ RS w0 ρ' r.2 w' ∧ (Builtin.append_ #[t, u] ty #[vx, vy]).run P w = .ok v w' := by
  have hyl := RelL.length hys
  have hnil : ∀ (base : Option Addr), vx = .slice base 0 0 → (Nat.ble (m * i.bytes) bound46 && Nat.ble m bound46) = true → r = (.slice S.n 0 0 m none i.size, S.newRow ys i.size true) →
      ∃ ρ' v w', Ext ρ ρ' ∧ Rel ρ' r.1 v ∧ RS w0 ρ' r.2 w' ∧ (Builtin.append_ #[t, u] ty #[vx, vy]).run P w = .ok v w' := by
    intro base hv hb hrr
    subst hv; subst hrr
    simp only [Bool.and_eq_true, Nat.ble_eq] at hb
    have hg := A.grow base 0 0 [] (by omega) (by cases base <;> simp [Builtin.firstCells, loadCells, loadCellsFrom]) (by omega) (by rw [Nat.zero_add]; exact hb.1)
    obtain ⟨ρ', he, hr, hS'⟩ := appended_row hS e (z := z) (sLen := 0) (m := m) (cap := grownCap w (0 + m) 0 e) (olds := []) (news := news) (c := ys) hzs (by rw [Nat.zero_add]; omega) (by simpa using hys) (grownCap_ge w (0 + m) 0 e)
    simp only [Nat.zero_add] at hr
    exact ⟨ρ', _, _, he, by simpa using hr, hS', by simpa using hg⟩
  unfold AS.appN at h
  split at h
  · simp only [Rel] at hx
    cases hb : (Nat.ble (m * i.bytes) bound46 && Nat.ble m bound46) with
    | false => rw [hb] at h; cases h
    | true => rw [hb] at h; cases h; exact hnil none hx hb rfl
  · simp only [Rel] at hx
    obtain ⟨ad, c, hv, hc0⟩ := hx
    rw [hc0 trivial] at hv
    cases hb : (Nat.ble (m * i.bytes) bound46 && Nat.ble m bound46) with
    | false => rw [hb] at h; cases h
    | true => rw [hb] at h; cases h; exact hnil (some ad) hv hb rfl
  · rename_i v g q len lim zz
    have hx0 := hx
    simp only [Rel] at hx
    obtain ⟨b, c, hb, hext, hlc, rfl, hlim⟩ := hx
    cases hb1 : (Nat.beq zz i.size && Nat.ble ((len + m) * i.bytes) bound46 && Nat.ble (len + m) bound46) with
    | false => rw [hb1] at h; cases h
    | true =>
    rw [hb1] at h
    simp only [Bool.and_eq_true, Nat.ble_eq, Nat.beq_eq] at hb1
    obtain ⟨⟨rfl, hby⟩, h46⟩ := hb1
    simp only [Bool.not_true, cond_false] at h
    split at h
    case h_2 => cases h
    rename_i cs vz gen lo opn ro hg
    have hobj := hS.obj v _ hg
    cases hroom : (aroom lim vz i.size q len m cs.length && Nat.beq g gen && !ro && Nat.ble ((q + len + m) * i.size) cs.length) with
    | true =>
      rw [hroom] at h
      simp only [cond_true] at h
      simp only [Bool.and_eq_true, Nat.ble_eq, Nat.beq_eq, Bool.not_eq_true'] at hroom
      obtain ⟨⟨⟨hr1, rfl⟩, rfl⟩, hle⟩ := hroom
      obtain ⟨⟨b1, e1, e2, e3, _⟩, _⟩ := hobj
      rw [hb] at e1; cases e1
      have hlmc : len + m ≤ c := by
        cases lim with
        | some l => simp only [aroom, Nat.ble_eq] at hr1 hlim; omega
        | none =>
          simp only [aroom, Bool.and_eq_true, Nat.ble_eq, Nat.beq_eq] at hr1 hlim
          obtain ⟨rfl, hr2⟩ := hr1
          have : (q + len + m) * i.size ≤ b.cap * i.size := by omega
          have := Nat.le_of_mul_le_mul_right this hsz
          omega
      split at h
      case h_2 => cases h
      rename_i S' hst
      cases h
      obtain ⟨hrun, hS'⟩ := hS.stl (P := P) hb (by omega) hst hys
      have haddr : (⟨b.blk, b.off + q * i.size, none⟩ : Addr).add (len * i.size) = ⟨b.blk, b.off + (q + len) * i.size, none⟩ := by
        rw [addr_add, Nat.add_mul, Nat.add_assoc]
      have := A.room ⟨b.blk, b.off + q * i.size, none⟩ len c _ hlmc (by rw [haddr]; exact hrun)
      refine ⟨ρ, _, _, Ext.refl _, ⟨b, c, hb, by rw [e2]; rw [Nat.add_assoc] at hle; exact hle, hlmc, rfl, hlim⟩, hS', this⟩
    | false =>
    rw [hroom] at h
    simp only [cond_false] at h
    cases hgr : (agrows lim vz i.size q len m cs.length (!opn && Nat.beq g gen) && Nat.ble lo g && Nat.ble g gen) with
    | true =>
      rw [hgr] at h
      simp only [cond_true, Option.some.injEq] at h
      subst h
      simp only [Bool.and_eq_true, Nat.ble_eq] at hgr
      obtain ⟨⟨hg1, hlo⟩, hge⟩ := hgr
      have hclm : c < len + m := by
        cases lim with
        | some l => simp only [agrows, Nat.blt_eq] at hg1 hlim; omega
        | none =>
          simp only [agrows, Bool.and_eq_true, Nat.blt_eq, Nat.beq_eq, Bool.not_eq_true'] at hg1 hlim
          obtain ⟨⟨rfl, rfl, rfl⟩, hg2⟩ := hg1
          obtain ⟨⟨b1, e1, e2, e3, e4, _⟩, _⟩ := hobj
          rw [hb] at e1; cases e1
          have : b.cap * i.size < (q + len + m) * i.size := by rw [e4 rfl]; exact hg2
          have := Nat.lt_of_mul_lt_mul_right this
          omega
      have hldl : S.ldl v g (q * i.size) ((q + len) * i.size) (len * i.size) = some ((cs.drop (q * i.size)).take (len * i.size)) := by
        simp only [AS.ldl, hg]
        have : (Nat.ble lo g && Nat.ble g gen && Nat.ble (q * i.size + len * i.size) ((q + len) * i.size)) = true := by
          simp only [Bool.and_eq_true, Nat.ble_eq]
          exact ⟨⟨hlo, hge⟩, by rw [Nat.add_mul]; exact Nat.le_refl _⟩
        rw [this]; rfl
      obtain ⟨olds, hol, horel, hocell⟩ := hS.cells hb hext hldl
      have hfo := run_firstCells_some (P := P) w.drew i.size len _ len c olds hol (by simpa using hocell)
      have hgrow := A.grow (some ⟨b.blk, b.off + q * i.size, none⟩) len c olds hclm hfo h46 hby
      have hlo' := RelL.length horel
      obtain ⟨ρ', he, hr, hS'⟩ := appended_row hS e (z := z) (sLen := len) (m := m) (cap := grownCap w (len + m) c e) (olds := olds) (news := news) (c := (cs.drop (q * i.size)).take (len * i.size) ++ ys) hzs
        (by rw [List.length_append, Nat.add_mul]; omega) (RelL.append horel hys) (grownCap_ge w (len + m) c e)
      exact ⟨ρ', _, _, he, hr, hS', hgrow⟩
    | false =>
    rw [hgr] at h
    simp only [cond_false] at h
    cases ham : (opn && !ro && Nat.beq vz i.size && Nat.beq q 0 && Nat.beq g gen && Nat.beq (len * i.size) cs.length && lim.isNone && ys.all AV.one) with
    | false => rw [ham] at h; cases h
    | true =>
    rw [ham] at h
    simp only [cond_true, Option.some.injEq] at h
    subst h
    cases lim with
    | some _ => simp at ham
    | none =>
    simp only [Bool.and_eq_true, Nat.beq_eq, Bool.not_eq_true', Option.isNone_none, and_true] at ham
    obtain ⟨⟨⟨⟨⟨⟨rfl, rfl⟩, rfl⟩, rfl⟩, rfl⟩, hlen⟩, hones⟩ := ham
    obtain ⟨⟨b1, e1, e2, e3, e4, e5⟩, hlo, hall⟩ := hobj
    rw [hb] at e1; cases e1
    simp only [Nat.add_zero] at hlim
    obtain ⟨hcap, hbsz⟩ := hlim
    have hrow := hS.row hb hg hlo (Nat.le_refl _)
    have hoff : b.off = 0 := (hrow.high rfl).2
    have hnone : ρ v (g + 1) = none := by
      cases hq : ρ v (g + 1) with
      | none => rfl
      | some b2 => have := hS.gens v _ hg _ _ hq; simp only [AObj.top] at this; omega
    by_cases hfit : len + m ≤ c
    ·
      have hstep : ∀ j, j < news.length → (w.cell? ⟨b.blk, len * i.size + j, none⟩).isSome = true ∧ w.frozen? ⟨b.blk, len * i.size + j, none⟩ = false := fun j hj => by
        refine e5 rfl _ ?_
        have : (len + m) * i.size ≤ b.cap * i.size := Nat.mul_le_mul_right _ (by omega)
        rw [Nat.add_mul] at this
        omega
      have hrun := run_storeCells_cells (P := P) b.blk (len * i.size) news 0 w (fun j hj => by simpa using (hstep j hj).1) (fun j hj => by simpa using (hstep j hj).2) (RelL.ones hys hones)
      simp only [Nat.add_zero] at hrun
      have haddr : (⟨b.blk, b.off + 0 * i.size, none⟩ : Addr).add (len * i.size) = ⟨b.blk, len * i.size, none⟩ := by rw [addr_add, hoff]; simp
      have hroomrun := A.room ⟨b.blk, b.off + 0 * i.size, none⟩ len c _ hfit (by rw [haddr]; exact hrun)
      have hext := Emb.ext_put (ρ := ρ) (⟨b.blk, 0, b.cap, i.size, cs.length + ys.length, fun _ => none⟩ : Base) hnone
      have hrest := rest_setCells b.blk news (len * i.size) w
      have hcell' := cell?_setCells b.blk news (len * i.size) w (fun j hj => (hstep j hj).1)
      refine ⟨_, _, _, hext, ⟨_, c, Emb.put_self _ _ _ _, ?_, hfit, by rw [hoff], by simp only [Nat.add_zero]; exact ⟨hcap, trivial⟩⟩, ?_, hroomrun⟩
      · simp only [Nat.zero_add]
        rw [Nat.add_mul]; omega
      · refine hS.write hg rfl hrest.1 hrest.2.1 hrest.2.2 (by rw [size_setCells]; exact Nat.le_refl _) hext ?_ ?_ ?_ ?_ ?_
        · intro v' g' b' hb'
          by_cases hv : v' = v
          · exact .inl hv
          · rw [Emb.put_other _ _ (.inl hv)] at hb'; exact .inr hb'
        · intro k _ hk
          exact heap_setCells _ _ _ _ _ (Ne.symm (hk g b ⟨hlo, Nat.le_refl _⟩ hb))
        · intro g' b' hl' hb'
          by_cases hgg : g' = g + 1
          · subst hgg
            rw [Emb.put_self] at hb'; cases hb'
            exact .inl ⟨g, b, ⟨hlo, Nat.le_refl _⟩, hb, rfl⟩
          · rw [Emb.put_other _ _ (.inr hgg)] at hb'
            exact .inl ⟨g', b', ⟨hl'.1, by have := hl'.2; omega⟩, hb', rfl⟩
        · intro g' b' hb'
          by_cases hgg : g' = g + 1
          · subst hgg; exact Nat.le_refl _
          · rw [Emb.put_other _ _ (.inr hgg)] at hb'
            have := hS.gens v _ hg _ _ hb'
            simp only [AObj.top] at this ⊢; omega
        · refine ⟨⟨_, Emb.put_self _ _ _ _, by simp, ?_, by simp, fun _ j hj => ?_⟩, by omega, fun g' h1 h2 => ?_⟩
          · have : (len + m) * i.size ≤ b.cap * i.size := Nat.mul_le_mul_right _ (by omega)
            rw [Nat.add_mul] at this
            simp only [List.length_append]; omega
          · obtain ⟨q1, q2⟩ := e5 rfl j hj
            refine ⟨?_, by rw [World.frozen?_setCells]; exact q2⟩
            rw [hcell']
            split
            · rename_i hcc
              simp only at hcc
              rw [List.getElem?_eq_getElem (by simp only; omega)]; rfl
            · exact q1
          · by_cases hgg : g' = g + 1
            · subst hgg
              refine ⟨_, Emb.put_self _ _ _ _, rfl, by rw [size_setCells]; exact hrow.lt, by simp, fun _ => ⟨(hrow.high rfl).1, rfl⟩, by simp, fun j x hj hx => ?_⟩
              rw [hcell']
              simp only [Nat.zero_add, true_and]
              by_cases hjc : j < cs.length
              · rw [List.getElem?_append_left hjc] at hx
                obtain ⟨y, hy, hry⟩ := hrow.cell j x (by omega) hx
                exact ⟨y, by rw [if_neg (by omega)]; simpa [hoff] using hy, Rel.ext hext _ _ hry⟩
              · rw [List.getElem?_append_right (by omega)] at hx
                obtain ⟨y, hy, hry⟩ := hys.get hx
                simp only at hj
                exact ⟨y, by rw [if_pos (by omega), hlen]; exact hy, Rel.ext hext _ _ hry⟩
            · obtain ⟨b', hb', hr'⟩ := hall g' h1 (by omega)
              refine ⟨b', hext _ _ _ hb', hr'.sz, by rw [size_setCells]; exact hr'.lt, hr'.low, hr'.high, by simp only [List.length_append]; have := hr'.ext; omega, fun j x hj hx => ?_⟩
              have hjc : j < cs.length := by have := hr'.ext; omega
              rw [List.getElem?_append_left hjc] at hx
              obtain ⟨y, hy, hry⟩ := hr'.cell j x hj hx
              refine ⟨y, ?_, Rel.ext hext _ _ hry⟩
              rw [hcell', if_neg]
              · exact hy
              · rintro ⟨_, _, q3, _⟩
                have := (hr'.high rfl).2
                simp only at q3
                omega
    ·
      have hldl : S.ldl v g (0 * i.size) ((0 + len) * i.size) (len * i.size) = some ((cs.drop (0 * i.size)).take (len * i.size)) := by
        simp only [AS.ldl, hg]
        have : (Nat.ble lo g && Nat.ble g g && Nat.ble (0 * i.size + len * i.size) ((0 + len) * i.size)) = true := by
          simp only [Bool.and_eq_true, Nat.ble_eq]
          exact ⟨⟨hlo, Nat.le_refl _⟩, by simp⟩
        rw [this]; rfl
      obtain ⟨olds, hol, horel, hocell⟩ := hS.cells hb hext hldl
      have hfo := run_firstCells_some (P := P) w.drew i.size len ⟨b.blk, b.off + 0 * i.size, none⟩ len c olds hol (fun j u hu => by rw [World.cell?_drew]; exact hocell j u hu)
      have hgrow := A.grow (some ⟨b.blk, b.off + 0 * i.size, none⟩) len c olds (by omega) hfo h46 hby
      have hcs : (cs.drop (0 * i.size)).take (len * i.size) = cs := by
        rw [Nat.zero_mul, List.drop_zero, hlen, List.take_length]
      rw [hcs] at horel
      have hcr := RelL.append horel hys
      have hge := grownCap_ge w (len + m) c e
      have hmul : (len + m) * i.size + (grownCap w (len + m) c e - (len + m)) * i.size = grownCap w (len + m) c e * i.size := by rw [← Nat.add_mul]; congr 1; omega
      have hl2 : olds.length + news.length = (len + m) * i.size := by rw [hol, hnl, Nat.add_mul]
      generalize hvs : olds.toArray ++ news.toArray ++ Builtin.zeroCells z.cells (grownCap w (len + m) c e - (len + m)) = vs at hgrow
      have hvsz : vs.size = grownCap w (len + m) c e * i.size := by
        subst hvs
        simp only [Array.size_append, List.size_toArray, zeroCells_size, hzs]; omega
      have hvget : ∀ (j : Nat) x, (cs ++ ys)[j]? = some x → ∃ y, vs[j]? = some y ∧ Rel ρ x y := fun j x hx => by
        obtain ⟨y, hy, hr⟩ := hcr.get hx
        refine ⟨y, ?_, hr⟩
        have hj : j < olds.length + news.length := by
          rcases Nat.lt_or_ge j (olds ++ news).length with h | h
          · simpa using h
          · rw [List.getElem?_eq_none h] at hy; cases hy
        subst hvs
        rw [Array.getElem?_append_left (by simpa using hj)]
        simpa using hy
      have hext' := Emb.ext_put (ρ := ρ) (⟨w.heap.size, 0, grownCap w (len + m) c e, i.size, cs.length + ys.length, fun _ => none⟩ : Base) hnone
      refine ⟨_, _, _, hext', ⟨_, grownCap w (len + m) c e, Emb.put_self _ _ _ _, ?_, hge, by simp, by simp⟩, ?_, hgrow⟩
      · simp only [Nat.zero_add]
        rw [Nat.add_mul]; omega
      · have hheap : ∀ k, k < w.heap.size → (w.drew.alloc (.cells vs e)).heap[k]? = w.heap[k]? := fun k hk => Below.heap_alloc w.drew _ k hk
        refine hS.write hg rfl rfl rfl rfl (by simp) hext' ?_ (fun k hk _ => hheap k hk) ?_ ?_ ?_
        · intro v' g' b' hb'
          by_cases hv : v' = v
          · exact .inl hv
          · rw [Emb.put_other _ _ (.inl hv)] at hb'; exact .inr hb'
        · intro g' b' hl' hb'
          by_cases hgg : g' = g + 1
          · subst hgg
            rw [Emb.put_self] at hb'; cases hb'
            exact .inr (Nat.le_refl _)
          · rw [Emb.put_other _ _ (.inr hgg)] at hb'
            exact .inl ⟨g', b', ⟨hl'.1, by have := hl'.2; omega⟩, hb', rfl⟩
        · intro g' b' hb'
          by_cases hgg : g' = g + 1
          · subst hgg; exact Nat.le_refl _
          · rw [Emb.put_other _ _ (.inr hgg)] at hb'
            have := hS.gens v _ hg _ _ hb'
            simp only [AObj.top] at this ⊢; omega
        · refine ⟨⟨_, Emb.put_self _ _ _ _, by simp, ?_, by simp, fun _ j hj => ?_⟩, by omega, fun g' h1 h2 => ?_⟩
          · have h1 : (len + m) * i.size ≤ grownCap w (len + m) c e * i.size := Nat.mul_le_mul_right _ hge
            rw [Nat.add_mul] at h1
            simp only [List.length_append]; omega
          · simp only at hj ⊢
            refine ⟨?_, World.frozen?_alloc_new w.drew vs e j⟩
            have := World.cell?_alloc_new w.drew vs e j
            simp only [World.size_drew] at this
            rw [this, Array.getElem?_eq_getElem (by omega)]; rfl
          · by_cases hgg : g' = g + 1
            · subst hgg
              refine ⟨_, Emb.put_self _ _ _ _, rfl, by simp, by simp, fun _ => ⟨hS.below.size, rfl⟩, by simp, fun j x hj hx => ?_⟩
              obtain ⟨y, hy, hry⟩ := hvget j x hx
              have := World.cell?_alloc_new w.drew vs e j
              simp only [World.size_drew] at this
              exact ⟨y, by simp only [Nat.zero_add]; rw [this]; exact hy, Rel.ext hext' _ _ hry⟩
            · obtain ⟨b', hb', hr'⟩ := hall g' h1 (by omega)
              refine ⟨b', hext' _ _ _ hb', hr'.sz, by have := hr'.lt; simp; omega, hr'.low, hr'.high, by simp only [List.length_append]; have := hr'.ext; omega, fun j x hj hx => ?_⟩
              have hjc : j < cs.length := by have := hr'.ext; omega
              rw [List.getElem?_append_left hjc] at hx
              obtain ⟨y, hy, hry⟩ := hr'.cell j x hj hx
              exact ⟨y, by rw [World.cell?_of_block (w := w) (a := ⟨b'.blk, b'.off + j, none⟩) (hheap _ hr'.lt)]; exact hy, Rel.ext hext' _ _ hry⟩
  · cases h
end
end Go.Proofs.Ytednmmcdjhfflaa.Vai
