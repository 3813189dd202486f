/-
  A verified abstract interpreter, part I: slicing and appending.
-/
import Derived.Test.YtednmmcdjhfflaaVaiH
import Derived.Laws.Slices
namespace Go.Proofs.Ytednmmcdjhfflaa.Vai
open Go Go.RowKit
section
variable {P : Program} {w0 : World} {ρ : Emb} {S : AS} {w : World} {n : Nat} {F : Fr} {a : Act}
theorem optN_rel (hF : FRel ρ n F a.tmps) {x : Option Operand} {y : Option AX} {d k : Nat} (h : cXo x = some y) (hk : optN d (y.map (AX.ev F)) = some k) :
    (x = none ∧ k = d) ∨ x.map a.eval = some (.int .i64 k) := by
  cases x with
  | none =>
    simp only [cXo, Option.some.injEq] at h
    subst h
    simp only [optN, Option.map_none, Option.some.injEq] at hk
    exact .inl ⟨rfl, hk.symm⟩
  | some x =>
    simp only [cXo] at h
    cases hx : cX x with
    | none => rw [hx] at h; cases h
    | some ax =>
      rw [hx] at h
      cases h
      simp only [optN, Option.map_some] at hk
      exact .inr (by simp [asNat_rel (cX_ev hF hx) hk])
theorem run_bounds (isS : Bool) {len cap l h m : Nat} {lo hi mx : Option Value} (hl : l ≤ h) (hh : h ≤ m) (hm : m ≤ cap) (elo : (lo = none ∧ l = 0) ∨ lo = some (.int .i64 l)) (ehi : (hi = none ∧ h = len) ∨ hi = some (.int .i64 h))
    (emx : (mx = none ∧ m = cap) ∨ (mx = some (.int .i64 m) ∧ hi ≠ none)) : (Instr.sliceBounds isS len cap lo hi mx).run P w = .ok (l, h, m) w := by
  have b1 : (0 : Int) ≤ (l : Int) ∧ (l : Int) ≤ (h : Int) := by omega
  have b2 : (0 : Int) ≤ (h : Int) ∧ (h : Int) ≤ (m : Int) := by omega
  have b3 : (0 : Int) ≤ (m : Int) ∧ (m : Int) ≤ (cap : Int) := by omega
  rcases emx with ⟨rfl, rfl⟩ | ⟨rfl, hne⟩ <;> rcases ehi with ⟨rfl, rfl⟩ | rfl <;> rcases elo with ⟨rfl, rfl⟩ | rfl <;>
    first
    | exact absurd rfl hne
    | (simp [Instr.sliceBounds, run_sliceBound_if, b1, b2, b3]; done)
    | (simp [Instr.sliceBounds, run_sliceBound_if, b1, b2, b3, hl, hh]; done)
theorem extract_mk (s : List UInt8) (l h : Nat) : (ByteArray.mk s.toArray).extract l h = ByteArray.mk ((s.drop l).take (h - l)).toArray := by
  apply ByteArray.ext
  rw [ByteArray.data_extract]
  simp
  try rw [List.drop_take]
theorem slice_run {t e : TypeId} {k : Nat} (hu : P.underlying t = some (.slice e)) (hk : sizeO P e = some k) {ad : Option Addr} {len c l h m : Nat} {lo hi mx : Option Value} (hb : (Instr.sliceBounds true len c lo hi mx).run P w = .ok (l, h, m) w) :
    (Instr.sliceAt t (.slice ad len c) lo hi mx).run P w = .ok (.slice (if m = l then ad else ad.map (·.add (l * k))) (h - l) (m - l)) w := by
  simp [Instr.sliceAt, Instr.slice, run_underlying hu, hb, run_sizeOf' hk]
theorem sim_slc (C : Ctx) (call : CallF) (hF : FRel ρ n F a.tmps) (hS : RS w0 ρ S w) {o : Oper} {t e : TypeId} {x : Operand} {lo hi mx : Option Operand} {x' : AX} {lo' hi' mx' : Option AX} {k : Nat} (ho : o.op = .slice t x lo hi mx) (hx : cX x = some x')
    (hlo : cXo lo = some lo') (hhi : cXo hi = some hi') (hmx : cXo mx = some mx') (hu : P.underlying t = some (.slice e)) (hk : sizeO P e = some k) (hmh : mx ≠ none → hi ≠ none) :
    Sim P w0 ρ w (execOp a.eval o) (aop C call F S (.slc k x' lo' hi' mx')) := by
  have hr := cX_ev hF hx
  simp only [aop]
  refine Sim.with hS fun z hz => ?_
  have hexec : ∀ v, (Instr.sliceAt t (a.eval x) (lo.map a.eval) (hi.map a.eval) (mx.map a.eval)).run P w = .ok v w → (execOp a.eval o).run P w = .ok (.value v) w := by
    intro v hv; simp [execOp, ho, hv]
  have emx : ∀ {d m : Nat}, optN d (mx'.map (AX.ev F)) = some m → (mx.map a.eval = none ∧ m = d) ∨ (mx.map a.eval = some (.int .i64 m) ∧ hi.map a.eval ≠ none) := by
    intro d m hm
    rcases optN_rel hF hmx hm with ⟨q1, q2⟩ | q
    · exact .inl ⟨by simp [q1], q2⟩
    · refine .inr ⟨q, ?_⟩
      have : mx ≠ none := by rintro rfl; cases q
      have := hmh this
      cases hi with
      | none => exact absurd rfl this
      | some _ => simp
  have elo : ∀ {l : Nat}, optN 0 (lo'.map (AX.ev F)) = some l → (lo.map a.eval = none ∧ l = 0) ∨ lo.map a.eval = some (.int .i64 l) := by
    intro l hl
    rcases optN_rel hF hlo hl with ⟨q1, q2⟩ | q
    · exact .inl ⟨by simp [q1], q2⟩
    · exact .inr q
  have ehi : ∀ {d h : Nat}, optN d (hi'.map (AX.ev F)) = some h → (hi.map a.eval = none ∧ h = d) ∨ hi.map a.eval = some (.int .i64 h) := by
    intro d h hh
    rcases optN_rel hF hhi hh with ⟨q1, q2⟩ | q
    · exact .inl ⟨by simp [q1], q2⟩
    · exact .inr q
  unfold AS.slc at hz
  split at hz
  ·
    rename_i q; rw [q] at hr
    simp only [Rel] at hr
    split at hz
    · rename_i q1 q2 q3
      cases hz
      have hb := run_bounds (P := P) (w := w) true (len := 0) (cap := 0) (Nat.le_refl 0) (Nat.le_refl 0) (Nat.le_refl 0) (elo q1) (ehi q2) (emx q3)
      exact ⟨_, rfl, hexec _ (by rw [hr, slice_run hu hk hb]; rfl)⟩
    · cases hz
  ·
    rename_i zz q; rw [q] at hr
    simp only [Rel] at hr
    obtain ⟨ad, c, hp, hcz⟩ := hr
    split at hz
    · rename_i q1 q2 q3
      cases hz
      rw [q]
      have hb := run_bounds (P := P) (w := w) true (len := 0) (cap := c) (l := 0) (h := 0) (m := c) (Nat.le_refl 0) (Nat.zero_le _) (Nat.le_refl c) (elo q1) (ehi q2) (by rw [q3] at emx; exact emx rfl)
      refine ⟨.slice (some ad) 0 c, ⟨ad, c, rfl, hcz⟩, hexec _ ?_⟩
      rw [hp, slice_run hu hk hb]
      split <;> simp [Addr.add]
    · rename_i v q1 q2 q3
      split at hz
      · rename_i q4
        cases hz
        have hb := run_bounds (P := P) (w := w) true (len := 0) (cap := c) (l := 0) (h := 0) (m := 0) (Nat.le_refl 0) (Nat.le_refl 0) (Nat.zero_le _) (elo q1) (ehi q2) (by
          have := emx (d := c) (m := 0) (by rw [q3]; exact q4)
          rcases this with ⟨w1, w2⟩ | w3
          · exact .inl ⟨w1, w2⟩
          · exact .inr w3)
        refine ⟨.slice (some ad) 0 0, ⟨ad, 0, rfl, fun _ => rfl⟩, hexec _ ?_⟩
        rw [hp, slice_run hu hk hb]
        simp
      · cases hz
    · cases hz
  · rename_i v g q len lim zz qe
    rw [qe] at hr
    simp only [Rel] at hr
    obtain ⟨b, c, hb, hext, hlc, hp, hlim⟩ := hr
    cases hzz : Nat.beq zz k with
    | false => rw [hzz] at hz; cases hz
    | true =>
    have hzk : zz = k := by simpa using hzz
    subst hzk
    rw [hzz] at hz
    simp only [Bool.not_true, cond_false] at hz
    split at hz
    case h_2 => cases hz
    rename_i l h q1 q2
    cases hlh : Nat.ble l h with
    | false => rw [hlh] at hz; cases hz
    | true =>
    rw [hlh] at hz
    have hlh' : l ≤ h := by simpa using hlh
    simp only [Bool.not_true, cond_false] at hz
    generalize hkn : S.known zz v g q len lim h = known at hz
    have hkc : known ≤ c := by
      subst hkn
      unfold AS.known
      cases lim with
      | some m => simp only at hlim ⊢; omega
      | none =>
        simp only at hlim ⊢
        cases hb1 : Nat.ble h len with
        | true => exact hlc
        | false =>
          simp only [cond_false]
          split
          · rename_i cs vz gen lo1 opn ro hg
            cases hb2 : (Nat.beq vz zz && Nat.beq g gen && !(Nat.beq zz 0) && Nat.ble ((q + h) * zz) cs.length) with
            | false => exact hlc
            | true =>
              simp only [Bool.and_eq_true, Nat.ble_eq, Nat.beq_eq, Bool.not_eq_true'] at hb2
              obtain ⟨⟨⟨rfl, rfl⟩, hz0⟩, hle⟩ := hb2
              have hpos : 0 < vz := by
                rcases Nat.eq_zero_or_pos vz with h0 | h0
                · subst h0; simp at hz0
                · exact h0
              obtain ⟨⟨b1, e1, e2, e3, _⟩, _⟩ := hS.obj v _ hg
              rw [hb] at e1; cases e1
              have : (q + h) * vz ≤ b.cap * vz := by omega
              have := Nat.le_of_mul_le_mul_right this hpos
              simp only [cond_true]
              omega
          · exact hlc
    cases hhk : Nat.ble h known with
    | false => rw [hhk] at hz; cases hz
    | true =>
    rw [hhk] at hz
    have hhk' : h ≤ known := by simpa using hhk
    simp only [Bool.not_true, cond_false] at hz
    generalize hcg : (!(Nat.ble h len) && !(S.there zz v g q h)) = cg at hz
    cases cg with
    | true => cases hz
    | false =>
    simp only [cond_false] at hz
    have hext' : (q + h) * zz ≤ b.ext := by
      cases hb1 : Nat.ble h len with
      | true =>
        have : h ≤ len := by simpa using hb1
        exact Nat.le_trans (Nat.mul_le_mul_right _ (by omega)) hext
      | false =>
        rw [hb1] at hcg
        simp only [Bool.not_false, Bool.true_and, Bool.not_eq_false', AS.there] at hcg
        split at hcg
        · rename_i cs vz gen lo1 opn ro hg
          simp only [Bool.and_eq_true, Nat.ble_eq, Nat.beq_eq] at hcg
          obtain ⟨rfl, hle⟩ := hcg
          obtain ⟨⟨b1, e1, e2, e3, _⟩, _⟩ := hS.obj v _ hg
          rw [hb] at e1; cases e1
          omega
        · cases hcg
    have hsl : ∀ m, h ≤ m → m ≤ c → ((mx.map a.eval = none ∧ m = c) ∨ (mx.map a.eval = some (.int .i64 m) ∧ hi.map a.eval ≠ none)) →
        (execOp a.eval o).run P w = .ok (.value (.slice (if m = l then some ⟨b.blk, b.off + q * zz, none⟩ else some ⟨b.blk, b.off + (q + l) * zz, none⟩) (h - l) (m - l))) w := by
      intro m hm1 hm2 hm3
      have hbd := run_bounds (P := P) (w := w) true (len := len) (cap := c) hlh' hm1 hm2 (elo q1) (ehi q2) hm3
      refine hexec _ ?_
      rw [hp, slice_run hu hk hbd]
      simp [addr_add, Nat.add_mul, Nat.add_assoc]
    have hrel : ∀ m lim', h ≤ m → m ≤ c → (match (lim' : Option Nat) with | some l' => m - l = l' | none => m = c ∧ lim = none) → ¬ (m = l ∧ l ≠ 0) →
        Rel ρ (.slice v g (q + l) (h - l) lim' zz) (.slice (if m = l then some ⟨b.blk, b.off + q * zz, none⟩ else some ⟨b.blk, b.off + (q + l) * zz, none⟩) (h - l) (m - l)) := by
      intro m lim' hm1 hm2 hlim' hne
      refine ⟨b, m - l, hb, by rw [show q + l + (h - l) = q + h by omega]; exact hext', by omega, ?_, ?_⟩
      · split
        · rename_i e
          have : l = 0 := by
            rcases Nat.eq_zero_or_pos l with h0 | h0
            · exact h0
            · exact absurd ⟨e, by omega⟩ hne
          subst this
          simp
        · rfl
      · cases lim' with
        | some l' => exact hlim'
        | none =>
          obtain ⟨rfl, rfl⟩ := hlim'
          simp only at hlim ⊢
          omega
    split at hz
    ·
      rename_i q3
      have hm3 : mx.map a.eval = none ∧ c = c := by
        cases mx with
        | none => exact ⟨rfl, rfl⟩
        | some mo =>
          simp only [cXo] at hmx
          cases hmo : cX mo with
          | none => rw [hmo] at hmx; cases hmx
          | some am => rw [hmo] at hmx; cases hmx; cases q3
      split at hz
      ·
        cases hbb : (Nat.beq h l && !(Nat.beq l 0)) with
        | true =>
          rw [hbb] at hz
          cases hz
          simp only [Bool.and_eq_true, Nat.beq_eq] at hbb
          obtain ⟨rfl, _⟩ := hbb
          refine ⟨_, ?_, hsl c (by omega) (Nat.le_refl _) (.inl hm3)⟩
          simp only [Rel, Nat.sub_self]
          split <;> exact ⟨_, _, rfl, by simp⟩
        | false =>
          rw [hbb] at hz
          cases hz
          refine ⟨_, hrel c none (by omega) (Nat.le_refl _) ⟨rfl, rfl⟩ ?_, hsl c (by omega) (Nat.le_refl _) (.inl hm3)⟩
          rintro ⟨rfl, hl0⟩
          have : h = c := by omega
          subst this
          simp at hbb; exact hl0 hbb
      · rename_i m
        simp only at hlim
        subst hlim
        cases hbb : (Nat.beq c l && !(Nat.beq l 0)) with
        | true =>
          rw [hbb] at hz
          cases hz
          simp only [Bool.and_eq_true, Nat.beq_eq] at hbb
          obtain ⟨rfl, _⟩ := hbb
          refine ⟨_, ?_, hsl c (by omega) (Nat.le_refl _) (.inl hm3)⟩
          have : h = c := by omega
          subst this
          simp only [Rel, Nat.sub_self, if_true]
          exact ⟨_, _, rfl, fun _ => rfl⟩
        | false =>
          rw [hbb] at hz
          cases hz
          refine ⟨_, hrel c (some (c - l)) (by omega) (Nat.le_refl _) rfl ?_, hsl c (by omega) (Nat.le_refl _) (.inl hm3)⟩
          rintro ⟨rfl, hl0⟩
          simp at hbb; exact hl0 hbb
    · rename_i mv q3
      split at hz
      case h_2 => cases hz
      rename_i m q4
      have hm3 : (mx.map a.eval = none ∧ m = c) ∨ (mx.map a.eval = some (.int .i64 m) ∧ hi.map a.eval ≠ none) := emx (d := c) (m := m) (by rw [q3]; exact q4)
      cases hmm : (Nat.ble h m && Nat.ble m known) with
      | false => rw [hmm] at hz; cases hz
      | true =>
      rw [hmm] at hz
      simp only [Bool.and_eq_true, Nat.ble_eq] at hmm
      simp only [cond_true] at hz
      cases hbb : (Nat.beq m l && !(Nat.beq l 0)) with
      | true =>
        rw [hbb] at hz
        cases hz
        simp only [Bool.and_eq_true, Nat.beq_eq] at hbb
        obtain ⟨rfl, _⟩ := hbb
        refine ⟨_, ?_, hsl m hmm.1 (by omega) hm3⟩
        have : h = m := by omega
        subst this
        simp only [Rel, Nat.sub_self, if_true]
        exact ⟨_, _, rfl, fun _ => rfl⟩
      | false =>
        rw [hbb] at hz
        cases hz
        refine ⟨_, hrel m (some (m - l)) hmm.1 (by omega) rfl ?_, hsl m hmm.1 (by omega) hm3⟩
        rintro ⟨rfl, hl0⟩
        simp at hbb; exact hl0 hbb
  · rename_i zo zz len cs qe
    rw [qe] at hr
    simp only [Rel] at hr
    obtain ⟨ad, c, hp, ⟨hlc, hnil⟩, hlen, had⟩ := hr
    cases hzz : Nat.beq zz k with
    | false => rw [hzz] at hz; cases hz
    | true =>
    have hzk : zz = k := by simpa using hzz
    subst hzk
    rw [hzz] at hz
    simp only [Bool.not_true, cond_false] at hz
    split at hz
    case h_3 => cases hz
    case h_2 =>
      rename_i v q1 q2 q3
      split at hz
      case h_2 => cases hz
      rename_i q4
      cases hn : Nat.beq len 0 with
      | true => rw [hn] at hz; cases hz
      | false =>
        rw [hn] at hz
        cases hz
        have hlen0 : len ≠ 0 := by rintro rfl; simp at hn
        rcases had with had | ⟨kk, off, ob, rfl, _, _⟩
        · exact absurd had hlen0
        have hb := run_bounds (P := P) (w := w) true (len := len) (cap := c) (l := 0) (h := 0) (m := 0) (Nat.le_refl 0) (Nat.le_refl 0) (Nat.zero_le _) (elo q1) (ehi q2) (by
          have := emx (d := c) (m := 0) (by rw [q3]; exact q4)
          rcases this with ⟨w1, w2⟩ | w3
          · exact .inl ⟨w1, w2⟩
          · exact .inr w3)
        refine ⟨.slice (some ⟨kk, off, none⟩) 0 0, ⟨_, 0, rfl, fun _ => rfl⟩, hexec _ ?_⟩
        rw [hp, slice_run hu hk hb]
        simp
    rename_i l h q1 q2 q3
    cases hlh : (Nat.ble l h && Nat.ble h len) with
    | false => rw [hlh] at hz; cases hz
    | true =>
    rw [hlh] at hz
    simp only [Bool.and_eq_true, Nat.ble_eq] at hlh
    cases hz
    have hm3 : mx.map a.eval = none ∧ c = c := by
      cases mx with
      | none => exact ⟨rfl, rfl⟩
      | some mo =>
        simp only [cXo] at hmx
        cases hmo : cX mo with
        | none => rw [hmo] at hmx; cases hmx
        | some am => rw [hmo] at hmx; cases hmx; cases q3
    have hbd := run_bounds (P := P) (w := w) true (len := len) (cap := c) (l := l) (h := h) (m := c) hlh.1 (by omega) (Nat.le_refl _) (elo q1) (ehi q2) (.inl hm3)
    refine ⟨_, ?_, hexec _ (by rw [hp, slice_run hu hk hbd])⟩
    have e1 : (h - l) * zz + l * zz = h * zz := by rw [← Nat.add_mul]; congr 1; omega
    have e2 : h * zz ≤ len * zz := Nat.mul_le_mul_right _ hlh.2
    refine ⟨_, _, rfl, ⟨by omega, fun ho => ?_⟩, ?_, ?_⟩
    · split at ho
      · omega
      · cases had0 : ad with
        | none => have := hnil had0; omega
        | some _ => rw [had0] at ho; cases ho
    · rw [List.length_take, List.length_drop]; omega
    · by_cases h0 : h - l = 0
      · exact .inl h0
      · right
        rcases had with had | ⟨kk, off, ob, rfl, g1, g2⟩
        · omega
        refine ⟨kk, off + l * zz, ob, ?_, g1, RelC.mk fun j x hx => ?_⟩
        · rw [if_neg (by omega)]; simp [addr_add]
        · have hj : j < (h - l) * zz := by
            rcases Nat.lt_or_ge j ((h - l) * zz) with hj | hj
            · exact hj
            · rw [List.getElem?_take, if_neg (by omega)] at hx; cases hx
          rw [List.getElem?_take, if_pos hj, List.getElem?_drop] at hx
          obtain ⟨y, hy, hry⟩ := g2.get hx
          exact ⟨y, by rw [← hy, Nat.add_assoc], hry⟩
  · cases hz
theorem sim_sls (C : Ctx) (call : CallF) (hF : FRel ρ n F a.tmps) (hS : RS w0 ρ S w) {o : Oper} {t : TypeId} {x : Operand} {lo hi : Option Operand} {x' : AX} {lo' hi' : Option AX} (ho : o.op = .slice t x lo hi none) (hx : cX x = some x')
    (hlo : cXo lo = some lo') (hhi : cXo hi = some hi') (hu : P.underlying t = some .string) : Sim P w0 ρ w (execOp a.eval o) (aop C call F S (.sls x' lo' hi')) := by
  have hr := cX_ev hF hx
  simp only [aop]
  refine Sim.with hS fun z hz => ?_
  unfold asls at hz
  split at hz
  case h_2 => cases hz
  rename_i s q; rw [q] at hr
  simp only [Rel] at hr
  split at hz
  case h_2 => cases hz
  rename_i l h q1 q2
  cases hc : (Nat.ble l h && Nat.ble h s.length) with
  | false => rw [hc] at hz; cases hz
  | true =>
    rw [hc] at hz
    cases hz
    simp only [Bool.and_eq_true, Nat.ble_eq] at hc
    have elo : (lo.map a.eval = none ∧ l = 0) ∨ lo.map a.eval = some (.int .i64 l) := by
      rcases optN_rel hF hlo (d := 0) q1 with ⟨q1, q2⟩ | q
      · exact .inl ⟨by simp [q1], q2⟩
      · exact .inr q
    have ehi : (hi.map a.eval = none ∧ h = s.length) ∨ hi.map a.eval = some (.int .i64 h) := by
      rcases optN_rel hF hhi (d := s.length) q2 with ⟨q1, q2⟩ | q
      · exact .inl ⟨by simp [q1], q2⟩
      · exact .inr q
    have hbd := run_bounds (P := P) (w := w) false (len := s.length) (cap := s.length) (mx := none) hc.1 hc.2 (Nat.le_refl _) elo ehi (.inl ⟨rfl, rfl⟩)
    refine ⟨_, rfl, ?_⟩
    have hsz : (ByteArray.mk s.toArray).size = s.length := by simp [ByteArray.size]
    simp [execOp, ho, hr, Instr.sliceAt, Instr.slice, run_underlying hu, hsz, hbd, extract_mk]
end
end Go.Proofs.Ytednmmcdjhfflaa.Vai
