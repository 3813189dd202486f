/-
  A verified abstract interpreter, part H: the operations that call nothing, third part: structs, new rows, texts, small ones.
-/
import Derived.Test.YtednmmcdjhfflaaVaiG
import Derived.Laws.MakeOwn
import Derived.Laws.BytesString
import Derived.Great.BuildSlice
namespace Go.Proofs.Ytednmmcdjhfflaa.Vai
open Go Go.RowKit
section
variable {P : Program} {w0 : World} {ρ : Emb} {S : AS} {w : World} {n : Nat} {F : Fr} {a : Act}
theorem foldl_set (off : Nat) : ∀ (l : List Value) (k : Nat) (cs : Array Value), off + k + l.length ≤ cs.size →
    ((l.zipIdx k).foldl (fun cs (x : Value × Nat) => cs.setIfInBounds (off + x.2) x.1) cs).size = cs.size ∧
    ∀ i : Nat, ((l.zipIdx k).foldl (fun cs (x : Value × Nat) => cs.setIfInBounds (off + x.2) x.1) cs)[i]? = if off + k ≤ i ∧ i < off + k + l.length then l[i - (off + k)]? else cs[i]?
  | [], k, cs, _ => ⟨rfl, fun i => by rw [if_neg (by simp only [List.length_nil]; omega)]; rfl⟩
  | v :: l, k, cs, h => by
    simp only [List.length_cons] at h
    simp only [List.zipIdx_cons, List.foldl_cons]
    obtain ⟨h1, h2⟩ := foldl_set off l (k + 1) (cs.setIfInBounds (off + k) v) (by simp; omega)
    refine ⟨by rw [h1]; simp, fun i => ?_⟩
    rw [h2]
    simp only [List.length_cons]
    by_cases hi : i = off + k
    · subst hi
      rw [if_neg (by omega), if_pos (by omega)]
      rw [Array.getElem?_setIfInBounds_self_of_lt (by omega)]
      simp
    · by_cases hc : off + (k + 1) ≤ i ∧ i < off + (k + 1) + l.length
      · rw [if_pos hc, if_pos (by omega), show i - (off + k) = (i - (off + (k + 1))) + 1 by omega]; simp
      · rw [if_neg hc, if_neg (by omega)]
        rw [Array.getElem?_setIfInBounds_ne (by omega)]
theorem fill_rel (hF : FRel ρ n F a.tmps) {place : Nat → Option (Nat × Nat)} : ∀ {ps : List (Nat × Operand)} {aps : List (Nat × Nat × AX)} {z z' : List AV} {cs : Array Value},
    cParts place ps = some aps → fillL F z aps = some z' → RelL ρ z cs.toList →
    ∃ cs', Instr.fill place cs (ps.map fun (i, x) => (i, a.eval x)) = some cs' ∧ RelL ρ z' cs'.toList
  | [], aps, z, z', cs, h1, h2, hr => by
    simp only [cParts, Option.some.injEq] at h1; subst h1
    simp only [fillL, Option.some.injEq] at h2; subst h2
    exact ⟨cs, rfl, hr⟩
  | (i, x) :: ps, aps, z, z', cs, h1, h2, hr => by
    simp only [cParts] at h1
    split at h1
    case h_2 => cases h1
    rename_i o k y l hp hx hps
    cases h1
    simp only [fillL] at h2
    split at h2
    case h_2 => cases h2
    rename_i xs hxs
    cases hc : (Nat.beq xs.length k && Nat.ble (o + k) z.length) with
    | false => rw [hc] at h2; cases h2
    | true =>
      rw [hc] at h2
      simp only [cond_true] at h2
      simp only [Bool.and_eq_true, Nat.ble_eq, Nat.beq_eq] at hc
      obtain ⟨rfl, hle⟩ := hc
      have hcx := (cX_ev hF hx).cells hxs
      have hlx := RelL.length hcx
      have hlz := RelL.length hr
      have hfold := foldl_set o (a.eval x).cells.toList 0 cs (by simp at hlx hlz ⊢; omega)
      simp only [Array.length_toList] at hlx hlz
      have hstep : Instr.fill place cs (((i, x) :: ps).map fun (i, x) => (i, a.eval x)) = Instr.fill place (((a.eval x).cells.toList.zipIdx 0).foldl (fun cs (x : Value × Nat) => cs.setIfInBounds (o + x.2) x.1) cs) (ps.map fun (i, x) => (i, a.eval x)) := by
        simp only [List.map_cons, Instr.fill, hp]
        rw [if_neg (by simp; omega)]
        congr 1
        rw [← Array.foldl_toList, Array.toList_zipIdx]
      rw [hstep]
      refine fill_rel hF hps h2 (RelL.mk ?_ ?_)
      · rw [Array.length_toList, hfold.1, setL_length]; omega
      · intro j v hv
        rw [setL_get _ _ _ _ hle] at hv
        rw [Array.getElem?_toList, hfold.2]
        simp only [Nat.add_zero, Array.length_toList]
        by_cases hj : o ≤ j ∧ j < o + xs.length
        · rw [if_pos hj] at hv
          rw [if_pos (by omega)]
          exact hcx.get hv
        · rw [if_neg hj] at hv
          rw [if_neg (by omega)]
          obtain ⟨u, hu, hru⟩ := hr.get hv
          exact ⟨u, by simpa using hu, hru⟩
theorem mapM_places {fs : List Field} {pl : List (Nat × Nat)} (h : fieldPlaces P fs = some pl) : fs.mapM (fun f => (P.info? f.type).map fun i => (f.offset, i.size)) = some pl := by
  induction fs generalizing pl with
  | nil => simp only [fieldPlaces, Option.some.injEq] at h; subst h; rfl
  | cons f fs ih =>
    simp only [fieldPlaces] at h
    split at h
    · rename_i k l h1 h2
      cases h
      obtain ⟨i, hi, hk⟩ := sizeO_run h1
      simp only [List.mapM_cons, hi, Option.map_some, ih h2, hk]
      rfl
    · cases h
theorem parts_map (ps : Array (Nat × Operand)) : (ps.map fun (i, x) => (i, a.eval x)).toList = ps.toList.map fun (i, x) => (i, a.eval x) := by simp
theorem zcells_info {t : TypeId} {z : List AV} (h : zcells P t = some z) : ∃ i zv, P.info? t = some i ∧ i.zero = some zv ∧ z = zv.cells.toList.map AV.ofV1 := by
  unfold zcells zeroO at h
  cases hi : P.info? t with
  | none => rw [hi] at h; cases h
  | some i =>
    rw [hi] at h
    cases hz : i.zero with
    | none => simp [hz] at h
    | some zv =>
      simp only [Option.bind_some, hz, Option.map_some, Option.some.injEq] at h
      exact ⟨i, zv, rfl, hz, h.symm⟩
theorem sim_build (C : Ctx) (call : CallF) (hF : FRel ρ n F a.tmps) (hS : RS w0 ρ S w) {o : Oper} {t : TypeId} {ps : Array (Nat × Operand)} {z : List AV} {aps : List (Nat × Nat × AX)} {place : Nat → Option (Nat × Nat)}
    (ho : o.op = .build t ps) (hz : zcells P t = some z) (hp : cParts place ps.toList = some aps)
    (hbuilt : ∀ i zv, P.info? t = some i → i.zero = some zv → ∀ l, P.built t l = Instr.fill place zv.cells l) : Sim P w0 ρ w (execOp a.eval o) (aop C call F S (.build z aps)) := by
  obtain ⟨i, zv, hi, hzv, rfl⟩ := zcells_info hz
  simp only [aop]
  refine Sim.with hS fun x hx => ?_
  cases hf : fillL F (zv.cells.toList.map AV.ofV1) aps with
  | none => rw [hf] at hx; cases hx
  | some z' =>
    rw [hf] at hx
    cases hx
    obtain ⟨cs', h1, h2⟩ := fill_rel hF hp hf (RelL.ofV1 ρ _)
    refine ⟨.agg cs', ⟨cs'.toList, h2, by simp⟩, ?_⟩
    have := run_build (P := P) w t (ps.map fun (i, x) => (i, a.eval x)) cs' (by rw [hbuilt i zv hi hzv, parts_map]; exact h1)
    simp [execOp, ho, this]
theorem reps_length (z : List AV) : ∀ n, (reps z n).length = n * z.length
  | 0 => by simp [reps]
  | n + 1 => by simp [reps, reps_length z n, Nat.add_mul]; omega
theorem reps_get (z : List AV) : ∀ n i, i < n * z.length → (reps z n)[i]? = z[i % z.length]?
  | 0, i, h => by simp at h
  | n + 1, i, h => by
    simp only [reps]
    by_cases hi : i < z.length
    · rw [List.getElem?_append_left hi, Nat.mod_eq_of_lt hi]
    · rw [List.getElem?_append_right (by omega), reps_get z n _ (by rw [Nat.add_mul, Nat.one_mul] at h; omega)]
      congr 1
      exact (Nat.mod_eq_sub_mod (by omega)).symm
theorem made_rel (zv : Array Value) (k : Nat) : RelL ρ (reps (zv.toList.map AV.ofV1) k) (madeCells zv (k * zv.size)).toList := by
  refine RelL.mk (by rw [reps_length]; simp [madeCells]) fun i x hx => ?_
  have hlt : i < k * zv.size := by
    rcases Nat.lt_or_ge i (k * zv.size) with h | h
    · exact h
    · rw [List.getElem?_eq_none (by rw [reps_length]; simpa using h)] at hx; cases hx
  rw [reps_get _ _ _ (by simpa using hlt)] at hx
  simp only [List.length_map, Array.length_toList] at hx
  have hpos : 0 < zv.size := by
    rcases Nat.eq_zero_or_pos zv.size with h | h
    · rw [h] at hlt; simp at hlt
    · exact h
  have hm := Nat.mod_lt i hpos
  simp only [List.getElem?_map, Array.getElem?_toList, Array.getElem?_eq_getElem hm, Option.map_some, Option.some.injEq] at hx
  subst hx
  refine ⟨zv[i % zv.size], ?_, Rel.ofV1 ρ _⟩
  simp [madeCells, hlt, hm]
theorem sim_bslice (C : Ctx) (call : CallF) (hF : FRel ρ n F a.tmps) (hS : RS w0 ρ S w) {o : Oper} {t e : TypeId} {len k : Nat} {ps : Array (Nat × Operand)} {z : List AV} {aps : List (Nat × Nat × AX)}
    (ho : o.op = .buildSlice t len ps) (hu : P.underlying t = some (.slice e)) (hk : sizeO P e = some k) (hz : zcells P e = some z) (hc : len * k ≤ 16777216) (hzl : z.length = k)
    (hp : cParts (fun i => some (i * k, k)) ps.toList = some aps) : Sim P w0 ρ w (execOp a.eval o) (aop C call F S (.bslice k len (reps z len) aps)) := by
  obtain ⟨i, zv, hi, hzv, rfl⟩ := zcells_info hz
  obtain ⟨i', hi', hik⟩ := sizeO_run hk
  rw [hi] at hi'; cases hi'
  simp only [aop]
  split
  case h_2 => exact Sim.no
  rename_i c hf
  have hzs : zv.cells.size = k := by simpa using hzl
  have hbase : RelL ρ (reps (zv.cells.toList.map AV.ofV1) len) ((Array.range (len * k)).map (zv.cells[· % zv.cells.size]!)).toList := by
    have := made_rel (ρ := ρ) zv.cells len
    rw [hzs] at this
    exact this
  obtain ⟨cs', h1, h2⟩ := fill_rel hF hp hf hbase
  have hlen : c.length = len * k := by
    have e1 : ∀ (aps : List (Nat × Nat × AX)) (z z' : List AV), fillL F z aps = some z' → z'.length = z.length := by
      intro aps
      induction aps with
      | nil => intro z z' h; simp only [fillL, Option.some.injEq] at h; rw [h]
      | cons p aps ih =>
        intro z z' h
        obtain ⟨o1, o2, o3⟩ := p
        simp only [fillL] at h
        split at h
        · rename_i xs _
          cases hq : (Nat.beq xs.length o2 && Nat.ble (o1 + o2) z.length) with
          | false => rw [hq] at h; cases h
          | true => rw [hq] at h; simp only [cond_true] at h; rw [ih _ _ h, setL_length]
        · cases h
    rw [e1 _ _ _ hf, reps_length]
    simp [hzs]
  have hcs : cs'.size = len * k := by have := RelL.length h2; simp at this; omega
  obtain ⟨ρ', he, hpl, hS'⟩ := hS.newRow e (c := c) (sz := k) (cap := len) (opn := false) (vs := cs') hcs (by omega) (fun _ => hlen.symm) (fun i x hx => by
    obtain ⟨y, hy, hr⟩ := h2.get hx; exact ⟨y, by simpa using hy, hr⟩)
  refine Sim.one he (v := .slice (some ⟨w.heap.size, 0, none⟩) len len) ⟨_, len, hpl, by simp only [Nat.zero_add]; omega, Nat.le_refl _, by simp, by simp⟩ hS' (.inl ?_)
  have hsize : i.size = k := hik
  by_cases hl0 : len * k = 0
  · have hr0 : (Array.range 0 : Array Nat) = #[] := rfl
    have h1' : Instr.fill (fun i => some (i * k, k)) #[] (ps.toList.map fun (i, x) => (i, a.eval x)) = some cs' := by
      have h1 := h1
      rw [hl0, hr0] at h1
      simpa using h1
    simp [execOp, ho, Instr.buildSlice, run_underlying hu, sizeOf, typeInfo, hi, hsize, hl0, hr0, Go.newRow, h1']
  · have := run_buildSlice (P := P) w t e len (ps.map fun (i, x) => (i, a.eval x)) cs' i zv hu hi hzv (by rw [hsize]; omega) (by rw [hsize]; exact hl0) (by rw [hsize, parts_map]; exact h1)
    simp [execOp, ho, this]
theorem asNat_rel {x : AV} {v : Value} {k : Nat} (hr : Rel ρ x v) (h : asNat x = some k) : v = .int .i64 k := by
  unfold asNat at h
  split at h
  · cases h; simpa [Rel] using hr
  · cases h
theorem sim_mksl (C : Ctx) (call : CallF) (hF : FRel ρ n F a.tmps) (hS : RS w0 ρ S w) {o : Oper} {t e : TypeId} {l c : Operand} {l' c' : AX} {i : TypeInfo} {z : List AV}
    (ho : o.op = .makeSlice t l c) (h1 : cX l = some l') (h2 : cX c = some c') (hu : P.underlying t = some (.slice e)) (hi : P.info? e = some i) (hz : zcells P e = some z) (hzl : z.length = i.size) :
    Sim P w0 ρ w (execOp a.eval o) (aop C call F S (.mksl i.size i.bytes z l' c')) := by
  obtain ⟨i', zv, hi', hzv, rfl⟩ := zcells_info hz
  rw [hi] at hi'; cases hi'
  have hl := cX_ev hF h1
  have hc := cX_ev hF h2
  simp only [aop]
  split
  case h_2 => exact Sim.no
  rename_i ln cn q1 q2
  have el := asNat_rel hl q1
  have ec := asNat_rel hc q2
  cases hb : (Nat.ble ln cn && Nat.ble (cn * i.bytes) bound46 && Nat.ble cn bound46) with
  | false => exact Sim.no
  | true =>
    simp only [Bool.and_eq_true, Nat.ble_eq, bound46] at hb
    obtain ⟨⟨b1, b2⟩, b3⟩ := hb
    have hzs : zv.cells.size = i.size := by simpa using hzl
    have hby : (i.bytes : Int) * (cn : Int) ≤ 281474976710656 := by
      have h1 : i.bytes * cn ≤ 70368744177664 := by rw [Nat.mul_comm]; exact b2
      have h2 : ((i.bytes * cn : Nat) : Int) ≤ 70368744177664 := by omega
      rw [Int.natCast_mul] at h2
      omega
    have hrun := run_make (P := P) w t e i zv hu hi hzv .i64 .i64 ln cn (by omega) (by omega) hby (by omega)
    have hrel := made_rel (ρ := ρ) zv.cells cn
    rw [hzs] at hrel
    have hlen : (reps (zv.cells.toList.map AV.ofV1) cn).length = cn * i.size := by rw [reps_length]; simp [hzs]
    obtain ⟨ρ', he, hpl, hS'⟩ := hS.newRow e (c := reps (zv.cells.toList.map AV.ofV1) cn) (sz := i.size) (cap := cn) (opn := false) (vs := madeCells zv.cells (cn * i.size)) (by simp [madeCells]) (by omega) (fun _ => hlen.symm) (fun j x hx => by
      obtain ⟨y, hy, hr⟩ := hrel.get hx; exact ⟨y, by simpa using hy, hr⟩)
    refine Sim.one he (v := .slice (some ⟨w.heap.size, 0, none⟩) ln cn) ⟨_, cn, hpl, ?_, by omega, by simp, by simp⟩ hS' (.inl ?_)
    · rw [hlen, Nat.zero_add]; exact Nat.mul_le_mul_right _ b1
    · simp only [execOp, ho, el, ec, Sem.run_bind, hrun, Result.andThen_ok]
      simp
theorem sim_tas (C : Ctx) (call : CallF) (hF : FRel ρ n F a.tmps) (hS : RS w0 ρ S w) {o : Oper} {x : Operand} {y : AX} {t u : TypeId} {ok : Bool} {d : TypeDesc} {z : Value} (ho : o.op = .typeAssert x u t ok) (h : cX x = some y)
    (hu : P.underlying t = some d) (hd : ∀ m, d ≠ .interface m) (hz : zeroO P t = some z) : Sim P w0 ρ w (execOp a.eval o) (aop C call F S (.tas t (AV.ofV z) ok y)) := by
  have hx := cX_ev hF h
  simp only [aop]
  split
  · rename_i q; rw [q] at hx
    simp only [Rel] at hx
    cases ok with
    | false => exact Sim.no
    | true =>
      refine Sim.same hS (v := .tuple #[z, .bool false]) ⟨[z, .bool false], ⟨z, _, rfl, Rel.ofV ρ z, _, _, rfl, rfl, rfl⟩, rfl⟩ ?_
      simp only [execOp, ho, hx, Instr.typeAssert, Sem.run_bind, run_underlying hu, Result.andThen_ok]
      cases d <;> first
        | exact absurd rfl (hd _)
        | (simp [run_zeroValue' hz])
  · rename_i t' y' q; rw [q] at hx
    simp only [Rel] at hx
    obtain ⟨v, hr, hp⟩ := hx
    cases ht : Nat.beq t' t with
    | true =>
      have : t' = t := by simpa using ht
      subst this
      cases ok with
      | true =>
        refine Sim.same hS (v := .tuple #[v, .bool true]) ⟨[v, .bool true], ⟨v, _, rfl, hr, _, _, rfl, rfl, rfl⟩, rfl⟩ ?_
        simp only [execOp, ho, hp, Instr.typeAssert, Sem.run_bind, run_underlying hu, Result.andThen_ok]
        cases d <;> first
          | exact absurd rfl (hd _)
          | simp
      | false =>
        refine Sim.same hS hr ?_
        simp only [execOp, ho, hp, Instr.typeAssert, Sem.run_bind, run_underlying hu, Result.andThen_ok]
        cases d <;> first
          | exact absurd rfl (hd _)
          | simp
    | false =>
      have hne : ¬ t' = t := by intro e; subst e; simp at ht
      cases ok with
      | false => exact Sim.no
      | true =>
        refine Sim.same hS (v := .tuple #[z, .bool false]) ⟨[z, .bool false], ⟨z, _, rfl, Rel.ofV ρ z, _, _, rfl, rfl, rfl⟩, rfl⟩ ?_
        simp only [execOp, ho, hp, Instr.typeAssert, Sem.run_bind, run_underlying hu, Result.andThen_ok]
        cases d <;> first
          | exact absurd rfl (hd _)
          | (simp [hne, run_zeroValue' hz])
  · exact Sim.no
theorem u8s_rel : ∀ {l : List AV} {ys : List Value} {s : List UInt8}, RelL ρ l ys → u8s l = some s → ∃ ns : List Int, ys = ns.map (Value.int .u8) ∧ s = ns.map fun n => UInt8.ofNat n.toNat
  | [], ys, s, h, hs => by simp [RelL] at h; simp [u8s] at hs; subst h; subst hs; exact ⟨[], rfl, rfl⟩
  | x :: l, ys, s, h, hs => by
    obtain ⟨y, ys, rfl, h1, h2⟩ := h
    unfold u8s at hs
    split at hs
    · rename_i e; cases e
    · rename_i k l' e
      cases e
      simp only [Rel] at h1
      subst h1
      cases hq : u8s l with
      | none => rw [hq] at hs; cases hs
      | some s' =>
        rw [hq] at hs
        cases hs
        obtain ⟨ns, rfl, rfl⟩ := u8s_rel h2 hq
        exact ⟨k :: ns, rfl, rfl⟩
    · cases hs
theorem foldl_push (ns : List Int) : ∀ s : ByteArray, ns.foldl (fun r n => r.push (UInt8.ofNat n.toNat)) s = ⟨(s.data.toList ++ ns.map fun n => UInt8.ofNat n.toNat).toArray⟩ := by
  induction ns with
  | nil => intro s; apply ByteArray.ext; simp
  | cons k ns ih => intro s; simp only [List.foldl_cons, ih]; apply ByteArray.ext; simp [ByteArray.push]
theorem sim_cvs (C : Ctx) (call : CallF) (hF : FRel ρ n F a.tmps) (hS : RS w0 ρ S w) {o : Oper} {s d e : TypeId} {x : Operand} {y : AX} (ho : o.op = .convert s d x) (h : cX x = some y)
    (hs : P.underlying s = some (.slice e)) (hd : P.underlying d = some .string) (he : P.underlying e = some (.int .u8)) : Sim P w0 ρ w (execOp a.eval o) (aop C call F S (.cvs y)) := by
  have hx := cX_ev hF h
  simp only [aop]
  refine Sim.with hS fun z hz => ?_
  unfold AS.cvs at hz
  split at hz
  · rename_i q; rw [q] at hx
    simp only [Rel] at hx
    cases hz
    exact ⟨_, rfl, by simp [execOp, ho, hx, convert, run_underlying hs, run_underlying hd, run_underlying he, Conv.bytesToString]; rfl⟩
  · rename_i zz q; rw [q] at hx
    simp only [Rel] at hx
    obtain ⟨ad, c, hp, _⟩ := hx
    cases hz
    have hb := run_bytesToString (P := P) w ad 0 c [] (by simp [loadCells, loadCellsFrom])
    refine ⟨_, rfl, ?_⟩
    simp only [execOp, ho, hp, convert, Sem.run_bind, run_underlying hs, run_underlying hd, Result.andThen_ok, run_underlying he, hb]
    rfl
  · rename_i v g q len lim sz qe; rw [qe] at hx
    simp only [Rel] at hx
    obtain ⟨b, c, hb, hext, hc, hp, _⟩ := hx
    cases h1 : Nat.beq sz 1 with
    | false => rw [h1] at hz; cases hz
    | true =>
      rw [h1] at hz
      have hsz : sz = 1 := by simpa using h1
      subst hsz
      simp only [cond_true] at hz
      cases hl : S.ldl v g q (q + len) len with
      | none => rw [hl] at hz; cases hz
      | some l =>
        rw [hl] at hz
        simp only [Option.bind_some] at hz
        cases hu : u8s l with
        | none => rw [hu] at hz; cases hz
        | some bs =>
          rw [hu] at hz
          cases hz
          obtain ⟨ys, hlen, hrel, hcell⟩ := hS.cells hb (by omega) hl
          obtain ⟨ns, rfl, rfl⟩ := u8s_rel hrel hu
          have hload := run_loadCells_list (P := P) w _ _ hcell
          rw [hlen] at hload
          have hb := run_bytesToString (P := P) w ⟨b.blk, b.off + q, none⟩ len c ns hload
          rw [foldl_push] at hb
          refine ⟨_, rfl, ?_⟩
          simp only [Nat.mul_one] at hp
          simp only [execOp, ho, hp, convert, Sem.run_bind, run_underlying hs, run_underlying hd, Result.andThen_ok, run_underlying he, hb]
          simp [ByteArray.empty, ByteArray.emptyWithCapacity]
          rfl
  · cases hz
end
end Go.Proofs.Ytednmmcdjhfflaa.Vai
