/-
  A verified abstract interpreter, part P: a region whose order is open: whatever order is drawn, it comes to what the order of the text comes to.
-/
import Derived.Test.YtednmmcdjhfflaaVaiO
namespace Go.Proofs.Ytednmmcdjhfflaa.Vai
open Go Go.RowKit
mutual
theorem AV.beq_eq : ∀ {a b : AV}, AV.beq a b = true → a = b
  | .bool _, b, h => by cases b <;> simp_all [AV.beq]
  | .int k n, b, h => by
    cases b <;> simp only [AV.beq, Bool.and_eq_true, Bool.false_eq_true] at h
    rw [kindBeq_eq h.1, intBeq_eq h.2]
  | .str _, b, h => by cases b <;> simp_all [AV.beq]
  | .nilp, b, h => by cases b <;> simp_all [AV.beq]
  | .nils, b, h => by cases b <;> simp_all [AV.beq]
  | .nilm, b, h => by cases b <;> simp_all [AV.beq]
  | .nilf, b, h => by cases b <;> simp_all [AV.beq]
  | .nili, b, h => by cases b <;> simp_all [AV.beq]
  | .any, b, h => by cases b <;> simp_all [AV.beq]
  | .cst _, b, h => by cases b <;> simp_all [AV.beq]
  | .ptr _ _ _ _, b, h => by cases b <;> simp_all [AV.beq]
  | .slice _ _ _ _ l _, b, h => by
    cases b <;> simp only [AV.beq, Bool.and_eq_true, Bool.false_eq_true, Nat.beq_eq] at h
    rename_i l' _
    obtain ⟨⟨⟨⟨⟨rfl, rfl⟩, rfl⟩, rfl⟩, h5⟩, rfl⟩ := h
    have : l = l' := by cases l <;> cases l' <;> simp_all [optBeq]
    rw [this]
  | .emp _, b, h => by cases b <;> simp_all [AV.beq]
  | .map _, b, h => by cases b <;> simp_all [AV.beq]
  | .fn f x y, b, h => by
    cases b <;> try (cases f <;> simp only [AV.beq, Bool.false_eq_true] at h; done)
    rename_i f' x' y'
    cases f <;> cases f' <;> simp only [AV.beq, Bool.and_eq_true, Bool.false_eq_true, Nat.beq_eq] at h
    rw [h.1.1, AV.beqL_eq h.1.2, AV.beqL_eq h.2]
  | .ifc _ x, b, h => by
    cases b <;> simp only [AV.beq, Bool.and_eq_true, Bool.false_eq_true, Nat.beq_eq] at h
    rw [h.1, AV.beq_eq h.2]
  | .agg x, b, h => by
    cases b <;> simp only [AV.beq, Bool.false_eq_true] at h
    rw [AV.beqL_eq h]
  | .tup x, b, h => by
    cases b <;> simp only [AV.beq, Bool.false_eq_true] at h
    rw [AV.beqL_eq h]
  | .pan x, b, h => by
    cases b <;> simp only [AV.beq, Bool.false_eq_true] at h
    rw [AV.beq_eq h]
  | .yld _, b, h => by cases b <;> simp_all [AV.beq]
  | .row _ _ _ x, b, h => by
    cases b <;> simp only [AV.beq, Bool.and_eq_true, Bool.false_eq_true, Nat.beq_eq] at h
    rw [h.1.1.1, h.1.1.2, h.1.2, AV.beqL_eq h.2]
  | .fp _ x _, b, h => by
    cases b <;> simp only [AV.beq, Bool.and_eq_true, Bool.false_eq_true, Nat.beq_eq] at h
    rw [h.1.1, AV.beqL_eq h.1.2, h.2]
theorem AV.beqL_eq : ∀ {a b : List AV}, AV.beqL a b = true → a = b
  | [], b, h => by cases b <;> simp_all [AV.beqL]
  | x :: xs, b, h => by
    cases b <;> simp only [AV.beqL, Bool.and_eq_true, Bool.false_eq_true] at h
    rw [AV.beq_eq h.1, AV.beqL_eq h.2]
end
section
variable {C : Ctx} {call call' : CallF} {F : Fr} {S S' : AS}
theorem withS_one {o : Option AV} {r : AV × AS} (h : withS S o = .one r) : r.2 = S := by
  cases o <;> cases h; rfl
theorem noact_state {op : AOp} {r : AV × AS} (ha : op.acts = false) (h : aop C call F S op = .one r) : r.2 = S := by
  cases op <;> simp only [AOp.acts, Bool.true_eq_false] at ha <;> simp only [aop] at h <;> first
    | (cases h; done)
    | (cases h; rfl)
    | exact withS_one h
    | ((repeat' split at h) <;> first | (cases h; done) | (cases h; rfl) | exact withS_one h | (cases hq : (Nat.ble _ _) <;> rw [hq] at h <;> cases h; rfl) | (cases hq : (Nat.beq _ _) <;> rw [hq] at h <;> cases h; rfl))
    | ((repeat' split at h) <;> first | (cases h; done) | (rename_i ok _ _ _; cases ok <;> cases h <;> rfl) | (rename_i ok _ _ _ _ _; cases ok <;> cases hq : (Nat.beq _ _) <;> rw [hq] at h <;> cases h <;> rfl))
theorem withS_indep {o : Option AV} {r : AV × AS} (h : withS S o = .one r) : withS S' o = .one (r.1, S') := by
  cases o <;> cases h; rfl
theorem pure_indep {op : AOp} {r : AV × AS} (ha : op.acts = false) (hr : op.reads = false) (h : aop C call F S op = .one r) : aop C call F S' op = .one (r.1, S') := by
  cases op <;> simp only [AOp.acts, AOp.reads, Bool.true_eq_false] at ha hr <;> simp only [aop] at h ⊢ <;> first
    | (cases h; done)
    | (cases h; rfl)
    | exact withS_indep h
    | ((repeat' split at h) <;> first | (cases h; done) | (cases h; rfl) | exact withS_indep h | (cases hq : (Nat.ble _ _) <;> rw [hq] at h <;> cases h; rfl) | (cases hq : (Nat.beq _ _) <;> rw [hq] at h <;> cases h; rfl))
    | ((repeat' split at h) <;> first | (cases h; done) | (rename_i ok _ _ _; cases ok <;> cases h <;> rfl) | (rename_i ok _ _ _ _ _; cases ok <;> cases hq : (Nat.beq _ _) <;> rw [hq] at h <;> cases h <;> rfl) | (cases h; done) | (rename_i ok _ _ _ _ _; cases ok <;> cases hq : (Nat.beq _ _) <;> rw [hq] at h <;> cases h))
theorem call_indep {op : AOp} (hr : op.reads = true) : aop C call F S op = aop C call' F S op := by
  cases op <;> first | (cases hr; done) | rfl
end
theorem keep_get (F : Fr) (t : Nat) : ∀ l : List Nat, (F.keep l).get t = if l.contains t then F.get t else .any
  | [] => by simp [Fr.keep, Fr.get]
  | u :: l => by
    simp only [Fr.keep, Fr.get_cons, keep_get F t l, List.contains_cons]
    by_cases e : u = t
    · subst e; simp
    · have : (t == u) = false := by simpa using fun h => e h.symm
      rw [if_neg e, this]; simp
theorem countP_lt {α : Type} {p q : α → Bool} : ∀ {l : List α} {x : α}, (∀ y, q y = true → p y = true) → x ∈ l → p x = true → q x = false → l.countP q < l.countP p
  | y :: l, x, h, hx, hp, hq => by
    have hle : l.countP q ≤ l.countP p := List.countP_mono_left fun y _ hy => h y hy
    simp only [List.countP_cons]
    rcases List.mem_cons.1 hx with rfl | hx
    · simp only [hp, hq, if_true, Bool.false_eq_true, if_false]; omega
    · have := countP_lt h hx hp hq
      cases hqy : q y with
      | true => rw [h y hqy]; simp; exact this
      | false => simp only [Bool.false_eq_true, if_false]; split <;> omega
theorem preOf_length : ∀ (os : List Oper) (acc : List (List Nat)), (preOf os acc).length = acc.length + os.length
  | [], acc => by simp [preOf]
  | o :: os, acc => by rw [preOf, preOf_length os]; simp; omega
section
variable {C : Ctx} {call : CallF} {aos : List (AOper × List Nat × List Nat)} {st0 : DSt}
def seqD (C : Ctx) (call : CallF) (aos : List (AOper × List Nat × List Nat)) (st0 : DSt) : Nat → DSt
  | 0 => st0
  | j + 1 => match aos[j]? with
    | some o => (dstep C call o.1 o.2.1 o.2.2 j (seqD C call aos st0 j)).getD (seqD C call aos st0 j)
    | none => seqD C call aos st0 j
theorem runD_seq {stF : DSt} : ∀ (m i : Nat), aos.length = i + m → runD C call (aos.drop i) i (seqD C call aos st0 i) = some stF →
    (∀ j o, i ≤ j → aos[j]? = some o → dstep C call o.1 o.2.1 o.2.2 j (seqD C call aos st0 j) = some (seqD C call aos st0 (j + 1))) ∧ stF = seqD C call aos st0 aos.length
  | 0, i, hl, h => by
    have hd : aos.drop i = [] := List.drop_eq_nil_of_le (by omega)
    rw [hd] at h
    simp only [runD, Option.some.injEq] at h
    refine ⟨fun j o hj ho => ?_, by rw [← h]; congr 1; omega⟩
    rw [List.getElem?_eq_none (by omega)] at ho; cases ho
  | m + 1, i, hl, h => by
    have hlt : i < aos.length := by omega
    have hd : aos.drop i = aos[i] :: aos.drop (i + 1) := List.drop_eq_getElem_cons hlt
    have hoi : aos[i]? = some aos[i] := List.getElem?_eq_getElem hlt
    rw [hd] at h
    simp only [runD] at h
    split at h
    · cases h
    · rename_i st' hst
      have hseq : seqD C call aos st0 (i + 1) = st' := by simp only [seqD, hoi, hst, Option.getD_some]
      rw [← hseq] at h
      obtain ⟨h1, h2⟩ := runD_seq m (i + 1) (by omega) h
      refine ⟨fun j o hj ho => ?_, h2⟩
      by_cases e : j = i
      · subst e
        rw [hoi] at ho; cases ho
        rw [hst, hseq]
      · exact h1 j o (by omega) ho
theorem dstep_say {o : AOper} {pr us : List Nat} {i : Nat} {st st' : DSt} (h : dstep C call o pr us i st = some st') :
    ∃ k v, st'.acc = ⟨i, k, o.op, st.F.keep us, st.S, v⟩ :: st.acc ∧ st'.F = st.F.put o.dst v ∧
      (((k ≠ 1 ∧ k ≠ 2 ∧ k ≠ 3) ∧ v = undefA ∧ st'.S = st.S ∧
        ((k = 0 ∧ wantA (st.F.keep us) o.gd = some false ∧ st'.pan = st.pan) ∨
         (k = 4 ∧ o.op ≠ .bad ∧ st'.pan = st.pan ∧ ∃ p, st.pan = some p ∧ p.1 ∈ pr) ∨
         (k = 5 ∧ wantA (st.F.keep us) o.gd = some true ∧ st.pan = none ∧ ∃ x S', aop C call (st.F.keep us) st.S o.op = .one (.pan x, S') ∧ st'.pan = some (i, x, S') ∧ ∀ t ∈ st.acc, t.k = 3 → t.i ∈ pr))) ∨
       ((k ≠ 0 ∧ k ≠ 4 ∧ k ≠ 5) ∧ wantA (st.F.keep us) o.gd = some true ∧ (k = 3 ↔ o.op.acts = true) ∧ (k = 2 ↔ o.op.acts = false ∧ o.op.reads = true) ∧
        ∃ r, aop C call (st.F.keep us) st.S o.op = .one r ∧ r.1 = v ∧ (k = 3 → st'.S = r.2) ∧ (k ≠ 3 → st'.S = st.S) ∧ st.acc.all (dchk C pr ⟨i, k, o.op, st.F.keep us, st.S, v⟩ r.2) = true ∧
        st'.pan = st.pan ∧ (k = 3 → st.pan = none) ∧ ∀ y, v ≠ .pan y)) := by
  unfold dstep at h
  generalize hdead : deadB st.pan pr = dead at h
  cases dead with
  | true =>
    simp only [cond_true] at h
    cases hb : isBad o.op with
    | true => rw [hb] at h; cases h
    | false =>
    rw [hb] at h
    cases h
    refine ⟨4, undefA, rfl, rfl, .inl ⟨by omega, rfl, rfl, .inr (.inl ⟨rfl, (fun e => by rw [e] at hb; cases hb), rfl, ?_⟩)⟩⟩
    unfold deadB at hdead
    split at hdead
    · rename_i p hp; exact ⟨p, hp, by simpa using hdead⟩
    · cases hdead
  | false =>
  simp only [cond_false] at h
  split at h
  · cases h
  · rename_i hw
    cases h
    exact ⟨0, undefA, rfl, rfl, .inl ⟨by omega, rfl, rfl, .inl ⟨rfl, hw, rfl⟩⟩⟩
  · rename_i hw
    split at h
    case h_2 => cases h
    rename_i r hr
    split at h
    · rename_i x hx
      split at h
      · cases h
      · rename_i hpn
        have := cond_some h
        have hall : st.acc.all (fun t => !(Nat.beq t.k 3) || pr.contains t.i) = true := by
          cases hq : st.acc.all (fun t => !(Nat.beq t.k 3) || pr.contains t.i) with
          | true => rfl
          | false => rw [hq] at h; cases h
        subst this
        refine ⟨5, undefA, rfl, rfl, .inl ⟨by omega, rfl, rfl, .inr (.inr ⟨rfl, hw, hpn, x, r.2, ?_, rfl, fun t ht hk => ?_⟩)⟩⟩
        · rw [hr, ← hx]
        · have := List.all_eq_true.1 hall t ht
          simpa [hk] using this
    · rename_i hnp
      generalize hk : (bif o.op.acts then 3 else bif o.op.reads then 2 else 1 : Nat) = k at h
      cases hall : (st.acc.all (dchk C pr ⟨i, k, o.op, st.F.keep us, st.S, r.1⟩ r.2) && !(o.op.acts && st.pan.isSome)) with
      | false => rw [hall] at h; cases h
      | true =>
        rw [hall] at h
        simp only [cond_true, Option.some.injEq] at h
        subst h
        simp only [Bool.and_eq_true, Bool.not_eq_true', Bool.and_eq_false_iff] at hall
        refine ⟨k, r.1, rfl, rfl, .inr ⟨?_, hw, ?_, ?_, r, hr, rfl, ?_, ?_, hall.1, rfl, ?_, hnp⟩⟩
        case refine_6 =>
          intro hk3
          rcases hall.2 with ha | ha
          · exfalso; rw [ha] at hk; subst hk3; cases hr2 : o.op.reads <;> rw [hr2] at hk <;> simp at hk
          · simpa using ha
        all_goals (subst hk; cases o.op.acts <;> cases o.op.reads <;> simp)
end
section
variable {P : Program} {w0 : World} {n : Nat} {call : CallF} {kp : Nat → List Nat} {env : Env}
theorem readsSame_say {C : Ctx} {S : AS} {s : SI} (h : readsSame C S s = true) : ∃ r, aop C (fun _ _ _ => .no) s.F S s.op = .one r ∧ r.1 = s.v := by
  unfold readsSame at h
  split at h
  · rename_i r hr; exact ⟨r, hr, AV.beq_eq h⟩
  · cases h
theorem draw_sound {ρ0 : Emb} (hcall : CallOk P w0 ρ0 call) (henv : EnvOk P w0 ρ0 env) {r0 : Option Nat} {m0 : Nat} {ops : Array Oper} {F : Fr} {S : AS} {ρ : Emb} {a : Act} {w : World} {ds : List Deferred} {Q : Exit → Act → World → Prop}
    (h0 : Ext ρ0 ρ) (hF : FRel ρ n F a.tmps) (hd : a.defers = ds) (hS : RS w0 ρ S w) (hok : drawOk ops.toList (preOf ops.toList []) (ops.toList.map (usOf ops)) = true) {stF : DSt}
    (hrun : runD (ctxE P kp env) call ((ops.toList.map (cOper P ops n)).zip ((preOf ops.toList []).zip (ops.toList.map (usOf ops)))) 0 ⟨F, S, [], none⟩ = some stF)
    (hQP : ∀ p x S', stF.pan = some (p, x, S') → ∀ ρ' a' w' v, Ext ρ ρ' → Rel ρ' x v → a'.tmps.size = n → a'.defers = ds → RS w0 ρ' S' w' → Q (.panic [{ v, recovered := false }]) a' w')
    (hQ : stF.pan = none → ∀ ρ' a' w', Ext ρ ρ' → FRel ρ' n stF.F a'.tmps → a'.defers = ds → RS w0 ρ' stF.S w' → Q .normal a' w') :
    wpAnyIn (fw r0) m0 P .any ops Q ops.size (Array.replicate ops.size false) a w := by
  generalize hpre : preOf ops.toList [] = pre at hok hrun
  have hpl : pre.length = ops.size := by rw [← hpre, preOf_length]; simp
  generalize haos : (ops.toList.map (cOper P ops n)).zip (pre.zip (ops.toList.map (usOf ops))) = aos at hrun
  have hal : aos.length = ops.size := by rw [← haos]; simp [hpl]
  have hao : ∀ (i : Nat) o, ops[i]? = some o → aos[i]? = some (cOper P ops n o, pre.getD i [], usOf ops o) := by
    intro i o ho
    have hi : i < ops.size := (Array.getElem?_eq_some_iff.1 ho).1
    have ho' : ops.toList[i]? = some o := by simpa using ho
    rw [← haos]
    simp [List.getElem?_zip_eq_some, ho', List.getElem?_eq_getElem (show i < pre.length by omega)]
  obtain ⟨hstep, hfin⟩ := runD_seq (aos := aos) (C := ctxE P kp env) (call := call) (st0 := ⟨F, S, [], none⟩) aos.length 0 (by omega) (by simpa [seqD] using hrun)
  rw [hal] at hfin
  generalize hX : seqD (ctxE P kp env) call aos ⟨F, S, [], none⟩ = X at hstep hfin
  have hX0 : X 0 = ⟨F, S, [], none⟩ := by rw [← hX]; rfl
  have hus : ∀ (i : Nat) o, ops[i]? = some o → (ops.toList.map (usOf ops)).getD i [] = usOf ops o := by
    intro i o ho
    have ho' : ops.toList[i]? = some o := by simpa using ho
    simp [List.getD, ho']
  have hfact : ∀ (i : Nat) o, ops[i]? = some o →
      (∀ j, j ∈ pre.getD i [] → j < i ∧ (j ∈ edgesOf o ∨ ∃ e, e ∈ edgesOf o ∧ j ∈ pre.getD e [])) ∧ (∀ e, e ∈ edgesOf o → e ∈ pre.getD i []) ∧
      (∀ j oj t, j < i → ops[j]? = some oj → oj.dst = some t → (o.dst = some t ∨ t ∈ usOf ops o) → j ∈ pre.getD i []) ∧
      (∀ j oj t, j < i → ops[j]? = some oj → o.dst = some t → t ∈ usOf ops oj → j ∈ pre.getD i []) := by
    intro i o ho
    have hi : i < ops.size := (Array.getElem?_eq_some_iff.1 ho).1
    have ho' : ops.toList[i]? = some o := by simpa using ho
    unfold drawOk at hok
    simp only [List.all_eq_true, List.mem_range, Array.length_toList] at hok
    have h := hok i hi
    simp only [ho', Bool.and_eq_true, List.all_eq_true, List.mem_range, Nat.blt_eq, Bool.or_eq_true, List.contains_iff_mem, List.any_eq_true, Option.bind_some] at h
    obtain ⟨⟨h1, h2⟩, h3⟩ := h
    refine ⟨fun j hj => ⟨(h1 j hj).1, (h1 j hj).2⟩, h2, fun j oj t hj hoj ht hh => ?_, fun j oj t hj hoj ht hh => ?_⟩
    · have hoj' : ops.toList[j]? = some oj := by simpa using hoj
      have := (h3 j hj).1
      rw [hoj', Option.bind_some, ht] at this
      simp only [Bool.or_eq_true, Bool.not_eq_true', Bool.or_eq_false_iff, List.contains_iff_mem] at this
      rcases this with ⟨g1, g2⟩ | g
      · exfalso
        rcases hh with hh | hh
        · rw [hh] at g1; simp [optBeq] at g1
        · rw [hus i o ho] at g2
          have : (usOf ops o).contains t = true := by simpa using hh
          rw [this] at g2; cases g2
      · exact g
    · have hoj' : ops.toList[j]? = some oj := by simpa using hoj
      have := (h3 j hj).2
      rw [ht] at this
      simp only [Bool.or_eq_true, Bool.not_eq_true', List.contains_iff_mem] at this
      rcases this with g | g
      · exfalso
        rw [hus j oj hoj] at g
        have : (usOf ops oj).contains t = true := by simpa using hh
        rw [this] at g; cases g
      · exact g
  obtain ⟨s, hsdef⟩ : ∃ s : Nat → SI, ∀ i, s i = ((X (i + 1)).acc.head?).getD ⟨0, 0, .bad, [], S, undefA⟩ := ⟨_, fun _ => rfl⟩
  have hs : ∀ (i : Nat) o, ops[i]? = some o →
      ((cOper P ops n o).dst = o.dst ∧ (∀ t, o.dst = some t → t < n) ∧ cOp P o.op = some (cOper P ops n o).op ∧
        (((cOper P ops n o).gd = none ∧ o.guard = none) ∨ ∃ j b t, o.guard = some (j, b) ∧ (ops[j]?).bind (·.dst) = some t ∧ (cOper P ops n o).gd = some (t, b))) ∧
      (X (i + 1)).acc = s i :: (X i).acc ∧ (s i).i = i ∧ (s i).op = (cOper P ops n o).op ∧ (s i).F = (X i).F.keep (usOf ops o) ∧ (s i).S = (X i).S ∧ (X (i + 1)).F = (X i).F.put o.dst (s i).v ∧
      ((((s i).k ≠ 1 ∧ (s i).k ≠ 2 ∧ (s i).k ≠ 3) ∧ (s i).v = undefA ∧ (X (i + 1)).S = (X i).S ∧
        (((s i).k = 0 ∧ wantA (s i).F (cOper P ops n o).gd = some false ∧ (X (i + 1)).pan = (X i).pan) ∨
         ((s i).k = 4 ∧ (s i).op ≠ .bad ∧ (X (i + 1)).pan = (X i).pan ∧ ∃ p, (X i).pan = some p ∧ p.1 ∈ pre.getD i []) ∨
         ((s i).k = 5 ∧ wantA (s i).F (cOper P ops n o).gd = some true ∧ (X i).pan = none ∧ ∃ x S', aop (ctxE P kp env) call (s i).F (X i).S (s i).op = .one (.pan x, S') ∧ (X (i + 1)).pan = some (i, x, S') ∧ ∀ t ∈ (X i).acc, t.k = 3 → t.i ∈ pre.getD i []))) ∨
       (((s i).k ≠ 0 ∧ (s i).k ≠ 4 ∧ (s i).k ≠ 5) ∧ wantA (s i).F (cOper P ops n o).gd = some true ∧ ((s i).k = 3 ↔ (s i).op.acts = true) ∧ ((s i).k = 2 ↔ (s i).op.acts = false ∧ (s i).op.reads = true) ∧
        ∃ r, aop (ctxE P kp env) call (s i).F (X i).S (s i).op = .one r ∧ r.1 = (s i).v ∧ ((s i).k = 3 → (X (i + 1)).S = r.2) ∧ ((s i).k ≠ 3 → (X (i + 1)).S = (X i).S) ∧
          (X i).acc.all (dchk (ctxE P kp env) (pre.getD i []) (s i) r.2) = true ∧ (X (i + 1)).pan = (X i).pan ∧ ((s i).k = 3 → (X i).pan = none) ∧ ∀ y, (s i).v ≠ .pan y)) := by
    intro i o ho
    have hst := hstep i _ (Nat.zero_le _) (hao i o ho)
    obtain ⟨k, v, h1, h2, h3⟩ := dstep_say hst
    have hsi : s i = ⟨i, k, (cOper P ops n o).op, (X i).F.keep (usOf ops o), (X i).S, v⟩ := by
      rw [hsdef, h1]; rfl
    rcases cOper_say (P := P) (n := n) (ops := ops) (o := o) with ⟨hgd, hb⟩ | hgood
    · exfalso
      rcases h3 with ⟨_, _, _, ⟨_, hw, _⟩ | ⟨_, hnb, _⟩ | ⟨_, _, _, x, S', hr, _⟩⟩ | ⟨_, _, _, _, r, hr, _⟩
      · simp only [hgd, wantA] at hw; cases hw
      · exact hnb hb
      · simp only [hb, aop] at hr; cases hr
      · simp only [hb, aop] at hr; cases hr
    · refine ⟨hgood, by rw [hsi]; exact h1, by rw [hsi], by rw [hsi], by rw [hsi], by rw [hsi], by rw [hsi, ← hgood.1]; exact h2, ?_⟩
      rw [hsi]
      exact h3
  have hmem : ∀ i l, l < i → i ≤ ops.size → s l ∈ (X i).acc := by
    intro i
    induction i with
    | zero => intro l hl; omega
    | succ i ih =>
      intro l hl hi
      have ho : ops[i]? = some ops[i] := Array.getElem?_eq_getElem (by omega)
      rw [(hs i _ ho).2.1]
      by_cases e : l = i
      · subst e; exact List.mem_cons_self
      · exact List.mem_cons_of_mem _ (ih l (by omega) (by omega))
  obtain ⟨dst, hdst⟩ : ∃ dst : Nat → Option Tmp, ∀ (i : Nat) o, ops[i]? = some o → dst i = o.dst := ⟨fun i => (ops[i]?).bind (·.dst), fun i o ho => by simp only [ho]; rfl⟩
  obtain ⟨FD, FD0, FDs⟩ : ∃ FD : (Nat → Bool) → Nat → Nat → AV, (∀ D t, FD D 0 t = F.get t) ∧ ∀ D m t, FD D (m + 1) t = if D m = true ∧ dst m = some t then (s m).v else FD D m t :=
    ⟨fun D m t => Nat.rec (F.get t) (fun i prev => if D i = true ∧ dst i = some t then (s i).v else prev) m, fun _ _ => rfl, fun _ _ _ => rfl⟩
  obtain ⟨SD, SD0, SDs⟩ : ∃ SD : (Nat → Bool) → Nat → AS, (∀ D, SD D 0 = S) ∧ ∀ D m, SD D (m + 1) = if D m = true ∧ (s m).k = 3 then (X (m + 1)).S else SD D m :=
    ⟨fun D m => Nat.rec S (fun i prev => if D i = true ∧ (s i).k = 3 then (X (i + 1)).S else prev) m, fun _ => rfl, fun _ _ => rfl⟩
  have FDcongr : ∀ (D D' : Nat → Bool) m t, (∀ j, j < m → dst j = some t → D j = D' j) → FD D m t = FD D' m t := by
    intro D D' m t
    induction m with
    | zero => intro _; rw [FD0, FD0]
    | succ m ih =>
      intro h
      rw [FDs, FDs, ih fun j hj => h j (by omega)]
      by_cases ht : dst m = some t
      · rw [h m (by omega) ht]
      · simp [ht]
  have FDtop : ∀ (D : Nat → Bool) i m t, i ≤ m → (∀ j, i ≤ j → j < m → dst j = some t → D j = false) → FD D m t = FD D i t := by
    intro D i m t him h
    induction m with
    | zero => have : i = 0 := by omega
              rw [this]
    | succ m ih =>
      by_cases e : i = m + 1
      · rw [e]
      · rw [FDs, if_neg, ih (by omega) fun j h1 h2 => h j h1 (by omega)]
        rintro ⟨h1, h2⟩
        rw [h m (by omega) (by omega) h2] at h1; cases h1
  have SDcongr : ∀ (D D' : Nat → Bool) m, (∀ j, j < m → (s j).k = 3 → D j = D' j) → SD D m = SD D' m := by
    intro D D' m
    induction m with
    | zero => intro _; rw [SD0, SD0]
    | succ m ih =>
      intro h
      rw [SDs, SDs, ih fun j hj => h j (by omega)]
      by_cases ht : (s m).k = 3
      · rw [h m (by omega) ht]
      · simp [ht]
  have SDtop : ∀ (D : Nat → Bool) i m, i ≤ m → (∀ j, i ≤ j → j < m → (s j).k = 3 → D j = false) → SD D m = SD D i := by
    intro D i m him h
    induction m with
    | zero => have : i = 0 := by omega
              rw [this]
    | succ m ih =>
      by_cases e : i = m + 1
      · rw [e]
      · rw [SDs, if_neg, ih (by omega) fun j h1 h2 => h j h1 (by omega)]
        rintro ⟨h1, h2⟩
        rw [h m (by omega) (by omega) h2] at h1; cases h1
  have XF : ∀ i t, i ≤ ops.size → (X i).F.get t = FD (fun _ => true) i t := by
    intro i t
    induction i with
    | zero => intro _; rw [hX0, FD0]
    | succ i ih =>
      intro hi
      have ho : ops[i]? = some ops[i] := Array.getElem?_eq_getElem (by omega)
      rw [(hs i _ ho).2.2.2.2.2.2.1, FDs]
      rw [hdst i _ ho]
      cases hd : ops[i].dst with
      | none => simp only [Fr.put]; rw [if_neg (by simp)]; exact ih (by omega)
      | some d =>
        simp only [Fr.put, Fr.get_cons, Option.some.injEq, true_and]
        by_cases e : d = t
        · rw [if_pos e, if_pos e]
        · rw [if_neg e, if_neg e]; exact ih (by omega)
  have Xkeep : ∀ i, i < ops.size → (s i).k ≠ 3 → (X (i + 1)).S = (X i).S := by
    intro i hi hk
    have ho : ops[i]? = some ops[i] := Array.getElem?_eq_getElem hi
    rcases (hs i _ ho).2.2.2.2.2.2.2 with ⟨_, _, h, _⟩ | ⟨_, _, _, _, r, _, _, _, h, _⟩
    · exact h
    · exact h hk
  have XS : ∀ i, i ≤ ops.size → (X i).S = SD (fun _ => true) i := by
    intro i
    induction i with
    | zero => intro _; rw [hX0, SD0]
    | succ i ih =>
      intro hi
      rw [SDs]
      by_cases hk : (s i).k = 3
      · rw [if_pos ⟨rfl, hk⟩]
      · rw [if_neg (fun h => hk h.2), Xkeep i (by omega) hk]; exact ih (by omega)
  have Xrun : ∀ i j, i ≤ j → j ≤ ops.size → (∀ l, i ≤ l → l < j → (s l).k ≠ 3) → (X j).S = (X i).S := by
    intro i j
    induction j with
    | zero => intro h _ _; have : i = 0 := by omega
              rw [this]
    | succ j ih =>
      intro h1 h2 h3
      by_cases e : i = j + 1
      · rw [e]
      · rw [Xkeep j (by omega) (h3 j (by omega) (by omega))]
        exact ih (by omega) (by omega) fun l hl1 hl2 => h3 l hl1 (by omega)
  have Xpan : ∀ i, i ≤ ops.size →
      ((X i).pan = none → ∀ j, j < i → (s j).k ≠ 4 ∧ (s j).k ≠ 5) ∧
      (∀ p x S', (X i).pan = some (p, x, S') → p < i ∧ (s p).k = 5 ∧ aop (ctxE P kp env) call (s p).F (X p).S (s p).op = .one (.pan x, S') ∧ (∀ j, j < i → (s j).k = 5 → j = p) ∧ (∀ j, j < i → (s j).k = 4 → p ∈ pre.getD j []) ∧ (∀ j, p ≤ j → j < i → (s j).k ≠ 3)) := by
    intro i
    induction i with
    | zero => intro _; exact ⟨(fun _ j hj => by omega), (fun p x S' h => by rw [hX0] at h; cases h)⟩
    | succ i ih =>
      intro hi
      obtain ⟨ih1, ih2⟩ := ih (by omega)
      have ho : ops[i]? = some ops[i] := Array.getElem?_eq_getElem (by omega)
      have same : (X (i + 1)).pan = (X i).pan → ((X i).pan = none → (s i).k ≠ 4) → (s i).k ≠ 5 → (∀ p x S', (X i).pan = some (p, x, S') → (s i).k ≠ 3 ∧ ((s i).k = 4 → p ∈ pre.getD i [])) →
          ((X (i + 1)).pan = none → ∀ j, j < i + 1 → (s j).k ≠ 4 ∧ (s j).k ≠ 5) ∧
          (∀ p x S', (X (i + 1)).pan = some (p, x, S') → p < i + 1 ∧ (s p).k = 5 ∧ aop (ctxE P kp env) call (s p).F (X p).S (s p).op = .one (.pan x, S') ∧ (∀ j, j < i + 1 → (s j).k = 5 → j = p) ∧ (∀ j, j < i + 1 → (s j).k = 4 → p ∈ pre.getD j []) ∧ (∀ j, p ≤ j → j < i + 1 → (s j).k ≠ 3)) := by
        intro he h4 h5 h3
        rw [he]
        refine ⟨fun hn j hj => ?_, fun p x S' hp => ?_⟩
        · by_cases e : j = i
          · subst e; exact ⟨h4 hn, h5⟩
          · exact ih1 hn j (by omega)
        · obtain ⟨g1, g2, g3, g4, g5, g6⟩ := ih2 p x S' hp
          refine ⟨by omega, g2, g3, fun j hj hk => ?_, fun j hj hk => ?_, fun j h1 h2 => ?_⟩
          · by_cases e : j = i
            · subst e; exact absurd hk h5
            · exact g4 j (by omega) hk
          · by_cases e : j = i
            · subst e; exact (h3 p x S' hp).2 hk
            · exact g5 j (by omega) hk
          · by_cases e : j = i
            · subst e; exact (h3 p x S' hp).1
            · exact g6 j h1 (by omega)
      rcases (hs i _ ho).2.2.2.2.2.2.2 with ⟨hk, _, _, ⟨hk0, _, he⟩ | ⟨hk4, _, he, p, hp, hpp⟩ | ⟨hk5, _, hn, x, S', hr, he, _⟩⟩ | ⟨hk, _, _, _, r, _, _, _, _, _, he, h3n, _⟩
      · exact same he (fun _ => by omega) (by omega) fun p x S' _ => ⟨by omega, fun h => by omega⟩
      · refine same he (fun hn => by rw [hn] at hp; cases hp) (by omega) fun p' x S' hp' => ⟨by omega, fun _ => ?_⟩
        rw [hp'] at hp; cases hp; exact hpp
      · refine ⟨(fun h => by rw [he] at h; cases h), fun p x' S'' h => ?_⟩
        rw [he] at h
        cases h
        have hall := ih1 hn
        refine ⟨by omega, hk5, hr, fun j hj hk => ?_, fun j hj hk => ?_, fun j h1 h2 => ?_⟩
        · by_cases e : j = i
          · exact e
          · exact absurd hk (hall j (by omega)).2
        · by_cases e : j = i
          · subst e; omega
          · exact absurd hk (hall j (by omega)).1
        · have : j = i := by omega
          subst this; omega
      · refine same he (fun _ => hk.2.1) hk.2.2 fun p x S' hp => ⟨fun h => ?_, fun h => absurd h hk.2.1⟩
        rw [h3n h] at hp; cases hp
  have hend : ∀ (D : Nat → Bool), (∀ j, j < ops.size → D j = true) → (∀ p x S', stF.pan = some (p, x, S') → D p = false) → ∀ (ρ' : Emb) (a' : Act) (w' : World), Ext ρ ρ' → a'.tmps.size = n → (∀ t, Rel ρ' (FD D ops.size t) (a'.tmps.getD t undef)) → a'.defers = ds → RS w0 ρ' (SD D ops.size) w' → Q .normal a' w' := by
    intro D hD hDp ρ' a' w' he hsz hf hdf hS'
    have hnone : stF.pan = none := by
      cases hq : stF.pan with
      | none => rfl
      | some q =>
        obtain ⟨p, x, S'⟩ := q
        have hp : p < ops.size := ((Xpan ops.size (Nat.le_refl _)).2 p x S' (by rw [← hfin]; exact hq)).1
        have := hDp p x S' hq
        rw [hD p hp] at this; cases this
    refine hQ hnone ρ' a' w' he ⟨hsz, fun t => ?_⟩ hdf ?_
    · rw [hfin, XF ops.size t (Nat.le_refl _), FDcongr _ D ops.size t fun j hj _ => (hD j hj).symm]; exact hf t
    · rw [hfin, XS ops.size (Nat.le_refl _), SDcongr _ D ops.size fun j hj _ => (hD j hj).symm]; exact hS'
  have main : ∀ (fuel : Nat) (listed : Array Bool) (ρ' : Emb) (a' : Act) (w' : World), listed.size = ops.size → (List.range ops.size).countP (fun i => !listed.getD i true) ≤ fuel →
      (∀ i, i < ops.size → listed.getD i false = true → ∀ j, j ∈ pre.getD i [] → listed.getD j false = true) → (∀ p x S', stF.pan = some (p, x, S') → listed.getD p false = false) → Ext ρ ρ' → a'.tmps.size = n →
      (∀ t, Rel ρ' (FD (fun i => listed.getD i false) ops.size t) (a'.tmps.getD t undef)) → a'.defers = ds → RS w0 ρ' (SD (fun i => listed.getD i false) ops.size) w' →
      wpAnyIn (fw r0) m0 P .any ops Q fuel listed a' w' := by
    intro fuel
    induction fuel with
    | zero =>
      intro listed ρ' a' w' hsz hcnt hclosed hlp he hts hf hdf hS'
      have hD : ∀ j, j < ops.size → listed.getD j false = true := by
        intro j hj
        have h0 : (List.range ops.size).countP (fun i => !listed.getD i true) = 0 := by omega
        rw [List.countP_eq_zero] at h0
        have := h0 j (List.mem_range.2 hj)
        have hjl : j < listed.size := by omega
        simpa [hjl] using this
      refine ⟨?_, hend _ hD hlp ρ' a' w' he hts hf hdf hS'⟩
      rw [List.eq_nil_iff_forall_not_mem]
      intro i hi
      obtain ⟨h1, o, ho, _⟩ := mem_ready.1 hi
      have hlt : i < ops.size := (Array.getElem?_eq_some_iff.1 ho).1
      have := hD i hlt
      have hil : i < listed.size := by omega
      simp [hil] at h1 this
      rw [h1] at this; cases this
    | succ fuel ih =>
      intro listed ρ' a' w' hsz hcnt hclosed hlp he hts hf hdf hS'
      refine ⟨fun hnil => ?_, fun i hi => ?_⟩
      ·
        have hD : ∀ m j, j < m → j < ops.size → listed.getD j false = true := by
          intro m
          induction m with
          | zero => intro j hj; omega
          | succ m ihm =>
            intro j hj hjs
            by_cases e : j < m
            · exact ihm j e hjs
            · have hj' : j = m := by omega
              subst hj'
              have ho : ops[j]? = some ops[j] := Array.getElem?_eq_getElem hjs
              cases hq : listed.getD j false with
              | true => rfl
              | false =>
                exfalso
                have : j ∈ Region.ready .any ops listed := by
                  refine mem_ready.2 ⟨?_, _, ho, fun e he' hb => ?_⟩
                  · have hjl : j < listed.size := by omega
                    simpa [hjl] using hq
                  · have hmem : e.on ∈ edgesOf ops[j] := by
                      unfold edgesOf
                      exact List.mem_map.2 ⟨e, List.mem_filter.2 ⟨by simpa using he', hb⟩, rfl⟩
                    have h1 := (hfact j _ ho).2.1 _ hmem
                    have h2 := ((hfact j _ ho).1 _ h1).1
                    exact ihm e.on h2 (by omega)
                rw [hnil] at this; cases this
        exact hend _ (fun j hj => hD ops.size j hj hj) hlp ρ' a' w' he hts hf hdf hS'
      · obtain ⟨hun, o, ho, hafter⟩ := mem_ready.1 hi
        have hlt : i < ops.size := (Array.getElem?_eq_some_iff.1 ho).1
        have hil : i < listed.size := by omega
        have hunf : listed.getD i false = false := by simpa [hil] using hun
        obtain ⟨hE1, hE2, hE3, hE4⟩ := hfact i o ho
        obtain ⟨⟨hcd, hdlt, hcop, hgd⟩, hacc, hsi, hsop, hsF, hsS, hXF, hcase⟩ := hs i o ho
        have hpreD : ∀ j, j ∈ pre.getD i [] → listed.getD j false = true := by
          intro j hj
          have hedge : ∀ e, e ∈ edgesOf o → listed.getD e false = true := by
            intro e he'
            unfold edgesOf at he'
            obtain ⟨ed, hed, rfl⟩ := List.mem_map.1 he'
            obtain ⟨h1, h2⟩ := List.mem_filter.1 hed
            exact hafter ed (by simpa using h1) h2
          obtain ⟨hji, h⟩ := hE1 j hj
          rcases h with h | ⟨e, h1, h2⟩
          · exact hedge j h
          · have hei := (hE1 e (hE2 e h1)).1
            exact hclosed e (by omega) (hedge e h1) j h2
        have hpost : ∀ j, j < ops.size → i ∈ pre.getD j [] → listed.getD j false = false := by
          intro j hj hij
          cases hq : listed.getD j false with
          | false => rfl
          | true => have := hclosed j hj hq i hij; rw [hunf] at this; cases this
        have hFG : FRel ρ' n (s i).F a'.tmps := by
          refine ⟨hts, fun t => ?_⟩
          rw [hsF, keep_get]
          cases hc : (usOf ops o).contains t with
          | false => simp [Rel]
          | true =>
            have hmt : t ∈ usOf ops o := by simpa using hc
            simp only [if_true]
            rw [XF i t (by omega)]
            have h1 : FD (fun j => listed.getD j false) ops.size t = FD (fun j => listed.getD j false) i t := by
              refine FDtop _ i ops.size t (by omega) fun j h1 h2 h3 => ?_
              by_cases e : j = i
              · subst e; exact hunf
              · have hoj : ops[j]? = some ops[j] := Array.getElem?_eq_getElem h2
                have hdj : ops[j].dst = some t := by rw [← hdst j _ hoj]; exact h3
                exact hpost j h2 ((hfact j _ hoj).2.2.2 i o t (by omega) ho hdj hmt)
            have h2 : FD (fun j => listed.getD j false) i t = FD (fun _ => true) i t := by
              refine FDcongr _ _ i t fun j h1 h2 => ?_
              have hoj : ops[j]? = some ops[j] := Array.getElem?_eq_getElem (by omega)
              have hdj : ops[j].dst = some t := by rw [← hdst j _ hoj]; exact h2
              exact hpreD j (hE3 j _ t h1 hoj hdj (.inr hmt))
            rw [← h2, ← h1]; exact hf t
        have hset : ∀ j, (listed.setIfInBounds i true).getD j false = if j = i then true else listed.getD j false := by
          intro j
          by_cases e : j = i
          · subst e; simp [hil]
          · rw [if_neg e]; exact getD_set_ne false (fun h => e h.symm)
        have hcnt' : (List.range ops.size).countP (fun j => !(listed.setIfInBounds i true).getD j true) ≤ fuel := by
          have : (List.range ops.size).countP (fun j => !(listed.setIfInBounds i true).getD j true) < (List.range ops.size).countP (fun j => !listed.getD j true) := by
            refine countP_lt (x := i) (fun j hj => ?_) (List.mem_range.2 hlt) (by simpa using hun) (by simp [hil])
            by_cases e : j = i
            · subst e; simp [hil] at hj
            · rw [getD_set_ne true (fun h => e h.symm)] at hj; exact hj
          omega
        have hclosed' : ∀ j, j < ops.size → (listed.setIfInBounds i true).getD j false = true → ∀ l, l ∈ pre.getD j [] → (listed.setIfInBounds i true).getD l false = true := by
          intro j hj hjl l hl
          rw [hset] at hjl
          rw [hset]
          by_cases el : l = i
          · rw [if_pos el]
          · rw [if_neg el]
            by_cases e : j = i
            · subst e; exact hpreD l hl
            · rw [if_neg e] at hjl; exact hclosed j hj hjl l hl
        have hlp' : (s i).k ≠ 5 → ∀ p x S', stF.pan = some (p, x, S') → (listed.setIfInBounds i true).getD p false = false := by
          intro hk p x S' hp
          rw [hset]
          by_cases e : p = i
          · subst e
            exact absurd ((Xpan ops.size (Nat.le_refl _)).2 p x S' (by rw [← hfin]; exact hp)).2.1 hk
          · rw [if_neg e]; exact hlp p x S' hp
        have hgo : (s i).k ≠ 5 → ∀ (ρ2 : Emb) (v : Value) (w2 : World), Ext ρ' ρ2 → Rel ρ2 (s i).v v → RS w0 ρ2 (SD (fun j => (listed.setIfInBounds i true).getD j false) ops.size) w2 →
            wpAnyIn (fw r0) m0 P .any ops Q fuel (listed.setIfInBounds i true) (a'.put o.dst v) w2 := by
          intro hk5 ρ2 v w2 he2 hr2 hS2
          refine ih _ ρ2 _ w2 (by simpa using hsz) hcnt' hclosed' (hlp' hk5) (he.trans he2) ?_ ?_ (by rw [put_defers]; exact hdf) hS2
          · cases o.dst <;> simp [Act.put, hts]
          · intro t
            have hold : Rel ρ2 (FD (fun j => listed.getD j false) ops.size t) (a'.tmps.getD t undef) := Rel.ext he2 _ _ (hf t)
            by_cases e : o.dst = some t
            · have htop : FD (fun j => (listed.setIfInBounds i true).getD j false) ops.size t = (s i).v := by
                rw [FDtop _ (i + 1) ops.size t (by omega) fun j h1 h2 h3 => ?_, FDs, if_pos]
                · exact ⟨by rw [hset, if_pos rfl], by rw [hdst i o ho]; exact e⟩
                · have hoj : ops[j]? = some ops[j] := Array.getElem?_eq_getElem h2
                  have hdj : ops[j].dst = some t := by rw [← hdst j _ hoj]; exact h3
                  rw [hset, if_neg (by omega)]
                  exact hpost j h2 ((hfact j _ hoj).2.2.1 i o t (by omega) ho e (.inl hdj))
              rw [htop, e]
              have htn := hdlt t e
              have : t < a'.tmps.size := by rw [hts]; exact htn
              simp [Act.put, this, hr2]
            · have hsame : FD (fun j => (listed.setIfInBounds i true).getD j false) ops.size t = FD (fun j => listed.getD j false) ops.size t := by
                refine FDcongr _ _ _ t fun j _ h3 => ?_
                rw [hset, if_neg]
                rintro rfl
                rw [hdst j o ho] at h3
                exact e h3
              rw [hsame]
              have : (a'.put o.dst v).tmps.getD t undef = a'.tmps.getD t undef := by
                cases hq : o.dst with
                | none => rfl
                | some d =>
                  have hne : d ≠ t := by intro h; subst h; exact e hq
                  simp [Act.put, Array.getElem?_setIfInBounds_ne hne]
              rw [this]; exact hold
        have hSDset3 : (s i).k ≠ 3 → SD (fun j => (listed.setIfInBounds i true).getD j false) ops.size = SD (fun j => listed.getD j false) ops.size := by
          intro hk
          refine SDcongr _ _ _ fun j _ h3 => ?_
          rw [hset, if_neg]
          rintro rfl; exact hk h3
        unfold wpOpIn
        simp only [ho]
        rcases hcase with ⟨hkk, hv, _, ⟨hk0, hwa, _⟩ | ⟨hk4, _, _, q, hq, hqp⟩ | ⟨hk5, hwa, hpn, x, S5, hr5, hp5, hacts⟩⟩ | ⟨hk0, hwa, hk3, hk2, r, hr, hrv, hr3, hrn3, hall, _, _, hnpan⟩
        · have hw := wantA_say hFG hgd hwa
          rw [if_neg (by rw [hw]; simp)]
          have hu : Rel ρ' (s i).v undef := by rw [hv]; exact ⟨[], rfl, rfl⟩
          refine ⟨fun _ _ => trivial, ?_⟩
          refine hgo (by omega) ρ' undef w' (Ext.refl _) hu ?_
          rw [hSDset3 (by omega)]; exact hS'
        ·
          exfalso
          cases hfp : stF.pan with
          | none => exact ((Xpan ops.size (Nat.le_refl _)).1 (by rw [← hfin]; exact hfp) i hlt).1 hk4
          | some q' =>
            obtain ⟨p, x, S'⟩ := q'
            have hm := ((Xpan ops.size (Nat.le_refl _)).2 p x S' (by rw [← hfin]; exact hfp)).2.2.2.2.1 i hlt hk4
            have := hpreD p hm
            rw [hlp p x S' hfp] at this; cases this
        ·
          have hw := wantA_say hFG hgd hwa
          rw [if_pos hw]
          cases hfp : stF.pan with
          | none => exact absurd hk5 ((Xpan ops.size (Nat.le_refl _)).1 (by rw [← hfin]; exact hfp) i hlt).2
          | some q' =>
          obtain ⟨p, x', S'⟩ := q'
          obtain ⟨hpl, _, hpa, hp1, _, hp3⟩ := (Xpan ops.size (Nat.le_refl _)).2 p x' S' (by rw [← hfin]; exact hfp)
          obtain rfl := hp1 i hlt hk5
          have h1 : SD (fun j => listed.getD j false) ops.size = (X i).S := by
            rw [SDtop _ i ops.size (by omega) fun j g1 g2 g3 => absurd g3 (hp3 j g1 g2), XS i (by omega)]
            refine SDcongr _ _ i fun j g1 g2 => hpreD j ?_
            have := hacts (s j) (hmem i j g1 (by omega)) g2
            have hoj : ops[j]? = some ops[j] := Array.getElem?_eq_getElem (by omega)
            rwa [(hs j _ hoj).2.2.1] at this
          rw [h1] at hS'
          have hpa' := hpa
          rw [hsop] at hpa'
          refine oper_sound (T := fun p => p = (.pan x', S')) hcall henv (h0.trans he) hFG hS' hcop (by rw [hpa']; rfl) ?_ ?_
          · rintro p' ρ2 v w2 rfl he2 hrel2 hS2
            simp [Rel] at hrel2
          · rintro p' ρ2 y v w2 rfl hy he2 hrel2 hS2
            cases hy
            exact hQP i x' S' hfp ρ2 a' w2 v (he.trans he2) hrel2 hts hdf hS2
        · have hw := wantA_say hFG hgd hwa
          rw [if_pos hw]
          have key : ∃ r', aop (ctxE P kp env) call (s i).F (SD (fun j => listed.getD j false) ops.size) (s i).op = .one r' ∧ r'.1 = (s i).v ∧ r'.2 = SD (fun j => (listed.setIfInBounds i true).getD j false) ops.size := by
            by_cases hact : (s i).k = 3
            ·
              have hback : ∀ j, j < i → (s j).k = 3 → j ∈ pre.getD i [] := by
                intro j hj hkj
                have hm := hmem i j hj (by omega)
                have hoj : ops[j]? = some ops[j] := Array.getElem?_eq_getElem (by omega)
                have := List.all_eq_true.1 hall _ hm
                simp only [dchk, hact, hkj, (hs j _ hoj).2.2.1] at this
                simpa using this
              have hfwd : ∀ j, i < j → j < ops.size → (s j).k = 3 → listed.getD j false = false := by
                intro j hij hj hkj
                have hoj : ops[j]? = some ops[j] := Array.getElem?_eq_getElem hj
                have hm := hmem j i hij (by omega)
                rcases (hs j _ hoj).2.2.2.2.2.2.2 with ⟨h0, _⟩ | ⟨_, _, _, _, rj, _, _, _, _, hallj, _⟩
                · omega
                · have := List.all_eq_true.1 hallj _ hm
                  simp only [dchk, hact, hkj, hsi] at this
                  exact hpost j hj (by simpa using this)
              have h1 : SD (fun j => listed.getD j false) ops.size = (X i).S := by
                rw [SDtop _ i ops.size (by omega) fun j g1 g2 g3 => ?_, XS i (by omega)]
                · exact SDcongr _ _ i fun j g1 g2 => hpreD j (hback j g1 g2)
                · by_cases e : j = i
                  · subst e; exact hunf
                  · exact hfwd j (by omega) g2 g3
              have h2 : SD (fun j => (listed.setIfInBounds i true).getD j false) ops.size = (X (i + 1)).S := by
                rw [SDtop _ (i + 1) ops.size (by omega) fun j g1 g2 g3 => ?_, SDs, if_pos ⟨by rw [hset, if_pos rfl], hact⟩]
                rw [hset, if_neg (by omega)]
                exact hfwd j (by omega) g2 g3
              exact ⟨r, by rw [h1]; exact hr, hrv, by rw [h2, hr3 hact]⟩
            · have hna : (s i).op.acts = false := by
                cases hq : (s i).op.acts with
                | false => rfl
                | true => exact absurd (hk3.2 hq) hact
              rw [hSDset3 hact]
              by_cases hread : (s i).k = 2
              · obtain ⟨_, hrd⟩ := hk2.1 hread
                have fin : ∀ S', (∃ r', aop (ctxE P kp env) (fun _ _ _ => .no) (s i).F S' (s i).op = .one r' ∧ r'.1 = (s i).v) → SD (fun j => listed.getD j false) ops.size = S' →
                    ∃ r', aop (ctxE P kp env) call (s i).F (SD (fun j => listed.getD j false) ops.size) (s i).op = .one r' ∧ r'.1 = (s i).v ∧ r'.2 = SD (fun j => listed.getD j false) ops.size := by
                  rintro S' ⟨r', h1, h2⟩ rfl
                  have h1' : aop (ctxE P kp env) call (s i).F (SD (fun j => listed.getD j false) ops.size) (s i).op = .one r' := by rw [call_indep hrd (call' := fun _ _ _ => .no)]; exact h1
                  exact ⟨r', h1', h2, noact_state hna h1'⟩
                have hhere : ∃ r', aop (ctxE P kp env) (fun _ _ _ => .no) (s i).F (X i).S (s i).op = .one r' ∧ r'.1 = (s i).v := ⟨r, by rw [call_indep hrd (call' := call)]; exact hr, hrv⟩
                have hlast : (∀ j, j < ops.size → (s j).k = 3 → listed.getD j false = false) ∨ ∃ e, e < ops.size ∧ (s e).k = 3 ∧ listed.getD e false = true ∧ ∀ j, e < j → j < ops.size → (s j).k = 3 → listed.getD j false = false := by
                  have : ∀ m, m ≤ ops.size → (∀ j, j < m → (s j).k = 3 → listed.getD j false = false) ∨ ∃ e, e < m ∧ (s e).k = 3 ∧ listed.getD e false = true ∧ ∀ j, e < j → j < m → (s j).k = 3 → listed.getD j false = false := by
                    intro m
                    induction m with
                    | zero => intro _; exact .inl fun j hj => by omega
                    | succ m ihm =>
                      intro hm
                      by_cases hk : (s m).k = 3 ∧ listed.getD m false = true
                      · exact .inr ⟨m, by omega, hk.1, hk.2, fun j h1 h2 => by omega⟩
                      · rcases ihm (by omega) with h | ⟨e, h1, h2, h3, h4⟩
                        · refine .inl fun j hj hkj => ?_
                          by_cases e : j = m
                          · subst e
                            cases hq : listed.getD j false with
                            | false => rfl
                            | true => exact absurd ⟨hkj, hq⟩ hk
                          · exact h j (by omega) hkj
                        · refine .inr ⟨e, by omega, h2, h3, fun j g1 g2 g3 => ?_⟩
                          by_cases ej : j = m
                          · subst ej
                            cases hq : listed.getD j false with
                            | false => rfl
                            | true => exact absurd ⟨g3, hq⟩ hk
                          · exact h4 j g1 (by omega) g3
                  exact this ops.size (Nat.le_refl _)
                have hgap : ∀ lo, lo ≤ i → (∀ j, lo ≤ j → j < ops.size → (s j).k = 3 → listed.getD j false = false) → ∃ r', aop (ctxE P kp env) (fun _ _ _ => .no) (s i).F (X lo).S (s i).op = .one r' ∧ r'.1 = (s i).v := by
                  intro lo hlo hno
                  have hfirst : (∀ j, lo ≤ j → j < i → (s j).k ≠ 3) ∨ ∃ j, lo ≤ j ∧ j < i ∧ (s j).k = 3 ∧ ∀ l, lo ≤ l → l < j → (s l).k ≠ 3 := by
                    have : ∀ m, m ≤ i → (∀ j, lo ≤ j → j < m → (s j).k ≠ 3) ∨ ∃ j, lo ≤ j ∧ j < m ∧ (s j).k = 3 ∧ ∀ l, lo ≤ l → l < j → (s l).k ≠ 3 := by
                      intro m
                      induction m with
                      | zero => intro _; exact .inl fun j _ hj => by omega
                      | succ m ihm =>
                        intro hm
                        rcases ihm (by omega) with h | ⟨j, h1, h2, h3, h4⟩
                        · by_cases hk : lo ≤ m ∧ (s m).k = 3
                          · exact .inr ⟨m, hk.1, by omega, hk.2, fun l g1 g2 => h l g1 g2⟩
                          · refine .inl fun j g1 g2 => ?_
                            by_cases e : j = m
                            · subst e; exact fun hkk => hk ⟨g1, hkk⟩
                            · exact h j g1 (by omega)
                        · exact .inr ⟨j, h1, by omega, h3, h4⟩
                    exact this i (Nat.le_refl _)
                  rcases hfirst with h | ⟨j, h1, h2, h3, h4⟩
                  · rw [← Xrun lo i hlo (by omega) h]; exact hhere
                  · have hm := hmem i j h2 (by omega)
                    have hoj : ops[j]? = some ops[j] := Array.getElem?_eq_getElem (by omega)
                    have hck := List.all_eq_true.1 hall _ hm
                    simp only [dchk, hread, h3, (hs j _ hoj).2.2.1, (hs j _ hoj).2.2.2.2.2.1, Bool.or_eq_true] at hck
                    have hnp : ¬ j ∈ pre.getD i [] := by
                      intro hp
                      have := hpreD j hp
                      rw [hno j h1 (by omega) h3] at this; cases this
                    rcases hck with hck | hck
                    · exact absurd (by simpa using hck) hnp
                    · rw [← Xrun lo j h1 (by omega) h4]; exact readsSame_say hck
                rcases hlast with h | ⟨e, h1, h2, h3, h4⟩
                · refine fin (X 0).S (hgap 0 (Nat.zero_le _) fun j _ => h j) ?_
                  rw [SDtop _ 0 ops.size (Nat.zero_le _) fun j _ g2 g3 => h j g2 g3, SD0, hX0]
                · have hSDe : SD (fun j => listed.getD j false) ops.size = (X (e + 1)).S := by
                    rw [SDtop _ (e + 1) ops.size (by omega) fun j g1 g2 g3 => h4 j (by omega) g2 g3, SDs, if_pos ⟨h3, h2⟩]
                  by_cases hei : e < i
                  · exact fin _ (hgap (e + 1) (by omega) fun j g1 g2 g3 => h4 j (by omega) g2 g3) hSDe
                  · have hne : e ≠ i := by intro hh; subst hh; rw [hunf] at h3; cases h3
                    refine fin _ ?_ hSDe
                    have hm := hmem e i (by omega) (by omega)
                    have hoe : ops[e]? = some ops[e] := Array.getElem?_eq_getElem h1
                    have hnp : ¬ i ∈ pre.getD e [] := by
                      intro hp
                      have := hpost e h1 hp
                      rw [h3] at this; cases this
                    rcases (hs e _ hoe).2.2.2.2.2.2.2 with ⟨h0, _⟩ | ⟨_, _, _, _, re, _, _, hre3, _, halle, _⟩
                    · omega
                    · have hck := List.all_eq_true.1 halle _ hm
                      simp only [dchk, hread, h2, hsi, Bool.or_eq_true] at hck
                      rcases hck with hck | hck
                      · exact absurd (by simpa using hck) hnp
                      · rw [hre3 h2]; exact readsSame_say hck
              · have hnr : (s i).op.reads = false := by
                  cases hq : (s i).op.reads with
                  | false => rfl
                  | true => exact absurd (hk2.2 ⟨hna, hq⟩) hread
                have := pure_indep (S' := SD (fun j => listed.getD j false) ops.size) hna hnr hr
                exact ⟨_, this, hrv, rfl⟩
          obtain ⟨r', hr', hrv', hrs'⟩ := key
          rw [hsop] at hr'
          refine oper_sound (T := fun p => p = r') hcall henv (h0.trans he) hFG hS' hcop (by rw [hr']; rfl) ?_ ?_
          · rintro p ρ2 v w2 rfl he2 hrel2 hS2
            rw [hrv'] at hrel2
            rw [hrs'] at hS2
            exact hgo hk0.2.2 ρ2 v w2 he2 hrel2 hS2
          · rintro p ρ2 y v w2 rfl hy _ _ _
            rw [hrv'] at hy
            exact absurd hy (hnpan y)
  refine main ops.size (Array.replicate ops.size false) ρ a w (by simp) ?_ ?_ (fun p _ _ _ => by by_cases h : p < ops.size <;> simp [h]) (Ext.refl _) hF.size ?_ hd ?_
  · exact Nat.le_trans (List.countP_le_length) (by simp)
  · intro i hi h
    simp [hi] at h
  · intro t
    rw [FDtop _ 0 ops.size t (Nat.zero_le _) fun j _ hj _ => by simp [hj], FD0]
    exact hF.get t
  · rw [SDtop _ 0 ops.size (Nat.zero_le _) fun j _ hj _ => by simp [hj], SD0]
    exact hS
end
end Go.Proofs.Ytednmmcdjhfflaa.Vai
