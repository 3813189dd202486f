/- The reference's pick, as printed: the rows of the states that it is handed. -/
import Derived.Test.YtllgeljacmpdjaaGCan
import Derived.Test.YtllgeljacmpdjaaPTrimxf49
namespace Go.Proofs.Ytllgeljacmpdjaa.PTrim
open Go.RowKit Go.Proofs.YtllgeljacmpdjaaW.PrintWords Go.Proofs.YtllgeljacmpdjaaW.PrintLast Go.Proofs.YtllgeljacmpdjaaW.PrintMore Go.Proofs.Ytllgeljacmpdjaa.Bfs
set_option linter.unusedVariables false
set_option linter.unusedSimpArgs false

section
variable {a0 a1 a2 a3 : Int} {l4 l5 : List Int} (hM : RightM a0 a1 a2 a3 l4 l5)
include hM

/-- what is still to come of a state's entries of Out, from symbol q on -/
def outFrom (a0 a1 : Int) (l5 : List Int) (s : Int) (q : Nat) : List Int := if a0 = 2 then (sl l5 s a1).drop q else sl l5 s 1

theorem outFrom_zero (s : Int) : outFrom a0 a1 l5 s 0 = sl l5 s (eachM a0 a1) := by
  unfold outFrom eachM
  rcases hM.kind with h | h
  · rw [if_neg (by omega), if_pos h]
  · rw [if_pos h, if_neg (by omega)]; rfl

theorem pick_l1 {S pl : List Int} (hpl : pl.length = a3.toNat) {s : Int} {i : Nat} (hs : 0 ≤ s) (hs1 : s < a3) {o0 o1 o2 o3 : Int} {r : Int × Int × Int × Int × List Int × List Int} :
    ∀ (n q : Nat) (nxt out : List Int), (q : Int) + n = a1 → nxt.length + n ≤ 100000 → out.length + n ≤ 100000 →
      Ev (fun k => tutorref04_pick.l0 k S pl (wrap64 ((i : Int) + 1)) a0 a1 a2 a3 l4 l5 o0 o1 o2 o3 (nxt ++ ((sl l4 s a1).drop q).map (rd pl)) (out ++ outFrom a0 a1 l5 s q)) r →
      Ev (fun k => tutorref04_pick.l1 k S pl (i : Int) s (q : Int) a0 a1 a2 a3 l4 l5 o0 o1 o2 o3 nxt out) r
  | 0, q, nxt, out, hn, h1, h2, h => by
    have hk1 := hM.k1
    have hN := hM.n1024
    obtain ⟨_, _, _, _, _, v2⟩ := row_bd hM (l := l4) hs hs1 hk1 hM.k64 hM.next
    have hl4 := sl_len (l := l4) hs (by omega) v2
    rw [List.drop_eq_nil_of_le (by omega), List.map_nil, List.append_nil] at h
    have ho := hM.out
    refine Ev.succ ?_
    simp only [tutorref04_pick.l1]
    refine Ev.neg (by omega) ?_
    rcases hM.kind with hk | hk
    · refine Ev.pos hk ?_
      rw [if_pos hk] at ho
      refine Ev.pos hs ?_
      refine Ev.pos (by omega) ?_
      refine Ev.pos (by omega) ?_
      have e : outFrom a0 a1 l5 s q = [rd l5 s] := by
        unfold outFrom
        rw [if_neg (by omega)]
        have hl := sl_len (l := l5) (n := 1) hs (by omega) (by omega)
        have hg := sl_get (l := l5) (n := 1) hs (by omega) (x := 0) (by decide)
        match hsl : sl l5 s 1, hl with
        | [y], _ =>
          rw [hsl] at hg
          simp at hg
          rw [hg]
      rw [e] at h
      exact h
    · refine Ev.neg (by omega) ?_
      have e : outFrom a0 a1 l5 s q = [] := by
        unfold outFrom
        rw [if_pos hk]
        rw [if_neg (by omega)] at ho
        obtain ⟨_, _, _, _, _, w2⟩ := row_bd hM (l := l5) hs hs1 hk1 hM.k64 ho
        have hl5 := sl_len (l := l5) hs (by omega) w2
        exact List.drop_eq_nil_of_le (by omega)
      rw [e, List.append_nil] at h
      exact h
  | n + 1, q, nxt, out, hn, h1, h2, h => by
    have hk1 := hM.k1
    have hk64 := hM.k64
    have hN := hM.n1024
    obtain ⟨_, _, _, _, _, v2⟩ := row_bd hM (l := l4) hs hs1 hk1 hk64 hM.next
    have hl4 := sl_len (l := l4) hs (by omega) v2
    have eg := sl_get (l := l4) hs (by omega : 0 ≤ a1) (x := q) (by omega)
    obtain ⟨p0, p1, p2⟩ := hM.place hs hs1 (x := (q : Int)) (by omega) (by omega)
    have hst := hM.step hs hs1 (x := (q : Int)) (by omega) (by omega)
    have et : rd l4 (s * a1 + (q : Int)) = nxM a1 l4 s q := rfl
    have ho := hM.out
    have hnx := hM.next
    rw [drop_at (by omega), List.map_cons, rd_nat, eg, et] at h
    refine Ev.succ ?_
    simp only [tutorref04_pick.l1]
    rw [p2, step1 (i := q) (by omega), et]
    refine Ev.pos (by omega) ?_
    refine Ev.pos p0 ?_
    refine Ev.pos p1 ?_
    refine Ev.pos hst.1 ?_
    refine Ev.pos (by omega) ?_
    refine Ev.pos (by omega) ?_
    refine Ev.bind (Ev.now _) ?_
    rcases hM.kind with hk | hk
    · refine Ev.neg (by omega) ?_
      refine pick_l1 hpl hs hs1 n (q + 1) _ out (by omega) (by simp; omega) (by omega) ?_
      have e : outFrom a0 a1 l5 s (q + 1) = outFrom a0 a1 l5 s q := by
        unfold outFrom
        rw [if_neg (by omega), if_neg (by omega)]
      rw [e]
      simpa using h
    · refine Ev.pos hk ?_
      rw [if_neg (by omega)] at ho
      obtain ⟨_, _, _, _, _, w2⟩ := row_bd hM (l := l5) hs hs1 hk1 hk64 ho
      have hl5 := sl_len (l := l5) hs (by omega) w2
      have eg5 := sl_get (l := l5) hs (by omega : 0 ≤ a1) (x := q) (by omega)
      have e : outFrom a0 a1 l5 s q = rd l5 (s * a1 + (q : Int)) :: outFrom a0 a1 l5 s (q + 1) := by
        unfold outFrom
        rw [if_pos hk, if_pos hk, drop_at (by omega), rd_nat, eg5]
      rw [e] at h
      refine Ev.pos (by omega) ?_
      refine Ev.pos (by omega) ?_
      refine pick_l1 hpl hs hs1 n (q + 1) _ _ (by omega) (by simp; omega) (by simp; omega) ?_
      simpa using h

theorem pick_l0 {S pl : List Int} (hpl : pl.length = a3.toNat) (hS : ∀ j, j < S.length → 0 ≤ S.getD j 0 ∧ S.getD j 0 < a3) (hSl : S.length ≤ 1024) {o0 o1 o2 o3 : Int} :
    ∀ (n i : Nat) (nxt out : List Int), i + n = S.length → nxt.length + n * 64 ≤ 70000 → out.length + n * 64 ≤ 70000 →
      Ev (fun k => tutorref04_pick.l0 k S pl (i : Int) a0 a1 a2 a3 l4 l5 o0 o1 o2 o3 nxt out)
        (o0, o1, o2, o3, nxt ++ (S.drop i).flatMap (fun s => (sl l4 s a1).map (rd pl)), out ++ (S.drop i).flatMap (fun s => sl l5 s (eachM a0 a1)))
  | 0, i, nxt, out, hn, _, _ => by
    rw [List.drop_eq_nil_of_le (by omega)]
    simp only [List.flatMap_nil, List.append_nil]
    refine Ev.succ ?_
    simp only [tutorref04_pick.l0]
    refine Ev.neg (by omega) ?_
    exact Ev.now _
  | n + 1, i, nxt, out, hn, hx, ho => by
    have hi : i < S.length := by omega
    have hr := hS i hi
    have hk1 := hM.k1
    have hk64 := hM.k64
    have hb := each_bd hM
    obtain ⟨_, _, _, _, _, g2⟩ := row_bd hM (l := l4) hr.1 hr.2 hk1 hk64 hM.next
    obtain ⟨_, _, _, _, _, v2⟩ := row_bd hM (l := l5) hr.1 hr.2 hb.1 hb.2 (each_len hM)
    have hl4 := sl_len (l := l4) hr.1 (by omega) g2
    have hl5 := sl_len (l := l5) hr.1 (by omega) v2
    have ih := pick_l0 hpl hS hSl (o0 := o0) (o1 := o1) (o2 := o2) (o3 := o3) n (i + 1) (nxt ++ (sl l4 (S.getD i 0) a1).map (rd pl)) (out ++ sl l5 (S.getD i 0) (eachM a0 a1)) (by omega)
      (by rw [List.length_append, List.length_map, hl4]; omega) (by rw [List.length_append, hl5]; omega)
    rw [drop_at hi, rd_nat]
    simp only [List.flatMap_cons]
    rw [← List.append_assoc, ← List.append_assoc]
    refine Ev.succ ?_
    simp only [tutorref04_pick.l0]
    rw [rd_nat]
    refine Ev.pos (by omega) ?_
    refine Ev.pos (by omega) ?_
    refine pick_l1 hM (S := S) hpl hr.1 hr.2 a1.toNat 0 nxt out (by omega) (by omega) (by omega) ?_
    rw [List.drop_zero, outFrom_zero hM, step1 (by omega)]
    exact ih

theorem pick_ev {S pl : List Int} (hpl : pl.length = a3.toNat) (hS : ∀ j, j < S.length → 0 ≤ S.getD j 0 ∧ S.getD j 0 < a3) (hSl : S.length ≤ 1024) :
    Ev (fun k => tutorref04_pick.f k a0 a1 a2 a3 l4 l5 S pl) (a0, a1, a2, (S.length : Int), S.flatMap (fun s => (sl l4 s a1).map (rd pl)), S.flatMap (fun s => sl l5 s (eachM a0 a1))) := by
  have := pick_l0 hM hpl hS hSl (o0 := a0) (o1 := a1) (o2 := a2) (o3 := (S.length : Int)) S.length 0 [] [] (by omega) (by simp; omega) (by simp; omega)
  simpa [tutorref04_pick.f] using this
end
end Go.Proofs.Ytllgeljacmpdjaa.PTrim
