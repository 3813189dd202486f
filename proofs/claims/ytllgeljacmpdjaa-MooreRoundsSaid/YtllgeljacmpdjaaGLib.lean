/- The reference's small functions, as printed: what they answer. -/
import Derived.Test.YtllgeljacmpdjaaGRch
import Derived.Test.YtllgeljacmpdjaaPTrimxs
import Derived.Test.YtllgeljacmpdjaaPTrimxf30
import Derived.KernelRfl
namespace Go.Proofs.Ytllgeljacmpdjaa.PTrim
open Go.RowKit Go.Proofs.YtllgeljacmpdjaaW.PrintWords Go.Proofs.YtllgeljacmpdjaaW.PrintLast Go.Proofs.YtllgeljacmpdjaaW.PrintMore Go.Proofs.Ytllgeljacmpdjaa.Bfs
set_option linter.unusedVariables false
set_option linter.unusedSimpArgs false

theorem drop_at {l : List Int} {i : Nat} (h : i < l.length) : l.drop i = rd l (i : Int) :: l.drop (i + 1) := by
  rw [List.drop_eq_getElem_cons h, rd_getElem h]

theorem same_l0 {a b : List Int} (hl : a.length = b.length) (ha : a.length ≤ maxLen) : ∀ (n i : Nat), a.length - i = n → Ev (fun k => tutorref01_Same.l0 k a b (i : Int)) (decide (a.drop i = b.drop i))
  | 0, i, hn => by
    refine Ev.step (f := fun _ => some (decide (a.drop i = b.drop i))) (fun k => ?_) (Ev.now _)
    simp only [tutorref01_Same.l0]
    rw [if_neg (by omega), List.drop_eq_nil_of_le (by omega), List.drop_eq_nil_of_le (by omega)]
    rfl
  | n + 1, i, hn => by
    have hi : i < a.length := by omega
    have ih := same_l0 hl ha n (i + 1) (by omega)
    rw [drop_at hi, drop_at (by omega : i < b.length)]
    by_cases e : rd a (i : Int) = rd b (i : Int)
    · have e2 : decide (rd a (i : Int) :: a.drop (i + 1) = rd b (i : Int) :: b.drop (i + 1)) = decide (a.drop (i + 1) = b.drop (i + 1)) := by rw [e]; simp
      rw [e2]
      refine Ev.step (fun k => ?_) ih
      simp only [tutorref01_Same.l0]
      unfold maxLen at ha
      rw [if_pos (by omega), if_pos (by omega), if_pos (by omega), if_pos e, step1 (by omega)]
    · have e2 : decide (rd a (i : Int) :: a.drop (i + 1) = rd b (i : Int) :: b.drop (i + 1)) = false := decide_eq_false (fun h => e (by injection h))
      rw [e2]
      refine Ev.step (f := fun _ => some false) (fun k => ?_) (Ev.now _)
      simp only [tutorref01_Same.l0]
      rw [if_pos (by omega), if_pos (by omega), if_pos (by omega), if_neg e]
theorem same_ev {a b : List Int} (ha : a.length ≤ maxLen) : Ev (fun k => tutorref01_Same.f k a b) (decide (a = b)) := by
  unfold tutorref01_Same.f
  by_cases e : a.length = b.length
  · refine Ev.pos (by omega) ?_
    have := same_l0 e ha a.length 0 rfl
    simpa using this
  · refine Ev.neg (by omega) ?_
    rw [decide_eq_false (fun h => e (by rw [h]))]
    exact Ev.now _

/-! ### a run -/
def mealy (nx ox : Int → Int → Int) : Int → List Int → List Int
  | _, [] => []
  | s, x :: w => ox s x :: mealy nx ox (nx s x) w
def goOut (a0 a1 : Int) (l4 l5 : List Int) (s : Int) (w : List Int) : List Int :=
  if a0 = 1 then [rd l5 (runTo (nxM a1 l4) s w)] else mealy (nxM a1 l4) (nxM a1 l5) s w

section
variable {a0 a1 a2 a3 : Int} {l4 l5 : List Int}
theorem RightM.runs (hM : RightM a0 a1 a2 a3 l4 l5) : ∀ (w : List Int) (s : Int), 0 ≤ s → s < a3 → InR w a1 → 0 ≤ runTo (nxM a1 l4) s w ∧ runTo (nxM a1 l4) s w < a3
  | [], s, h0, h1, _ => ⟨h0, h1⟩
  | x :: w, s, h0, h1, hw => by
    have hx := hw x (by simp)
    have hs := hM.step h0 h1 hx.1 hx.2
    exact hM.runs w _ hs.1 hs.2 (fun y hy => hw y (List.mem_cons_of_mem _ hy))

theorem go_l0 (hM : RightM a0 a1 a2 a3 l4 l5) {w : List Int} (hw : InR w a1) (hl : w.length ≤ 4096) : ∀ (n i : Nat) (s : Int) (acc : List Int), w.length - i = n → 0 ≤ s → s < a3 → acc.length + n ≤ 4096 →
    Ev (fun k => tutorref03_Go.l0 k s w acc (i : Int) a0 a1 a2 a3 l4 l5) (runTo (nxM a1 l4) s (w.drop i), if a0 = 1 then [rd l5 (runTo (nxM a1 l4) s (w.drop i))] else acc ++ mealy (nxM a1 l4) (nxM a1 l5) s (w.drop i))
  | 0, i, s, acc, hn, h0, h1, hacc => by
    rw [List.drop_eq_nil_of_le (by omega)]
    rcases hM.kind with hk | hk
    · refine Ev.step (f := fun _ => some (s, [rd l5 s])) (fun k => ?_) (by rw [if_pos hk]; exact Ev.now _)
      simp only [tutorref03_Go.l0]
      have ho := hM.out
      rw [if_pos hk] at ho
      rw [if_neg (by omega), if_pos hk, if_pos h0, if_pos (by omega)]
    · refine Ev.step (f := fun _ => some (s, acc)) (fun k => ?_) (by rw [if_neg (by omega)]; simp only [mealy, List.append_nil]; exact Ev.now _)
      simp only [tutorref03_Go.l0]
      rw [if_neg (by omega), if_neg (by omega)]
  | n + 1, i, s, acc, hn, h0, h1, hacc => by
    have hi : i < w.length := by omega
    have hx := hw _ (rd_mem (l := w) (i := (i : Int)) (by omega) (by omega))
    obtain ⟨p0, p1, p2⟩ := hM.place h0 h1 hx.1 hx.2
    have hs := hM.step h0 h1 hx.1 hx.2
    have et : rd l4 (s * a1 + rd w (i : Int)) = nxM a1 l4 s (rd w (i : Int)) := rfl
    have eo : rd l5 (s * a1 + rd w (i : Int)) = nxM a1 l5 s (rd w (i : Int)) := rfl
    rw [drop_at hi]
    rcases hM.kind with hk | hk
    · have ih := go_l0 hM hw hl n (i + 1) (nxM a1 l4 s (rd w (i : Int))) acc (by omega) hs.1 hs.2 (by omega)
      rw [if_pos hk] at ih ⊢
      refine Ev.step (fun k => ?_) ih
      simp only [tutorref03_Go.l0]
      rw [if_pos (by omega), if_neg (by omega), if_pos (by omega), p2, if_pos p0, if_pos p1, et, step1 (by omega)]
    · have ih := go_l0 hM hw hl n (i + 1) (nxM a1 l4 s (rd w (i : Int))) (acc ++ [nxM a1 l5 s (rd w (i : Int))]) (by omega) hs.1 hs.2 (by simp; omega)
      rw [if_neg (by omega)] at ih ⊢
      have ho := hM.out
      rw [if_neg (by omega)] at ho
      have hn4 := hM.next
      simp only [mealy]
      rw [List.append_assoc] at ih
      refine Ev.step (fun k => ?_) ih
      simp only [tutorref03_Go.l0]
      rw [if_pos (by omega), if_pos hk, if_pos (by omega), p2, if_pos p0, if_pos (by omega), if_pos (by omega), if_pos p1, et, eo, step1 (by omega)]

theorem go_ev (hM : RightM a0 a1 a2 a3 l4 l5) {w : List Int} (hw : InR w a1) (hl : w.length ≤ 4096) {s : Int} (h0 : 0 ≤ s) (h1 : s < a3) :
    Ev (fun k => tutorref03_Go.f k a0 a1 a2 a3 l4 l5 s w) (runTo (nxM a1 l4) s w, goOut a0 a1 l4 l5 s w) := by
  have := go_l0 hM hw hl w.length 0 s [] rfl h0 h1 (by simpa using hl)
  simpa [goOut, tutorref03_Go.f] using this
end
end Go.Proofs.Ytllgeljacmpdjaa.PTrim
