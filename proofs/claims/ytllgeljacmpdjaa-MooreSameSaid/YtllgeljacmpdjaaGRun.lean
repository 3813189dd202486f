/- The reference's Run and Right of a right machine: what they answer. -/
import Derived.Test.YtllgeljacmpdjaaGLib
import Derived.Test.YtllgeljacmpdjaaGRChk
import Derived.Test.YtllgeljacmpdjaaPTrimxf50
import Derived.Test.YtllgeljacmpdjaaPTrimxf27
import Derived.Test.YtllgeljacmpdjaaPTrimxf28
namespace Go.Proofs.Ytllgeljacmpdjaa.PTrim
open Go.RowKit Go.Proofs.YtllgeljacmpdjaaW.PrintWords Go.Proofs.YtllgeljacmpdjaaW.PrintLast Go.Proofs.YtllgeljacmpdjaaW.PrintMore Go.Proofs.Ytllgeljacmpdjaa.Bfs
set_option linter.unusedVariables false

def runAns (a0 a1 : Int) (l4 l5 w : List Int) : List Int × Int := if 0 ≤ badFrom a1 w 0 then ([], 10) else (goOut a0 a1 l4 l5 0 w, 0)

section
variable {a0 a1 a2 a3 : Int} {l4 l5 : List Int}
theorem RightM.lens (hM : RightM a0 a1 a2 a3 l4 l5) : l4.length ≤ maxLen ∧ l5.length ≤ maxLen := by
  have h := hM.next
  have h2 := hM.out
  have h3 := hM.n1
  have h4 := hM.n1024
  have h5 := hM.k1
  have h6 := hM.k64
  have b := mul_bd (a := a3) (b := a1) (A := 1024) (B := 64) (by omega) (by omega) h4 h6
  unfold maxLen
  split at h2 <;> omega
theorem rcheck_right (hM : RightM a0 a1 a2 a3 l4 l5) : ∃ at_, Ev (fun k => tutorref03_Check.f k a0 a1 a2 a3 l4 l5) (at_, 0) := by
  obtain ⟨at_, h⟩ := rcheck_ev a0 a1 a2 a3 hM.lens.1 hM.lens.2
  rw [errM_zero.mpr hM] at h
  exact ⟨at_, h⟩
theorem right_ev (hM : RightM a0 a1 a2 a3 l4 l5) : Ev (fun k => tutorref03_Right.f k a0 a1 a2 a3 l4 l5) true := by
  obtain ⟨at_, h⟩ := rcheck_right hM
  exact Ev.bind h (Ev.now _)
theorem run_ev (hM : RightM a0 a1 a2 a3 l4 l5) {w : List Int} (hl : w.length ≤ 4096) : Ev (fun k => tutorref03_Run.f k a0 a1 a2 a3 l4 l5 w) (runAns a0 a1 l4 l5 w) := by
  obtain ⟨at_, h⟩ := rcheck_right hM
  obtain ⟨at2, hc⟩ := wcheck_ev (l := w) (n := a1) hM.k1 hM.k64 hl
  have h1 := hM.n1
  have hf : Ev (fun k => tutorref03_From.f k a0 a1 a2 a3 l4 l5 0 w) (if 0 ≤ badFrom a1 w 0 then (0, [], 10) else (runTo (nxM a1 l4) 0 w, goOut a0 a1 l4 l5 0 w, 0)) := by
    refine Ev.bind h ?_
    refine Ev.pos rfl ?_
    refine Ev.neg (by decide) ?_
    rw [show decide ((0 : Int) ≥ a3) = false from decide_eq_false (by omega)]
    refine Ev.succ ?_
    simp only [tutorref03_From.j0]
    refine Ev.neg (by decide) ?_
    refine Ev.bind hc ?_
    by_cases hb : 0 ≤ badFrom a1 w 0
    · rw [if_pos hb, if_pos hb]
      exact Ev.neg (show ¬ (10 : Int) = 0 by decide) (Ev.now _)
    · rw [if_neg hb, if_neg hb]
      refine Ev.pos rfl ?_
      exact Ev.bind (go_ev hM (badFrom_neg (i := 0) |>.mp (by omega)) hl (s := 0) (by omega) (by omega)) (Ev.now _)
  unfold runAns
  by_cases hb : 0 ≤ badFrom a1 w 0
  · rw [if_pos hb] at hf ⊢
    exact Ev.bind hf (Ev.now _)
  · rw [if_neg hb] at hf ⊢
    exact Ev.bind hf (Ev.now _)
end

theorem mealy_len (nx ox : Int → Int → Int) : ∀ (w : List Int) (s : Int), (mealy nx ox s w).length = w.length
  | [], _ => rfl
  | x :: w, s => by simp [mealy, mealy_len nx ox w]
theorem goOut_len (a0 a1 : Int) (l4 l5 : List Int) (s : Int) (w : List Int) : (goOut a0 a1 l4 l5 s w).length ≤ w.length + 1 := by
  unfold goOut
  split
  · simp
  · rw [mealy_len]; omega
end Go.Proofs.Ytllgeljacmpdjaa.PTrim
