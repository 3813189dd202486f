/- The law TrimReaches, of the printed functions: Reach answers what the document's Reach does; what it answers is memory of its own; the machine stays. -/
import Derived.Test.YtllgeljacmpdjaaPTrimxf3
import Derived.Test.YtllgeljacmpdjaaGRRch
import Derived.Test.YtllgeljacmpdjaaGLib
namespace Go.Proofs.Ytllgeljacmpdjaa.Pure
open Go.RowKit Go.Proofs.Ytllgeljacmpdjaa.PTrim Go.Proofs.YtllgeljacmpdjaaW.PrintWords Go.Proofs.YtllgeljacmpdjaaW.PrintLast Go.Proofs.Ytllgeljacmpdjaa.Bfs
set_option linter.unusedVariables false

theorem big_no {a0 a1 a2 a3 : Int} {l4 l5 : List Int} {b : Bool} (h : tutorref03_Big.f a0 a1 a2 a3 l4 l5 300 = some b) (hb : ¬ b = true) : a3 ≤ 300 ∧ l4.length ≤ 70000 ∧ l5.length ≤ 70000 := by
  unfold tutorref03_Big.f at h
  split at h
  · injection h with h; exact absurd h.symm hb
  · split at h
    · injection h with h; exact absurd h.symm hb
    · injection h with h
      have : ¬ (l5.length : Int) > 70000 := fun hh => hb (by rw [← h]; exact decide_eq_true hh)
      omega
theorem copy_ev (a0 a1 a2 a3 : Int) {l4 l5 : List Int} (h4 : l4.length ≤ 70000) (h5 : l5.length ≤ 70000) : Ev (fun _ => tutorref03_Copy.f a0 a1 a2 a3 l4 l5) (a0, a1, a2, a3, l4, l5) := by
  unfold tutorref03_Copy.f
  refine Ev.bind (Ev.now _) ?_
  refine Ev.pos (by simp only [List.length_nil]; omega) ?_
  refine Ev.bind (Ev.now _) ?_
  refine Ev.pos (by simp only [List.length_nil]; omega) ?_
  exact Ev.now _
theorem same3_ev (a0 a1 a2 a3 : Int) {l4 l5 : List Int} (h4 : l4.length ≤ maxLen) (h5 : l5.length ≤ maxLen) : Ev (fun k => tutorref03_Same.f k a0 a1 a2 a3 l4 l5 a0 a1 a2 a3 l4 l5) true := by
  have e4 := same_ev (a := l4) (b := l4) h4
  have e5 := same_ev (a := l5) (b := l5) h5
  rw [decide_eq_true rfl] at e4 e5
  unfold tutorref03_Same.f
  refine Ev.pos rfl ?_
  refine Ev.pos rfl ?_
  refine Ev.pos rfl ?_
  refine Ev.pos rfl ?_
  refine Ev.bind e4 ?_
  refine Ev.pos rfl ?_
  exact Ev.bind e5 (Ev.now _)
theorem apart_ev {l : List (List Int)} (h : ∀ r ∈ l, r.length ≤ 70000) : Ev (fun _ => tutorref01_Apart.f l) true := by
  unfold tutorref01_Apart.f
  exact Ev.pos (fun r hr => by have := h r hr; omega) (Ev.now _)
theorem getL_mem {l : List (List Int)} {i : Nat} (h : i < l.length) : l.getD i [] ∈ l := by
  rw [List.getD_eq_getElem?_getD, List.getElem?_eq_getElem h]; exact List.getElem_mem h
theorem lists_l0 {l : List (List Int)} (hl : l.length ≤ 70000) (h : ∀ r ∈ l, r.length ≤ 70000) : ∀ (n i : Nat), l.length - i = n → Ev (fun k => tutorref01_Lists.l0 k l l (i : Int)) true
  | 0, i, hn => by
    refine Ev.step (f := fun _ => some true) (fun k => ?_) (Ev.now _)
    simp only [tutorref01_Lists.l0]
    rw [if_neg (by omega)]
  | n + 1, i, hn => by
    have hi : i < l.length := by omega
    have hse := same_ev (a := l.getD i []) (b := l.getD i []) (by have := h _ (getL_mem hi); unfold maxLen; omega)
    rw [decide_eq_true rfl] at hse
    refine Ev.succ ?_
    simp only [tutorref01_Lists.l0]
    rw [rdL_nat]
    refine Ev.pos (by omega) ?_
    refine Ev.pos (by omega) ?_
    refine Ev.pos (by omega) ?_
    refine Ev.bind hse ?_
    refine Ev.pos rfl ?_
    rw [step1 (by omega)]
    exact lists_l0 hl h n (i + 1) (by omega)
theorem lists_ev {l : List (List Int)} (hl : l.length ≤ 70000) (h : ∀ r ∈ l, r.length ≤ 70000) : Ev (fun k => tutorref01_Lists.f k l l) true := by
  unfold tutorref01_Lists.f
  refine Ev.pos rfl ?_
  simpa using lists_l0 hl h l.length 0 rfl

theorem TrimReaches : ∀ (a0_0 a0_1 a0_2 a0_3 : Int) (l0_4 l0_5 : List Int), (Lit.int .i64 a0_0).wf = true → (Lit.int .i64 a0_1).wf = true → (Lit.int .i64 a0_2).wf = true → (Lit.int .i64 a0_3).wf = true → l0_4.length ≤ maxLen → (∀ x ∈ l0_4, (Lit.int .i64 x).wf = true) → l0_5.length ≤ maxLen → (∀ x ∈ l0_5, (Lit.int .i64 x).wf = true) → ∃ k, tutorlaw04_TrimReaches.f k a0_0 a0_1 a0_2 a0_3 l0_4 l0_5 = some true := by
  intro a0 a1 a2 a3 l4 l5 _ _ _ _ hl4 hw4 hl5 hw5
  apply Ev.rounds
  obtain ⟨big, hB⟩ : ∃ b, tutorref03_Big.f a0 a1 a2 a3 l4 l5 300 = some b := by
    unfold tutorref03_Big.f
    split
    · exact ⟨_, rfl⟩
    · split <;> exact ⟨_, rfl⟩
  unfold tutorlaw04_TrimReaches.f
  refine Ev.bind (show Ev (fun _ => tutorref03_Big.f a0 a1 a2 a3 l4 l5 300) big by rw [hB]; exact Ev.now _) ?_
  by_cases hb : big = true
  · refine Ev.pos hb ?_
    exact Ev.bind live_ev (Ev.now true)
  · refine Ev.neg hb ?_
    obtain ⟨b1, b2, b3⟩ := big_no hB hb
    obtain ⟨S, V, e, hS, hV, hVr, h1, h2⟩ : ∃ (S : List Int) (V : List (List Int)) (e : Int), S.length ≤ 70000 ∧ V.length ≤ 70000 ∧ (∀ r ∈ V, r.length ≤ 70000) ∧ Ev (fun k => trim_Reach.f k a0 a1 a2 a3 l4 l5) (S, V, e) ∧ Ev (fun k => tutorref04_Reach.f k a0 a1 a2 a3 l4 l5) (S, V, e) := by
      by_cases hM : RightM a0 a1 a2 a3 l4 l5
      · have hi := reach_inv hM
        have hs := slen hM hi
        have hlen := hi.len
        refine ⟨_, _, _, ?_, ?_, ?_, reach_right hM hw4 hw5 hl4 hl5, rreach_right hM⟩
        · omega
        · omega
        · intro r hr
          obtain ⟨j, hj, rfl⟩ := List.getElem_of_mem hr
          have := hi.wlen j (by omega)
          rw [List.getD_eq_getElem?_getD, List.getElem?_eq_getElem hj] at this
          simp only [Option.getD_some] at this
          omega
      · exact ⟨_, _, _, by simp, by simp, by simp, (reach_wrong hM hw4 hw5 hl4 hl5).2, rreach_wrong hM hl4 hl5⟩
    have hse := same_ev (a := S) (b := S) (by unfold maxLen; omega)
    rw [decide_eq_true rfl] at hse
    refine Ev.bind (copy_ev a0 a1 a2 a3 b2 b3) ?_
    refine Ev.bind h1 ?_
    refine Ev.bind h2 ?_
    refine Ev.bind hse ?_
    refine Ev.pos rfl ?_
    refine Ev.bind (lists_ev hV hVr) ?_
    refine Ev.pos rfl ?_
    refine Ev.bind (show Ev (fun _ => tutorlaw04_num.f e) e from Ev.now _) ?_
    refine Ev.pos rfl ?_
    refine Ev.bind (same3_ev a0 a1 a2 a3 hl4 hl5) ?_
    refine Ev.pos rfl ?_
    refine Ev.pos (show V.length < 5864062014805 by omega) ?_
    refine Ev.bind (apart_ev (l := V ++ [S]) (by
      intro r hr
      rcases List.mem_append.mp hr with hr | hr
      · exact hVr r hr
      · rw [List.mem_singleton.mp hr]; exact hS)) ?_
    refine Ev.pos rfl ?_
    exact Ev.bind live_ev (Ev.now true)

end Go.Proofs.Ytllgeljacmpdjaa.Pure
