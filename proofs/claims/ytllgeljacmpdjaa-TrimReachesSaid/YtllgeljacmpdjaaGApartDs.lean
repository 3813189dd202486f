/- Rows that are told apart: the telling that they share no memory answers true. -/
import Derived.Test.YtllgeljacmpdjaaGApartW
import Derived.Test.YtllgeljacmpdjaaGDs
namespace Go.Proofs.Ytllgeljacmpdjaa.PTrim
open Go.RowKit Go.Proofs.YtllgeljacmpdjaaW.PrintWords Go.Proofs.YtllgeljacmpdjaaW.PrintLast Go.Proofs.YtllgeljacmpdjaaW.PrintMore
set_option linter.unusedVariables false
section
variable {w w0 w1 W : World} {base N : Nat} {B : Nat → Prop} {v : Value} {xss : List (List Int)}
theorem Ds.lower {b : Nat} (h : Ds w base B v xss) (hb : b ≤ base) : Ds w b B v xss := by
 obtain ⟨vs, a1, a2, a3, a4, a5⟩ := h
 exact ⟨vs, a1, Kd.R_lower a2 hb, fun j s xs h1 h2 => Kd.R_lower (a3 j s xs h1 h2) hb, a4, a5⟩
theorem Ds.slice (h : Ds w base B v xss) : ∃ A c, v = .slice A xss.length c := by
 obtain ⟨vs, a1, a2, _⟩ := h
 obtain ⟨A, c, e⟩ := Kd.R_slice a2
 exact ⟨A, c, by rw [e, List.length_map, a1]⟩
theorem apart_ds (h : Ds w base B v xss) (hp : 0 < xss.length) (hN : xss.length < 17592186044416) (hs : tutorref01_Apart.f xss = some true) (hb : base ≤ w.heap.size) :
  Calls Try.prog 24 #[v] w fun e w' => e = .returned (.bool true) ∧ Below base w w' := by
 obtain ⟨vs, a1, a2, a3, a4, a5⟩ := h
 obtain ⟨g, cap, rfl, hg1, hg2, cells, hg3⟩ := Kd.R_form a2 (by rw [List.length_map]; omega)
 rw [List.length_map, a1]
 have hget : ∀ j, j < xss.length → vs[j]? = some (vs.getD j .nilFunc) := fun j hj => by
  rw [List.getD_eq_getElem?_getD, List.getElem?_eq_getElem (by omega)]; rfl
 have hgx : ∀ j, j < xss.length → xss[j]? = some (xss.getD j []) := fun j hj => by
  rw [List.getD_eq_getElem?_getD, List.getElem?_eq_getElem (by omega)]; rfl
 refine (apart_calls ⟨g, 0, none⟩ cap xss.length (fun j => vs.getD j .nilFunc) (fun j => (xss.getD j []).length) w base ?_ ?_ ?_ ?_ hN hg2 hb).mono ?_
 · intro x h0 h1
   obtain ⟨inner, ho, he⟩ := raw_get a2
   have hj : x.toNat < xss.length := by omega
   have := he x.toNat [vs.getD x.toNat .nilFunc] (by rw [List.getElem?_map, hget _ hj]; rfl)
   have hin : inner[x.toNat]? = some (vs.getD x.toNat .nilFunc) := by
    have e2 : (inner.drop x.toNat).take 1 = [vs.getD x.toNat .nilFunc] := this.symm
    have e3 : ((inner.drop x.toNat).take 1)[0]? = some (vs.getD x.toNat .nilFunc) := by rw [e2]; rfl
    rw [List.getElem?_take_of_lt (by omega), List.getElem?_drop] at e3
    simpa using e3
   rcases ho.2 with ⟨q1, _⟩ | ⟨g1, c1, cur1, q1, _, hh1, _, _, _, t1⟩
   · cases q1
   · injection q1 with q1
     injection q1 with q1
     injection q1 with q1
     subst q1
     have hc := blk_cell hh1 x.toNat
     have e4 : Addr.add ⟨g, 0, none⟩ x.toNat = ⟨g, x.toNat, none⟩ := by simp [Addr.add]; omega
     rw [e4, hc]
     rw [← t1] at hin
     have hlt : x.toNat < vs.length := by omega
     rw [List.getElem?_take_of_lt (by simp only [List.length_map]; omega)] at hin
     simpa using hin
 · intro j hj
   exact ⟨xss.getD j [], a3 j _ _ (hget j hj) (hgx j hj), rfl, fun _ _ h => h.elim⟩
 · refine ⟨fun j hj he => ?_, fun i j hi hj hij g' h1 => a5 i j _ _ g' hij (hget i hi) (hget j hj) h1⟩
   obtain ⟨c1, hc1⟩ := own_typed (Kd.own_of_R (a3 j _ _ (hget j hj) (hgx j hj))) g he
   rw [hg3] at hc1
   injection hc1 with hc1
   injection hc1 with _ hc1
   cases hc1
 · intro j hj
   exact apart_small hs _ (List.mem_of_getElem? (hgx j hj))
 · rintro e w' ⟨rfl, hk⟩
   exact ⟨rfl, hk.1⟩
end
end Go.Proofs.Ytllgeljacmpdjaa.PTrim
