/- What is proved: read as plain functions on numbers and lists, the law FnExactHeatCost answers true at every input of its kinds; no condition is added. -/
import Derived.Test.YtholgngbblgpfaaPFnExactHeatCostx1
import Derived.Test.YtholgngbblgpfaaPlain
set_option linter.unusedVariables false
set_option linter.unusedSimpArgs false
set_option maxRecDepth 20000
namespace Go.Proofs.Ytholgngbblgpfaa.Pure
open Go.RowKit Go.Proofs.Ytholgngbblgpfaa.PFnExactHeatCost Go.Proofs.YtholgngbblgpfaaW.PrintWords Go.Proofs.YtholgngbblgpfaaW.PrintLast Go.Proofs.YtholgngbblgpfaaW.PrintMore Go.Proofs.Ytholgngbblgpfaa.Plain
theorem spec_l01In_eq (a b c : Int) : spec_l01In.f a b c = some (decide (b ≤ a ∧ a ≤ c)) := by
  unfold spec_l01In.f
  by_cases h : b ≤ a <;> simp [h]
theorem spec_l08Ok_eq (a : Int) : spec_l08Ok.f a = some (decide (0 ≤ a ∧ a ≤ 350)) := by
  unfold spec_l08Ok.f
  simp only [spec_l01In_eq, Option.bind_some]
theorem spec_HeatCost_ev (a b : Int) : Ev (fun k => spec_HeatCost.f k a b) (pHeatCost a b) := ev_at 1 fun k => by
  unfold spec_HeatCost.f pHeatCost
  simp only [spec_l08Ok_eq, spec_HeatCost.j0, Option.bind_some, decide_eq_true_eq]
  by_cases h : 0 ≤ a ∧ a ≤ 350
  · by_cases h2 : 0 ≤ b ∧ b ≤ 350
    · have e1 : wrap64 (b - a) = b - a := w64 (by omega) (by omega)
      have e2 : wrap64 (2 * (b - a)) = 2 * (b - a) := w64 (by omega) (by omega)
      have e3 : wrap64 (a - b) = a - b := w64 (by omega) (by omega)
      rw [e1, e2, e3]
      by_cases h3 : a < b <;> simp [h, h2, h3]
    · simp [h, h2]
  · simp [h]
theorem impl_in_eq (a b c : Int) : impl_in.f a b c = some (decide (b ≤ a ∧ a ≤ c)) := by
  unfold impl_in.f
  by_cases h : b ≤ a <;> simp [h]
theorem impl_HeatCost_ev (a b : Int) : Ev (fun k => impl_HeatCost.f k a b) (pHeatCost a b) := ev_at 1 fun k => by
  unfold impl_HeatCost.f pHeatCost
  simp only [impl_in_eq, impl_HeatCost.j0, Option.bind_some, decide_eq_true_eq]
  by_cases h : 0 ≤ a ∧ a ≤ 350
  · by_cases h2 : 0 ≤ b ∧ b ≤ 350
    · have e1 : wrap64 (b - a) = b - a := w64 (by omega) (by omega)
      have e2 : wrap64 (2 * (b - a)) = 2 * (b - a) := w64 (by omega) (by omega)
      have e3 : wrap64 (a - b) = a - b := w64 (by omega) (by omega)
      rw [e1, e2, e3]
      by_cases h3 : a < b <;> simp [h, h2, h3]
    · simp [h, h2]
  · simp [h]
theorem FnExactHeatCost : laws_FnExactHeatCost.Pure := by
  intro a0 a1 _ _
  refine Ev.rounds (g := fun k => laws_FnExactHeatCost.f k a0 a1) ?_
  unfold laws_FnExactHeatCost.f
  refine Ev.bind (spec_HeatCost_ev a0 a1) (Ev.bind (impl_HeatCost_ev a0 a1) ?_)
  simp only [if_true]
  exact Ev.now _
end Go.Proofs.Ytholgngbblgpfaa.Pure
