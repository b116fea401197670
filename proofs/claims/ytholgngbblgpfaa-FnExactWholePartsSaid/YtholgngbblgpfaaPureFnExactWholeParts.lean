/- What is proved: read as plain functions on numbers and lists, the law FnExactWholeParts answers true at every input of its kinds; no condition is added. -/
import Derived.Test.YtholgngbblgpfaaPFnExactWholePartsx1
import Derived.Test.YtholgngbblgpfaaPlain
set_option linter.unusedVariables false
set_option linter.unusedSimpArgs false
set_option maxRecDepth 20000
namespace Go.Proofs.Ytholgngbblgpfaa.Pure
open Go.RowKit Go.Proofs.Ytholgngbblgpfaa.PFnExactWholeParts Go.Proofs.YtholgngbblgpfaaW.PrintWords Go.Proofs.YtholgngbblgpfaaW.PrintLast Go.Proofs.YtholgngbblgpfaaW.PrintMore Go.Proofs.Ytholgngbblgpfaa.Plain
theorem spec_l01In_eq (a b c : Int) : spec_l01In.f a b c = some (decide (b ≤ a ∧ a ≤ c)) := by
  unfold spec_l01In.f
  by_cases h : b ≤ a <;> simp [h]
theorem spec_DoughOk_eq (a b c : Int) : spec_DoughOk.f a b c = some (pDoughOk a b c) := by
  unfold spec_DoughOk.f pDoughOk
  simp only [spec_l01In_eq, Option.bind_some, decide_eq_true_eq]
  by_cases h : 300 ≤ a ∧ a ≤ 1200 <;> by_cases h2 : 0 ≤ b ∧ b ≤ 50 <;> simp [h, h2]
theorem spec_WholeParts_eq (a b c : Int) : spec_WholeParts.f a b c = some (pWholeParts a b c) := by
  unfold spec_WholeParts.f pWholeParts
  simp only [spec_DoughOk_eq, Option.bind_some]
  by_cases h : pDoughOk a b c = true
  · rw [if_pos h, if_pos h, wholeParts_arith h]
  · rw [if_neg h, if_neg h]
theorem impl_in_eq (a b c : Int) : impl_in.f a b c = some (decide (b ≤ a ∧ a ≤ c)) := by
  unfold impl_in.f
  by_cases h : b ≤ a <;> simp [h]
theorem impl_DoughOk_eq (a b c : Int) : impl_DoughOk.f a b c = some (pDoughOk a b c) := by
  unfold impl_DoughOk.f pDoughOk
  simp only [impl_in_eq, Option.bind_some, decide_eq_true_eq]
  by_cases h : 300 ≤ a ∧ a ≤ 1200 <;> by_cases h2 : 0 ≤ b ∧ b ≤ 50 <;> simp [h, h2]
theorem impl_WholeParts_eq (a b c : Int) : impl_WholeParts.f a b c = some (pWholeParts a b c) := by
  unfold impl_WholeParts.f pWholeParts
  simp only [impl_DoughOk_eq, Option.bind_some]
  by_cases h : pDoughOk a b c = true
  · rw [if_pos h, if_pos h, wholeParts_arith h]
  · rw [if_neg h, if_neg h]
theorem FnExactWholeParts (a b c : Int) (_ : (Lit.int .i64 a).wf = true) (_ : (Lit.int .i64 b).wf = true) (_ : (Lit.int .i64 c).wf = true) : laws_FnExactWholeParts.f a b c = some true := by
  unfold laws_FnExactWholeParts.f laws_toDough.f
  simp [spec_WholeParts_eq, impl_WholeParts_eq]
end Go.Proofs.Ytholgngbblgpfaa.Pure
