/- What is proved: read as plain functions on numbers and lists, the law FnExactLoafOk answers true at every input of its kinds; no condition is added. -/
import Derived.Test.YtholgngbblgpfaaPFnExactLoafOkx1
import Derived.Test.YtholgngbblgpfaaPlain
set_option linter.unusedVariables false
set_option linter.unusedSimpArgs false
set_option maxRecDepth 20000
namespace Go.Proofs.Ytholgngbblgpfaa.Pure
open Go.RowKit Go.Proofs.Ytholgngbblgpfaa.PFnExactLoafOk Go.Proofs.YtholgngbblgpfaaW.PrintWords Go.Proofs.YtholgngbblgpfaaW.PrintLast Go.Proofs.YtholgngbblgpfaaW.PrintMore Go.Proofs.Ytholgngbblgpfaa.Plain
theorem spec_l01In_eq (a b c : Int) : spec_l01In.f a b c = some (decide (b ≤ a ∧ a ≤ c)) := by
  unfold spec_l01In.f
  by_cases h : b ≤ a <;> simp [h]
theorem spec_LoafOk_eq (a b : Int) : spec_LoafOk.f a b = some (pLoafOk a b) := by
  unfold spec_LoafOk.f pLoafOk
  simp only [spec_l01In_eq, Option.bind_some, decide_eq_true_eq]
  by_cases h : 10 ≤ a ∧ a ≤ 5000 <;> simp [h]
theorem impl_in_eq (a b c : Int) : impl_in.f a b c = some (decide (b ≤ a ∧ a ≤ c)) := by
  unfold impl_in.f
  by_cases h : b ≤ a <;> simp [h]
theorem impl_LoafOk_eq (a b : Int) : impl_LoafOk.f a b = some (pLoafOk a b) := by
  unfold impl_LoafOk.f pLoafOk
  simp only [impl_in_eq, Option.bind_some, decide_eq_true_eq]
  by_cases h : 10 ≤ a ∧ a ≤ 5000 <;> simp [h]
theorem FnExactLoafOk (a b : Int) (_ : (Lit.int .i64 a).wf = true) (_ : (Lit.int .i64 b).wf = true) : laws_FnExactLoafOk.f a b = some true := by
  unfold laws_FnExactLoafOk.f laws_toLoaf.f
  simp [spec_LoafOk_eq, impl_LoafOk_eq]
end Go.Proofs.Ytholgngbblgpfaa.Pure
