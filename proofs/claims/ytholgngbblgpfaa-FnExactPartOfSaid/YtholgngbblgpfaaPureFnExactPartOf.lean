/- What is proved: read as plain functions on numbers and lists, the law FnExactPartOf answers true at every input of its kinds; no condition is added. -/
import Derived.Test.YtholgngbblgpfaaPFnExactPartOfx1
import Derived.Test.YtholgngbblgpfaaPlain
set_option linter.unusedVariables false
set_option linter.unusedSimpArgs false
set_option maxRecDepth 20000
namespace Go.Proofs.Ytholgngbblgpfaa.Pure
open Go.RowKit Go.Proofs.Ytholgngbblgpfaa.PFnExactPartOf Go.Proofs.YtholgngbblgpfaaW.PrintWords Go.Proofs.YtholgngbblgpfaaW.PrintLast Go.Proofs.YtholgngbblgpfaaW.PrintMore Go.Proofs.Ytholgngbblgpfaa.Plain
theorem spec_l01In_eq (a b c : Int) : spec_l01In.f a b c = some (decide (b ≤ a ∧ a ≤ c)) := by
  unfold spec_l01In.f
  by_cases h : b ≤ a <;> simp [h]
theorem spec_PartOf_eq (a b : Int) : spec_PartOf.f a b = some (pPartOf a b) := by
  unfold spec_PartOf.f pPartOf
  simp only [spec_l01In_eq, Option.bind_some, decide_eq_true_eq]
  by_cases h : 0 ≤ a ∧ a ≤ 1000000
  · by_cases h2 : 0 ≤ b ∧ b ≤ 2000
    · rw [if_pos h, if_pos h2, if_pos ⟨h, h2⟩, partOf_arith h h2]
    · rw [if_pos h, if_neg h2, if_neg (fun c => h2 c.2)]
  · rw [if_neg h, if_neg (fun c => h c.1)]
theorem impl_in_eq (a b c : Int) : impl_in.f a b c = some (decide (b ≤ a ∧ a ≤ c)) := by
  unfold impl_in.f
  by_cases h : b ≤ a <;> simp [h]
theorem impl_PartOf_eq (a b : Int) : impl_PartOf.f a b = some (pPartOf a b) := by
  unfold impl_PartOf.f pPartOf
  simp only [impl_in_eq, Option.bind_some, decide_eq_true_eq]
  by_cases h : 0 ≤ a ∧ a ≤ 1000000
  · by_cases h2 : 0 ≤ b ∧ b ≤ 2000
    · rw [if_pos h, if_pos h2, if_pos ⟨h, h2⟩, partOf_arith h h2]
    · rw [if_pos h, if_neg h2, if_neg (fun c => h2 c.2)]
  · rw [if_neg h, if_neg (fun c => h c.1)]
theorem FnExactPartOf : laws_FnExactPartOf.Pure := by
  intro a0 a1 _ _
  unfold laws_FnExactPartOf.f
  simp only [spec_PartOf_eq, impl_PartOf_eq, Option.bind_some, if_true]
end Go.Proofs.Ytholgngbblgpfaa.Pure
