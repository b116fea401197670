/- What is proved: read as plain functions on numbers and lists, the law FnExactLoadsOf answers true at every input of its kinds; no condition is added. -/
import Derived.Test.YtholgngbblgpfaaPFnExactLoadsOfx1
import Derived.Test.YtholgngbblgpfaaPlain
set_option linter.unusedVariables false
set_option linter.unusedSimpArgs false
set_option maxRecDepth 20000
namespace Go.Proofs.Ytholgngbblgpfaa.Pure
open Go.RowKit Go.Proofs.Ytholgngbblgpfaa.PFnExactLoadsOf Go.Proofs.YtholgngbblgpfaaW.PrintWords Go.Proofs.YtholgngbblgpfaaW.PrintLast Go.Proofs.YtholgngbblgpfaaW.PrintMore Go.Proofs.Ytholgngbblgpfaa.Plain
theorem spec_l01In_eq (a b c : Int) : spec_l01In.f a b c = some (decide (b ≤ a ∧ a ≤ c)) := by
  unfold spec_l01In.f
  by_cases h : b ≤ a <;> simp [h]
theorem spec_l07Ok_eq (a b : Int) : spec_l07Ok.f a b = some (pBatchOk a b) := by
  unfold spec_l07Ok.f pBatchOk
  simp only [spec_l01In_eq, Option.bind_some, decide_eq_true_eq]
  by_cases h : 1 ≤ a ∧ a ≤ 500 <;> simp [h]
theorem spec_LoadsOf_eq (a b r : Int) : spec_LoadsOf.f a b r = some (pLoadsOf a b r) := by
  unfold spec_LoadsOf.f pLoadsOf
  simp only [spec_l07Ok_eq, spec_l01In_eq, Option.bind_some, decide_eq_true_eq]
  by_cases h : pBatchOk a b = true
  · by_cases h2 : 1 ≤ r ∧ r ≤ 500
    · have h3 := h
      simp only [pBatchOk, decide_eq_true_eq] at h3
      rw [if_pos h, if_pos h2, if_neg (show ¬ r = 0 by omega), if_pos ⟨h, h2⟩, up_arith (by omega) (by omega)]
    · rw [if_pos h, if_neg h2, if_neg (fun c => h2 c.2)]
  · rw [if_neg h, if_neg (fun c => h c.1)]
theorem impl_in_eq (a b c : Int) : impl_in.f a b c = some (decide (b ≤ a ∧ a ≤ c)) := by
  unfold impl_in.f
  by_cases h : b ≤ a <;> simp [h]
theorem impl_batchOk_eq (a b : Int) : impl_batchOk.f a b = some (pBatchOk a b) := by
  unfold impl_batchOk.f pBatchOk
  simp only [impl_in_eq, Option.bind_some, decide_eq_true_eq]
  by_cases h : 1 ≤ a ∧ a ≤ 500 <;> simp [h]
theorem impl_up_eq {a b : Int} (h : 0 ≤ a ∧ a ≤ 1000000000) (h2 : 1 ≤ b ∧ b ≤ 1000000) : impl_up.f a b = some (pUp a b) := by
  unfold impl_up.f
  rw [if_neg (by omega), up_arith h h2]
theorem impl_LoadsOf_eq (a b r : Int) : impl_LoadsOf.f a b r = some (pLoadsOf a b r) := by
  unfold impl_LoadsOf.f pLoadsOf
  simp only [impl_batchOk_eq, impl_in_eq, Option.bind_some, decide_eq_true_eq]
  by_cases h : pBatchOk a b = true
  · by_cases h2 : 1 ≤ r ∧ r ≤ 500
    · have h3 := h
      simp only [pBatchOk, decide_eq_true_eq] at h3
      rw [if_pos h, if_pos h2, if_pos ⟨h, h2⟩, impl_up_eq (by omega) (by omega)]
      rfl
    · rw [if_pos h, if_neg h2, if_neg (fun c => h2 c.2)]
  · rw [if_neg h, if_neg (fun c => h c.1)]
theorem FnExactLoadsOf (a b r : Int) (_ : (Lit.int .i64 a).wf = true) (_ : (Lit.int .i64 b).wf = true) (_ : (Lit.int .i64 r).wf = true) : laws_FnExactLoadsOf.f a b r = some true := by
  unfold laws_FnExactLoadsOf.f laws_toBatch.f
  simp [spec_LoadsOf_eq, impl_LoadsOf_eq]
end Go.Proofs.Ytholgngbblgpfaa.Pure
