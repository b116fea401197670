/- What is proved: read as plain functions on numbers and lists, the law FnExactTakeLeaven answers true at every input of its kinds; no condition is added. -/
import Derived.Test.YtholgngbblgpfaaPFnExactTakeLeavenx1
import Derived.Test.YtholgngbblgpfaaPlain
set_option linter.unusedVariables false
set_option linter.unusedSimpArgs false
set_option maxRecDepth 20000
namespace Go.Proofs.Ytholgngbblgpfaa.Pure
open Go.RowKit Go.Proofs.Ytholgngbblgpfaa.PFnExactTakeLeaven Go.Proofs.YtholgngbblgpfaaW.PrintWords Go.Proofs.YtholgngbblgpfaaW.PrintLast Go.Proofs.YtholgngbblgpfaaW.PrintMore Go.Proofs.Ytholgngbblgpfaa.Plain
theorem spec_l01In_eq (a b c : Int) : spec_l01In.f a b c = some (decide (b ≤ a ∧ a ≤ c)) := by
  unfold spec_l01In.f
  by_cases h : b ≤ a <;> simp [h]
theorem spec_LeavenOk_eq (a b : Int) : spec_LeavenOk.f a b = some (pLeavenOk a b) := by
  unfold spec_LeavenOk.f pLeavenOk
  simp only [spec_l01In_eq, Option.bind_some, decide_eq_true_eq]
  by_cases h : 0 ≤ a ∧ a ≤ 100000 <;> simp [h]
theorem spec_TakeLeaven_eq (g f n k : Int) : spec_TakeLeaven.f g f n k = some (pTake g f n k) := by
  unfold spec_TakeLeaven.f pTake
  simp only [spec_LeavenOk_eq, spec_l01In_eq, Option.bind_some, decide_eq_true_eq]
  by_cases h : pLeavenOk g f = true
  · have h3 := h
    simp only [pLeavenOk, decide_eq_true_eq] at h3
    by_cases h1 : 0 ≤ n ∧ n ≤ 100000
    · rw [w64 (n := g - n) (by omega) (by omega)]
      by_cases h2 : 0 ≤ k ∧ k ≤ 100000
      · by_cases h4 : g - n < k
        · have h5 : ¬ k ≤ g - n := by omega
          simp [h, h1, h2, h4, h5]
        · have h5 : k ≤ g - n := by omega
          simp [h, h1, h2, h4, h5]
      · simp [h, h1, h2]
    · simp [h, h1]
  · simp [h]
theorem impl_in_eq (a b c : Int) : impl_in.f a b c = some (decide (b ≤ a ∧ a ≤ c)) := by
  unfold impl_in.f
  by_cases h : b ≤ a <;> simp [h]
theorem impl_LeavenOk_eq (a b : Int) : impl_LeavenOk.f a b = some (pLeavenOk a b) := by
  unfold impl_LeavenOk.f pLeavenOk
  simp only [impl_in_eq, Option.bind_some, decide_eq_true_eq]
  by_cases h : 0 ≤ a ∧ a ≤ 100000 <;> simp [h]
theorem impl_TakeLeaven_eq (g f n k : Int) : impl_TakeLeaven.f g f n k = some (pTake g f n k) := by
  unfold impl_TakeLeaven.f pTake
  simp only [impl_LeavenOk_eq, impl_in_eq, Option.bind_some, decide_eq_true_eq]
  by_cases h : pLeavenOk g f = true
  · have h3 := h
    simp only [pLeavenOk, decide_eq_true_eq] at h3
    by_cases h1 : 0 ≤ n ∧ n ≤ 100000
    · rw [w64 (n := g - n) (by omega) (by omega)]
      by_cases h2 : 0 ≤ k ∧ k ≤ 100000
      · by_cases h4 : g - n < k
        · have h5 : ¬ k ≤ g - n := by omega
          simp [h, h1, h2, h4, h5]
        · have h5 : k ≤ g - n := by omega
          simp [h, h1, h2, h4, h5]
      · simp [h, h1, h2]
    · simp [h, h1]
  · simp [h]
theorem laws_eqLeaven_eq (a b : Int) : laws_eqLeaven.f a b a b = some true := by
  unfold laws_eqLeaven.f
  simp
theorem FnExactTakeLeaven (a b n k : Int) (_ : (Lit.int .i64 a).wf = true) (_ : (Lit.int .i64 b).wf = true) (_ : (Lit.int .i64 n).wf = true) (_ : (Lit.int .i64 k).wf = true) : laws_FnExactTakeLeaven.f a b n k = some true := by
  unfold laws_FnExactTakeLeaven.f laws_toLeaven.f
  simp [spec_TakeLeaven_eq, impl_TakeLeaven_eq, laws_eqLeaven_eq]
end Go.Proofs.Ytholgngbblgpfaa.Pure
