/- What is proved: read as plain functions on numbers and lists, the law FnExactBakedWeight answers true at every input of its kinds; no condition is added. -/
import Derived.Test.YtholgngbblgpfaaPFnExactBakedWeightx1
import Derived.Test.YtholgngbblgpfaaPlain
set_option linter.unusedVariables false
set_option linter.unusedSimpArgs false
set_option maxRecDepth 20000
namespace Go.Proofs.Ytholgngbblgpfaa.Pure
open Go.RowKit Go.Proofs.Ytholgngbblgpfaa.PFnExactBakedWeight Go.Proofs.YtholgngbblgpfaaW.PrintWords Go.Proofs.YtholgngbblgpfaaW.PrintLast Go.Proofs.YtholgngbblgpfaaW.PrintMore Go.Proofs.Ytholgngbblgpfaa.Plain
theorem spec_l01In_eq (a b c : Int) : spec_l01In.f a b c = some (decide (b ≤ a ∧ a ≤ c)) := by
  unfold spec_l01In.f
  by_cases h : b ≤ a <;> simp [h]
theorem spec_LoafOk_eq (a b : Int) : spec_LoafOk.f a b = some (pLoafOk a b) := by
  unfold spec_LoafOk.f pLoafOk
  simp only [spec_l01In_eq, Option.bind_some, decide_eq_true_eq]
  by_cases h : 10 ≤ a ∧ a ≤ 5000 <;> simp [h]
theorem spec_BakedWeight_eq (a b d : Int) : spec_BakedWeight.f a b d = some (pBakedWeight a b d) := by
  unfold spec_BakedWeight.f pBakedWeight
  simp only [spec_LoafOk_eq, spec_l01In_eq, Option.bind_some, decide_eq_true_eq]
  by_cases h : pLoafOk a b = true
  · by_cases h2 : 0 ≤ d ∧ d ≤ 10000
    · have h3 := h
      simp only [pLoafOk, decide_eq_true_eq] at h3
      rw [if_pos h, if_pos h2, if_pos ⟨h, h2⟩, baked_arith (by omega) (by omega)]
    · rw [if_pos h, if_neg h2, if_neg (fun c => h2 c.2)]
  · rw [if_neg h, if_neg (fun c => h c.1)]
theorem impl_in_eq (a b c : Int) : impl_in.f a b c = some (decide (b ≤ a ∧ a ≤ c)) := by
  unfold impl_in.f
  by_cases h : b ≤ a <;> simp [h]
theorem impl_LoafOk_eq (a b : Int) : impl_LoafOk.f a b = some (pLoafOk a b) := by
  unfold impl_LoafOk.f pLoafOk
  simp only [impl_in_eq, Option.bind_some, decide_eq_true_eq]
  by_cases h : 10 ≤ a ∧ a ≤ 5000 <;> simp [h]
theorem impl_up_eq {a b : Int} (h : 0 ≤ a ∧ a ≤ 1000000000) (h2 : 1 ≤ b ∧ b ≤ 1000000) : impl_up.f a b = some (pUp a b) := by
  unfold impl_up.f
  rw [if_neg (by omega), up_arith h h2]
theorem impl_Loaf_baked_eq {a b d : Int} (h : 0 ≤ d ∧ d ≤ 1000000) (h2 : 0 ≤ b ∧ b ≤ 40) : impl_Loaf_baked.f a b d = some (pBaked b d) := by
  have h0 := mul_range h h2
  have e := baked_arith h h2
  unfold impl_Loaf_baked.f impl_up.f
  rw [w64 (n := d * b) (by omega) (by omega), if_neg (by omega)]
  rw [w64 (n := d * b) (by omega) (by omega)] at e
  simp only [Option.bind_some]
  rw [← e]
  rw [w64 (n := d * b + 100) (by omega) (by omega), w64 (n := d * b + 99) (by omega) (by omega), show d * b + 100 - 1 = d * b + 99 by omega, w64 (n := d * b + 99) (by omega) (by omega)]
theorem impl_BakedWeight_eq (a b d : Int) : impl_BakedWeight.f a b d = some (pBakedWeight a b d) := by
  unfold impl_BakedWeight.f pBakedWeight
  simp only [impl_LoafOk_eq, impl_in_eq, Option.bind_some, decide_eq_true_eq]
  by_cases h : pLoafOk a b = true
  · by_cases h2 : 0 ≤ d ∧ d ≤ 10000
    · have h3 := h
      simp only [pLoafOk, decide_eq_true_eq] at h3
      rw [if_pos h, if_pos h2, if_pos ⟨h, h2⟩, impl_Loaf_baked_eq (by omega) (by omega)]
      rfl
    · rw [if_pos h, if_neg h2, if_neg (fun c => h2 c.2)]
  · rw [if_neg h, if_neg (fun c => h c.1)]
theorem FnExactBakedWeight (a b d : Int) (_ : (Lit.int .i64 a).wf = true) (_ : (Lit.int .i64 b).wf = true) (_ : (Lit.int .i64 d).wf = true) : laws_FnExactBakedWeight.f a b d = some true := by
  unfold laws_FnExactBakedWeight.f laws_toLoaf.f
  simp [spec_BakedWeight_eq, impl_BakedWeight_eq]
end Go.Proofs.Ytholgngbblgpfaa.Pure
