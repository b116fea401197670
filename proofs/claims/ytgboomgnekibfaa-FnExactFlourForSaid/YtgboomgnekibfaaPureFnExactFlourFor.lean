/- What is proved: read as plain functions on numbers and lists, the law FnExactFlourFor answers true at every input of its kinds; no condition is added. -/
import Derived.Test.YtgboomgnekibfaaPFnExactFlourForx1
import Derived.Test.YtgboomgnekibfaaPlain
set_option linter.unusedVariables false
set_option linter.unusedSimpArgs false
set_option maxRecDepth 20000
namespace Go.Proofs.Ytgboomgnekibfaa.Pure
open Go.RowKit Go.Proofs.Ytgboomgnekibfaa.PFnExactFlourFor Go.Proofs.YtgboomgnekibfaaW.PrintWords Go.Proofs.YtgboomgnekibfaaW.PrintLast Go.Proofs.YtgboomgnekibfaaW.PrintMore Go.Proofs.Ytgboomgnekibfaa.Plain
theorem spec_l01In_eq (a b c : Int) : spec_l01In.f a b c = some (decide (b ≤ a ∧ a ≤ c)) := by
  unfold spec_l01In.f
  by_cases h : b ≤ a <;> simp [h]
theorem spec_DoughOk_eq (a b c : Int) : spec_DoughOk.f a b c = some (pDoughOk a b c) := by
  unfold spec_DoughOk.f pDoughOk
  simp only [spec_l01In_eq, Option.bind_some, decide_eq_true_eq]
  by_cases h : 300 ≤ a ∧ a ≤ 1200 <;> by_cases h2 : 0 ≤ b ∧ b ≤ 50 <;> simp [h, h2]
theorem spec_WholeParts_eq (a b c : Int) : spec_WholeParts.f a b c = some (pWholeParts a b c) := by
  unfold spec_WholeParts.f pWholeParts
  simp only [spec_DoughOk_eq, Option.bind_some]
  by_cases h : pDoughOk a b c = true
  · rw [if_pos h, if_pos h, wholeParts_arith h]
  · rw [if_neg h, if_neg h]
theorem spec_FlourFor_eq (a b c w : Int) : spec_FlourFor.f a b c w = some (pFlourFor a b c w) := by
  unfold spec_FlourFor.f pFlourFor
  simp only [spec_WholeParts_eq, spec_l01In_eq, Option.bind_some, decide_eq_true_eq]
  by_cases h : pDoughOk a b c = true
  · have h3 := h
    simp only [pDoughOk, decide_eq_true_eq] at h3
    have e : pWholeParts a b c = 1000 + a + b + c := by unfold pWholeParts; rw [if_pos h]
    rw [e, if_neg (show ¬ 1000 + a + b + c < 0 by omega)]
    by_cases h2 : 0 ≤ w ∧ w ≤ 1000000
    · rw [if_pos h2, if_neg (show ¬ 1000 + a + b + c = 0 by omega), if_pos ⟨h, h2⟩, w64 (n := w * 1000) (by omega) (by omega), show w * 1000 = 1000 * w by omega, up_arith (by omega) (by omega)]
    · simp [h2]
  · have e : pWholeParts a b c = -1 := by unfold pWholeParts; rw [if_neg h]
    simp [h, e]
theorem impl_in_eq (a b c : Int) : impl_in.f a b c = some (decide (b ≤ a ∧ a ≤ c)) := by
  unfold impl_in.f
  by_cases h : b ≤ a <;> simp [h]
theorem impl_DoughOk_eq (a b c : Int) : impl_DoughOk.f a b c = some (pDoughOk a b c) := by
  unfold impl_DoughOk.f pDoughOk
  simp only [impl_in_eq, Option.bind_some, decide_eq_true_eq]
  by_cases h : 300 ≤ a ∧ a ≤ 1200 <;> by_cases h2 : 0 ≤ b ∧ b ≤ 50 <;> simp [h, h2]
theorem impl_up_eq {a b : Int} (h : 0 ≤ a ∧ a ≤ 1000000000) (h2 : 1 ≤ b ∧ b ≤ 1000000) : impl_up.f a b = some (pUp a b) := by
  unfold impl_up.f
  rw [if_neg (by omega), up_arith h h2]
theorem impl_WholeParts_eq (a b c : Int) : impl_WholeParts.f a b c = some (pWholeParts a b c) := by
  unfold impl_WholeParts.f pWholeParts
  simp only [impl_DoughOk_eq, Option.bind_some]
  by_cases h : pDoughOk a b c = true
  · rw [if_pos h, if_pos h, wholeParts_arith h]
  · rw [if_neg h, if_neg h]
theorem impl_FlourFor_ev (a b c w : Int) : Ev (fun k => impl_FlourFor.f k a b c w) (pFlourFor a b c w) := ev_at 1 fun k => by
  unfold impl_FlourFor.f pFlourFor
  simp only [impl_WholeParts_eq, impl_DoughOk_eq, impl_in_eq, Option.bind_some, impl_FlourFor.j0]
  by_cases h : pDoughOk a b c = true
  · have h3 := h
    simp only [pDoughOk, decide_eq_true_eq] at h3
    have e : pWholeParts a b c = 1000 + a + b + c := by unfold pWholeParts; rw [if_pos h]
    by_cases h2 : 0 ≤ w ∧ w ≤ 1000000
    · rw [e, w64 (n := 1000 * w) (by omega) (by omega), impl_up_eq (by omega) (by omega)]
      simp [h, h2]
    · simp [h, h2]
  · simp [h]
theorem FnExactFlourFor (a b c w : Int) (_ : (Lit.int .i64 a).wf = true) (_ : (Lit.int .i64 b).wf = true) (_ : (Lit.int .i64 c).wf = true) (_ : (Lit.int .i64 w).wf = true) : ∃ k, laws_FnExactFlourFor.f k a b c w = some true := by
  refine Ev.rounds (g := fun k => laws_FnExactFlourFor.f k a b c w) ?_
  unfold laws_FnExactFlourFor.f laws_toDough.f
  simp only [Option.bind_some, spec_FlourFor_eq]
  refine Ev.bind (impl_FlourFor_ev a b c w) ?_
  simp only [if_true]
  exact Ev.now _
end Go.Proofs.Ytgboomgnekibfaa.Pure
