/- What is proved: read as plain functions on numbers and lists, the law FnExactSpeedAt answers true at every input of its kinds; no condition is added. -/
import Derived.Test.YtgboomgnekibfaaPFnExactSpeedAtx1
import Derived.Test.YtgboomgnekibfaaPlain
set_option linter.unusedVariables false
set_option linter.unusedSimpArgs false
set_option maxRecDepth 20000
namespace Go.Proofs.Ytgboomgnekibfaa.Pure
open Go.RowKit Go.Proofs.Ytgboomgnekibfaa.PFnExactSpeedAt Go.Proofs.YtgboomgnekibfaaW.PrintWords Go.Proofs.YtgboomgnekibfaaW.PrintLast Go.Proofs.YtgboomgnekibfaaW.PrintMore Go.Proofs.Ytgboomgnekibfaa.Plain
theorem spec_l01In_eq (a b c : Int) : spec_l01In.f a b c = some (decide (b ≤ a ∧ a ≤ c)) := by
  unfold spec_l01In.f
  by_cases h : b ≤ a <;> simp [h]
theorem spec_SpeedAt_ev (d : Int) : Ev (fun k => spec_SpeedAt.f k d) (pSpeed d) := ev_at 1 fun k => by
  unfold spec_SpeedAt.f pSpeed
  simp only [spec_l01In_eq, Option.bind_some, decide_eq_true_eq, spec_SpeedAt.j0]
  by_cases h : -30 ≤ d ∧ d ≤ 60
  · rw [if_pos h, if_neg (fun c : ¬ (-30 ≤ d ∧ d ≤ 60) => c h)]
    by_cases h1 : d < 4
    · simp [h1]
    · by_cases h2 : d > 34
      · simp [h1, h2]
      · simp only [h1, h2, if_false, decide_false, Bool.false_eq_true, false_or]
        (repeat' split) <;> first | rfl | omega
  · simp [h]
theorem impl_in_eq (a b c : Int) : impl_in.f a b c = some (decide (b ≤ a ∧ a ≤ c)) := by
  unfold impl_in.f
  by_cases h : b ≤ a <;> simp [h]
theorem impl_SpeedAt_ev (d : Int) : Ev (fun k => impl_SpeedAt.f k d) (pSpeed d) := ev_at 1 fun k => by
  unfold impl_SpeedAt.f pSpeed
  simp only [impl_in_eq, Option.bind_some, decide_eq_true_eq, impl_SpeedAt.j0]
  by_cases h : -30 ≤ d ∧ d ≤ 60
  · rw [if_pos h, if_neg (fun c : ¬ (-30 ≤ d ∧ d ≤ 60) => c h)]
    by_cases h1 : d < 4
    · simp [h1]
    · by_cases h2 : d ≥ 35
      · have h3 : 34 < d := by omega
        simp [h1, h2, h3]
      · have h3 : ¬ 34 < d := by omega
        simp only [h1, h2, h3, if_false, decide_false, Bool.false_eq_true, false_or]
        (repeat' split) <;> first | rfl | omega
  · simp [h]
theorem FnExactSpeedAt : laws_FnExactSpeedAt.Pure := by
  intro a0 _
  refine Ev.rounds (g := fun k => laws_FnExactSpeedAt.f k a0) ?_
  unfold laws_FnExactSpeedAt.f
  refine Ev.bind (spec_SpeedAt_ev a0) (Ev.bind (impl_SpeedAt_ev a0) ?_)
  simp only [if_true]
  exact Ev.now _
end Go.Proofs.Ytgboomgnekibfaa.Pure
