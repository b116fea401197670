/- What is proved: read as plain functions on numbers and lists, the law FnExactMinutesAt answers true at every input of its kinds; no condition is added. -/
import Derived.Test.YtgboomgnekibfaaPFnExactMinutesAtx1
import Derived.Test.YtgboomgnekibfaaPlain
set_option linter.unusedVariables false
set_option linter.unusedSimpArgs false
set_option maxRecDepth 20000
namespace Go.Proofs.Ytgboomgnekibfaa.Pure
open Go.RowKit Go.Proofs.Ytgboomgnekibfaa.PFnExactMinutesAt Go.Proofs.YtgboomgnekibfaaW.PrintWords Go.Proofs.YtgboomgnekibfaaW.PrintLast Go.Proofs.YtgboomgnekibfaaW.PrintMore Go.Proofs.Ytgboomgnekibfaa.Plain
theorem spec_l01In_eq (a b c : Int) : spec_l01In.f a b c = some (decide (b ≤ a ∧ a ≤ c)) := by
  unfold spec_l01In.f
  by_cases h : b ≤ a <;> simp [h]
theorem spec_SpeedAt_ev (d : Int) : Ev (fun k => spec_SpeedAt.f k d) (pSpeed d) := ev_at 1 fun k => by
  unfold spec_SpeedAt.f pSpeed
  simp only [spec_l01In_eq, Option.bind_some, decide_eq_true_eq, spec_SpeedAt.j0]
  by_cases h : -30 ≤ d ∧ d ≤ 60
  · rw [if_pos h, if_neg (fun c : ¬ (-30 ≤ d ∧ d ≤ 60) => c h)]
    by_cases h1 : d < 4
    · simp [h1]
    · by_cases h2 : d > 34
      · simp [h1, h2]
      · simp only [h1, h2, if_false, decide_false, Bool.false_eq_true, false_or]
        (repeat' split) <;> first | rfl | omega
  · simp [h]
theorem spec_MinutesAt_ev (d p : Int) : Ev (fun k => spec_MinutesAt.f k d p) (pMinutes d p) := by
  unfold spec_MinutesAt.f pMinutes
  refine Ev.bind (spec_SpeedAt_ev d) (ev_const ?_)
  have hr := pSpeed_range d
  simp only [spec_l01In_eq, Option.bind_some, decide_eq_true_eq]
  by_cases h : pSpeed d ≤ 0
  · simp [h]
  · by_cases h2 : 0 ≤ p ∧ p ≤ 10000
    · rw [if_neg h, if_pos h2, if_neg (show ¬ pSpeed d = 0 by omega), if_neg (show ¬ (pSpeed d ≤ 0 ∨ ¬ (0 ≤ p ∧ p ≤ 10000)) by omega), up_arith (by omega) (by omega)]
    · simp [h, h2]
theorem impl_in_eq (a b c : Int) : impl_in.f a b c = some (decide (b ≤ a ∧ a ≤ c)) := by
  unfold impl_in.f
  by_cases h : b ≤ a <;> simp [h]
theorem impl_SpeedAt_ev (d : Int) : Ev (fun k => impl_SpeedAt.f k d) (pSpeed d) := ev_at 1 fun k => by
  unfold impl_SpeedAt.f pSpeed
  simp only [impl_in_eq, Option.bind_some, decide_eq_true_eq, impl_SpeedAt.j0]
  by_cases h : -30 ≤ d ∧ d ≤ 60
  · rw [if_pos h, if_neg (fun c : ¬ (-30 ≤ d ∧ d ≤ 60) => c h)]
    by_cases h1 : d < 4
    · simp [h1]
    · by_cases h2 : d ≥ 35
      · have h3 : 34 < d := by omega
        simp [h1, h2, h3]
      · have h3 : ¬ 34 < d := by omega
        simp only [h1, h2, h3, if_false, decide_false, Bool.false_eq_true, false_or]
        (repeat' split) <;> first | rfl | omega
  · simp [h]
theorem impl_up_eq {a b : Int} (h : 0 ≤ a ∧ a ≤ 1000000000) (h2 : 1 ≤ b ∧ b ≤ 1000000) : impl_up.f a b = some (pUp a b) := by
  unfold impl_up.f
  rw [if_neg (by omega), up_arith h h2]
theorem impl_MinutesAt_ev (d p : Int) : Ev (fun k => impl_MinutesAt.f k d p) (pMinutes d p) := by
  unfold impl_MinutesAt.f pMinutes
  refine Ev.bind (impl_SpeedAt_ev d) (ev_const ?_)
  have hr := pSpeed_range d
  simp only [impl_in_eq, Option.bind_some, decide_eq_true_eq]
  by_cases h : pSpeed d ≤ 0
  · simp [h]
  · by_cases h2 : 0 ≤ p ∧ p ≤ 10000
    · rw [if_neg h, if_pos h2, if_neg (show ¬ (pSpeed d ≤ 0 ∨ ¬ (0 ≤ p ∧ p ≤ 10000)) by omega), impl_up_eq (by omega) (by omega)]
      rfl
    · simp [h, h2]
theorem FnExactMinutesAt : laws_FnExactMinutesAt.Pure := by
  intro a0 a1 _ _
  refine Ev.rounds (g := fun k => laws_FnExactMinutesAt.f k a0 a1) ?_
  unfold laws_FnExactMinutesAt.f
  refine Ev.bind (spec_MinutesAt_ev a0 a1) (Ev.bind (impl_MinutesAt_ev a0 a1) ?_)
  simp only [if_true]
  exact Ev.now _
end Go.Proofs.Ytgboomgnekibfaa.Pure
