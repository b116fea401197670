/- What is proved: read as plain functions on numbers and lists, the law FnExactFeed answers true at every input of its kinds; no condition is added. -/
import Derived.Test.YtgboomgnekibfaaPFnExactFeedx1
import Derived.Test.YtgboomgnekibfaaPlain
set_option linter.unusedVariables false
set_option linter.unusedSimpArgs false
set_option maxRecDepth 20000
namespace Go.Proofs.Ytgboomgnekibfaa.Pure
open Go.RowKit Go.Proofs.Ytgboomgnekibfaa.PFnExactFeed Go.Proofs.YtgboomgnekibfaaW.PrintWords Go.Proofs.YtgboomgnekibfaaW.PrintLast Go.Proofs.YtgboomgnekibfaaW.PrintMore Go.Proofs.Ytgboomgnekibfaa.Plain
theorem spec_l01In_eq (a b c : Int) : spec_l01In.f a b c = some (decide (b ≤ a ∧ a ≤ c)) := by
  unfold spec_l01In.f
  by_cases h : b ≤ a <;> simp [h]
theorem spec_LeavenOk_eq (a b : Int) : spec_LeavenOk.f a b = some (pLeavenOk a b) := by
  unfold spec_LeavenOk.f pLeavenOk
  simp only [spec_l01In_eq, Option.bind_some, decide_eq_true_eq]
  by_cases h : 0 ≤ a ∧ a ≤ 100000 <;> simp [h]
theorem spec_Feed_ev (g f t : Int) : Ev (fun k => spec_Feed.f k g f t) (pFeed g f t) := ev_at 1 fun k => by
  unfold spec_Feed.f pFeed
  simp only [spec_LeavenOk_eq, spec_l01In_eq, Option.bind_some, spec_Feed.j0]
  by_cases h : pLeavenOk g f = true
  · by_cases h0 : g = 0
    · simp [h, h0]
    · by_cases h1 : 1 ≤ t ∧ t ≤ 10
      · have h3 := h
        simp only [pLeavenOk, decide_eq_true_eq] at h3
        have h4 := mul_range (a := g) (b := t + 1) (m := 100000) (n := 11) h3.1 (by omega)
        have e1 : wrap64 (t + 1) = t + 1 := w64 (by omega) (by omega)
        have e2 : wrap64 (g * (t + 1)) = g * (t + 1) := w64 (by omega) (by omega)
        have e3 : wrap64 (f + 1) = f + 1 := w64 (by omega) (by omega)
        rw [e1, e2, e3]
        by_cases h5 : pLeavenOk (g * (t + 1)) (f + 1) = true <;> simp [h, h0, h1, h5]
      · simp [h, h0, h1]
  · simp [h]
theorem impl_in_eq (a b c : Int) : impl_in.f a b c = some (decide (b ≤ a ∧ a ≤ c)) := by
  unfold impl_in.f
  by_cases h : b ≤ a <;> simp [h]
theorem impl_LeavenOk_eq (a b : Int) : impl_LeavenOk.f a b = some (pLeavenOk a b) := by
  unfold impl_LeavenOk.f pLeavenOk
  simp only [impl_in_eq, Option.bind_some, decide_eq_true_eq]
  by_cases h : 0 ≤ a ∧ a ≤ 100000 <;> simp [h]
theorem impl_Feed_ev (g f t : Int) : Ev (fun k => impl_Feed.f k g f t) (pFeed g f t) := ev_at 1 fun k => by
  unfold impl_Feed.f pFeed
  simp only [impl_LeavenOk_eq, impl_in_eq, Option.bind_some, impl_Feed.j0]
  by_cases h : pLeavenOk g f = true
  · by_cases h0 : g = 0
    · simp [h, h0]
    · by_cases h1 : 1 ≤ t ∧ t ≤ 10
      · have h3 := h
        simp only [pLeavenOk, decide_eq_true_eq] at h3
        have h4 := mul_range (a := g) (b := t + 1) (m := 100000) (n := 11) h3.1 (by omega)
        have e1 : wrap64 (t + 1) = t + 1 := w64 (by omega) (by omega)
        have e2 : wrap64 (g * (t + 1)) = g * (t + 1) := w64 (by omega) (by omega)
        have e3 : wrap64 (f + 1) = f + 1 := w64 (by omega) (by omega)
        rw [e1, e2, e3]
        by_cases h5 : pLeavenOk (g * (t + 1)) (f + 1) = true <;> simp [h, h0, h1, h5]
      · simp [h, h0, h1]
  · simp [h]
theorem laws_eqLeaven_eq (a b : Int) : laws_eqLeaven.f a b a b = some true := by
  unfold laws_eqLeaven.f
  simp
theorem FnExactFeed (g f t : Int) (_ : (Lit.int .i64 g).wf = true) (_ : (Lit.int .i64 f).wf = true) (_ : (Lit.int .i64 t).wf = true) : ∃ k, laws_FnExactFeed.f k g f t = some true := by
  refine Ev.rounds (g := fun k => laws_FnExactFeed.f k g f t) ?_
  unfold laws_FnExactFeed.f laws_toLeaven.f
  simp only [Option.bind_some]
  refine Ev.bind (spec_Feed_ev g f t) (Ev.bind (impl_Feed_ev g f t) (ev_const ?_))
  simp [laws_eqLeaven_eq]
end Go.Proofs.Ytgboomgnekibfaa.Pure
