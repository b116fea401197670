/- What is proved: read as plain functions on numbers and lists, the law FnExactFirmer answers true at every input of its kinds; no condition is added. -/
import Derived.Test.YtgboomgnekibfaaPFnExactFirmerx2
import Derived.Test.YtgboomgnekibfaaPlain
set_option linter.unusedVariables false
set_option linter.unusedSimpArgs false
set_option maxRecDepth 20000
namespace Go.Proofs.Ytgboomgnekibfaa.Pure
open Go.RowKit Go.Proofs.Ytgboomgnekibfaa.PFnExactFirmer Go.Proofs.YtgboomgnekibfaaW.PrintWords Go.Proofs.YtgboomgnekibfaaW.PrintLast Go.Proofs.YtgboomgnekibfaaW.PrintMore Go.Proofs.Ytgboomgnekibfaa.Plain
theorem spec_l01In_eq (a b c : Int) : spec_l01In.f a b c = some (decide (b ≤ a ∧ a ≤ c)) := by
  unfold spec_l01In.f
  by_cases h : b ≤ a <;> simp [h]
theorem spec_DoughOk_eq (a b c : Int) : spec_DoughOk.f a b c = some (pDoughOk a b c) := by
  unfold spec_DoughOk.f pDoughOk
  simp only [spec_l01In_eq, Option.bind_some, decide_eq_true_eq]
  by_cases h : 300 ≤ a ∧ a ≤ 1200 <;> by_cases h2 : 0 ≤ b ∧ b ≤ 50 <;> simp [h, h2]
theorem spec_Firmer_ev (a b c a2 b2 c2 : Int) : Ev (fun k => spec_Firmer.f k a b c a2 b2 c2) (pFirmer a b c a2 b2 c2) := ev_at 1 fun k => by
  unfold spec_Firmer.f pFirmer
  simp only [spec_DoughOk_eq, Option.bind_some, spec_Firmer.j0]
  by_cases h : pDoughOk a b c = true
  · by_cases h2 : pDoughOk a2 b2 c2 = true
    · simp only [h, h2, if_true, and_self, beq_iff_eq]
      (repeat' split) <;> first | rfl | omega
    · simp [h, h2]
  · simp [h]
theorem impl_in_eq (a b c : Int) : impl_in.f a b c = some (decide (b ≤ a ∧ a ≤ c)) := by
  unfold impl_in.f
  by_cases h : b ≤ a <;> simp [h]
theorem impl_DoughOk_eq (a b c : Int) : impl_DoughOk.f a b c = some (pDoughOk a b c) := by
  unfold impl_DoughOk.f pDoughOk
  simp only [impl_in_eq, Option.bind_some, decide_eq_true_eq]
  by_cases h : 300 ≤ a ∧ a ≤ 1200 <;> by_cases h2 : 0 ≤ b ∧ b ≤ 50 <;> simp [h, h2]
theorem cmp_isNaN_int_eq (a : Int) : cmp_isNaN_int.f a = some false := by
  unfold cmp_isNaN_int.f
  simp
theorem impl_Firmer_eq (a b c a2 b2 c2 : Int) : impl_Firmer.f a b c a2 b2 c2 = some (pFirmer a b c a2 b2 c2) := by
  unfold impl_Firmer.f pFirmer cmp_Compare_int.f
  simp only [impl_DoughOk_eq, cmp_isNaN_int_eq, Option.bind_some]
  by_cases h : pDoughOk a b c = true
  · by_cases h2 : pDoughOk a2 b2 c2 = true
    · simp only [h, h2, if_true, and_self, Bool.false_eq_true, if_false]
      by_cases h3 : a < a2
      · simp [h3]
      · by_cases h4 : a2 < a <;> simp [h3, h4]
    · simp [h, h2]
  · simp [h]
theorem FnExactFirmer (a b c a2 b2 c2 : Int) (_ : (Lit.int .i64 a).wf = true) (_ : (Lit.int .i64 b).wf = true) (_ : (Lit.int .i64 c).wf = true) (_ : (Lit.int .i64 a2).wf = true) (_ : (Lit.int .i64 b2).wf = true) (_ : (Lit.int .i64 c2).wf = true) : ∃ k, laws_FnExactFirmer.f k a b c a2 b2 c2 = some true := by
  refine Ev.rounds (g := fun k => laws_FnExactFirmer.f k a b c a2 b2 c2) ?_
  unfold laws_FnExactFirmer.f laws_toDough.f
  simp only [Option.bind_some, impl_Firmer_eq]
  refine Ev.bind (spec_Firmer_ev a b c a2 b2 c2) ?_
  simp only [if_true]
  exact Ev.now _
end Go.Proofs.Ytgboomgnekibfaa.Pure
