/- What is proved: read as plain functions on numbers and lists, the law FnExactDoughWeight answers true at every input of its kinds; no condition is added. -/
import Derived.Test.YtgboomgnekibfaaPFnExactDoughWeightx2
import Derived.Test.YtgboomgnekibfaaPlain
set_option linter.unusedVariables false
set_option linter.unusedSimpArgs false
set_option maxRecDepth 20000
namespace Go.Proofs.Ytgboomgnekibfaa.Pure
open Go.RowKit Go.Proofs.Ytgboomgnekibfaa.PFnExactDoughWeight Go.Proofs.YtgboomgnekibfaaW.PrintWords Go.Proofs.YtgboomgnekibfaaW.PrintLast Go.Proofs.YtgboomgnekibfaaW.PrintMore Go.Proofs.Ytgboomgnekibfaa.Plain
theorem spec_l01In_eq (a b c : Int) : spec_l01In.f a b c = some (decide (b ≤ a ∧ a ≤ c)) := by
  unfold spec_l01In.f
  by_cases h : b ≤ a <;> simp [h]
theorem spec_DoughOk_eq (a b c : Int) : spec_DoughOk.f a b c = some (pDoughOk a b c) := by
  unfold spec_DoughOk.f pDoughOk
  simp only [spec_l01In_eq, Option.bind_some, decide_eq_true_eq]
  by_cases h : 300 ≤ a ∧ a ≤ 1200 <;> by_cases h2 : 0 ≤ b ∧ b ≤ 50 <;> simp [h, h2]
theorem spec_PartOf_eq (a b : Int) : spec_PartOf.f a b = some (pPartOf a b) := by
  unfold spec_PartOf.f pPartOf
  simp only [spec_l01In_eq, Option.bind_some, decide_eq_true_eq]
  by_cases h : 0 ≤ a ∧ a ≤ 1000000
  · by_cases h2 : 0 ≤ b ∧ b ≤ 2000
    · rw [if_pos h, if_pos h2, if_pos ⟨h, h2⟩, partOf_arith h h2]
    · rw [if_pos h, if_neg h2, if_neg (fun c => h2 c.2)]
  · rw [if_neg h, if_neg (fun c => h c.1)]
theorem spec_Amounts_ev (a b c f : Int) : Ev (fun k => spec_Amounts.f k a b c f) (pAmounts a b c f) := ev_at 1 fun k => by
  unfold spec_Amounts.f pAmounts
  simp only [spec_DoughOk_eq, spec_l01In_eq, spec_PartOf_eq, Option.bind_some, spec_Amounts.j0]
  by_cases h : pDoughOk a b c = true
  · by_cases h2 : 0 ≤ f ∧ f ≤ 1000000 <;> simp [h, h2]
  · simp [h]
theorem spec_l02Sum_l0 (xs : List Int) (hn : xs.length ≤ 1048576) (d : Nat) : ∀ (j : Nat) (acc : Int), j + d = xs.length → Ev (fun k => spec_l02Sum.l0 k xs acc j) (pSumW acc (xs.drop j)) := by
  induction d with
  | zero =>
    intro j acc hj
    refine ev_succ ?_
    simp only [spec_l02Sum.l0]
    rw [List.drop_of_length_le (by omega)]
    exact ev_ifn (by omega) (Ev.now _)
  | succ d ih =>
    intro j acc hj
    refine ev_succ ?_
    simp only [spec_l02Sum.l0]
    rw [List.drop_eq_getElem_cons (show j < xs.length by omega), rd_nat xs j (by omega), wnext (n := xs.length) (by omega) (by omega)]
    exact ev_ifp (by omega) (ev_ifp (by omega) (ih (j + 1) _ (by omega)))
theorem spec_l02Sum_ev (xs : List Int) (hn : xs.length ≤ 1048576) : Ev (fun k => spec_l02Sum.f k xs) (pSumW 0 xs) := by
  unfold spec_l02Sum.f
  exact ev_eq (spec_l02Sum_l0 xs hn xs.length 0 0 (by omega)) (by simp)
theorem spec_DoughWeight_ev (a b c f : Int) : Ev (fun k => spec_DoughWeight.f k a b c f) (pDoughWeight a b c f) := by
  unfold spec_DoughWeight.f pDoughWeight
  have hl : (pAmounts a b c f).length ≤ 4 := by unfold pAmounts; split <;> simp
  refine Ev.bind (spec_Amounts_ev a b c f) ?_
  by_cases h : (pAmounts a b c f).isEmpty = true
  · rw [if_pos h]
    exact ev_ifp (by rw [List.isEmpty_iff] at h; rw [h]; rfl) (Ev.now _)
  · rw [if_neg h]
    exact ev_ifn (fun e => h (by rw [List.isEmpty_iff]; exact List.length_eq_zero_iff.1 (by omega))) (Ev.bind (spec_l02Sum_ev _ (by omega)) (Ev.now _))
theorem impl_in_eq (a b c : Int) : impl_in.f a b c = some (decide (b ≤ a ∧ a ≤ c)) := by
  unfold impl_in.f
  by_cases h : b ≤ a <;> simp [h]
theorem impl_DoughOk_eq (a b c : Int) : impl_DoughOk.f a b c = some (pDoughOk a b c) := by
  unfold impl_DoughOk.f pDoughOk
  simp only [impl_in_eq, Option.bind_some, decide_eq_true_eq]
  by_cases h : 300 ≤ a ∧ a ≤ 1200 <;> by_cases h2 : 0 ≤ b ∧ b ≤ 50 <;> simp [h, h2]
theorem impl_PartOf_eq (a b : Int) : impl_PartOf.f a b = some (pPartOf a b) := by
  unfold impl_PartOf.f pPartOf
  simp only [impl_in_eq, Option.bind_some, decide_eq_true_eq]
  by_cases h : 0 ≤ a ∧ a ≤ 1000000
  · by_cases h2 : 0 ≤ b ∧ b ≤ 2000
    · rw [if_pos h, if_pos h2, if_pos ⟨h, h2⟩, partOf_arith h h2]
    · rw [if_pos h, if_neg h2, if_neg (fun c => h2 c.2)]
  · rw [if_neg h, if_neg (fun c => h c.1)]
theorem impl_Amounts_ev (a b c f : Int) : Ev (fun k => impl_Amounts.f k a b c f) (pAmounts a b c f) := ev_at 1 fun k => by
  unfold impl_Amounts.f pAmounts
  simp only [impl_DoughOk_eq, impl_in_eq, impl_PartOf_eq, Option.bind_some, impl_Amounts.j0]
  by_cases h : pDoughOk a b c = true
  · by_cases h2 : 0 ≤ f ∧ f ≤ 1000000 <;> simp [h, h2]
  · simp [h]
theorem impl_sum_l0 (xs : List Int) (hn : xs.length ≤ 1048576) (d : Nat) : ∀ (j : Nat) (acc : Int), j + d = xs.length → Ev (fun k => impl_sum.l0 k acc xs (xs.length : Int) j) (pSumW acc (xs.drop j)) := by
  induction d with
  | zero =>
    intro j acc hj
    refine ev_succ ?_
    simp only [impl_sum.l0]
    rw [List.drop_of_length_le (by omega)]
    exact ev_ifn (by omega) (Ev.now _)
  | succ d ih =>
    intro j acc hj
    refine ev_succ ?_
    simp only [impl_sum.l0]
    rw [List.drop_eq_getElem_cons (show j < xs.length by omega), rd_nat xs j (by omega), wnext (n := xs.length) (by omega) (by omega)]
    exact ev_ifp (by omega) (ev_ifp (by omega) (ev_ifp (by omega) (ih (j + 1) _ (by omega))))
theorem impl_sum_ev (xs : List Int) (hn : xs.length ≤ 1048576) : Ev (fun k => impl_sum.f k xs) (pSumW 0 xs) := by
  unfold impl_sum.f
  exact ev_eq (impl_sum_l0 xs hn xs.length 0 0 (by omega)) (by simp)
theorem impl_DoughWeight_ev (a b c f : Int) : Ev (fun k => impl_DoughWeight.f k a b c f) (pDoughWeight a b c f) := by
  unfold impl_DoughWeight.f pDoughWeight
  have hl : (pAmounts a b c f).length ≤ 4 := by unfold pAmounts; split <;> simp
  refine Ev.bind (impl_Amounts_ev a b c f) ?_
  by_cases h : (pAmounts a b c f).isEmpty = true
  · rw [if_pos h]
    exact ev_ifp h (Ev.now _)
  · rw [if_neg h]
    exact ev_ifn h (impl_sum_ev _ (by omega))
theorem FnExactDoughWeight (a b c f : Int) (_ : (Lit.int .i64 a).wf = true) (_ : (Lit.int .i64 b).wf = true) (_ : (Lit.int .i64 c).wf = true) (_ : (Lit.int .i64 f).wf = true) : ∃ k, laws_FnExactDoughWeight.f k a b c f = some true := by
  refine Ev.rounds (g := fun k => laws_FnExactDoughWeight.f k a b c f) ?_
  unfold laws_FnExactDoughWeight.f laws_toDough.f
  simp only [Option.bind_some]
  exact Ev.bind (spec_DoughWeight_ev a b c f) (Ev.bind (impl_DoughWeight_ev a b c f) (ev_ifp rfl (Ev.now _)))
end Go.Proofs.Ytgboomgnekibfaa.Pure
