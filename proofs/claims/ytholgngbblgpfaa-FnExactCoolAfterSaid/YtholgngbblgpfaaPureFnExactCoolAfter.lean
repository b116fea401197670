/- What is proved: read as plain functions on numbers and lists, the law FnExactCoolAfter answers true at every input of its kinds; no condition is added. -/
import Derived.Test.YtholgngbblgpfaaPFnExactCoolAfterx1
import Derived.Test.YtholgngbblgpfaaPlain
set_option linter.unusedVariables false
set_option linter.unusedSimpArgs false
set_option maxRecDepth 20000
namespace Go.Proofs.Ytholgngbblgpfaa.Pure
open Go.RowKit Go.Proofs.Ytholgngbblgpfaa.PFnExactCoolAfter Go.Proofs.YtholgngbblgpfaaW.PrintWords Go.Proofs.YtholgngbblgpfaaW.PrintLast Go.Proofs.YtholgngbblgpfaaW.PrintMore Go.Proofs.Ytholgngbblgpfaa.Plain
theorem spec_l01In_eq (a b c : Int) : spec_l01In.f a b c = some (decide (b ≤ a ∧ a ≤ c)) := by
  unfold spec_l01In.f
  by_cases h : b ≤ a <;> simp [h]
theorem spec_CoolAfter_l0 (n : Nat) : ∀ (x0 x1 x5 : Int), (20 ≤ x0 ∧ x0 ≤ 350) → 0 ≤ x5 → x1 ≤ 1000 → x1 - x5 = n → Ev (fun k => spec_CoolAfter.l0 k x0 x1 x5) (pCool n x0) := by
  induction n with
  | zero =>
    intro x0 x1 x5 _ _ _ h
    refine ev_at 1 fun k => ?_
    simp only [spec_CoolAfter.l0]
    rw [if_neg (by omega)]
    rfl
  | succ n ih =>
    intro x0 x1 x5 hx h0 h1 h
    refine Ev.step (f := fun k => spec_CoolAfter.l0 k (pCool1 x0) x1 (x5 + 1)) (fun k => ?_) (ih _ _ _ (cool1_range hx) (by omega) h1 (by omega))
    simp only [spec_CoolAfter.l0]
    rw [if_pos (by omega), cool_arith hx, w64 (n := x5 + 1) (by omega) (by omega)]
    rfl
theorem spec_CoolAfter_ev (h m : Int) : Ev (fun k => spec_CoolAfter.f k h m) (pCoolAfter h m) := by
  unfold spec_CoolAfter.f pCoolAfter
  simp only [spec_l01In_eq, Option.bind_some, decide_eq_true_eq]
  by_cases hh : 20 ≤ h ∧ h ≤ 350
  · by_cases hm : 0 ≤ m ∧ m ≤ 1000
    · simp only [if_pos hh, if_pos (And.intro hh hm), decide_eq_true hm, Bool.not_true]
      refine Ev.step (f := fun k => spec_CoolAfter.l0 k h m 0) (fun k => ?_) (spec_CoolAfter_l0 _ _ _ _ hh (by omega) (by omega) (by omega))
      simp only [spec_CoolAfter.j0]
      rw [if_neg (by decide)]
    · simp only [if_pos hh, if_neg (fun c : (20 ≤ h ∧ h ≤ 350) ∧ 0 ≤ m ∧ m ≤ 1000 => hm c.2), decide_eq_false hm, Bool.not_false]
      exact ev_at 1 fun k => by simp only [spec_CoolAfter.j0, if_true]
  · simp only [if_neg hh, if_neg (fun c : (20 ≤ h ∧ h ≤ 350) ∧ 0 ≤ m ∧ m ≤ 1000 => hh c.1)]
    exact ev_at 1 fun k => by simp only [spec_CoolAfter.j0, if_true]
theorem impl_in_eq (a b c : Int) : impl_in.f a b c = some (decide (b ≤ a ∧ a ≤ c)) := by
  unfold impl_in.f
  by_cases h : b ≤ a <;> simp [h]
theorem impl_CoolAfter_l0 (n : Nat) : ∀ (x0 x1 x5 : Int), (20 ≤ x0 ∧ x0 ≤ 350) → 0 ≤ x5 → x1 ≤ 1000 → x1 - x5 = n → Ev (fun k => impl_CoolAfter.l0 k x0 x1 x5) (pCool n x0) := by
  induction n with
  | zero =>
    intro x0 x1 x5 _ _ _ h
    refine ev_at 1 fun k => ?_
    simp only [impl_CoolAfter.l0]
    rw [if_neg (by omega)]
    rfl
  | succ n ih =>
    intro x0 x1 x5 hx h0 h1 h
    refine Ev.step (f := fun k => impl_CoolAfter.l0 k (pCool1 x0) x1 (x5 + 1)) (fun k => ?_) (ih _ _ _ (cool1_range hx) (by omega) h1 (by omega))
    simp only [impl_CoolAfter.l0]
    rw [if_pos (by omega), cool_arith hx, w64 (n := x5 + 1) (by omega) (by omega), mx_comm]
    rfl
theorem impl_CoolAfter_ev (h m : Int) : Ev (fun k => impl_CoolAfter.f k h m) (pCoolAfter h m) := by
  unfold impl_CoolAfter.f pCoolAfter
  simp only [impl_in_eq, Option.bind_some, decide_eq_true_eq]
  by_cases hh : 20 ≤ h ∧ h ≤ 350
  · by_cases hm : 0 ≤ m ∧ m ≤ 1000
    · simp only [if_pos hh, if_pos (And.intro hh hm), decide_eq_true hm, Bool.not_true]
      refine Ev.step (f := fun k => impl_CoolAfter.l0 k h m 0) (fun k => ?_) (impl_CoolAfter_l0 _ _ _ _ hh (by omega) (by omega) (by omega))
      simp only [impl_CoolAfter.j0]
      rw [if_neg (by decide)]
    · simp only [if_pos hh, if_neg (fun c : (20 ≤ h ∧ h ≤ 350) ∧ 0 ≤ m ∧ m ≤ 1000 => hm c.2), decide_eq_false hm, Bool.not_false]
      exact ev_at 1 fun k => by simp only [impl_CoolAfter.j0, if_true]
  · simp only [if_neg hh, if_neg (fun c : (20 ≤ h ∧ h ≤ 350) ∧ 0 ≤ m ∧ m ≤ 1000 => hh c.1)]
    exact ev_at 1 fun k => by simp only [impl_CoolAfter.j0, if_true]
theorem FnExactCoolAfter : laws_FnExactCoolAfter.Pure := by
  intro a0 a1 _ _
  refine Ev.rounds (g := fun k => laws_FnExactCoolAfter.f k a0 a1) ?_
  unfold laws_FnExactCoolAfter.f
  refine Ev.bind (spec_CoolAfter_ev a0 a1) (Ev.bind (impl_CoolAfter_ev a0 a1) ?_)
  simp only [if_true]
  exact Ev.now _
end Go.Proofs.Ytholgngbblgpfaa.Pure
