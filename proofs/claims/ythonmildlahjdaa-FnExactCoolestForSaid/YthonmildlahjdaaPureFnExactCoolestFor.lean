/- What is proved: read as plain functions on numbers and lists, the law FnExactCoolestFor answers true at every input of its kinds; no condition is added. -/
import Derived.Test.YthonmildlahjdaaPFnExactCoolestForx2
import Derived.Test.YthonmildlahjdaaPlain
set_option linter.unusedVariables false
set_option linter.unusedSimpArgs false
set_option maxRecDepth 20000
namespace Go.Proofs.Ythonmildlahjdaa.Pure
open Go.RowKit Go.Proofs.Ythonmildlahjdaa.PFnExactCoolestFor Go.Proofs.YthonmildlahjdaaW.PrintWords Go.Proofs.YthonmildlahjdaaW.PrintLast Go.Proofs.YthonmildlahjdaaW.PrintMore Go.Proofs.Ythonmildlahjdaa.Plain
theorem spec_l01In_eq (a b c : Int) : spec_l01In.f a b c = some (decide (b ≤ a ∧ a ≤ c)) := by
  unfold spec_l01In.f
  by_cases h : b ≤ a <;> simp [h]
theorem spec_SpeedAt_ev (d : Int) : Ev (fun k => spec_SpeedAt.f k d) (pSpeed d) := ev_at 1 fun k => by
  unfold spec_SpeedAt.f pSpeed
  simp only [spec_l01In_eq, Option.bind_some, decide_eq_true_eq, spec_SpeedAt.j0]
  by_cases h : -30 ≤ d ∧ d ≤ 60
  · rw [if_pos h, if_neg (fun c : ¬ (-30 ≤ d ∧ d ≤ 60) => c h)]
    by_cases h1 : d < 4
    · simp [h1]
    · by_cases h2 : d > 34
      · simp [h1, h2]
      · simp only [h1, h2, if_false, decide_false, Bool.false_eq_true, false_or]
        (repeat' split) <;> first | rfl | omega
  · simp [h]
theorem spec_MinutesAt_ev (d p : Int) : Ev (fun k => spec_MinutesAt.f k d p) (pMinutes d p) := by
  unfold spec_MinutesAt.f pMinutes
  refine Ev.bind (spec_SpeedAt_ev d) (ev_const ?_)
  have hr := pSpeed_range d
  simp only [spec_l01In_eq, Option.bind_some, decide_eq_true_eq]
  by_cases h : pSpeed d ≤ 0
  · simp [h]
  · by_cases h2 : 0 ≤ p ∧ p ≤ 10000
    · rw [if_neg h, if_pos h2, if_neg (show ¬ pSpeed d = 0 by omega), if_neg (show ¬ (pSpeed d ≤ 0 ∨ ¬ (0 ≤ p ∧ p ≤ 10000)) by omega), up_arith (by omega) (by omega)]
    · simp [h, h2]
theorem spec_CoolestFor_l0 (p m : Int) (n : Nat) : ∀ d : Int, 4 ≤ d → d ≤ 35 → 35 - d < n → Ev (fun k => spec_CoolestFor.l0 k p m d) (pCoolest p m n d) := by
  induction n with
  | zero => intro d h0 h1 h2; omega
  | succ n ih =>
    intro d h0 h1 h2
    refine ev_succ ?_
    simp only [spec_CoolestFor.l0]
    unfold pCoolest
    by_cases h : d ≤ 34
    · rw [if_pos h]
      refine ev_ifp h (Ev.bind (spec_MinutesAt_ev d p) ?_)
      by_cases h3 : pMinutes d p ≤ m
      · rw [if_pos h3]
        exact ev_ifp h3 (Ev.now _)
      · rw [if_neg h3]
        refine ev_ifn h3 ?_
        rw [w64 (n := d + 1) (by omega) (by omega)]
        exact ih _ (by omega) (by omega) (by omega)
    · rw [if_neg h]
      exact ev_ifn h (Ev.now _)
theorem spec_CoolestFor_ev (p m : Int) : Ev (fun k => spec_CoolestFor.f k p m) (pCoolestFor p m) := by
  unfold spec_CoolestFor.f pCoolestFor
  simp only [spec_l01In_eq, Option.bind_some, decide_eq_true_eq]
  by_cases h : 0 ≤ p ∧ p ≤ 10000
  · refine ev_ifp h (ev_succ ?_)
    simp only [spec_CoolestFor.j0]
    by_cases h2 : 1 ≤ m ∧ m ≤ 10000
    · rw [if_pos ⟨h, h2⟩, decide_eq_true h2]
      exact ev_ifn (by decide) (spec_CoolestFor_l0 p m 32 4 (by omega) (by omega) (by omega))
    · rw [if_neg (fun c => h2 c.2), decide_eq_false h2]
      exact ev_ifp (by simp) (Ev.now _)
  · rw [if_neg (fun c => h c.1)]
    refine ev_ifn h (ev_succ ?_)
    simp only [spec_CoolestFor.j0]
    exact ev_ifp (by simp) (Ev.now _)
theorem impl_in_eq (a b c : Int) : impl_in.f a b c = some (decide (b ≤ a ∧ a ≤ c)) := by
  unfold impl_in.f
  by_cases h : b ≤ a <;> simp [h]
theorem impl_up_eq {a b : Int} (h : 0 ≤ a ∧ a ≤ 1000000000) (h2 : 1 ≤ b ∧ b ≤ 1000000) : impl_up.f a b = some (pUp a b) := by
  unfold impl_up.f
  rw [if_neg (by omega), up_arith h h2]
theorem impl_SpeedAt_ev (d : Int) : Ev (fun k => impl_SpeedAt.f k d) (pSpeed d) := ev_at 1 fun k => by
  unfold impl_SpeedAt.f pSpeed
  simp only [impl_in_eq, Option.bind_some, decide_eq_true_eq, impl_SpeedAt.j0]
  by_cases h : -30 ≤ d ∧ d ≤ 60
  · rw [if_pos h, if_neg (fun c : ¬ (-30 ≤ d ∧ d ≤ 60) => c h)]
    by_cases h1 : d < 4
    · simp [h1]
    · by_cases h2 : d ≥ 35
      · have h3 : 34 < d := by omega
        simp [h1, h2, h3]
      · have h3 : ¬ 34 < d := by omega
        simp only [h1, h2, h3, if_false, decide_false, Bool.false_eq_true, false_or]
        (repeat' split) <;> first | rfl | omega
  · simp [h]
theorem impl_MinutesAt_ev (d p : Int) : Ev (fun k => impl_MinutesAt.f k d p) (pMinutes d p) := by
  unfold impl_MinutesAt.f pMinutes
  refine Ev.bind (impl_SpeedAt_ev d) (ev_const ?_)
  have hr := pSpeed_range d
  simp only [impl_in_eq, Option.bind_some, decide_eq_true_eq]
  by_cases h : pSpeed d ≤ 0
  · simp [h]
  · by_cases h2 : 0 ≤ p ∧ p ≤ 10000
    · rw [if_neg h, if_pos h2, if_neg (show ¬ (pSpeed d ≤ 0 ∨ ¬ (0 ≤ p ∧ p ≤ 10000)) by omega), impl_up_eq (by omega) (by omega)]
      rfl
    · simp [h, h2]
theorem impl_CoolestFor_l0 (p m : Int) (n : Nat) : ∀ d : Int, 4 ≤ d → d ≤ 35 → 35 - d < n → Ev (fun k => impl_CoolestFor.l0 k p m d) (pCoolest p m n d) := by
  induction n with
  | zero => intro d h0 h1 h2; omega
  | succ n ih =>
    intro d h0 h1 h2
    refine ev_succ ?_
    simp only [impl_CoolestFor.l0]
    unfold pCoolest
    by_cases h : d ≤ 34
    · rw [if_pos h]
      refine ev_ifp h (Ev.bind (impl_MinutesAt_ev d p) ?_)
      by_cases h3 : pMinutes d p ≤ m
      · rw [if_pos h3]
        exact ev_ifp h3 (Ev.now _)
      · rw [if_neg h3]
        refine ev_ifn h3 ?_
        rw [w64 (n := d + 1) (by omega) (by omega)]
        exact ih _ (by omega) (by omega) (by omega)
    · rw [if_neg h]
      exact ev_ifn h (Ev.now _)
theorem impl_CoolestFor_ev (p m : Int) : Ev (fun k => impl_CoolestFor.f k p m) (pCoolestFor p m) := by
  unfold impl_CoolestFor.f pCoolestFor
  simp only [impl_in_eq, Option.bind_some, decide_eq_true_eq]
  by_cases h : 0 ≤ p ∧ p ≤ 10000
  · refine ev_ifp h (ev_succ ?_)
    simp only [impl_CoolestFor.j0]
    by_cases h2 : 1 ≤ m ∧ m ≤ 10000
    · rw [if_pos ⟨h, h2⟩, decide_eq_true h2]
      exact ev_ifn (by decide) (impl_CoolestFor_l0 p m 32 4 (by omega) (by omega) (by omega))
    · rw [if_neg (fun c => h2 c.2), decide_eq_false h2]
      exact ev_ifp (by simp) (Ev.now _)
  · rw [if_neg (fun c => h c.1)]
    refine ev_ifn h (ev_succ ?_)
    simp only [impl_CoolestFor.j0]
    exact ev_ifp (by simp) (Ev.now _)
theorem FnExactCoolestFor : laws_FnExactCoolestFor.Pure := by
  intro a0 a1 _ _
  refine Ev.rounds (g := fun k => laws_FnExactCoolestFor.f k a0 a1) ?_
  unfold laws_FnExactCoolestFor.f
  refine Ev.bind (spec_CoolestFor_ev a0 a1) (Ev.bind (impl_CoolestFor_ev a0 a1) ?_)
  exact ev_ifp rfl (Ev.now _)
end Go.Proofs.Ythonmildlahjdaa.Pure
