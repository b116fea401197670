/- What is proved: read as plain functions on numbers and lists, the law FnExactLoavesFrom answers true at every input of its kinds; no condition is added. -/
import Derived.Test.YtgboomgnekibfaaPFnExactLoavesFromx2
import Derived.Test.YtgboomgnekibfaaPlain
set_option linter.unusedVariables false
set_option linter.unusedSimpArgs false
set_option maxRecDepth 20000
namespace Go.Proofs.Ytgboomgnekibfaa.Pure
open Go.RowKit Go.Proofs.Ytgboomgnekibfaa.PFnExactLoavesFrom Go.Proofs.YtgboomgnekibfaaW.PrintWords Go.Proofs.YtgboomgnekibfaaW.PrintLast Go.Proofs.YtgboomgnekibfaaW.PrintMore Go.Proofs.Ytgboomgnekibfaa.Plain
theorem spec_l01In_eq (a b c : Int) : spec_l01In.f a b c = some (decide (b ≤ a ∧ a ≤ c)) := by
  unfold spec_l01In.f
  by_cases h : b ≤ a <;> simp [h]
theorem spec_LoafOk_eq (a b : Int) : spec_LoafOk.f a b = some (pLoafOk a b) := by
  unfold spec_LoafOk.f pLoafOk
  simp only [spec_l01In_eq, Option.bind_some, decide_eq_true_eq]
  by_cases h : 10 ≤ a ∧ a ≤ 5000 <;> simp [h]
theorem spec_BakedWeight_eq (a b d : Int) : spec_BakedWeight.f a b d = some (pBakedWeight a b d) := by
  unfold spec_BakedWeight.f pBakedWeight
  simp only [spec_LoafOk_eq, spec_l01In_eq, Option.bind_some, decide_eq_true_eq]
  by_cases h : pLoafOk a b = true
  · by_cases h2 : 0 ≤ d ∧ d ≤ 10000
    · have h3 := h
      simp only [pLoafOk, decide_eq_true_eq] at h3
      rw [if_pos h, if_pos h2, if_pos ⟨h, h2⟩, baked_arith (by omega) (by omega)]
    · rw [if_pos h, if_neg h2, if_neg (fun c => h2 c.2)]
  · rw [if_neg h, if_neg (fun c => h c.1)]
theorem spec_DoughFor_l0 {a b : Int} (hok : pLoafOk a b = true) (n : Nat) : ∀ x : Int, 0 ≤ x → x ≤ 8334 → 8334 - x < n → Ev (fun k => spec_DoughFor.l0 k x a b) (pLeast a b n x) := by
  have h3 := hok
  simp only [pLoafOk, decide_eq_true_eq] at h3
  induction n with
  | zero => intro x h0 h1 h2; omega
  | succ n ih =>
    intro x h0 h1 h2
    have hb : pBakedWeight a b x = pBaked b x := by unfold pBakedWeight; rw [if_pos ⟨hok, by omega⟩]
    unfold pLeast
    by_cases h : pBaked b x < a
    · have hx := baked_small h3.2 (by omega) h0 h
      rw [if_pos h]
      refine Ev.step (f := fun k => spec_DoughFor.l0 k (x + 1) a b) (fun k => ?_) (ih (x + 1) (by omega) (by omega) (by omega))
      simp only [spec_DoughFor.l0, spec_BakedWeight_eq, Option.bind_some, hb]
      rw [if_pos h, w64 (n := x + 1) (by omega) (by omega)]
    · rw [if_neg h]
      refine ev_at 1 fun k => ?_
      simp only [spec_DoughFor.l0, spec_BakedWeight_eq, Option.bind_some, hb]
      rw [if_neg h]
theorem spec_DoughFor_ev (a b : Int) : Ev (fun k => spec_DoughFor.f k a b) (pDoughFor a b) := by
  unfold spec_DoughFor.f pDoughFor
  simp only [spec_LoafOk_eq, Option.bind_some]
  by_cases h : pLoafOk a b = true
  · have h3 := h
    simp only [pLoafOk, decide_eq_true_eq] at h3
    simp only [if_pos h]
    exact spec_DoughFor_l0 h 8400 a (by omega) (by omega) (by omega)
  · simp only [if_neg h]
    exact Ev.now _
theorem spec_LoavesFrom_ev (a b d : Int) : Ev (fun k => spec_LoavesFrom.f k a b d) (pLoavesFrom a b d) := by
  unfold spec_LoavesFrom.f pLoavesFrom
  refine Ev.bind (spec_DoughFor_ev a b) (ev_const ?_)
  simp only [spec_l01In_eq, Option.bind_some, decide_eq_true_eq]
  by_cases h : pLoafOk a b = true
  · have h3 := h
    simp only [pLoafOk, decide_eq_true_eq] at h3
    obtain ⟨p1, p2, _, _⟩ := pDoughFor_props h
    rw [if_neg (show ¬ pDoughFor a b < 0 by omega)]
    by_cases h2 : 0 ≤ d ∧ d ≤ 1000000
    · have q1 : d / pDoughFor a b ≤ d := Int.ediv_le_self _ h2.1
      have q2 : 0 ≤ d / pDoughFor a b := Int.ediv_nonneg h2.1 (by omega)
      rw [if_pos h2, if_neg (show ¬ pDoughFor a b = 0 by omega), if_pos ⟨h, h2⟩, Int.tdiv_eq_ediv_of_nonneg h2.1, w64 (by omega) (by omega)]
    · simp [h2]
  · have e : pDoughFor a b = -1 := by unfold pDoughFor; rw [if_neg h]
    simp [h, e]
theorem impl_in_eq (a b c : Int) : impl_in.f a b c = some (decide (b ≤ a ∧ a ≤ c)) := by
  unfold impl_in.f
  by_cases h : b ≤ a <;> simp [h]
theorem impl_LoafOk_eq (a b : Int) : impl_LoafOk.f a b = some (pLoafOk a b) := by
  unfold impl_LoafOk.f pLoafOk
  simp only [impl_in_eq, Option.bind_some, decide_eq_true_eq]
  by_cases h : 10 ≤ a ∧ a ≤ 5000 <;> simp [h]
theorem impl_up_eq {a b : Int} (h : 0 ≤ a ∧ a ≤ 1000000000) (h2 : 1 ≤ b ∧ b ≤ 1000000) : impl_up.f a b = some (pUp a b) := by
  unfold impl_up.f
  rw [if_neg (by omega), up_arith h h2]
theorem impl_Loaf_baked_eq {a b d : Int} (h : 0 ≤ d ∧ d ≤ 1000000) (h2 : 0 ≤ b ∧ b ≤ 40) : impl_Loaf_baked.f a b d = some (pBaked b d) := by
  have h0 := mul_range h h2
  have e := baked_arith h h2
  unfold impl_Loaf_baked.f impl_up.f
  rw [w64 (n := d * b) (by omega) (by omega), if_neg (by omega)]
  rw [w64 (n := d * b) (by omega) (by omega)] at e
  simp only [Option.bind_some]
  rw [← e]
  rw [w64 (n := d * b + 100) (by omega) (by omega), w64 (n := d * b + 99) (by omega) (by omega), show d * b + 100 - 1 = d * b + 99 by omega, w64 (n := d * b + 99) (by omega) (by omega)]
theorem impl_DoughFor_l0 {a b : Int} (hok : pLoafOk a b = true) (n : Nat) : ∀ x : Int, 0 ≤ x → x ≤ 8334 → 8334 - x < n → Ev (fun k => impl_DoughFor.l0 k x a b) (pLeast a b n x) := by
  have h3 := hok
  simp only [pLoafOk, decide_eq_true_eq] at h3
  induction n with
  | zero => intro x h0 h1 h2; omega
  | succ n ih =>
    intro x h0 h1 h2
    have hb := impl_Loaf_baked_eq (a := a) (b := b) (d := x) (by omega) h3.2
    unfold pLeast
    by_cases h : pBaked b x < a
    · have hx := baked_small h3.2 (by omega) h0 h
      rw [if_pos h]
      refine Ev.step (f := fun k => impl_DoughFor.l0 k (x + 1) a b) (fun k => ?_) (ih (x + 1) (by omega) (by omega) (by omega))
      simp only [impl_DoughFor.l0, hb, Option.bind_some]
      rw [if_pos h, w64 (n := x + 1) (by omega) (by omega)]
    · rw [if_neg h]
      refine ev_at 1 fun k => ?_
      simp only [impl_DoughFor.l0, hb, Option.bind_some]
      rw [if_neg h]
theorem impl_DoughFor_ev (a b : Int) : Ev (fun k => impl_DoughFor.f k a b) (pDoughFor a b) := by
  unfold impl_DoughFor.f pDoughFor
  simp only [impl_LoafOk_eq, Option.bind_some]
  by_cases h : pLoafOk a b = true
  · have h3 := h
    simp only [pLoafOk, decide_eq_true_eq] at h3
    simp only [if_pos h]
    exact impl_DoughFor_l0 h 8400 a (by omega) (by omega) (by omega)
  · simp only [if_neg h]
    exact Ev.now _
theorem impl_LoavesFrom_ev (a b d : Int) : Ev (fun k => impl_LoavesFrom.f k a b d) (pLoavesFrom a b d) := by
  unfold impl_LoavesFrom.f pLoavesFrom
  simp only [impl_LoafOk_eq, impl_in_eq, Option.bind_some, decide_eq_true_eq]
  by_cases h : pLoafOk a b = true
  · have h3 := h
    simp only [pLoafOk, decide_eq_true_eq] at h3
    obtain ⟨p1, p2, _, _⟩ := pDoughFor_props h
    by_cases h2 : 0 ≤ d ∧ d ≤ 1000000
    · have q1 : d / pDoughFor a b ≤ d := Int.ediv_le_self _ h2.1
      have q2 : 0 ≤ d / pDoughFor a b := Int.ediv_nonneg h2.1 (by omega)
      simp only [if_pos h, if_pos h2, if_pos (And.intro h h2)]
      refine Ev.bind (impl_DoughFor_ev a b) (ev_const ?_)
      rw [if_neg (show ¬ pDoughFor a b = 0 by omega), Int.tdiv_eq_ediv_of_nonneg h2.1, w64 (by omega) (by omega)]
    · simp only [if_pos h, if_neg h2, if_neg (fun c : pLoafOk a b = true ∧ 0 ≤ d ∧ d ≤ 1000000 => h2 c.2)]
      exact Ev.now _
  · simp only [if_neg h, if_neg (fun c : pLoafOk a b = true ∧ 0 ≤ d ∧ d ≤ 1000000 => h c.1)]
    exact Ev.now _
theorem FnExactLoavesFrom (a b d : Int) (_ : (Lit.int .i64 a).wf = true) (_ : (Lit.int .i64 b).wf = true) (_ : (Lit.int .i64 d).wf = true) : ∃ k, laws_FnExactLoavesFrom.f k a b d = some true := by
  refine Ev.rounds (g := fun k => laws_FnExactLoavesFrom.f k a b d) ?_
  unfold laws_FnExactLoavesFrom.f laws_toLoaf.f
  simp only [Option.bind_some]
  refine Ev.bind (spec_LoavesFrom_ev a b d) (Ev.bind (impl_LoavesFrom_ev a b d) ?_)
  simp only [if_true]
  exact Ev.now _
end Go.Proofs.Ytgboomgnekibfaa.Pure
