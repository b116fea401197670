/- What is proved: read as plain functions on numbers and lists, the law FnExactFeedingsFor answers true at every input of its kinds; no condition is added. -/
import Derived.Test.YtgboomgnekibfaaPFnExactFeedingsForx2
import Derived.Test.YtgboomgnekibfaaPlain
set_option linter.unusedVariables false
set_option linter.unusedSimpArgs false
set_option maxRecDepth 20000
namespace Go.Proofs.Ytgboomgnekibfaa.Pure
open Go.RowKit Go.Proofs.Ytgboomgnekibfaa.PFnExactFeedingsFor Go.Proofs.YtgboomgnekibfaaW.PrintWords Go.Proofs.YtgboomgnekibfaaW.PrintLast Go.Proofs.YtgboomgnekibfaaW.PrintMore Go.Proofs.Ytgboomgnekibfaa.Plain
theorem spec_l01In_eq (a b c : Int) : spec_l01In.f a b c = some (decide (b ≤ a ∧ a ≤ c)) := by
  unfold spec_l01In.f
  by_cases h : b ≤ a <;> simp [h]
theorem spec_LeavenOk_eq (a b : Int) : spec_LeavenOk.f a b = some (pLeavenOk a b) := by
  unfold spec_LeavenOk.f pLeavenOk
  simp only [spec_l01In_eq, Option.bind_some, decide_eq_true_eq]
  by_cases h : 0 ≤ a ∧ a ≤ 100000 <;> simp [h]
theorem spec_Feed_ev (g f t : Int) : Ev (fun k => spec_Feed.f k g f t) (pFeed g f t) := ev_at 1 fun k => by
  unfold spec_Feed.f pFeed
  simp only [spec_LeavenOk_eq, spec_l01In_eq, Option.bind_some, spec_Feed.j0]
  by_cases h : pLeavenOk g f = true
  · by_cases h0 : g = 0
    · simp [h, h0]
    · by_cases h1 : 1 ≤ t ∧ t ≤ 10
      · have h3 := h
        simp only [pLeavenOk, decide_eq_true_eq] at h3
        have h4 := mul_range (a := g) (b := t + 1) (m := 100000) (n := 11) h3.1 (by omega)
        have e1 : wrap64 (t + 1) = t + 1 := w64 (by omega) (by omega)
        have e2 : wrap64 (g * (t + 1)) = g * (t + 1) := w64 (by omega) (by omega)
        have e3 : wrap64 (f + 1) = f + 1 := w64 (by omega) (by omega)
        rw [e1, e2, e3]
        by_cases h5 : pLeavenOk (g * (t + 1)) (f + 1) = true <;> simp [h, h0, h1, h5]
      · simp [h, h0, h1]
  · simp [h]
theorem spec_FeedingsFor_l0 {t need : Int} (hneed : need ≤ 100000) (n : Nat) : ∀ g f c : Int, g ≤ 100000 → 0 ≤ c → c + (100000 - g) ≤ 200000 → 100000 - g < n → Ev (fun k => spec_FeedingsFor.l0 k t need c g f) (pFeedings t need n g f c) := by
  induction n with
  | zero => intro g f c h0 h1 h2 h3; omega
  | succ n ih =>
    intro g f c h0 h1 h2 h3
    unfold pFeedings
    by_cases h : g < need
    · rw [if_pos h]
      by_cases h4 : (pFeed g f t).2.2 = true
      · have h5 := pFeed_grows h4
        rw [if_pos h4]
        refine Ev.step (f := fun k => (spec_Feed.f k g f t).bind fun bt => if bt.2.2 = true then spec_FeedingsFor.l0 k t need (wrap64 (c + 1)) bt.1 bt.2.1 else some (-1)) (fun k => ?_) (Ev.bind (spec_Feed_ev g f t) ?_)
        · simp only [spec_FeedingsFor.l0]
          rw [if_pos h]
        · simp only [if_pos h4]
          rw [w64 (n := c + 1) (by omega) (by omega)]
          exact ih _ _ _ h5.2 (by omega) (by omega) (by omega)
      · rw [if_neg h4]
        refine Ev.step (f := fun k => (spec_Feed.f k g f t).bind fun bt => if bt.2.2 = true then spec_FeedingsFor.l0 k t need (wrap64 (c + 1)) bt.1 bt.2.1 else some (-1)) (fun k => ?_) (Ev.bind (spec_Feed_ev g f t) ?_)
        · simp only [spec_FeedingsFor.l0]
          rw [if_pos h]
        · simp only [if_neg h4]
          exact Ev.now _
    · rw [if_neg h]
      refine ev_at 1 fun k => ?_
      simp only [spec_FeedingsFor.l0]
      rw [if_neg h]
theorem spec_FeedingsFor_ev (g f t need : Int) : Ev (fun k => spec_FeedingsFor.f k g f t need) (pFeedingsFor g f t need) := by
  unfold spec_FeedingsFor.f pFeedingsFor
  simp only [spec_LeavenOk_eq, spec_l01In_eq, Option.bind_some]
  by_cases h : pLeavenOk g f = true
  · have h3 := h
    simp only [pLeavenOk, decide_eq_true_eq] at h3
    by_cases h2 : 0 ≤ need ∧ need ≤ 100000
    · simp only [if_pos h, if_pos (And.intro h h2), decide_eq_true h2, Bool.not_true]
      refine Ev.step (f := fun k => spec_FeedingsFor.l0 k t need 0 g f) (fun k => ?_) (spec_FeedingsFor_l0 h2.2 _ _ _ _ (by omega) (by omega) (by omega) (by omega))
      simp only [spec_FeedingsFor.j0]
      rw [if_neg (by decide)]
    · simp only [if_pos h, if_neg (fun c : pLeavenOk g f = true ∧ 0 ≤ need ∧ need ≤ 100000 => h2 c.2), decide_eq_false h2, Bool.not_false]
      exact ev_at 1 fun k => by simp only [spec_FeedingsFor.j0, if_true]
  · simp only [if_neg h, if_neg (fun c : pLeavenOk g f = true ∧ 0 ≤ need ∧ need ≤ 100000 => h c.1)]
    exact ev_at 1 fun k => by simp only [spec_FeedingsFor.j0, if_true]
theorem impl_in_eq (a b c : Int) : impl_in.f a b c = some (decide (b ≤ a ∧ a ≤ c)) := by
  unfold impl_in.f
  by_cases h : b ≤ a <;> simp [h]
theorem impl_LeavenOk_eq (a b : Int) : impl_LeavenOk.f a b = some (pLeavenOk a b) := by
  unfold impl_LeavenOk.f pLeavenOk
  simp only [impl_in_eq, Option.bind_some, decide_eq_true_eq]
  by_cases h : 0 ≤ a ∧ a ≤ 100000 <;> simp [h]
theorem impl_Feed_ev (g f t : Int) : Ev (fun k => impl_Feed.f k g f t) (pFeed g f t) := ev_at 1 fun k => by
  unfold impl_Feed.f pFeed
  simp only [impl_LeavenOk_eq, impl_in_eq, Option.bind_some, impl_Feed.j0]
  by_cases h : pLeavenOk g f = true
  · by_cases h0 : g = 0
    · simp [h, h0]
    · by_cases h1 : 1 ≤ t ∧ t ≤ 10
      · have h3 := h
        simp only [pLeavenOk, decide_eq_true_eq] at h3
        have h4 := mul_range (a := g) (b := t + 1) (m := 100000) (n := 11) h3.1 (by omega)
        have e1 : wrap64 (t + 1) = t + 1 := w64 (by omega) (by omega)
        have e2 : wrap64 (g * (t + 1)) = g * (t + 1) := w64 (by omega) (by omega)
        have e3 : wrap64 (f + 1) = f + 1 := w64 (by omega) (by omega)
        rw [e1, e2, e3]
        by_cases h5 : pLeavenOk (g * (t + 1)) (f + 1) = true <;> simp [h, h0, h1, h5]
      · simp [h, h0, h1]
  · simp [h]
theorem impl_FeedingsFor_l0 {t need : Int} (hneed : need ≤ 100000) (n : Nat) : ∀ g f c : Int, g ≤ 100000 → 0 ≤ c → c + (100000 - g) ≤ 200000 → 100000 - g < n → Ev (fun k => impl_FeedingsFor.l0 k t need c g f) (pFeedings t need n g f c) := by
  induction n with
  | zero => intro g f c h0 h1 h2 h3; omega
  | succ n ih =>
    intro g f c h0 h1 h2 h3
    unfold pFeedings
    by_cases h : g < need
    · rw [if_pos h]
      by_cases h4 : (pFeed g f t).2.2 = true
      · have h5 := pFeed_grows h4
        rw [if_pos h4]
        refine Ev.step (f := fun k => (impl_Feed.f k g f t).bind fun bt => if bt.2.2 = true then impl_FeedingsFor.l0 k t need (wrap64 (c + 1)) bt.1 bt.2.1 else some (-1)) (fun k => ?_) (Ev.bind (impl_Feed_ev g f t) ?_)
        · simp only [impl_FeedingsFor.l0]
          rw [if_pos h]
        · simp only [if_pos h4]
          rw [w64 (n := c + 1) (by omega) (by omega)]
          exact ih _ _ _ h5.2 (by omega) (by omega) (by omega)
      · rw [if_neg h4]
        refine Ev.step (f := fun k => (impl_Feed.f k g f t).bind fun bt => if bt.2.2 = true then impl_FeedingsFor.l0 k t need (wrap64 (c + 1)) bt.1 bt.2.1 else some (-1)) (fun k => ?_) (Ev.bind (impl_Feed_ev g f t) ?_)
        · simp only [impl_FeedingsFor.l0]
          rw [if_pos h]
        · simp only [if_neg h4]
          exact Ev.now _
    · rw [if_neg h]
      refine ev_at 1 fun k => ?_
      simp only [impl_FeedingsFor.l0]
      rw [if_neg h]
theorem impl_FeedingsFor_ev (g f t need : Int) : Ev (fun k => impl_FeedingsFor.f k g f t need) (pFeedingsFor g f t need) := by
  unfold impl_FeedingsFor.f pFeedingsFor
  simp only [impl_LeavenOk_eq, impl_in_eq, Option.bind_some]
  by_cases h : pLeavenOk g f = true
  · have h3 := h
    simp only [pLeavenOk, decide_eq_true_eq] at h3
    by_cases h2 : 0 ≤ need ∧ need ≤ 100000
    · simp only [if_pos h, if_pos (And.intro h h2), decide_eq_true h2, Bool.not_true]
      refine Ev.step (f := fun k => impl_FeedingsFor.l0 k t need 0 g f) (fun k => ?_) (impl_FeedingsFor_l0 h2.2 _ _ _ _ (by omega) (by omega) (by omega) (by omega))
      simp only [impl_FeedingsFor.j0]
      rw [if_neg (by decide)]
    · simp only [if_pos h, if_neg (fun c : pLeavenOk g f = true ∧ 0 ≤ need ∧ need ≤ 100000 => h2 c.2), decide_eq_false h2, Bool.not_false]
      exact ev_at 1 fun k => by simp only [impl_FeedingsFor.j0, if_true]
  · simp only [if_neg h, if_neg (fun c : pLeavenOk g f = true ∧ 0 ≤ need ∧ need ≤ 100000 => h c.1)]
    exact ev_at 1 fun k => by simp only [impl_FeedingsFor.j0, if_true]
theorem FnExactFeedingsFor (g f t n : Int) (_ : (Lit.int .i64 g).wf = true) (_ : (Lit.int .i64 f).wf = true) (_ : (Lit.int .i64 t).wf = true) (_ : (Lit.int .i64 n).wf = true) : ∃ k, laws_FnExactFeedingsFor.f k g f t n = some true := by
  refine Ev.rounds (g := fun k => laws_FnExactFeedingsFor.f k g f t n) ?_
  unfold laws_FnExactFeedingsFor.f laws_toLeaven.f
  simp only [Option.bind_some]
  refine Ev.bind (spec_FeedingsFor_ev g f t n) (Ev.bind (impl_FeedingsFor_ev g f t n) (ev_const ?_))
  rw [if_pos rfl]
end Go.Proofs.Ytgboomgnekibfaa.Pure
