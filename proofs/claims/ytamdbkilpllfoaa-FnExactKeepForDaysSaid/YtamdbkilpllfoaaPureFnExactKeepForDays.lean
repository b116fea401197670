/- What is proved: read as plain functions on numbers and lists, the law FnExactKeepForDays answers true at every input of its kinds; no condition is added. -/
import Derived.Test.YtamdbkilpllfoaaPFnExactKeepForDaysx4
import Derived.Test.YtamdbkilpllfoaaPlain
set_option linter.unusedVariables false
set_option linter.unusedSimpArgs false
set_option maxRecDepth 20000
namespace Go.Proofs.Ytamdbkilpllfoaa.Pure
open Go.RowKit Go.Proofs.Ytamdbkilpllfoaa.PFnExactKeepForDays Go.Proofs.YtamdbkilpllfoaaW.PrintWords Go.Proofs.YtamdbkilpllfoaaW.PrintLast Go.Proofs.YtamdbkilpllfoaaW.PrintMore Go.Proofs.Ytamdbkilpllfoaa.Plain
theorem laws_toIntS_l0 (xs : List Int) (hn : xs.length ≤ 4611686018427387904) (d : Nat) : ∀ (j : Nat) (ys : List Int), j + d = xs.length → ys.length = xs.length → Ev (fun k => laws_toIntS.l0 k xs ys j) (ys.take j ++ xs.drop j) := by
  induction d with
  | zero =>
    intro j ys hj hy
    refine ev_succ ?_
    simp only [laws_toIntS.l0]
    rw [List.take_of_length_le (by omega), List.drop_of_length_le (by omega)]
    exact ev_ifn (by omega) (ev_const (by simp))
  | succ d ih =>
    intro j ys hj hy
    refine ev_succ ?_
    simp only [laws_toIntS.l0]
    rw [wnext (n := xs.length) (by omega) hn, Int.toNat_natCast, rd_nat xs j (by omega)]
    refine ev_ifp (by omega) (ev_ifp (by omega) (ev_ifp (by omega) (ev_eq (ih (j + 1) (ys.set j xs[j]) (by omega) (by simpa using hy)) ?_)))
    rw [take_set_succ ys j _ (by omega), List.drop_eq_getElem_cons (show j < xs.length by omega)]
    simp only [List.append_assoc, List.singleton_append]
theorem laws_toIntS_ev (xs : List Int) (hn : xs.length ≤ 35184372088832) : Ev (fun k => laws_toIntS.f k xs) xs := by
  unfold laws_toIntS.f
  simp only [Int.toNat_natCast]
  exact ev_ifp (by omega) (ev_ifp hn (ev_eq (laws_toIntS_l0 xs (by omega) xs.length 0 _ (by omega) (by simp)) (by simp)))
theorem laws_eqIntS_l0 (xs : List Int) (hn : xs.length ≤ 4611686018427387904) (d : Nat) : ∀ j : Nat, j + d = xs.length → Ev (fun k => laws_eqIntS.l0 k xs xs j) true := by
  induction d with
  | zero =>
    intro j hj
    refine ev_at 1 fun k => ?_
    simp only [laws_eqIntS.l0]
    rw [if_neg (by omega)]
  | succ d ih =>
    intro j hj
    refine Ev.step (f := fun k => laws_eqIntS.l0 k xs xs ((j + 1 : Nat) : Int)) (fun k => ?_) (ih (j + 1) (by omega))
    simp only [laws_eqIntS.l0, if_true]
    rw [if_pos (by omega), if_pos (by omega), if_pos (by omega), wnext (n := xs.length) (by omega) hn]
theorem laws_eqIntS_ev (xs : List Int) (hn : xs.length ≤ 4611686018427387904) : Ev (fun k => laws_eqIntS.f k xs xs) true := by
  unfold laws_eqIntS.f
  simp only [if_true]
  exact laws_eqIntS_l0 xs hn xs.length 0 (by omega)
theorem impl_allIn_eq (xs : List Int) (a b : Int) : impl_allIn.f xs a b = some (xs.all fun x => decide (a ≤ x ∧ x ≤ b)) := rfl
theorem impl_in_eq (a b c : Int) : impl_in.f a b c = some (decide (b ≤ a ∧ a ≤ c)) := by
  unfold impl_in.f
  by_cases h : b ≤ a <;> simp [h]
theorem impl_LeavenOk_eq (a b : Int) : impl_LeavenOk.f a b = some (pLeavenOk a b) := by
  unfold impl_LeavenOk.f pLeavenOk
  simp only [impl_in_eq, Option.bind_some, decide_eq_true_eq]
  by_cases h : 0 ≤ a ∧ a ≤ 100000 <;> simp [h]
theorem impl_Feed_ev (g f t : Int) : Ev (fun k => impl_Feed.f k g f t) (pFeed g f t) := ev_at 1 fun k => by
  unfold impl_Feed.f pFeed
  simp only [impl_LeavenOk_eq, impl_in_eq, Option.bind_some, impl_Feed.j0]
  by_cases h : pLeavenOk g f = true
  · by_cases h0 : g = 0
    · simp [h, h0]
    · by_cases h1 : 1 ≤ t ∧ t ≤ 10
      · have h3 := h
        simp only [pLeavenOk, decide_eq_true_eq] at h3
        have h4 := mul_range (a := g) (b := t + 1) (m := 100000) (n := 11) h3.1 (by omega)
        have e1 : wrap64 (t + 1) = t + 1 := w64 (by omega) (by omega)
        have e2 : wrap64 (g * (t + 1)) = g * (t + 1) := w64 (by omega) (by omega)
        have e3 : wrap64 (f + 1) = f + 1 := w64 (by omega) (by omega)
        rw [e1, e2, e3]
        by_cases h5 : pLeavenOk (g * (t + 1)) (f + 1) = true <;> simp [h, h0, h1, h5]
      · simp [h, h0, h1]
  · simp [h]
theorem impl_TakeLeaven_eq (g f n k : Int) : impl_TakeLeaven.f g f n k = some (pTake g f n k) := by
  unfold impl_TakeLeaven.f pTake
  simp only [impl_LeavenOk_eq, impl_in_eq, Option.bind_some, decide_eq_true_eq]
  by_cases h : pLeavenOk g f = true
  · have h3 := h
    simp only [pLeavenOk, decide_eq_true_eq] at h3
    by_cases h1 : 0 ≤ n ∧ n ≤ 100000
    · rw [w64 (n := g - n) (by omega) (by omega)]
      by_cases h2 : 0 ≤ k ∧ k ≤ 100000
      · by_cases h4 : g - n < k
        · have h5 : ¬ k ≤ g - n := by omega
          simp [h, h1, h2, h4, h5]
        · have h5 : k ≤ g - n := by omega
          simp [h, h1, h2, h4, h5]
      · simp [h, h1, h2]
    · simp [h, h1]
  · simp [h]
theorem impl_lasts_l0 (ns : List Int) (t : Int) (hn : ns.length ≤ 1048576) (d : Nat) : ∀ (j : Nat) (g f : Int), j + d = ns.length → Ev (fun k => impl_lasts.l0 k t ns (ns.length : Int) j g f) (pLasts t (ns.drop j) g f) := by
  induction d with
  | zero =>
    intro j g f hj
    refine ev_succ ?_
    simp only [impl_lasts.l0]
    rw [List.drop_of_length_le (by omega)]
    exact ev_ifn (by omega) (Ev.now _)
  | succ d ih =>
    intro j g f hj
    refine ev_succ ?_
    simp only [impl_lasts.l0, impl_TakeLeaven_eq, Option.bind_some]
    rw [List.drop_eq_getElem_cons (show j < ns.length by omega), rd_nat ns j (by omega), wnext (n := ns.length) (by omega) (by omega)]
    refine ev_ifp (by omega) (ev_ifp (by omega) (ev_ifp (by omega) (Ev.bind (impl_Feed_ev g f t) ?_)))
    unfold pLasts
    by_cases h1 : (pFeed g f t).2.2 = true
    · rw [if_pos h1]
      refine ev_ifp h1 ?_
      by_cases h2 : (pTake (pFeed g f t).1 (pFeed g f t).2.1 ns[j] 1).2.2 = true
      · rw [if_pos h2]
        exact ev_ifp h2 (ih (j + 1) _ _ (by omega))
      · rw [if_neg h2]
        exact ev_ifn h2 (Ev.now _)
    · rw [if_neg h1]
      exact ev_ifn h1 (Ev.now _)
theorem impl_lasts_ev (ns : List Int) (t g f : Int) (hn : ns.length ≤ 1048576) : Ev (fun k => impl_lasts.f k g f ns t) (pLasts t ns g f) := by
  unfold impl_lasts.f
  exact ev_eq (impl_lasts_l0 ns t hn ns.length 0 g f (by omega)) (by simp)
theorem impl_KeepForDays_l0 (ns : List Int) (t : Int) (hn : ns.length ≤ 1048576) (n : Nat) : ∀ g : Int, 0 ≤ g → g ≤ 100001 → 100001 - g < n → Ev (fun k => impl_KeepForDays.l0 k ns t g) (pKeepL t ns n g) := by
  induction n with
  | zero => intro g h0 h1 h2; omega
  | succ n ih =>
    intro g h0 h1 h2
    refine ev_succ ?_
    simp only [impl_KeepForDays.l0]
    unfold pKeepL
    by_cases h : g ≤ 100000
    · rw [if_pos h]
      refine ev_ifp h (Ev.bind (impl_lasts_ev ns t g 0 hn) ?_)
      by_cases h3 : pLasts t ns g 0 = true
      · rw [if_pos h3]
        exact ev_ifp h3 (Ev.now _)
      · rw [if_neg h3, w64 (n := g + 1) (by omega) (by omega)]
        exact ev_ifn h3 (ih _ (by omega) (by omega) (by omega))
    · rw [if_neg h]
      exact ev_ifn h (Ev.now _)
theorem impl_KeepForDays_ev (ns : List Int) (t : Int) (hn : ns.length ≤ 1048576) : Ev (fun k => impl_KeepForDays.f k ns t) (pKeepForDays ns t) := by
  unfold impl_KeepForDays.f pKeepForDays
  simp only [impl_allIn_eq, impl_in_eq, Option.bind_some]
  by_cases h : ns.length ≤ 10
  · refine ev_ifn (by omega) ?_
    by_cases h2 : pNeedsOk ns = true
    · refine ev_ifp h2 (ev_succ ?_)
      simp only [impl_KeepForDays.j0]
      by_cases h3 : 1 ≤ t ∧ t ≤ 10
      · rw [if_pos ⟨h, h2, h3⟩, decide_eq_true h3]
        exact ev_ifn (by decide) (impl_KeepForDays_l0 ns t hn _ 0 (by omega) (by omega) (by omega))
      · rw [if_neg (fun c => h3 c.2.2), decide_eq_false h3]
        exact ev_ifp (by simp) (Ev.now _)
    · rw [if_neg (fun c => h2 c.2.1)]
      refine ev_ifn h2 (ev_succ ?_)
      simp only [impl_KeepForDays.j0]
      exact ev_ifp (by simp) (Ev.now _)
  · rw [if_neg (fun c => h c.1)]
    refine ev_ifp (by omega) (ev_succ ?_)
    simp only [impl_KeepForDays.j0]
    exact ev_ifp (by simp) (Ev.now _)
theorem spec_l01In_eq (a b c : Int) : spec_l01In.f a b c = some (decide (b ≤ a ∧ a ≤ c)) := by
  unfold spec_l01In.f
  by_cases h : b ≤ a <;> simp [h]
theorem spec_LeavenOk_eq (a b : Int) : spec_LeavenOk.f a b = some (pLeavenOk a b) := by
  unfold spec_LeavenOk.f pLeavenOk
  simp only [spec_l01In_eq, Option.bind_some, decide_eq_true_eq]
  by_cases h : 0 ≤ a ∧ a ≤ 100000 <;> simp [h]
theorem spec_Feed_ev (g f t : Int) : Ev (fun k => spec_Feed.f k g f t) (pFeed g f t) := ev_at 1 fun k => by
  unfold spec_Feed.f pFeed
  simp only [spec_LeavenOk_eq, spec_l01In_eq, Option.bind_some, spec_Feed.j0]
  by_cases h : pLeavenOk g f = true
  · by_cases h0 : g = 0
    · simp [h, h0]
    · by_cases h1 : 1 ≤ t ∧ t ≤ 10
      · have h3 := h
        simp only [pLeavenOk, decide_eq_true_eq] at h3
        have h4 := mul_range (a := g) (b := t + 1) (m := 100000) (n := 11) h3.1 (by omega)
        have e1 : wrap64 (t + 1) = t + 1 := w64 (by omega) (by omega)
        have e2 : wrap64 (g * (t + 1)) = g * (t + 1) := w64 (by omega) (by omega)
        have e3 : wrap64 (f + 1) = f + 1 := w64 (by omega) (by omega)
        rw [e1, e2, e3]
        by_cases h5 : pLeavenOk (g * (t + 1)) (f + 1) = true <;> simp [h, h0, h1, h5]
      · simp [h, h0, h1]
  · simp [h]
theorem spec_TakeLeaven_eq (g f n k : Int) : spec_TakeLeaven.f g f n k = some (pTake g f n k) := by
  unfold spec_TakeLeaven.f pTake
  simp only [spec_LeavenOk_eq, spec_l01In_eq, Option.bind_some, decide_eq_true_eq]
  by_cases h : pLeavenOk g f = true
  · have h3 := h
    simp only [pLeavenOk, decide_eq_true_eq] at h3
    by_cases h1 : 0 ≤ n ∧ n ≤ 100000
    · rw [w64 (n := g - n) (by omega) (by omega)]
      by_cases h2 : 0 ≤ k ∧ k ≤ 100000
      · by_cases h4 : g - n < k
        · have h5 : ¬ k ≤ g - n := by omega
          simp [h, h1, h2, h4, h5]
        · have h5 : k ≤ g - n := by omega
          simp [h, h1, h2, h4, h5]
      · simp [h, h1, h2]
    · simp [h, h1]
  · simp [h]
theorem spec_l04Lasts_l0 (ns : List Int) (t : Int) (hn : ns.length ≤ 1048576) (d : Nat) : ∀ (j : Nat) (g f : Int), j + d = ns.length → Ev (fun k => spec_l04Lasts.l0 k ns t j g f) (pLasts3 t (ns.drop j) g f) := by
  induction d with
  | zero =>
    intro j g f hj
    refine ev_succ ?_
    simp only [spec_l04Lasts.l0]
    rw [List.drop_of_length_le (by omega)]
    exact ev_ifn (by omega) (Ev.now _)
  | succ d ih =>
    intro j g f hj
    refine ev_succ ?_
    simp only [spec_l04Lasts.l0, spec_TakeLeaven_eq, Option.bind_some]
    rw [List.drop_eq_getElem_cons (show j < ns.length by omega), rd_nat ns j (by omega), wnext (n := ns.length) (by omega) (by omega)]
    refine ev_ifp (by omega) ?_
    unfold pLasts3
    by_cases h0 : g = 0
    · rw [if_pos h0]
      exact ev_ifp h0 (Ev.now _)
    · rw [if_neg h0]
      refine ev_ifn h0 (Ev.bind (spec_Feed_ev g f t) ?_)
      by_cases h1 : (pFeed g f t).2.2 = true
      · rw [if_pos h1]
        refine ev_ifp h1 (ev_ifp (by omega) ?_)
        by_cases h2 : (pTake (pFeed g f t).1 (pFeed g f t).2.1 ns[j] 1).2.2 = true
        · rw [if_pos h2]
          exact ev_ifp h2 (ih (j + 1) _ _ (by omega))
        · rw [if_neg h2]
          exact ev_ifn h2 (Ev.now _)
      · rw [if_neg h1]
        exact ev_ifn h1 (Ev.now _)
theorem spec_l04Lasts_ev (ns : List Int) (t g : Int) (hn : ns.length ≤ 1048576) : Ev (fun k => spec_l04Lasts.f k ns t g) (pLasts3 t ns g 0) := by
  unfold spec_l04Lasts.f
  exact ev_eq (spec_l04Lasts_l0 ns t hn ns.length 0 g 0 (by omega)) (by simp)
theorem spec_KeepForDays_l1 (ns : List Int) (t : Int) (ht : 1 ≤ t ∧ t ≤ 10) (hl : ns.length ≤ 10) (hok : pNeedsOk ns = true) (d : Nat) : ∀ low high : Int, 0 ≤ low → low ≤ high → high ≤ 100000 → high - low ≤ d → (∀ g, 0 ≤ g → g < low → pLasts3 t ns g 0 = 0) → (high = 100000 ∨ 0 < pLasts3 t ns high 0) →
    Ev (fun k => spec_KeepForDays.l1 k ns t low high) (pKeepL t ns 100002 0) := by
  have hns : ∀ n ∈ ns, 0 ≤ n ∧ n ≤ 10000 := fun n hn => by simpa using List.all_eq_true.1 hok n hn
  induction d with
  | zero =>
    intro low high h0 h1 h2 h3 h4 h5
    obtain rfl : low = high := by omega
    refine ev_succ ?_
    simp only [spec_KeepForDays.l1]
    refine ev_ifn (by omega) (Ev.bind (spec_l04Lasts_ev ns t low (by omega)) ?_)
    rw [pKeep_eq ht hl hok ⟨h0, h2⟩ h4 h5]
    by_cases c : pLasts3 t ns low 0 = 1
    · simp only [if_pos c]
      exact Ev.now _
    · simp only [if_neg c]
      exact Ev.now _
  | succ d ih =>
    intro low high h0 h1 h2 h3 h4 h5
    by_cases hlt : low < high
    · refine ev_succ ?_
      simp only [spec_KeepForDays.l1]
      rw [w64 (n := low + high) (by omega) (by omega), Int.tdiv_eq_ediv_of_nonneg (show 0 ≤ low + high by omega), w64 (n := (low + high) / 2) (by omega) (by omega), w64 (n := (low + high) / 2 + 1) (by omega) (by omega)]
      refine ev_ifp hlt (Ev.bind (spec_l04Lasts_ev ns t _ (by omega)) ?_)
      have hr := pLasts3_range t ns ((low + high) / 2) 0
      by_cases c : pLasts3 t ns ((low + high) / 2) 0 > 0
      · exact ev_ifp c (ih low _ h0 (by omega) (by omega) (by omega) h4 (.inr c))
      · refine ev_ifn c (ih _ high (by omega) (by omega) h2 (by omega) (fun g g0 g1 => ?_) h5)
        have m := (pLasts3_mono ht ns g ((low + high) / 2) 0 hns g0 (by omega) (by omega) (by omega) (by omega)).1
        have hr2 := pLasts3_range t ns g 0
        by_cases z : 0 < pLasts3 t ns g 0
        · exact absurd (m z) c
        · omega
    · exact (fun (hz : low = high) => by
        subst hz
        refine ev_succ ?_
        simp only [spec_KeepForDays.l1]
        refine ev_ifn (by omega) (Ev.bind (spec_l04Lasts_ev ns t low (by omega)) ?_)
        rw [pKeep_eq ht hl hok ⟨h0, h2⟩ h4 h5]
        by_cases c : pLasts3 t ns low 0 = 1
        · simp only [if_pos c]
          exact Ev.now _
        · simp only [if_neg c]
          exact Ev.now _) (by omega)
theorem spec_KeepForDays_l0 (ns : List Int) (t : Int) (ht : 1 ≤ t ∧ t ≤ 10) (hl : ns.length ≤ 10) (d : Nat) : ∀ j : Nat, j + d = ns.length → pNeedsOk (ns.take j) = true → Ev (fun k => spec_KeepForDays.l0 k ns t j) (if pNeedsOk ns = true then pKeepL t ns 100002 0 else -1) := by
  induction d with
  | zero =>
    intro j hj hk
    rw [List.take_of_length_le (by omega)] at hk
    refine ev_succ ?_
    simp only [spec_KeepForDays.l0]
    rw [if_pos hk]
    exact ev_ifn (by omega) (spec_KeepForDays_l1 ns t ht hl hk 100000 0 100000 (by omega) (by omega) (by omega) (by omega) (fun g g0 g1 => by omega) (.inl rfl))
  | succ d ih =>
    intro j hj hk
    refine ev_succ ?_
    simp only [spec_KeepForDays.l0, spec_l01In_eq, Option.bind_some]
    rw [rd_nat ns j (by omega), wnext (n := ns.length) (by omega) (by omega)]
    refine ev_ifp (by omega) (ev_ifp (by omega) ?_)
    by_cases h : 0 ≤ ns[j] ∧ ns[j] ≤ 10000
    · have ht2 : ns.take (j + 1) = ns.take j ++ [ns[j]] := List.take_succ_eq_append_getElem (by omega)
      refine ev_ifp (decide_eq_true h) (ih (j + 1) (by omega) ?_)
      rw [ht2]
      unfold pNeedsOk at hk ⊢
      rw [List.all_append, hk, List.all_cons, decide_eq_true h]
      rfl
    · have hno : ¬ pNeedsOk ns = true := fun c => h (by simpa using List.all_eq_true.1 c ns[j] (List.getElem_mem _))
      rw [if_neg hno]
      exact ev_ifn (by rw [decide_eq_false h]; decide) (Ev.now _)
theorem spec_KeepForDays_ev (ns : List Int) (t : Int) : Ev (fun k => spec_KeepForDays.f k ns t) (pKeepForDays ns t) := by
  unfold spec_KeepForDays.f pKeepForDays
  simp only [spec_l01In_eq, Option.bind_some]
  by_cases h : ns.length ≤ 10
  · refine ev_ifn (by omega) (ev_succ ?_)
    simp only [spec_KeepForDays.j0]
    by_cases h3 : 1 ≤ t ∧ t ≤ 10
    · rw [decide_eq_true h3]
      refine ev_ifn (by decide) (ev_eq (spec_KeepForDays_l0 ns t h3 h ns.length 0 (by omega) rfl) ?_)
      by_cases h2 : pNeedsOk ns = true
      · rw [if_pos h2, if_pos ⟨h, h2, h3⟩]
      · rw [if_neg h2, if_neg (fun c => h2 c.2.1)]
    · rw [if_neg (fun c => h3 c.2.2), decide_eq_false h3]
      exact ev_ifp (by simp) (Ev.now _)
  · rw [if_neg (fun c => h c.1)]
    refine ev_ifp (by omega) (ev_succ ?_)
    simp only [spec_KeepForDays.j0]
    exact ev_ifp (by simp) (Ev.now _)
theorem FnExactKeepForDays : laws_FnExactKeepForDays.Pure := by
  intro xs p _ _ _ _
  refine Ev.rounds (g := fun k => laws_FnExactKeepForDays.f k xs p) ?_
  unfold laws_FnExactKeepForDays.f
  by_cases h : (xs.length : Int) > 1048576
  · exact ev_ifp h (Ev.now _)
  · have hn : xs.length ≤ 1048576 := by omega
    have ht := laws_toIntS_ev xs (by omega)
    exact ev_ifn h (Ev.bind ht (Ev.bind (spec_KeepForDays_ev xs p) (Ev.bind ht (Ev.bind (impl_KeepForDays_ev xs p hn) (ev_ifp rfl (Ev.bind ht (Ev.bind (laws_eqIntS_ev xs (by omega)) (ev_ifp rfl (Ev.now _)))))))))
end Go.Proofs.Ytamdbkilpllfoaa.Pure
