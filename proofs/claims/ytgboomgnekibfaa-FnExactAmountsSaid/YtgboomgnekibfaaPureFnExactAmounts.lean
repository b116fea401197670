/- What is proved: read as plain functions on numbers and lists, the law FnExactAmounts answers true at every input of its kinds; no condition is added. -/
import Derived.Test.YtgboomgnekibfaaPFnExactAmountsx2
import Derived.Test.YtgboomgnekibfaaPlain
set_option linter.unusedVariables false
set_option linter.unusedSimpArgs false
set_option maxRecDepth 20000
namespace Go.Proofs.Ytgboomgnekibfaa.Pure
open Go.RowKit Go.Proofs.Ytgboomgnekibfaa.PFnExactAmounts Go.Proofs.YtgboomgnekibfaaW.PrintWords Go.Proofs.YtgboomgnekibfaaW.PrintLast Go.Proofs.YtgboomgnekibfaaW.PrintMore Go.Proofs.Ytgboomgnekibfaa.Plain
theorem spec_l01In_eq (a b c : Int) : spec_l01In.f a b c = some (decide (b ≤ a ∧ a ≤ c)) := by
  unfold spec_l01In.f
  by_cases h : b ≤ a <;> simp [h]
theorem spec_DoughOk_eq (a b c : Int) : spec_DoughOk.f a b c = some (pDoughOk a b c) := by
  unfold spec_DoughOk.f pDoughOk
  simp only [spec_l01In_eq, Option.bind_some, decide_eq_true_eq]
  by_cases h : 300 ≤ a ∧ a ≤ 1200 <;> by_cases h2 : 0 ≤ b ∧ b ≤ 50 <;> simp [h, h2]
theorem spec_PartOf_eq (a b : Int) : spec_PartOf.f a b = some (pPartOf a b) := by
  unfold spec_PartOf.f pPartOf
  simp only [spec_l01In_eq, Option.bind_some, decide_eq_true_eq]
  by_cases h : 0 ≤ a ∧ a ≤ 1000000
  · by_cases h2 : 0 ≤ b ∧ b ≤ 2000
    · rw [if_pos h, if_pos h2, if_pos ⟨h, h2⟩, partOf_arith h h2]
    · rw [if_pos h, if_neg h2, if_neg (fun c => h2 c.2)]
  · rw [if_neg h, if_neg (fun c => h c.1)]
theorem spec_Amounts_ev (a b c f : Int) : Ev (fun k => spec_Amounts.f k a b c f) (pAmounts a b c f) := ev_at 1 fun k => by
  unfold spec_Amounts.f pAmounts
  simp only [spec_DoughOk_eq, spec_l01In_eq, spec_PartOf_eq, Option.bind_some, spec_Amounts.j0]
  by_cases h : pDoughOk a b c = true
  · by_cases h2 : 0 ≤ f ∧ f ≤ 1000000 <;> simp [h, h2]
  · simp [h]
theorem impl_in_eq (a b c : Int) : impl_in.f a b c = some (decide (b ≤ a ∧ a ≤ c)) := by
  unfold impl_in.f
  by_cases h : b ≤ a <;> simp [h]
theorem impl_DoughOk_eq (a b c : Int) : impl_DoughOk.f a b c = some (pDoughOk a b c) := by
  unfold impl_DoughOk.f pDoughOk
  simp only [impl_in_eq, Option.bind_some, decide_eq_true_eq]
  by_cases h : 300 ≤ a ∧ a ≤ 1200 <;> by_cases h2 : 0 ≤ b ∧ b ≤ 50 <;> simp [h, h2]
theorem impl_PartOf_eq (a b : Int) : impl_PartOf.f a b = some (pPartOf a b) := by
  unfold impl_PartOf.f pPartOf
  simp only [impl_in_eq, Option.bind_some, decide_eq_true_eq]
  by_cases h : 0 ≤ a ∧ a ≤ 1000000
  · by_cases h2 : 0 ≤ b ∧ b ≤ 2000
    · rw [if_pos h, if_pos h2, if_pos ⟨h, h2⟩, partOf_arith h h2]
    · rw [if_pos h, if_neg h2, if_neg (fun c => h2 c.2)]
  · rw [if_neg h, if_neg (fun c => h c.1)]
theorem impl_Amounts_ev (a b c f : Int) : Ev (fun k => impl_Amounts.f k a b c f) (pAmounts a b c f) := ev_at 1 fun k => by
  unfold impl_Amounts.f pAmounts
  simp only [impl_DoughOk_eq, impl_in_eq, impl_PartOf_eq, Option.bind_some, impl_Amounts.j0]
  by_cases h : pDoughOk a b c = true
  · by_cases h2 : 0 ≤ f ∧ f ≤ 1000000 <;> simp [h, h2]
  · simp [h]
theorem laws_eqIntS_l0 (xs : List Int) (hn : xs.length ≤ 4611686018427387904) (d : Nat) : ∀ j : Nat, j + d = xs.length → Ev (fun k => laws_eqIntS.l0 k xs xs j) true := by
  induction d with
  | zero =>
    intro j hj
    refine ev_at 1 fun k => ?_
    simp only [laws_eqIntS.l0]
    rw [if_neg (by omega)]
  | succ d ih =>
    intro j hj
    refine Ev.step (f := fun k => laws_eqIntS.l0 k xs xs ((j + 1 : Nat) : Int)) (fun k => ?_) (ih (j + 1) (by omega))
    simp only [laws_eqIntS.l0, if_true]
    rw [if_pos (by omega), if_pos (by omega), if_pos (by omega), wnext (n := xs.length) (by omega) hn]
theorem laws_eqIntS_ev (xs : List Int) (hn : xs.length ≤ 4611686018427387904) : Ev (fun k => laws_eqIntS.f k xs xs) true := by
  unfold laws_eqIntS.f
  simp only [if_true]
  exact laws_eqIntS_l0 xs hn xs.length 0 (by omega)
theorem laws_markIntS_l0 (d : Nat) : ∀ (j : Nat) (xs : List Int) (m : Int), xs.length ≤ 4611686018427387904 → 0 ≤ m → m + d ≤ 4611686018427387904 → j + d = xs.length → Ev (fun k => laws_markIntS.l0 k xs m j) (m + d, xs.take j ++ pFrom m d) := by
  induction d with
  | zero =>
    intro j xs m hn hm hm2 hj
    refine ev_at 1 fun k => ?_
    simp only [laws_markIntS.l0]
    rw [if_neg (by omega), List.take_of_length_le (by omega)]
    simp [pFrom]
  | succ d ih =>
    intro j xs m hn hm hm2 hj
    refine Ev.step (f := fun k => laws_markIntS.l0 k (xs.set j m) (m + 1) ((j + 1 : Nat) : Int)) (fun k => ?_) (ev_eq (ih (j + 1) (xs.set j m) (m + 1) (by simpa using hn) (by omega) (by omega) (by simp; omega)) ?_)
    · simp only [laws_markIntS.l0]
      rw [if_pos (by omega), if_pos (by omega), wnext (n := xs.length) (by omega) hn, w64 (n := m + 1) (by omega) (by omega), Int.toNat_natCast]
    · rw [take_set_succ xs j m (by omega)]
      simp only [pFrom, List.append_assoc, List.singleton_append, Prod.mk.injEq, and_true]
      omega
theorem laws_markIntS_ev (xs : List Int) (hn : xs.length ≤ 4611686018427387000) : Ev (fun k => laws_markIntS.f k xs 1) (1 + (xs.length : Int), pFrom 1 xs.length) := by
  unfold laws_markIntS.f
  exact ev_eq (laws_markIntS_l0 xs.length 0 xs 1 (by omega) (by omega) (by omega) (by omega)) (by simp)
theorem laws_heldIntS_l0 (d : Nat) : ∀ (j : Nat) (xs : List Int) (m : Int), xs.length ≤ 4611686018427387904 → 0 ≤ m → m + d ≤ 4611686018427387904 → j + d = xs.length → xs.drop j = pFrom m d → Ev (fun k => laws_heldIntS.l0 k xs m j) (m + d) := by
  induction d with
  | zero =>
    intro j xs m hn hm hm2 hj hx
    refine ev_at 1 fun k => ?_
    simp only [laws_heldIntS.l0]
    rw [if_neg (by omega)]
    simp
  | succ d ih =>
    intro j xs m hn hm hm2 hj hx
    rw [List.drop_eq_getElem_cons (by omega)] at hx
    simp only [pFrom, List.cons.injEq] at hx
    refine Ev.step (f := fun k => laws_heldIntS.l0 k xs (m + 1) ((j + 1 : Nat) : Int)) (fun k => ?_) (ev_eq (ih (j + 1) xs (m + 1) hn (by omega) (by omega) (by omega) hx.2) (by omega))
    simp only [laws_heldIntS.l0]
    rw [if_pos (by omega), if_pos (by omega), rd_nat xs j (by omega), if_pos hx.1, wnext (n := xs.length) (by omega) hn, w64 (n := m + 1) (by omega) (by omega)]
theorem laws_heldIntS_ev (n : Nat) (hn : n ≤ 4611686018427387000) : Ev (fun k => laws_heldIntS.f k (pFrom 1 n) 1) (1 + (n : Int)) := by
  unfold laws_heldIntS.f
  exact laws_heldIntS_l0 n 0 (pFrom 1 n) 1 (by rw [pFrom_length]; omega) (by omega) (by omega) (by rw [pFrom_length]; omega) rfl
theorem FnExactAmounts (a b c f : Int) (_ : (Lit.int .i64 a).wf = true) (_ : (Lit.int .i64 b).wf = true) (_ : (Lit.int .i64 c).wf = true) (_ : (Lit.int .i64 f).wf = true) : ∃ k, laws_FnExactAmounts.f k a b c f = some true := by
  refine Ev.rounds (g := fun k => laws_FnExactAmounts.f k a b c f) ?_
  unfold laws_FnExactAmounts.f laws_toDough.f
  simp only [Option.bind_some]
  have hl : (pAmounts a b c f).length ≤ 4 := by unfold pAmounts; split <;> simp
  refine Ev.bind (spec_Amounts_ev a b c f) (Ev.bind (impl_Amounts_ev a b c f) (Ev.bind (laws_eqIntS_ev _ (by omega)) ?_))
  simp only [if_true]
  refine Ev.bind (laws_markIntS_ev _ (by omega)) (Ev.bind (laws_heldIntS_ev _ (by omega)) ?_)
  simp only [if_true]
  refine ev_ifn (by omega) ?_
  refine Ev.bind (impl_Amounts_ev a b c f) (Ev.bind (laws_eqIntS_ev _ (by omega)) ?_)
  simp only [if_true]
  refine Ev.bind (laws_heldIntS_ev _ (by omega)) ?_
  simp only [if_true]
  refine ev_ifn (by omega) ?_
  exact Ev.now _
end Go.Proofs.Ytgboomgnekibfaa.Pure
