/- What is proved here: each Go function that the law FnOvens reaches comes to what the plain Lean function beside it says; some by hand, the others as printed over them. No condition is added. -/
import Derived.Test.YtjkpdpggnapmlaaPFnOvensx0
import Derived.Test.YtjkpdpggnapmlaaPFnOvensx1
namespace Go.Proofs.Ytjkpdpggnapmlaa.PFnOvens
open Go.RowKit Go.Proofs.YtjkpdpggnapmlaaW.PrintWords Go.Proofs.YtjkpdpggnapmlaaW.PrintLast Go.Proofs.YtjkpdpggnapmlaaW.PrintMore
attribute [local go_sem] max2_int min2_int max_two min_two max_three min_three max_four min_four   -- for this text's walks alone
set_option linter.unusedVariables false
set_option linter.unusedSimpArgs false

/-! ### impl_JoinSame: function 24 -/
-- over impl_BatchesOk.calls' own reading of the slice
def prs_k39 (l0 : List (S39)) : List (Int × Int) := l0.map fun s => (s.f0, s.f1)
def impl_JoinSame.f (l0 : List (S39)) : Option (List (S39)) := some (if (decide (l0.length ≤ 10) && l0.all fun s => Ytjkpdpggnapmlaa.Hand.okB (s.f0, s.f1)) = true then (Ytjkpdpggnapmlaa.Hand.pJoinFrom (prs_k39 l0) 200 1).map (fun p => ⟨p.1, p.2⟩) else [])
theorem reps_k39 (w : World) (base : Nat) (ok : Nat → Prop) : ∀ (xs : List (Int × Int)), Reps (k39.M w base ok) k39.sz (xs.map fun p => (⟨p.1, p.2⟩ : S39)) (Ytjkpdpggnapmlaa.Hand.flat xs) := by
  intro xs
  refine ⟨by rw [Ytjkpdpggnapmlaa.Hand.flat_length, List.length_map]; rfl, fun j p hj => ?_⟩
  rw [List.getElem?_map] at hj
  cases h : xs[j]? with
  | none => rw [h] at hj; cases hj
  | some q =>
    rw [h] at hj
    obtain rfl := Option.some.inj hj
    show k39.M w base ok _ (((Ytjkpdpggnapmlaa.Hand.flat xs).drop (j * 2)).take 2)
    rw [Ytjkpdpggnapmlaa.Hand.flat_seg xs j q h]
    exact k39_mkM _ _ _ (⟨q.1, q.2⟩ : S39)
theorem impl_JoinSame.calls (A0 : Option Addr) (c0 : Nat) (l0 : List (S39)) (r : List (S39)) (w : World) (hr0 : Kd.C k39 w A0 l0.length l0) (hc0 : l0.length ≤ c0) (h : impl_JoinSame.f l0 = some r) :
    Calls Try.prog 24 #[.slice A0 l0.length c0] w fun e w' => ∃ v0_ : Value, e = .returned (v0_) ∧ Kd.R k39 39 w' w.heap.size (fun _ => True) v0_ r ∧ Below w.heap.size w w' := by
  have hp := pairs_of_k39 hr0
  obtain rfl := Option.some.inj h
  have e2 : (l0.all fun s => Ytjkpdpggnapmlaa.Hand.okB (s.f0, s.f1)) = (prs_k39 l0).all Ytjkpdpggnapmlaa.Hand.okB := by simp [prs_k39, List.all_map, Function.comp_def]
  have e1 : l0.length = (prs_k39 l0).length := by simp [prs_k39]
  by_cases hb : (decide (l0.length ≤ 10) && l0.all fun s => Ytjkpdpggnapmlaa.Hand.okB (s.f0, s.f1)) = true
  · rw [if_pos hb]
    rw [e1, e2] at hb
    have hj := Ytjkpdpggnapmlaa.Hand.join_yes A0 c0 (prs_k39 l0) w hp hb
    rw [← e1] at hj
    refine hj.mono ?_
    rintro e w' ⟨g, n, cap, rfl, hn, ho, hbel⟩
    refine ⟨_, rfl, ⟨fun _ _ => trivial, _, ?_, reps_k39 _ _ _ _⟩, hbel⟩
    subst hn
    rw [List.length_map]
    exact ho
  · rw [if_neg hb]
    have hb' := Bool.eq_false_iff.2 hb
    rw [e1, e2] at hb'
    have hj := Ytjkpdpggnapmlaa.Hand.join_nil A0 c0 (prs_k39 l0) w hp hb'
    rw [← e1] at hj
    refine hj.mono ?_
    rintro e w' ⟨rfl, hbel⟩
    exact ⟨_, rfl, Kd.R_nil _ _ _ _ _, hbel⟩

end Go.Proofs.Ytjkpdpggnapmlaa.PFnOvens
