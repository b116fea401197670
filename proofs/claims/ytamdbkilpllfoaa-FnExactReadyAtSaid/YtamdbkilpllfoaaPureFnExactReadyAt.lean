/- What is proved: read as plain functions on numbers and lists, the law FnExactReadyAt answers true at every input of its kinds; no condition is added. -/
import Derived.Test.YtamdbkilpllfoaaPFnExactReadyAtx2
import Derived.Test.YtamdbkilpllfoaaPlain
set_option linter.unusedVariables false
set_option linter.unusedSimpArgs false
set_option maxRecDepth 20000
namespace Go.Proofs.Ytamdbkilpllfoaa.Pure
open Go.RowKit Go.Proofs.Ytamdbkilpllfoaa.PFnExactReadyAt Go.Proofs.YtamdbkilpllfoaaW.PrintWords Go.Proofs.YtamdbkilpllfoaaW.PrintLast Go.Proofs.YtamdbkilpllfoaaW.PrintMore Go.Proofs.Ytamdbkilpllfoaa.Plain
theorem laws_toIntS_l0 (xs : List Int) (hn : xs.length ≤ 4611686018427387904) (d : Nat) : ∀ (j : Nat) (ys : List Int), j + d = xs.length → ys.length = xs.length → Ev (fun k => laws_toIntS.l0 k xs ys j) (ys.take j ++ xs.drop j) := by
  induction d with
  | zero =>
    intro j ys hj hy
    refine ev_succ ?_
    simp only [laws_toIntS.l0]
    rw [List.take_of_length_le (by omega), List.drop_of_length_le (by omega)]
    exact ev_ifn (by omega) (ev_const (by simp))
  | succ d ih =>
    intro j ys hj hy
    refine ev_succ ?_
    simp only [laws_toIntS.l0]
    rw [wnext (n := xs.length) (by omega) hn, Int.toNat_natCast, rd_nat xs j (by omega)]
    refine ev_ifp (by omega) (ev_ifp (by omega) (ev_ifp (by omega) (ev_eq (ih (j + 1) (ys.set j xs[j]) (by omega) (by simpa using hy)) ?_)))
    rw [take_set_succ ys j _ (by omega), List.drop_eq_getElem_cons (show j < xs.length by omega)]
    simp only [List.append_assoc, List.singleton_append]
theorem laws_toIntS_ev (xs : List Int) (hn : xs.length ≤ 35184372088832) : Ev (fun k => laws_toIntS.f k xs) xs := by
  unfold laws_toIntS.f
  simp only [Int.toNat_natCast]
  exact ev_ifp (by omega) (ev_ifp hn (ev_eq (laws_toIntS_l0 xs (by omega) xs.length 0 _ (by omega) (by simp)) (by simp)))
theorem laws_eqIntS_l0 (xs : List Int) (hn : xs.length ≤ 4611686018427387904) (d : Nat) : ∀ j : Nat, j + d = xs.length → Ev (fun k => laws_eqIntS.l0 k xs xs j) true := by
  induction d with
  | zero =>
    intro j hj
    refine ev_at 1 fun k => ?_
    simp only [laws_eqIntS.l0]
    rw [if_neg (by omega)]
  | succ d ih =>
    intro j hj
    refine Ev.step (f := fun k => laws_eqIntS.l0 k xs xs ((j + 1 : Nat) : Int)) (fun k => ?_) (ih (j + 1) (by omega))
    simp only [laws_eqIntS.l0, if_true]
    rw [if_pos (by omega), if_pos (by omega), if_pos (by omega), wnext (n := xs.length) (by omega) hn]
theorem laws_eqIntS_ev (xs : List Int) (hn : xs.length ≤ 4611686018427387904) : Ev (fun k => laws_eqIntS.f k xs xs) true := by
  unfold laws_eqIntS.f
  simp only [if_true]
  exact laws_eqIntS_l0 xs hn xs.length 0 (by omega)
theorem spec_l01In_eq (a b c : Int) : spec_l01In.f a b c = some (decide (b ≤ a ∧ a ≤ c)) := by
  unfold spec_l01In.f
  by_cases h : b ≤ a <;> simp [h]
theorem spec_SpeedAt_ev (d : Int) : Ev (fun k => spec_SpeedAt.f k d) (pSpeed d) := ev_at 1 fun k => by
  unfold spec_SpeedAt.f pSpeed
  simp only [spec_l01In_eq, Option.bind_some, decide_eq_true_eq, spec_SpeedAt.j0]
  by_cases h : -30 ≤ d ∧ d ≤ 60
  · rw [if_pos h, if_neg (fun c : ¬ (-30 ≤ d ∧ d ≤ 60) => c h)]
    by_cases h1 : d < 4
    · simp [h1]
    · by_cases h2 : d > 34
      · simp [h1, h2]
      · simp only [h1, h2, if_false, decide_false, Bool.false_eq_true, false_or]
        (repeat' split) <;> first | rfl | omega
  · simp [h]
theorem spec_RiseAfter_l0 (xs : List Int) (hn : xs.length ≤ 1048576) (d : Nat) : ∀ (j : Nat) (acc : Int), j + d = xs.length → 0 ≤ acc → acc ≤ 16 * j → Ev (fun k => spec_RiseAfter.l0 k xs acc j) (if pDegOk (xs.drop j) = true then (if xs.length ≤ 1000 then acc + pRise (xs.drop j) else -1) else -1) := by
  induction d with
  | zero =>
    intro j acc hj h0 h1
    refine ev_succ ?_
    simp only [spec_RiseAfter.l0]
    rw [List.drop_of_length_le (by omega), if_pos (show pDegOk [] = true from rfl)]
    refine ev_ifn (by omega) ?_
    by_cases h : xs.length ≤ 1000
    · rw [if_pos h]
      exact ev_ifn (by omega) (ev_const (by simp [pRise]))
    · rw [if_neg h]
      exact ev_ifp (by omega) (Ev.now _)
  | succ d ih =>
    intro j acc hj h0 h1
    refine ev_succ ?_
    simp only [spec_RiseAfter.l0]
    rw [List.drop_eq_getElem_cons (show j < xs.length by omega), rd_nat xs j (by omega), wnext (n := xs.length) (by omega) (by omega)]
    refine ev_ifp (by omega) (ev_ifp (by omega) (Ev.bind (spec_SpeedAt_ev _) ?_))
    have hr := pSpeed_range xs[j]
    by_cases h : -30 ≤ xs[j] ∧ xs[j] ≤ 60
    · have hs := pSpeed_in h
      have e : pDegOk (xs[j] :: xs.drop (j + 1)) = pDegOk (xs.drop (j + 1)) := by simp only [pDegOk, List.all_cons, decide_eq_true h, Bool.true_and]
      rw [e, w64 (n := acc + pSpeed xs[j]) (by omega) (by omega)]
      refine ev_ifn (by omega) (ev_eq (ih (j + 1) _ (by omega) (by omega) (by omega)) ?_)
      simp only [pRise]
      (repeat' split) <;> first | rfl | omega
    · have e : pDegOk (xs[j] :: xs.drop (j + 1)) = false := by simp only [pDegOk, List.all_cons, decide_eq_false h, Bool.false_and]
      rw [e, if_neg (by decide)]
      exact ev_ifp (by rw [pSpeed_out h]; decide) (Ev.now _)
theorem spec_RiseAfter_ev (xs : List Int) (hn : xs.length ≤ 1048576) : Ev (fun k => spec_RiseAfter.f k xs) (pRiseAfter xs) := by
  unfold spec_RiseAfter.f
  refine ev_eq (spec_RiseAfter_l0 xs hn xs.length 0 0 (by omega) (by omega) (by omega)) ?_
  rw [List.drop_zero]
  unfold pRiseAfter
  by_cases h : xs.length ≤ 1000 <;> by_cases h2 : pDegOk xs = true <;> simp [h, h2]
theorem spec_ReadyAt_l0 (xs : List Int) (p : Int) (hn : xs.length ≤ 1048576) (d : Nat) : ∀ (j : Nat) (acc : Int), j + d = xs.length → -(j : Int) ≤ acc → acc ≤ 16 * j → Ev (fun k => spec_ReadyAt.l0 k xs p acc j) (pReadyL p (xs.drop j) acc j) := by
  induction d with
  | zero =>
    intro j acc hj h0 h1
    refine ev_succ ?_
    simp only [spec_ReadyAt.l0]
    rw [List.drop_of_length_le (by omega)]
    exact ev_ifn (by omega) (Ev.now _)
  | succ d ih =>
    intro j acc hj h0 h1
    refine ev_succ ?_
    simp only [spec_ReadyAt.l0]
    have hr := pSpeed_range xs[j]
    rw [List.drop_eq_getElem_cons (show j < xs.length by omega), rd_nat xs j (by omega), wnext (n := xs.length) (by omega) (by omega)]
    refine ev_ifp (by omega) (ev_ifp (by omega) (Ev.bind (spec_SpeedAt_ev _) ?_))
    rw [w64 (n := acc + pSpeed xs[j]) (by omega) (by omega)]
    unfold pReadyL
    by_cases h : acc + pSpeed xs[j] ≥ p
    · rw [if_pos h]
      exact ev_ifp h (Ev.now _)
    · rw [if_neg h]
      exact ev_ifn h (ev_eq (ih (j + 1) _ (by omega) (by omega) (by omega)) (by congr 1))
theorem spec_ReadyAt_ev (xs : List Int) (p : Int) (hn : xs.length ≤ 1048576) : Ev (fun k => spec_ReadyAt.f k xs p) (pReadyAt xs p) := by
  unfold spec_ReadyAt.f pReadyAt
  refine Ev.bind (spec_RiseAfter_ev xs hn) ?_
  simp only [spec_l01In_eq, Option.bind_some]
  by_cases h : pRiseAfter xs < 0
  · rw [if_pos (.inl h)]
    refine ev_ifp h (ev_succ ?_)
    simp only [spec_ReadyAt.j0]
    exact ev_ifp (by simp) (Ev.now _)
  · refine ev_ifn h (ev_succ ?_)
    simp only [spec_ReadyAt.j0]
    by_cases h2 : 1 ≤ p ∧ p ≤ 10000
    · rw [if_neg (show ¬ (pRiseAfter xs < 0 ∨ ¬ (1 ≤ p ∧ p ≤ 10000)) by omega), decide_eq_true h2]
      exact ev_ifn (by decide) (ev_eq (spec_ReadyAt_l0 xs p hn xs.length 0 0 (by omega) (by omega) (by omega)) (by simp))
    · rw [if_pos (.inr h2), decide_eq_false h2]
      exact ev_ifp (by simp) (Ev.now _)
theorem impl_in_eq (a b c : Int) : impl_in.f a b c = some (decide (b ≤ a ∧ a ≤ c)) := by
  unfold impl_in.f
  by_cases h : b ≤ a <;> simp [h]
theorem impl_SpeedAt_ev (d : Int) : Ev (fun k => impl_SpeedAt.f k d) (pSpeed d) := ev_at 1 fun k => by
  unfold impl_SpeedAt.f pSpeed
  simp only [impl_in_eq, Option.bind_some, decide_eq_true_eq, impl_SpeedAt.j0]
  by_cases h : -30 ≤ d ∧ d ≤ 60
  · rw [if_pos h, if_neg (fun c : ¬ (-30 ≤ d ∧ d ≤ 60) => c h)]
    by_cases h1 : d < 4
    · simp [h1]
    · by_cases h2 : d ≥ 35
      · have h3 : 34 < d := by omega
        simp [h1, h2, h3]
      · have h3 : ¬ 34 < d := by omega
        simp only [h1, h2, h3, if_false, decide_false, Bool.false_eq_true, false_or]
        (repeat' split) <;> first | rfl | omega
  · simp [h]
theorem impl_allIn_eq (xs : List Int) (a b : Int) : impl_allIn.f xs a b = some (xs.all fun x => decide (a ≤ x ∧ x ≤ b)) := rfl
theorem impl_RiseAfter_l0 (xs : List Int) (hn : xs.length ≤ 1048576) (hok : pDegOk xs = true) (d : Nat) : ∀ (j : Nat) (acc : Int), j + d = xs.length → 0 ≤ acc → acc ≤ 16 * j → Ev (fun k => impl_RiseAfter.l0 k acc xs (xs.length : Int) j) (acc + pRise (xs.drop j)) := by
  induction d with
  | zero =>
    intro j acc hj h0 h1
    refine ev_succ ?_
    simp only [impl_RiseAfter.l0]
    rw [List.drop_of_length_le (by omega)]
    exact ev_ifn (by omega) (ev_const (by simp [pRise]))
  | succ d ih =>
    intro j acc hj h0 h1
    refine ev_succ ?_
    simp only [impl_RiseAfter.l0]
    have hr := pSpeed_range xs[j]
    have hs := pSpeed_in (d := xs[j]) (by simpa using List.all_eq_true.1 hok xs[j] (List.getElem_mem _))
    rw [List.drop_eq_getElem_cons (show j < xs.length by omega), rd_nat xs j (by omega), wnext (n := xs.length) (by omega) (by omega)]
    refine ev_ifp (by omega) (ev_ifp (by omega) (ev_ifp (by omega) (Ev.bind (impl_SpeedAt_ev _) ?_)))
    rw [w64 (n := acc + pSpeed xs[j]) (by omega) (by omega)]
    refine ev_eq (ih (j + 1) _ (by omega) (by omega) (by omega)) ?_
    simp only [pRise]
    omega
theorem impl_RiseAfter_ev (xs : List Int) (hn : xs.length ≤ 1048576) : Ev (fun k => impl_RiseAfter.f k xs) (pRiseAfter xs) := by
  unfold impl_RiseAfter.f pRiseAfter
  simp only [impl_allIn_eq, Option.bind_some]
  by_cases h : xs.length ≤ 1000
  · refine ev_ifn (by omega) (ev_succ ?_)
    simp only [impl_RiseAfter.j0]
    by_cases h2 : pDegOk xs = true
    · rw [if_pos ⟨h, h2⟩, show (xs.all fun x => decide (-30 ≤ x ∧ x ≤ 60)) = true from h2]
      exact ev_ifn (by decide) (ev_eq (impl_RiseAfter_l0 xs hn h2 xs.length 0 0 (by omega) (by omega) (by omega)) (by simp))
    · rw [if_neg (fun c => h2 c.2), show (xs.all fun x => decide (-30 ≤ x ∧ x ≤ 60)) = false from Bool.eq_false_iff.2 h2]
      exact ev_ifp (by simp) (Ev.now _)
  · rw [if_neg (fun c => h c.1)]
    refine ev_ifp (by omega) (ev_succ ?_)
    simp only [impl_RiseAfter.j0]
    exact ev_ifp (by simp) (Ev.now _)
theorem impl_ReadyAt_l0 (xs : List Int) (p : Int) (hn : xs.length ≤ 1000) (hok : pDegOk xs = true) (d : Nat) : ∀ j : Nat, j + d = xs.length → Ev (fun k => impl_ReadyAt.l0 k xs p (xs.length : Int) j) (pReadyL p (xs.drop j) (pRise (xs.take j)) j) := by
  induction d with
  | zero =>
    intro j hj
    refine ev_succ ?_
    simp only [impl_ReadyAt.l0]
    rw [List.drop_of_length_le (by omega)]
    exact ev_ifn (by omega) (Ev.now _)
  | succ d ih =>
    intro j hj
    refine ev_succ ?_
    simp only [impl_ReadyAt.l0]
    have hr := pSpeed_range xs[j]
    have ht : xs.take (j + 1) = xs.take j ++ [xs[j]] := List.take_succ_eq_append_getElem (by omega)
    have hv : pRiseAfter (xs.take (j + 1)) = pRise (xs.take j) + pSpeed xs[j] := by
      unfold pRiseAfter
      rw [if_pos ⟨by rw [List.length_take]; omega, List.all_eq_true.2 fun x hx => List.all_eq_true.1 hok x (List.mem_of_mem_take hx)⟩, ht, pRise_append]
      simp [pRise]
    rw [List.drop_eq_getElem_cons (show j < xs.length by omega), wnext (n := xs.length) (by omega) (by omega), Int.toNat_natCast]
    refine ev_ifp (by omega) (ev_ifp (by omega) (ev_ifp (by omega) (Ev.bind (impl_RiseAfter_ev _ (by rw [List.length_take]; omega)) ?_)))
    rw [hv]
    unfold pReadyL
    by_cases h : pRise (xs.take j) + pSpeed xs[j] ≥ p
    · rw [if_pos h]
      exact ev_ifp h (Ev.now _)
    · rw [if_neg h]
      refine ev_ifn h (ev_eq (ih (j + 1) (by omega)) ?_)
      rw [ht, pRise_append]
      simp only [pRise, Int.add_zero]
      congr 1
theorem impl_ReadyAt_ev (xs : List Int) (p : Int) (hn : xs.length ≤ 1048576) : Ev (fun k => impl_ReadyAt.f k xs p) (pReadyAt xs p) := by
  unfold impl_ReadyAt.f pReadyAt
  refine Ev.bind (impl_RiseAfter_ev xs hn) ?_
  simp only [impl_in_eq, Option.bind_some]
  by_cases h : pRiseAfter xs < 0
  · rw [if_pos (.inl h)]
    refine ev_ifp h (ev_succ ?_)
    simp only [impl_ReadyAt.j0]
    exact ev_ifp (by simp) (Ev.now _)
  · refine ev_ifn h (ev_succ ?_)
    simp only [impl_ReadyAt.j0]
    by_cases h2 : 1 ≤ p ∧ p ≤ 10000
    · rw [if_neg (show ¬ (pRiseAfter xs < 0 ∨ ¬ (1 ≤ p ∧ p ≤ 10000)) by omega), decide_eq_true h2]
      have h3 : xs.length ≤ 1000 ∧ pDegOk xs = true := by
        unfold pRiseAfter at h
        split at h
        · assumption
        · omega
      exact ev_ifn (by decide) (ev_eq (impl_ReadyAt_l0 xs p h3.1 h3.2 xs.length 0 (by omega)) (by simp [pRise]))
    · rw [if_pos (.inr h2), decide_eq_false h2]
      exact ev_ifp (by simp) (Ev.now _)
theorem FnExactReadyAt : laws_FnExactReadyAt.Pure := by
  intro xs p _ _ _ _
  refine Ev.rounds (g := fun k => laws_FnExactReadyAt.f k xs p) ?_
  unfold laws_FnExactReadyAt.f
  by_cases h : (xs.length : Int) > 1048576
  · exact ev_ifp h (Ev.now _)
  · have hn : xs.length ≤ 1048576 := by omega
    have ht := laws_toIntS_ev xs (by omega)
    exact ev_ifn h (Ev.bind ht (Ev.bind (spec_ReadyAt_ev xs p hn) (Ev.bind ht (Ev.bind (impl_ReadyAt_ev xs p hn) (ev_ifp rfl (Ev.bind ht (Ev.bind (laws_eqIntS_ev xs (by omega)) (ev_ifp rfl (Ev.now _)))))))))
end Go.Proofs.Ytamdbkilpllfoaa.Pure
