/- What is proved: read as plain functions on numbers and lists, the law FnExactDoughForAll answers true at every input of its kinds; no condition is added. -/
import Derived.Test.YtamdbkilpllfoaaPFnExactDoughForAllx4
import Derived.Test.YtamdbkilpllfoaaPlain
set_option linter.unusedVariables false
set_option linter.unusedSimpArgs false
set_option maxRecDepth 20000
namespace Go.Proofs.Ytamdbkilpllfoaa.Pure
open Go.RowKit Go.Proofs.Ytamdbkilpllfoaa.PFnExactDoughForAll Go.Proofs.YtamdbkilpllfoaaW.PrintWords Go.Proofs.YtamdbkilpllfoaaW.PrintLast Go.Proofs.YtamdbkilpllfoaaW.PrintMore Go.Proofs.Ytamdbkilpllfoaa.Plain
def pr_impl_Loaf (xs : List S36) : List (Int × Int) := xs.map fun s => (s.f0, s.f1)
theorem pr_impl_Loaf_length (xs : List S36) : (pr_impl_Loaf xs).length = xs.length := by simp [pr_impl_Loaf]
theorem rd_impl_Loaf (xs : List S36) (j : Nat) (h : j < xs.length) : rd_T36 xs (j : Int) = xs[j] := by simp [rd_T36, List.getD_eq_getElem?_getD, List.getElem?_eq_getElem h]
theorem pr_impl_Loaf_drop (xs : List S36) (j : Nat) (h : j < xs.length) : (pr_impl_Loaf xs).drop j = ((xs[j]).f0, (xs[j]).f1) :: (pr_impl_Loaf xs).drop (j + 1) := by
  rw [List.drop_eq_getElem_cons (by rw [pr_impl_Loaf_length]; exact h)]
  simp [pr_impl_Loaf]
theorem pr_impl_Loaf_get (xs : List S36) (j : Nat) (h : j < xs.length) : (pr_impl_Loaf xs)[j]'(by rw [pr_impl_Loaf_length]; exact h) = ((xs[j]).f0, (xs[j]).f1) := by simp [pr_impl_Loaf]
theorem pr_impl_Loaf_ok {p : Int × Int → Bool} {xs : List S36} (h : (pr_impl_Loaf xs).all p = true) (j : Nat) (hj : j < xs.length) : p ((xs[j]).f0, (xs[j]).f1) = true := by
  have := List.all_eq_true.1 h _ (List.getElem_mem (by rw [pr_impl_Loaf_length]; exact hj : j < (pr_impl_Loaf xs).length))
  rwa [pr_impl_Loaf_get xs j hj] at this
def pr_laws_Loaf (xs : List S67) : List (Int × Int) := xs.map fun s => (s.f0, s.f1)
theorem pr_laws_Loaf_length (xs : List S67) : (pr_laws_Loaf xs).length = xs.length := by simp [pr_laws_Loaf]
theorem rd_laws_Loaf (xs : List S67) (j : Nat) (h : j < xs.length) : rd_T67 xs (j : Int) = xs[j] := by simp [rd_T67, List.getD_eq_getElem?_getD, List.getElem?_eq_getElem h]
theorem pr_laws_Loaf_drop (xs : List S67) (j : Nat) (h : j < xs.length) : (pr_laws_Loaf xs).drop j = ((xs[j]).f0, (xs[j]).f1) :: (pr_laws_Loaf xs).drop (j + 1) := by
  rw [List.drop_eq_getElem_cons (by rw [pr_laws_Loaf_length]; exact h)]
  simp [pr_laws_Loaf]
theorem pr_laws_Loaf_get (xs : List S67) (j : Nat) (h : j < xs.length) : (pr_laws_Loaf xs)[j]'(by rw [pr_laws_Loaf_length]; exact h) = ((xs[j]).f0, (xs[j]).f1) := by simp [pr_laws_Loaf]
theorem pr_laws_Loaf_ok {p : Int × Int → Bool} {xs : List S67} (h : (pr_laws_Loaf xs).all p = true) (j : Nat) (hj : j < xs.length) : p ((xs[j]).f0, (xs[j]).f1) = true := by
  have := List.all_eq_true.1 h _ (List.getElem_mem (by rw [pr_laws_Loaf_length]; exact hj : j < (pr_laws_Loaf xs).length))
  rwa [pr_laws_Loaf_get xs j hj] at this
theorem laws_toIntS_l0 (xs : List Int) (hn : xs.length ≤ 4611686018427387904) (d : Nat) : ∀ (j : Nat) (ys : List Int), j + d = xs.length → ys.length = xs.length → Ev (fun k => laws_toIntS.l0 k xs ys j) (ys.take j ++ xs.drop j) := by
  induction d with
  | zero =>
    intro j ys hj hy
    refine ev_succ ?_
    simp only [laws_toIntS.l0]
    rw [List.take_of_length_le (by omega), List.drop_of_length_le (by omega)]
    exact ev_ifn (by omega) (ev_const (by simp))
  | succ d ih =>
    intro j ys hj hy
    refine ev_succ ?_
    simp only [laws_toIntS.l0]
    rw [wnext (n := xs.length) (by omega) hn, Int.toNat_natCast, rd_nat xs j (by omega)]
    refine ev_ifp (by omega) (ev_ifp (by omega) (ev_ifp (by omega) (ev_eq (ih (j + 1) (ys.set j xs[j]) (by omega) (by simpa using hy)) ?_)))
    rw [take_set_succ ys j _ (by omega), List.drop_eq_getElem_cons (show j < xs.length by omega)]
    simp only [List.append_assoc, List.singleton_append]
theorem laws_toIntS_ev (xs : List Int) (hn : xs.length ≤ 35184372088832) : Ev (fun k => laws_toIntS.f k xs) xs := by
  unfold laws_toIntS.f
  simp only [Int.toNat_natCast]
  exact ev_ifp (by omega) (ev_ifp hn (ev_eq (laws_toIntS_l0 xs (by omega) xs.length 0 _ (by omega) (by simp)) (by simp)))
theorem laws_eqIntS_l0 (xs : List Int) (hn : xs.length ≤ 4611686018427387904) (d : Nat) : ∀ j : Nat, j + d = xs.length → Ev (fun k => laws_eqIntS.l0 k xs xs j) true := by
  induction d with
  | zero =>
    intro j hj
    refine ev_at 1 fun k => ?_
    simp only [laws_eqIntS.l0]
    rw [if_neg (by omega)]
  | succ d ih =>
    intro j hj
    refine Ev.step (f := fun k => laws_eqIntS.l0 k xs xs ((j + 1 : Nat) : Int)) (fun k => ?_) (ih (j + 1) (by omega))
    simp only [laws_eqIntS.l0, if_true]
    rw [if_pos (by omega), if_pos (by omega), if_pos (by omega), wnext (n := xs.length) (by omega) hn]
theorem laws_eqIntS_ev (xs : List Int) (hn : xs.length ≤ 4611686018427387904) : Ev (fun k => laws_eqIntS.f k xs xs) true := by
  unfold laws_eqIntS.f
  simp only [if_true]
  exact laws_eqIntS_l0 xs hn xs.length 0 (by omega)
theorem impl_in_eq (a b c : Int) : impl_in.f a b c = some (decide (b ≤ a ∧ a ≤ c)) := by
  unfold impl_in.f
  by_cases h : b ≤ a <;> simp [h]
theorem impl_LoafOk_eq (a b : Int) : impl_LoafOk.f a b = some (pLoafOk a b) := by
  unfold impl_LoafOk.f pLoafOk
  simp only [impl_in_eq, Option.bind_some, decide_eq_true_eq]
  by_cases h : 10 ≤ a ∧ a ≤ 5000 <;> simp [h]
theorem impl_up_eq {a b : Int} (h : 0 ≤ a ∧ a ≤ 1000000000) (h2 : 1 ≤ b ∧ b ≤ 1000000) : impl_up.f a b = some (pUp a b) := by
  unfold impl_up.f
  rw [if_neg (by omega), up_arith h h2]
theorem impl_Loaf_baked_eq {a b d : Int} (h : 0 ≤ d ∧ d ≤ 1000000) (h2 : 0 ≤ b ∧ b ≤ 40) : impl_Loaf_baked.f a b d = some (pBaked b d) := by
  have h0 := mul_range h h2
  have e := baked_arith h h2
  unfold impl_Loaf_baked.f impl_up.f
  rw [w64 (n := d * b) (by omega) (by omega), if_neg (by omega)]
  rw [w64 (n := d * b) (by omega) (by omega)] at e
  simp only [Option.bind_some]
  rw [← e]
  rw [w64 (n := d * b + 100) (by omega) (by omega), w64 (n := d * b + 99) (by omega) (by omega), show d * b + 100 - 1 = d * b + 99 by omega, w64 (n := d * b + 99) (by omega) (by omega)]
theorem impl_DoughFor_l0 {a b : Int} (hok : pLoafOk a b = true) (n : Nat) : ∀ x : Int, 0 ≤ x → x ≤ 8334 → 8334 - x < n → Ev (fun k => impl_DoughFor.l0 k x a b) (pLeast a b n x) := by
  have h3 := hok
  simp only [pLoafOk, decide_eq_true_eq] at h3
  induction n with
  | zero => intro x h0 h1 h2; omega
  | succ n ih =>
    intro x h0 h1 h2
    have hb := impl_Loaf_baked_eq (a := a) (b := b) (d := x) (by omega) h3.2
    unfold pLeast
    by_cases h : pBaked b x < a
    · have hx := baked_small h3.2 (by omega) h0 h
      rw [if_pos h]
      refine Ev.step (f := fun k => impl_DoughFor.l0 k (x + 1) a b) (fun k => ?_) (ih (x + 1) (by omega) (by omega) (by omega))
      simp only [impl_DoughFor.l0, hb, Option.bind_some]
      rw [if_pos h, w64 (n := x + 1) (by omega) (by omega)]
    · rw [if_neg h]
      refine ev_at 1 fun k => ?_
      simp only [impl_DoughFor.l0, hb, Option.bind_some]
      rw [if_neg h]
theorem impl_DoughFor_ev (a b : Int) : Ev (fun k => impl_DoughFor.f k a b) (pDoughFor a b) := by
  unfold impl_DoughFor.f pDoughFor
  simp only [impl_LoafOk_eq, Option.bind_some]
  by_cases h : pLoafOk a b = true
  · have h3 := h
    simp only [pLoafOk, decide_eq_true_eq] at h3
    simp only [if_pos h]
    exact impl_DoughFor_l0 h 8400 a (by omega) (by omega) (by omega)
  · simp only [if_neg h]
    exact Ev.now _
theorem impl_allIn_eq (xs : List Int) (a b : Int) : impl_allIn.f xs a b = some (xs.all fun x => decide (a ≤ x ∧ x ≤ b)) := rfl
theorem impl_DoughForAll_l0 (xs : List S36) (cs : List Int) (hn : xs.length ≤ 12) (hc : cs.length = xs.length) (hok : pCountsOk cs = true) (d : Nat) : ∀ (j : Nat) (acc : Int), j + d = xs.length → 0 ≤ acc → acc ≤ 4167000 * j → Ev (fun k => impl_DoughForAll.l0 k cs acc xs (xs.length : Int) j) (if pLoavesOk ((pr_impl_Loaf xs).drop j) = true then acc + pDfaSum ((pr_impl_Loaf xs).drop j) (cs.drop j) else -1) := by
  induction d with
  | zero =>
    intro j acc hj h0 h1
    refine ev_succ ?_
    simp only [impl_DoughForAll.l0]
    rw [show cs.drop j = [] from List.drop_of_length_le (by omega), show (pr_impl_Loaf xs).drop j = [] from List.drop_of_length_le (by rw [pr_impl_Loaf_length]; omega)]
    exact ev_ifn (by omega) (ev_const (by simp [pDfaSum, pLoavesOk]))
  | succ d ih =>
    intro j acc hj h0 h1
    refine ev_succ ?_
    simp only [impl_DoughForAll.l0, impl_LoafOk_eq, Option.bind_some]
    rw [pr_impl_Loaf_drop xs j (by omega), List.drop_eq_getElem_cons (show j < cs.length by omega), rd_impl_Loaf xs j (by omega), rd_nat cs j (by omega), wnext (n := xs.length) (by omega) (by omega)]
    refine ev_ifp (by omega) (ev_ifp (by omega) (ev_ifp (by omega) ?_))
    by_cases g1 : pLoafOk (xs[j]).f0 (xs[j]).f1 = true
    · have g2 : 0 ≤ cs[j] ∧ cs[j] ≤ 500 := by simpa using List.all_eq_true.1 hok cs[j] (List.getElem_mem _)
      have q := pDoughFor_props g1
      have g3 := g1
      simp only [pLoafOk, decide_eq_true_eq] at g3
      have m := mul_range (a := pDoughFor (xs[j]).f0 (xs[j]).f1) (b := cs[j]) (m := 8334) (n := 500) (by omega) g2
      refine ev_ifp g1 (Ev.bind (impl_DoughFor_ev _ _) (ev_ifp (by omega) ?_))
      rw [w64 (n := pDoughFor (xs[j]).f0 (xs[j]).f1 * cs[j]) (by omega) (by omega), w64 (n := acc + pDoughFor (xs[j]).f0 (xs[j]).f1 * cs[j]) (by omega) (by omega)]
      refine ev_eq (ih (j + 1) _ (by omega) (by omega) (by omega)) ?_
      have e2 : pLoavesOk (((xs[j]).f0, (xs[j]).f1) :: (pr_impl_Loaf xs).drop (j + 1)) = pLoavesOk ((pr_impl_Loaf xs).drop (j + 1)) := by simp only [pLoavesOk, List.all_cons, g1, Bool.true_and]
      rw [e2]
      simp only [pDfaSum]
      split <;> omega
    · have e2 : pLoavesOk (((xs[j]).f0, (xs[j]).f1) :: (pr_impl_Loaf xs).drop (j + 1)) = false := by simp only [pLoavesOk, List.all_cons, Bool.eq_false_iff.2 g1, Bool.false_and]
      rw [e2, if_neg (by decide)]
      exact ev_ifn g1 (Ev.now _)
theorem impl_DoughForAll_ev (xs : List S36) (cs : List Int) : Ev (fun k => impl_DoughForAll.f k xs cs) (pDoughForAll (pr_impl_Loaf xs) cs) := by
  unfold impl_DoughForAll.f pDoughForAll
  rw [pr_impl_Loaf_length]
  simp only [impl_allIn_eq, Option.bind_some]
  by_cases h : xs.length ≤ 12
  · refine ev_ifn (by omega) ?_
    by_cases h2 : cs.length = xs.length
    · refine ev_ifp (by omega) (ev_succ ?_)
      simp only [impl_DoughForAll.j0]
      by_cases c : pCountsOk cs = true
      · rw [show (cs.all fun x => decide (0 ≤ x ∧ x ≤ 500)) = true from c]
        refine ev_ifn (by decide) (ev_eq (impl_DoughForAll_l0 xs cs h h2 c xs.length 0 0 (by omega) (by omega) (by omega)) ?_)
        rw [List.drop_zero, List.drop_zero]
        by_cases c2 : pLoavesOk (pr_impl_Loaf xs) = true
        · rw [if_pos c2, if_pos ⟨⟨h, h2⟩, c, c2⟩]
          omega
        · rw [if_neg c2, if_neg (fun q => c2 q.2.2)]
      · rw [show (cs.all fun x => decide (0 ≤ x ∧ x ≤ 500)) = false from Bool.eq_false_iff.2 c, if_neg (fun q => c q.2.1)]
        exact ev_ifp (by simp) (Ev.now _)
    · rw [if_neg (fun q => h2 q.1.2)]
      refine ev_ifn (by omega) (ev_succ ?_)
      simp only [impl_DoughForAll.j0]
      exact ev_ifp (by simp) (Ev.now _)
  · rw [if_neg (fun q => h q.1.1)]
    refine ev_ifp (by omega) (ev_succ ?_)
    simp only [impl_DoughForAll.j0]
    exact ev_ifp (by simp) (Ev.now _)
theorem laws_szLoafS_eq (xs : List S67) (left : Int) (hn : xs.length ≤ 4611686018427387904) (h0 : 0 ≤ left) (h1 : left ≤ 1048576) : laws_szLoafS.f xs left = some (if left - xs.length < 0 then -1 else left - xs.length) := by
  unfold laws_szLoafS.f
  rw [w64 (by omega) (by omega)]
  split <;> rfl
theorem spec_l01In_eq (a b c : Int) : spec_l01In.f a b c = some (decide (b ≤ a ∧ a ≤ c)) := by
  unfold spec_l01In.f
  by_cases h : b ≤ a <;> simp [h]
theorem spec_LoafOk_eq (a b : Int) : spec_LoafOk.f a b = some (pLoafOk a b) := by
  unfold spec_LoafOk.f pLoafOk
  simp only [spec_l01In_eq, Option.bind_some, decide_eq_true_eq]
  by_cases h : 10 ≤ a ∧ a ≤ 5000 <;> simp [h]
theorem spec_BakedWeight_eq (a b d : Int) : spec_BakedWeight.f a b d = some (pBakedWeight a b d) := by
  unfold spec_BakedWeight.f pBakedWeight
  simp only [spec_LoafOk_eq, spec_l01In_eq, Option.bind_some, decide_eq_true_eq]
  by_cases h : pLoafOk a b = true
  · by_cases h2 : 0 ≤ d ∧ d ≤ 10000
    · have h3 := h
      simp only [pLoafOk, decide_eq_true_eq] at h3
      rw [if_pos h, if_pos h2, if_pos ⟨h, h2⟩, baked_arith (by omega) (by omega)]
    · rw [if_pos h, if_neg h2, if_neg (fun c => h2 c.2)]
  · rw [if_neg h, if_neg (fun c => h c.1)]
theorem spec_DoughFor_l0 {a b : Int} (hok : pLoafOk a b = true) (n : Nat) : ∀ x : Int, 0 ≤ x → x ≤ 8334 → 8334 - x < n → Ev (fun k => spec_DoughFor.l0 k x a b) (pLeast a b n x) := by
  have h3 := hok
  simp only [pLoafOk, decide_eq_true_eq] at h3
  induction n with
  | zero => intro x h0 h1 h2; omega
  | succ n ih =>
    intro x h0 h1 h2
    have hb : pBakedWeight a b x = pBaked b x := by unfold pBakedWeight; rw [if_pos ⟨hok, by omega⟩]
    unfold pLeast
    by_cases h : pBaked b x < a
    · have hx := baked_small h3.2 (by omega) h0 h
      rw [if_pos h]
      refine Ev.step (f := fun k => spec_DoughFor.l0 k (x + 1) a b) (fun k => ?_) (ih (x + 1) (by omega) (by omega) (by omega))
      simp only [spec_DoughFor.l0, spec_BakedWeight_eq, Option.bind_some, hb]
      rw [if_pos h, w64 (n := x + 1) (by omega) (by omega)]
    · rw [if_neg h]
      refine ev_at 1 fun k => ?_
      simp only [spec_DoughFor.l0, spec_BakedWeight_eq, Option.bind_some, hb]
      rw [if_neg h]
theorem spec_DoughFor_ev (a b : Int) : Ev (fun k => spec_DoughFor.f k a b) (pDoughFor a b) := by
  unfold spec_DoughFor.f pDoughFor
  simp only [spec_LoafOk_eq, Option.bind_some]
  by_cases h : pLoafOk a b = true
  · have h3 := h
    simp only [pLoafOk, decide_eq_true_eq] at h3
    simp only [if_pos h]
    exact spec_DoughFor_l0 h 8400 a (by omega) (by omega) (by omega)
  · simp only [if_neg h]
    exact Ev.now _
theorem spec_DoughForAll_l0 (xs : List S36) (cs : List Int) (hn : xs.length ≤ 12) (hc : cs.length = xs.length) (d : Nat) : ∀ (j : Nat) (acc : Int), j + d = xs.length → 0 ≤ acc → acc ≤ 4167000 * j → Ev (fun k => spec_DoughForAll.l0 k xs cs acc j) (if pCountsOk (cs.drop j) = true ∧ pLoavesOk ((pr_impl_Loaf xs).drop j) = true then acc + pDfaSum ((pr_impl_Loaf xs).drop j) (cs.drop j) else -1) := by
  induction d with
  | zero =>
    intro j acc hj h0 h1
    refine ev_succ ?_
    simp only [spec_DoughForAll.l0]
    rw [List.drop_of_length_le (by omega), List.drop_of_length_le (by rw [pr_impl_Loaf_length]; omega)]
    exact ev_ifn (by omega) (ev_const (by simp [pDfaSum, pCountsOk, pLoavesOk]))
  | succ d ih =>
    intro j acc hj h0 h1
    refine ev_succ ?_
    simp only [spec_DoughForAll.l0, spec_LoafOk_eq, spec_l01In_eq, Option.bind_some]
    rw [pr_impl_Loaf_drop xs j (by omega), List.drop_eq_getElem_cons (show j < cs.length by omega), rd_impl_Loaf xs j (by omega), rd_nat cs j (by omega), wnext (n := xs.length) (by omega) (by omega)]
    refine ev_ifp (by omega) (ev_ifp (by omega) ?_)
    by_cases g1 : pLoafOk (xs[j]).f0 (xs[j]).f1 = true
    · refine ev_ifp g1 (ev_ifp (by omega) ?_)
      by_cases g2 : 0 ≤ cs[j] ∧ cs[j] ≤ 500
      · have q := pDoughFor_props g1
        have g3 := g1
        simp only [pLoafOk, decide_eq_true_eq] at g3
        have m := mul_range (a := pDoughFor (xs[j]).f0 (xs[j]).f1) (b := cs[j]) (m := 8334) (n := 500) (by omega) g2
        refine ev_ifp (decide_eq_true g2) (Ev.bind (spec_DoughFor_ev _ _) ?_)
        rw [w64 (n := pDoughFor (xs[j]).f0 (xs[j]).f1 * cs[j]) (by omega) (by omega), w64 (n := acc + pDoughFor (xs[j]).f0 (xs[j]).f1 * cs[j]) (by omega) (by omega)]
        refine ev_eq (ih (j + 1) _ (by omega) (by omega) (by omega)) ?_
        have e1 : pCountsOk (cs[j] :: cs.drop (j + 1)) = pCountsOk (cs.drop (j + 1)) := by simp only [pCountsOk, List.all_cons, decide_eq_true g2, Bool.true_and]
        have e2 : pLoavesOk (((xs[j]).f0, (xs[j]).f1) :: (pr_impl_Loaf xs).drop (j + 1)) = pLoavesOk ((pr_impl_Loaf xs).drop (j + 1)) := by simp only [pLoavesOk, List.all_cons, g1, Bool.true_and]
        rw [e1, e2]
        simp only [pDfaSum]
        split <;> omega
      · have e1 : pCountsOk (cs[j] :: cs.drop (j + 1)) = false := by simp only [pCountsOk, List.all_cons, decide_eq_false g2, Bool.false_and]
        rw [e1, if_neg (fun c => by cases c.1)]
        exact ev_ifn (by rw [decide_eq_false g2]; decide) (Ev.now _)
    · have e2 : pLoavesOk (((xs[j]).f0, (xs[j]).f1) :: (pr_impl_Loaf xs).drop (j + 1)) = false := by simp only [pLoavesOk, List.all_cons, Bool.eq_false_iff.2 g1, Bool.false_and]
      rw [e2, if_neg (fun c => by cases c.2)]
      exact ev_ifn g1 (Ev.now _)
theorem spec_DoughForAll_ev (xs : List S36) (cs : List Int) : Ev (fun k => spec_DoughForAll.f k xs cs) (pDoughForAll (pr_impl_Loaf xs) cs) := by
  unfold spec_DoughForAll.f pDoughForAll
  rw [pr_impl_Loaf_length]
  by_cases h : xs.length ≤ 12
  · refine ev_ifn (by omega) (ev_succ ?_)
    simp only [spec_DoughForAll.j0]
    by_cases h2 : cs.length = xs.length
    · have e : ((cs.length : Int) != (xs.length : Int)) = false := by rw [bne_eq_false_iff_eq]; omega
      rw [e]
      refine ev_ifn (by decide) (ev_eq (spec_DoughForAll_l0 xs cs h h2 xs.length 0 0 (by omega) (by omega) (by omega)) ?_)
      rw [List.drop_zero, List.drop_zero]
      by_cases c : pCountsOk cs = true ∧ pLoavesOk (pr_impl_Loaf xs) = true
      · rw [if_pos c, if_pos ⟨⟨h, h2⟩, c⟩]
        omega
      · rw [if_neg c, if_neg (fun q => c q.2)]
    · have e : ((cs.length : Int) != (xs.length : Int)) = true := by rw [bne_iff_ne]; omega
      rw [e, if_neg (fun q => h2 q.1.2)]
      exact ev_ifp rfl (Ev.now _)
  · rw [if_neg (fun q => h q.1.1)]
    refine ev_ifp (by omega) (ev_succ ?_)
    simp only [spec_DoughForAll.j0]
    exact ev_ifp (by simp) (Ev.now _)
def cv_Loaf (s : S67) : S36 := ⟨s.f0, s.f1⟩
theorem laws_toLoafS_l0 (xs : List S67) (hn : xs.length ≤ 4611686018427387904) (d : Nat) : ∀ (j : Nat) (ys : List S36), j + d = xs.length → ys.length = xs.length → Ev (fun k => laws_toLoafS.l0 k xs ys j) (ys.take j ++ (xs.drop j).map cv_Loaf) := by
  induction d with
  | zero =>
    intro j ys hj hy
    refine ev_succ ?_
    simp only [laws_toLoafS.l0]
    rw [List.take_of_length_le (by omega), List.drop_of_length_le (by omega)]
    exact ev_ifn (by omega) (ev_const (by simp))
  | succ d ih =>
    intro j ys hj hy
    refine ev_succ ?_
    simp only [laws_toLoafS.l0, laws_toLoaf.f, Option.bind_some]
    rw [wnext (n := xs.length) (by omega) hn, Int.toNat_natCast, rd_laws_Loaf xs j (by omega)]
    refine ev_ifp (by omega) (ev_ifp (by omega) (ev_ifp (by omega) (ev_eq (ih (j + 1) (ys.set j (cv_Loaf xs[j])) (by omega) (by simpa using hy)) ?_)))
    rw [take_set_succ ys j _ (by omega), List.drop_eq_getElem_cons (show j < xs.length by omega)]
    simp only [List.map_cons, List.append_assoc, List.singleton_append]
theorem laws_toLoafS_ev (xs : List S67) (hn : xs.length ≤ 17592186044416) : Ev (fun k => laws_toLoafS.f k xs) (xs.map cv_Loaf) := by
  unfold laws_toLoafS.f
  simp only [Int.toNat_natCast]
  exact ev_ifp (by omega) (ev_ifp hn (ev_eq (laws_toLoafS_l0 xs (by omega) xs.length 0 _ (by omega) (by simp)) (by simp)))
theorem laws_eqLoaf_eq (a b : Int) : laws_eqLoaf.f a b a b = some true := by
  unfold laws_eqLoaf.f
  simp
theorem laws_eqLoafS_l0 (xs : List S36) (hn : xs.length ≤ 4611686018427387904) (d : Nat) : ∀ j : Nat, j + d = xs.length → Ev (fun k => laws_eqLoafS.l0 k xs xs j) true := by
  induction d with
  | zero =>
    intro j hj
    refine ev_succ ?_
    simp only [laws_eqLoafS.l0]
    exact ev_ifn (by omega) (Ev.now _)
  | succ d ih =>
    intro j hj
    refine ev_succ ?_
    simp only [laws_eqLoafS.l0, laws_eqLoaf_eq, Option.bind_some, if_true]
    rw [wnext (n := xs.length) (by omega) hn]
    exact ev_ifp (by omega) (ev_ifp (by omega) (ev_ifp (by omega) (ih (j + 1) (by omega))))
theorem laws_eqLoafS_ev (xs : List S36) (hn : xs.length ≤ 4611686018427387904) : Ev (fun k => laws_eqLoafS.f k xs xs) true := by
  unfold laws_eqLoafS.f
  exact ev_ifp rfl (laws_eqLoafS_l0 xs hn xs.length 0 (by omega))
theorem FnExactDoughForAll (xs : List S67) (cs : List Int) (_ : xs.length ≤ maxLen) (hs : xs.length * 16 ≤ 140737488351232) (_ : ∀ x ∈ xs, (Lit.int .i64 x.f0).wf = true ∧ (Lit.int .i64 x.f1).wf = true) (_ : cs.length ≤ maxLen) (hs2 : cs.length * 8 ≤ 140737488351232) (_ : ∀ x ∈ cs, (Lit.int .i64 x).wf = true) : ∃ k, laws_FnExactDoughForAll.f k xs cs = some true := by
  refine Ev.rounds (g := fun k => laws_FnExactDoughForAll.f k xs cs) ?_
  unfold laws_FnExactDoughForAll.f
  by_cases h0 : (cs.length : Int) > 1048576
  · exact ev_ifp h0 (Ev.now _)
  · refine ev_ifn h0 ?_
    rw [laws_szLoafS_eq xs 1048576 (by omega) (by omega) (by omega)]
    simp only [Option.bind_some]
    by_cases h : (1048576 : Int) - xs.length < 0
    · rw [if_pos h]
      exact ev_ifp (by decide) (Ev.now _)
    · rw [if_neg h]
      have tx := laws_toLoafS_ev xs (by omega)
      have tc := laws_toIntS_ev cs (by omega)
      exact ev_ifn h (Ev.bind tx (Ev.bind tc (Ev.bind (spec_DoughForAll_ev _ _) (Ev.bind tx (Ev.bind tc (Ev.bind (impl_DoughForAll_ev _ _) (ev_ifp rfl (Ev.bind tx (Ev.bind (laws_eqLoafS_ev _ (by rw [List.length_map]; omega)) (ev_ifp rfl (Ev.bind tc (Ev.bind (laws_eqIntS_ev _ (by omega)) (ev_ifp rfl (Ev.now _))))))))))))))
end Go.Proofs.Ytamdbkilpllfoaa.Pure
