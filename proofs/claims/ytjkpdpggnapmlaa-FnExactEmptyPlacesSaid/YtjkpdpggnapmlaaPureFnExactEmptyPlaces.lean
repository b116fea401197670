/- What is proved: read as plain functions on numbers and lists, the law FnExactEmptyPlaces answers true at every input of its kinds; no condition is added. -/
import Derived.Test.YtjkpdpggnapmlaaPFnExactEmptyPlacesx3
import Derived.Test.YtjkpdpggnapmlaaPlain
set_option linter.unusedVariables false
set_option linter.unusedSimpArgs false
set_option maxRecDepth 20000
namespace Go.Proofs.Ytjkpdpggnapmlaa.Pure
open Go.RowKit Go.Proofs.Ytjkpdpggnapmlaa.PFnExactEmptyPlaces Go.Proofs.YtjkpdpggnapmlaaW.PrintWords Go.Proofs.YtjkpdpggnapmlaaW.PrintLast Go.Proofs.YtjkpdpggnapmlaaW.PrintMore Go.Proofs.Ytjkpdpggnapmlaa.Plain
def pr_impl_Batch (xs : List S39) : List (Int × Int) := xs.map fun s => (s.f0, s.f1)
theorem pr_impl_Batch_length (xs : List S39) : (pr_impl_Batch xs).length = xs.length := by simp [pr_impl_Batch]
theorem rd_impl_Batch (xs : List S39) (j : Nat) (h : j < xs.length) : rd_T39 xs (j : Int) = xs[j] := by simp [rd_T39, List.getD_eq_getElem?_getD, List.getElem?_eq_getElem h]
theorem pr_impl_Batch_drop (xs : List S39) (j : Nat) (h : j < xs.length) : (pr_impl_Batch xs).drop j = ((xs[j]).f0, (xs[j]).f1) :: (pr_impl_Batch xs).drop (j + 1) := by
  rw [List.drop_eq_getElem_cons (by rw [pr_impl_Batch_length]; exact h)]
  simp [pr_impl_Batch]
theorem pr_impl_Batch_get (xs : List S39) (j : Nat) (h : j < xs.length) : (pr_impl_Batch xs)[j]'(by rw [pr_impl_Batch_length]; exact h) = ((xs[j]).f0, (xs[j]).f1) := by simp [pr_impl_Batch]
theorem pr_impl_Batch_ok {p : Int × Int → Bool} {xs : List S39} (h : (pr_impl_Batch xs).all p = true) (j : Nat) (hj : j < xs.length) : p ((xs[j]).f0, (xs[j]).f1) = true := by
  have := List.all_eq_true.1 h _ (List.getElem_mem (by rw [pr_impl_Batch_length]; exact hj : j < (pr_impl_Batch xs).length))
  rwa [pr_impl_Batch_get xs j hj] at this
def pr_laws_Batch (xs : List S43) : List (Int × Int) := xs.map fun s => (s.f0, s.f1)
theorem pr_laws_Batch_length (xs : List S43) : (pr_laws_Batch xs).length = xs.length := by simp [pr_laws_Batch]
theorem rd_laws_Batch (xs : List S43) (j : Nat) (h : j < xs.length) : rd_T43 xs (j : Int) = xs[j] := by simp [rd_T43, List.getD_eq_getElem?_getD, List.getElem?_eq_getElem h]
theorem pr_laws_Batch_drop (xs : List S43) (j : Nat) (h : j < xs.length) : (pr_laws_Batch xs).drop j = ((xs[j]).f0, (xs[j]).f1) :: (pr_laws_Batch xs).drop (j + 1) := by
  rw [List.drop_eq_getElem_cons (by rw [pr_laws_Batch_length]; exact h)]
  simp [pr_laws_Batch]
theorem pr_laws_Batch_get (xs : List S43) (j : Nat) (h : j < xs.length) : (pr_laws_Batch xs)[j]'(by rw [pr_laws_Batch_length]; exact h) = ((xs[j]).f0, (xs[j]).f1) := by simp [pr_laws_Batch]
theorem pr_laws_Batch_ok {p : Int × Int → Bool} {xs : List S43} (h : (pr_laws_Batch xs).all p = true) (j : Nat) (hj : j < xs.length) : p ((xs[j]).f0, (xs[j]).f1) = true := by
  have := List.all_eq_true.1 h _ (List.getElem_mem (by rw [pr_laws_Batch_length]; exact hj : j < (pr_laws_Batch xs).length))
  rwa [pr_laws_Batch_get xs j hj] at this
theorem laws_szBatchS_eq (xs : List S43) (left : Int) (hn : xs.length ≤ 4611686018427387904) (h0 : 0 ≤ left) (h1 : left ≤ 1048576) : laws_szBatchS.f xs left = some (if left - xs.length < 0 then -1 else left - xs.length) := by
  unfold laws_szBatchS.f
  rw [w64 (by omega) (by omega)]
  split <;> rfl
def cv_Batch (s : S43) : S39 := ⟨s.f0, s.f1⟩
theorem laws_toBatchS_l0 (xs : List S43) (hn : xs.length ≤ 4611686018427387904) (d : Nat) : ∀ (j : Nat) (ys : List S39), j + d = xs.length → ys.length = xs.length → Ev (fun k => laws_toBatchS.l0 k xs ys j) (ys.take j ++ (xs.drop j).map cv_Batch) := by
  induction d with
  | zero =>
    intro j ys hj hy
    refine ev_succ ?_
    simp only [laws_toBatchS.l0]
    rw [List.take_of_length_le (by omega), List.drop_of_length_le (by omega)]
    exact ev_ifn (by omega) (ev_const (by simp))
  | succ d ih =>
    intro j ys hj hy
    refine ev_succ ?_
    simp only [laws_toBatchS.l0, laws_toBatch.f, Option.bind_some]
    rw [wnext (n := xs.length) (by omega) hn, Int.toNat_natCast, rd_laws_Batch xs j (by omega)]
    refine ev_ifp (by omega) (ev_ifp (by omega) (ev_ifp (by omega) (ev_eq (ih (j + 1) (ys.set j (cv_Batch xs[j])) (by omega) (by simpa using hy)) ?_)))
    rw [take_set_succ ys j _ (by omega), List.drop_eq_getElem_cons (show j < xs.length by omega)]
    simp only [List.map_cons, List.append_assoc, List.singleton_append]
theorem laws_toBatchS_ev (xs : List S43) (hn : xs.length ≤ 17592186044416) : Ev (fun k => laws_toBatchS.f k xs) (xs.map cv_Batch) := by
  unfold laws_toBatchS.f
  simp only [Int.toNat_natCast]
  exact ev_ifp (by omega) (ev_ifp hn (ev_eq (laws_toBatchS_l0 xs (by omega) xs.length 0 _ (by omega) (by simp)) (by simp)))
theorem laws_eqBatch_eq (a b : Int) : laws_eqBatch.f a b a b = some true := by
  unfold laws_eqBatch.f
  simp
theorem laws_eqBatchS_l0 (xs : List S39) (hn : xs.length ≤ 4611686018427387904) (d : Nat) : ∀ j : Nat, j + d = xs.length → Ev (fun k => laws_eqBatchS.l0 k xs xs j) true := by
  induction d with
  | zero =>
    intro j hj
    refine ev_succ ?_
    simp only [laws_eqBatchS.l0]
    exact ev_ifn (by omega) (Ev.now _)
  | succ d ih =>
    intro j hj
    refine ev_succ ?_
    simp only [laws_eqBatchS.l0, laws_eqBatch_eq, Option.bind_some, if_true]
    rw [wnext (n := xs.length) (by omega) hn]
    exact ev_ifp (by omega) (ev_ifp (by omega) (ev_ifp (by omega) (ih (j + 1) (by omega))))
theorem laws_eqBatchS_ev (xs : List S39) (hn : xs.length ≤ 4611686018427387904) : Ev (fun k => laws_eqBatchS.f k xs xs) true := by
  unfold laws_eqBatchS.f
  exact ev_ifp rfl (laws_eqBatchS_l0 xs hn xs.length 0 (by omega))
theorem spec_l01In_eq (a b c : Int) : spec_l01In.f a b c = some (decide (b ≤ a ∧ a ≤ c)) := by
  unfold spec_l01In.f
  by_cases h : b ≤ a <;> simp [h]
theorem spec_l07Ok_eq (a b : Int) : spec_l07Ok.f a b = some (pBatchOk a b) := by
  unfold spec_l07Ok.f pBatchOk
  simp only [spec_l01In_eq, Option.bind_some, decide_eq_true_eq]
  by_cases h : 1 ≤ a ∧ a ≤ 500 <;> simp [h]
theorem spec_BatchesOk_l0 (xs : List S39) (hn : xs.length ≤ 1048576) (d : Nat) : ∀ j : Nat, j + d = xs.length → Ev (fun k => spec_BatchesOk.l0 k xs j) (decide (xs.length ≤ 10) && pAllOk ((pr_impl_Batch xs).drop j)) := by
  induction d with
  | zero =>
    intro j hj
    refine ev_succ ?_
    simp only [spec_BatchesOk.l0]
    rw [List.drop_of_length_le (by rw [pr_impl_Batch_length]; omega)]
    refine ev_ifn (by omega) (ev_const ?_)
    simp only [pAllOk, List.all_nil, Bool.and_true]
    exact congrArg some (decide_eq_decide.2 (by omega))
  | succ d ih =>
    intro j hj
    refine ev_succ ?_
    simp only [spec_BatchesOk.l0, spec_l07Ok_eq, Option.bind_some]
    rw [pr_impl_Batch_drop xs j (by omega), rd_impl_Batch xs j (by omega), wnext (n := xs.length) (by omega) (by omega)]
    refine ev_ifp (by omega) (ev_ifp (by omega) ?_)
    by_cases h : pBatchOk (xs[j]).f0 (xs[j]).f1 = true
    · exact ev_ifp h (ev_eq (ih (j + 1) (by omega)) (by simp only [pAllOk, List.all_cons, h, Bool.true_and]))
    · exact ev_ifn h (ev_const (by simp only [pAllOk, List.all_cons, Bool.eq_false_iff.2 h, Bool.false_and, Bool.and_false]))
theorem spec_BatchesOk_ev (xs : List S39) (hn : xs.length ≤ 1048576) : Ev (fun k => spec_BatchesOk.f k xs) (pBatchesOk (pr_impl_Batch xs)) := by
  unfold spec_BatchesOk.f
  exact ev_eq (spec_BatchesOk_l0 xs hn xs.length 0 (by omega)) (by simp only [pBatchesOk, pr_impl_Batch_length, List.drop_zero])
theorem spec_LoadsOf_eq (a b r : Int) : spec_LoadsOf.f a b r = some (pLoadsOf a b r) := by
  unfold spec_LoadsOf.f pLoadsOf
  simp only [spec_l07Ok_eq, spec_l01In_eq, Option.bind_some, decide_eq_true_eq]
  by_cases h : pBatchOk a b = true
  · by_cases h2 : 1 ≤ r ∧ r ≤ 500
    · have h3 := h
      simp only [pBatchOk, decide_eq_true_eq] at h3
      rw [if_pos h, if_pos h2, if_neg (show ¬ r = 0 by omega), if_pos ⟨h, h2⟩, up_arith (by omega) (by omega)]
    · rw [if_pos h, if_neg h2, if_neg (fun c => h2 c.2)]
  · rw [if_neg h, if_neg (fun c => h c.1)]
theorem spec_EmptyPlaces_l0 (xs : List S39) (r : Int) (hn : xs.length ≤ 10) (hr : 1 ≤ r ∧ r ≤ 500) (hok : (pr_impl_Batch xs).all (fun p => pBatchOk p.1 p.2) = true) (d : Nat) : ∀ (j : Nat) (acc : Int), j + d = xs.length → 0 ≤ acc → acc ≤ 500 * j → Ev (fun k => spec_EmptyPlaces.l0 k xs r acc j) (acc + pEmpty r ((pr_impl_Batch xs).drop j)) := by
  induction d with
  | zero =>
    intro j acc hj h0 h1
    refine ev_succ ?_
    simp only [spec_EmptyPlaces.l0]
    rw [List.drop_of_length_le (by rw [pr_impl_Batch_length]; omega)]
    exact ev_ifn (by omega) (ev_const (by simp [pEmpty]))
  | succ d ih =>
    intro j acc hj h0 h1
    refine ev_succ ?_
    simp only [spec_EmptyPlaces.l0, spec_LoadsOf_eq, Option.bind_some]
    have g := pr_impl_Batch_ok (p := fun p => pBatchOk p.1 p.2) hok j (by omega)
    have g2 := empty1_range (p := ((xs[j]).f0, (xs[j]).f1)) g hr
    have g3 := pBatchOk_range (p := ((xs[j]).f0, (xs[j]).f1)) g
    dsimp only at g g2 g3
    rw [pr_impl_Batch_drop xs j (by omega), rd_impl_Batch xs j (by omega), wnext (n := xs.length) (by omega) (by omega), pLoadsOf_ok g hr, w64 (n := pUp (xs[j]).f0 r * r) (by omega) (by omega), w64 (n := acc + pUp (xs[j]).f0 r * r) (by omega) (by omega), w64 (n := acc + pUp (xs[j]).f0 r * r - (xs[j]).f0) (by omega) (by omega)]
    exact ev_ifp (by omega) (ev_ifp (by omega) (ev_eq (ih (j + 1) _ (by omega) (by omega) (by omega)) (by simp only [pEmpty]; omega)))
theorem spec_EmptyPlaces_ev (xs : List S39) (r : Int) (hn : xs.length ≤ 1048576) : Ev (fun k => spec_EmptyPlaces.f k xs r) (pEmptyPlaces (pr_impl_Batch xs) r) := by
  unfold spec_EmptyPlaces.f pEmptyPlaces
  simp only [spec_l01In_eq, Option.bind_some]
  refine Ev.bind (spec_BatchesOk_ev xs hn) ?_
  by_cases h : pBatchesOk (pr_impl_Batch xs) = true
  · refine ev_ifp h (ev_succ ?_)
    simp only [spec_EmptyPlaces.j0]
    by_cases h2 : 1 ≤ r ∧ r ≤ 500
    · have q := pBatchesOk_split h
      rw [pr_impl_Batch_length] at q
      rw [if_pos ⟨h, h2⟩, decide_eq_true h2]
      exact ev_ifn (by decide) (ev_eq (spec_EmptyPlaces_l0 xs r q.1 h2 q.2 xs.length 0 0 (by omega) (by omega) (by omega)) (by simp))
    · rw [if_neg (fun c => h2 c.2), decide_eq_false h2]
      exact ev_ifp (by simp) (Ev.now _)
  · rw [if_neg (fun c => h c.1)]
    refine ev_ifn h (ev_succ ?_)
    simp only [spec_EmptyPlaces.j0]
    exact ev_ifp (by simp) (Ev.now _)
theorem impl_BatchesOk_eq (xs : List S39) : impl_BatchesOk.f xs = some (pBatchesOk (pr_impl_Batch xs)) := by
  unfold impl_BatchesOk.f pBatchesOk pAllOk
  rw [pr_impl_Batch_length]
  congr 2
  unfold pr_impl_Batch
  rw [List.all_map]
  rfl
theorem impl_in_eq (a b c : Int) : impl_in.f a b c = some (decide (b ≤ a ∧ a ≤ c)) := by
  unfold impl_in.f
  by_cases h : b ≤ a <;> simp [h]
theorem impl_batchOk_eq (a b : Int) : impl_batchOk.f a b = some (pBatchOk a b) := by
  unfold impl_batchOk.f pBatchOk
  simp only [impl_in_eq, Option.bind_some, decide_eq_true_eq]
  by_cases h : 1 ≤ a ∧ a ≤ 500 <;> simp [h]
theorem impl_up_eq {a b : Int} (h : 0 ≤ a ∧ a ≤ 1000000000) (h2 : 1 ≤ b ∧ b ≤ 1000000) : impl_up.f a b = some (pUp a b) := by
  unfold impl_up.f
  rw [if_neg (by omega), up_arith h h2]
theorem impl_LoadsOf_eq (a b r : Int) : impl_LoadsOf.f a b r = some (pLoadsOf a b r) := by
  unfold impl_LoadsOf.f pLoadsOf
  simp only [impl_batchOk_eq, impl_in_eq, Option.bind_some, decide_eq_true_eq]
  by_cases h : pBatchOk a b = true
  · by_cases h2 : 1 ≤ r ∧ r ≤ 500
    · have h3 := h
      simp only [pBatchOk, decide_eq_true_eq] at h3
      rw [if_pos h, if_pos h2, if_pos ⟨h, h2⟩, impl_up_eq (by omega) (by omega)]
      rfl
    · rw [if_pos h, if_neg h2, if_neg (fun c => h2 c.2)]
  · rw [if_neg h, if_neg (fun c => h c.1)]
theorem impl_EmptyPlaces_l0 (xs : List S39) (r : Int) (hn : xs.length ≤ 10) (hr : 1 ≤ r ∧ r ≤ 500) (hok : (pr_impl_Batch xs).all (fun p => pBatchOk p.1 p.2) = true) (d : Nat) : ∀ (j : Nat) (acc : Int), j + d = xs.length → 0 ≤ acc → acc ≤ 500 * j → Ev (fun k => impl_EmptyPlaces.l0 k r acc xs (xs.length : Int) j) (acc + pEmpty r ((pr_impl_Batch xs).drop j)) := by
  induction d with
  | zero =>
    intro j acc hj h0 h1
    refine ev_succ ?_
    simp only [impl_EmptyPlaces.l0]
    rw [List.drop_of_length_le (by rw [pr_impl_Batch_length]; omega)]
    exact ev_ifn (by omega) (ev_const (by simp [pEmpty]))
  | succ d ih =>
    intro j acc hj h0 h1
    refine ev_succ ?_
    simp only [impl_EmptyPlaces.l0, impl_LoadsOf_eq, Option.bind_some]
    have g := pr_impl_Batch_ok (p := fun p => pBatchOk p.1 p.2) hok j (by omega)
    have g2 := empty1_range (p := ((xs[j]).f0, (xs[j]).f1)) g hr
    have g3 := pBatchOk_range (p := ((xs[j]).f0, (xs[j]).f1)) g
    dsimp only at g g2 g3
    rw [pr_impl_Batch_drop xs j (by omega), rd_impl_Batch xs j (by omega), wnext (n := xs.length) (by omega) (by omega), pLoadsOf_ok g hr, w64 (n := pUp (xs[j]).f0 r * r) (by omega) (by omega), w64 (n := pUp (xs[j]).f0 r * r - (xs[j]).f0) (by omega) (by omega), w64 (n := acc + (pUp (xs[j]).f0 r * r - (xs[j]).f0)) (by omega) (by omega)]
    exact ev_ifp (by omega) (ev_ifp (by omega) (ev_ifp (by omega) (ev_eq (ih (j + 1) _ (by omega) (by omega) (by omega)) (by simp only [pEmpty]; omega))))
theorem impl_EmptyPlaces_ev (xs : List S39) (r : Int) : Ev (fun k => impl_EmptyPlaces.f k xs r) (pEmptyPlaces (pr_impl_Batch xs) r) := by
  unfold impl_EmptyPlaces.f pEmptyPlaces
  simp only [impl_in_eq, impl_BatchesOk_eq, Option.bind_some]
  by_cases h : pBatchesOk (pr_impl_Batch xs) = true
  · refine ev_ifp h (ev_succ ?_)
    simp only [impl_EmptyPlaces.j0]
    by_cases h2 : 1 ≤ r ∧ r ≤ 500
    · have q := pBatchesOk_split h
      rw [pr_impl_Batch_length] at q
      rw [if_pos ⟨h, h2⟩, decide_eq_true h2]
      exact ev_ifn (by decide) (ev_eq (impl_EmptyPlaces_l0 xs r q.1 h2 q.2 xs.length 0 0 (by omega) (by omega) (by omega)) (by simp))
    · rw [if_neg (fun c => h2 c.2), decide_eq_false h2]
      exact ev_ifp (by simp) (Ev.now _)
  · rw [if_neg (fun c => h c.1)]
    refine ev_ifn h (ev_succ ?_)
    simp only [impl_EmptyPlaces.j0]
    exact ev_ifp (by simp) (Ev.now _)
theorem FnExactEmptyPlaces (xs : List S43) (r : Int) (_ : xs.length ≤ maxLen) (hs : xs.length * 16 ≤ 140737488351232) (_ : ∀ x ∈ xs, (Lit.int .i64 x.f0).wf = true ∧ (Lit.int .i64 x.f1).wf = true) (_ : (Lit.int .i64 r).wf = true) : ∃ k, laws_FnExactEmptyPlaces.f k xs r = some true := by
  refine Ev.rounds (g := fun k => laws_FnExactEmptyPlaces.f k xs r) ?_
  unfold laws_FnExactEmptyPlaces.f
  rw [laws_szBatchS_eq xs 1048576 (by omega) (by omega) (by omega)]
  simp only [Option.bind_some]
  by_cases h : (1048576 : Int) - xs.length < 0
  · rw [if_pos h]
    exact ev_ifp (by decide) (Ev.now _)
  · rw [if_neg h]
    have ht := laws_toBatchS_ev xs (by omega)
    have hl : (xs.map cv_Batch).length ≤ 1048576 := by rw [List.length_map]; omega
    exact ev_ifn h (Ev.bind ht (Ev.bind (spec_EmptyPlaces_ev _ r hl) (Ev.bind ht (Ev.bind (impl_EmptyPlaces_ev _ r) (ev_ifp rfl (Ev.bind ht (Ev.bind (laws_eqBatchS_ev _ (by omega)) (ev_ifp rfl (Ev.now _)))))))))
end Go.Proofs.Ytjkpdpggnapmlaa.Pure
