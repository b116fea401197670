/- What is proved: read as plain functions on numbers and lists, the law FnExactBatchesOk answers true at every input of its kinds; no condition is added. -/
import Derived.Test.YtjkpdpggnapmlaaPFnExactBatchesOkx2
import Derived.Test.YtjkpdpggnapmlaaPlain
set_option linter.unusedVariables false
set_option linter.unusedSimpArgs false
set_option maxRecDepth 20000
namespace Go.Proofs.Ytjkpdpggnapmlaa.Pure
open Go.RowKit Go.Proofs.Ytjkpdpggnapmlaa.PFnExactBatchesOk Go.Proofs.YtjkpdpggnapmlaaW.PrintWords Go.Proofs.YtjkpdpggnapmlaaW.PrintLast Go.Proofs.YtjkpdpggnapmlaaW.PrintMore Go.Proofs.Ytjkpdpggnapmlaa.Plain
def pr_impl_Batch (xs : List S39) : List (Int × Int) := xs.map fun s => (s.f0, s.f1)
theorem pr_impl_Batch_length (xs : List S39) : (pr_impl_Batch xs).length = xs.length := by simp [pr_impl_Batch]
theorem rd_impl_Batch (xs : List S39) (j : Nat) (h : j < xs.length) : rd_T39 xs (j : Int) = xs[j] := by simp [rd_T39, List.getD_eq_getElem?_getD, List.getElem?_eq_getElem h]
theorem pr_impl_Batch_drop (xs : List S39) (j : Nat) (h : j < xs.length) : (pr_impl_Batch xs).drop j = ((xs[j]).f0, (xs[j]).f1) :: (pr_impl_Batch xs).drop (j + 1) := by
  rw [List.drop_eq_getElem_cons (by rw [pr_impl_Batch_length]; exact h)]
  simp [pr_impl_Batch]
theorem pr_impl_Batch_get (xs : List S39) (j : Nat) (h : j < xs.length) : (pr_impl_Batch xs)[j]'(by rw [pr_impl_Batch_length]; exact h) = ((xs[j]).f0, (xs[j]).f1) := by simp [pr_impl_Batch]
theorem pr_impl_Batch_ok {p : Int × Int → Bool} {xs : List S39} (h : (pr_impl_Batch xs).all p = true) (j : Nat) (hj : j < xs.length) : p ((xs[j]).f0, (xs[j]).f1) = true := by
  have := List.all_eq_true.1 h _ (List.getElem_mem (by rw [pr_impl_Batch_length]; exact hj : j < (pr_impl_Batch xs).length))
  rwa [pr_impl_Batch_get xs j hj] at this
def pr_laws_Batch (xs : List S43) : List (Int × Int) := xs.map fun s => (s.f0, s.f1)
theorem pr_laws_Batch_length (xs : List S43) : (pr_laws_Batch xs).length = xs.length := by simp [pr_laws_Batch]
theorem rd_laws_Batch (xs : List S43) (j : Nat) (h : j < xs.length) : rd_T43 xs (j : Int) = xs[j] := by simp [rd_T43, List.getD_eq_getElem?_getD, List.getElem?_eq_getElem h]
theorem pr_laws_Batch_drop (xs : List S43) (j : Nat) (h : j < xs.length) : (pr_laws_Batch xs).drop j = ((xs[j]).f0, (xs[j]).f1) :: (pr_laws_Batch xs).drop (j + 1) := by
  rw [List.drop_eq_getElem_cons (by rw [pr_laws_Batch_length]; exact h)]
  simp [pr_laws_Batch]
theorem pr_laws_Batch_get (xs : List S43) (j : Nat) (h : j < xs.length) : (pr_laws_Batch xs)[j]'(by rw [pr_laws_Batch_length]; exact h) = ((xs[j]).f0, (xs[j]).f1) := by simp [pr_laws_Batch]
theorem pr_laws_Batch_ok {p : Int × Int → Bool} {xs : List S43} (h : (pr_laws_Batch xs).all p = true) (j : Nat) (hj : j < xs.length) : p ((xs[j]).f0, (xs[j]).f1) = true := by
  have := List.all_eq_true.1 h _ (List.getElem_mem (by rw [pr_laws_Batch_length]; exact hj : j < (pr_laws_Batch xs).length))
  rwa [pr_laws_Batch_get xs j hj] at this
theorem laws_szBatchS_eq (xs : List S43) (left : Int) (hn : xs.length ≤ 4611686018427387904) (h0 : 0 ≤ left) (h1 : left ≤ 1048576) : laws_szBatchS.f xs left = some (if left - xs.length < 0 then -1 else left - xs.length) := by
  unfold laws_szBatchS.f
  rw [w64 (by omega) (by omega)]
  split <;> rfl
theorem spec_l01In_eq (a b c : Int) : spec_l01In.f a b c = some (decide (b ≤ a ∧ a ≤ c)) := by
  unfold spec_l01In.f
  by_cases h : b ≤ a <;> simp [h]
theorem spec_l07Ok_eq (a b : Int) : spec_l07Ok.f a b = some (pBatchOk a b) := by
  unfold spec_l07Ok.f pBatchOk
  simp only [spec_l01In_eq, Option.bind_some, decide_eq_true_eq]
  by_cases h : 1 ≤ a ∧ a ≤ 500 <;> simp [h]
theorem spec_BatchesOk_l0 (xs : List S39) (hn : xs.length ≤ 1048576) (d : Nat) : ∀ j : Nat, j + d = xs.length → Ev (fun k => spec_BatchesOk.l0 k xs j) (decide (xs.length ≤ 10) && pAllOk ((pr_impl_Batch xs).drop j)) := by
  induction d with
  | zero =>
    intro j hj
    refine ev_succ ?_
    simp only [spec_BatchesOk.l0]
    rw [List.drop_of_length_le (by rw [pr_impl_Batch_length]; omega)]
    refine ev_ifn (by omega) (ev_const ?_)
    simp only [pAllOk, List.all_nil, Bool.and_true]
    exact congrArg some (decide_eq_decide.2 (by omega))
  | succ d ih =>
    intro j hj
    refine ev_succ ?_
    simp only [spec_BatchesOk.l0, spec_l07Ok_eq, Option.bind_some]
    rw [pr_impl_Batch_drop xs j (by omega), rd_impl_Batch xs j (by omega), wnext (n := xs.length) (by omega) (by omega)]
    refine ev_ifp (by omega) (ev_ifp (by omega) ?_)
    by_cases h : pBatchOk (xs[j]).f0 (xs[j]).f1 = true
    · exact ev_ifp h (ev_eq (ih (j + 1) (by omega)) (by simp only [pAllOk, List.all_cons, h, Bool.true_and]))
    · exact ev_ifn h (ev_const (by simp only [pAllOk, List.all_cons, Bool.eq_false_iff.2 h, Bool.false_and, Bool.and_false]))
theorem spec_BatchesOk_ev (xs : List S39) (hn : xs.length ≤ 1048576) : Ev (fun k => spec_BatchesOk.f k xs) (pBatchesOk (pr_impl_Batch xs)) := by
  unfold spec_BatchesOk.f
  exact ev_eq (spec_BatchesOk_l0 xs hn xs.length 0 (by omega)) (by simp only [pBatchesOk, pr_impl_Batch_length, List.drop_zero])
def cv_Batch (s : S43) : S39 := ⟨s.f0, s.f1⟩
theorem laws_toBatchS_l0 (xs : List S43) (hn : xs.length ≤ 4611686018427387904) (d : Nat) : ∀ (j : Nat) (ys : List S39), j + d = xs.length → ys.length = xs.length → Ev (fun k => laws_toBatchS.l0 k xs ys j) (ys.take j ++ (xs.drop j).map cv_Batch) := by
  induction d with
  | zero =>
    intro j ys hj hy
    refine ev_succ ?_
    simp only [laws_toBatchS.l0]
    rw [List.take_of_length_le (by omega), List.drop_of_length_le (by omega)]
    exact ev_ifn (by omega) (ev_const (by simp))
  | succ d ih =>
    intro j ys hj hy
    refine ev_succ ?_
    simp only [laws_toBatchS.l0, laws_toBatch.f, Option.bind_some]
    rw [wnext (n := xs.length) (by omega) hn, Int.toNat_natCast, rd_laws_Batch xs j (by omega)]
    refine ev_ifp (by omega) (ev_ifp (by omega) (ev_ifp (by omega) (ev_eq (ih (j + 1) (ys.set j (cv_Batch xs[j])) (by omega) (by simpa using hy)) ?_)))
    rw [take_set_succ ys j _ (by omega), List.drop_eq_getElem_cons (show j < xs.length by omega)]
    simp only [List.map_cons, List.append_assoc, List.singleton_append]
theorem laws_toBatchS_ev (xs : List S43) (hn : xs.length ≤ 17592186044416) : Ev (fun k => laws_toBatchS.f k xs) (xs.map cv_Batch) := by
  unfold laws_toBatchS.f
  simp only [Int.toNat_natCast]
  exact ev_ifp (by omega) (ev_ifp hn (ev_eq (laws_toBatchS_l0 xs (by omega) xs.length 0 _ (by omega) (by simp)) (by simp)))
theorem impl_BatchesOk_eq (xs : List S39) : impl_BatchesOk.f xs = some (pBatchesOk (pr_impl_Batch xs)) := by
  unfold impl_BatchesOk.f pBatchesOk pAllOk
  rw [pr_impl_Batch_length]
  congr 2
  unfold pr_impl_Batch
  rw [List.all_map]
  rfl
theorem laws_eqBatch_eq (a b : Int) : laws_eqBatch.f a b a b = some true := by
  unfold laws_eqBatch.f
  simp
theorem laws_eqBatchS_l0 (xs : List S39) (hn : xs.length ≤ 4611686018427387904) (d : Nat) : ∀ j : Nat, j + d = xs.length → Ev (fun k => laws_eqBatchS.l0 k xs xs j) true := by
  induction d with
  | zero =>
    intro j hj
    refine ev_succ ?_
    simp only [laws_eqBatchS.l0]
    exact ev_ifn (by omega) (Ev.now _)
  | succ d ih =>
    intro j hj
    refine ev_succ ?_
    simp only [laws_eqBatchS.l0, laws_eqBatch_eq, Option.bind_some, if_true]
    rw [wnext (n := xs.length) (by omega) hn]
    exact ev_ifp (by omega) (ev_ifp (by omega) (ev_ifp (by omega) (ih (j + 1) (by omega))))
theorem laws_eqBatchS_ev (xs : List S39) (hn : xs.length ≤ 4611686018427387904) : Ev (fun k => laws_eqBatchS.f k xs xs) true := by
  unfold laws_eqBatchS.f
  exact ev_ifp rfl (laws_eqBatchS_l0 xs hn xs.length 0 (by omega))
theorem FnExactBatchesOk (xs : List S43) (_ : xs.length ≤ maxLen) (hs : xs.length * 16 ≤ 140737488351232) (_ : ∀ x ∈ xs, (Lit.int .i64 x.f0).wf = true ∧ (Lit.int .i64 x.f1).wf = true) : ∃ k, laws_FnExactBatchesOk.f k xs = some true := by
  refine Ev.rounds (g := fun k => laws_FnExactBatchesOk.f k xs) ?_
  unfold laws_FnExactBatchesOk.f
  rw [laws_szBatchS_eq xs 1048576 (by omega) (by omega) (by omega)]
  simp only [Option.bind_some, impl_BatchesOk_eq]
  by_cases h : (1048576 : Int) - xs.length < 0
  · rw [if_pos h]
    exact ev_ifp (by decide) (Ev.now _)
  · rw [if_neg h]
    have ht := laws_toBatchS_ev xs (by omega)
    have hl : (xs.map cv_Batch).length ≤ 1048576 := by rw [List.length_map]; omega
    exact ev_ifn h (Ev.bind ht (Ev.bind (spec_BatchesOk_ev _ hl) (Ev.bind ht (ev_ifn (by simp) (Ev.bind ht (Ev.bind (laws_eqBatchS_ev _ (by omega)) (ev_ifp rfl (Ev.now _))))))))
end Go.Proofs.Ytjkpdpggnapmlaa.Pure
