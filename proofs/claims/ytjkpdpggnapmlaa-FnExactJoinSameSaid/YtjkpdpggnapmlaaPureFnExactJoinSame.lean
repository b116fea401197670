/- What is proved: read as plain functions on numbers and lists, the law FnExactJoinSame answers true at every input of its kinds; no condition is added. -/
import Derived.Test.YtjkpdpggnapmlaaPFnExactJoinSamex3
import Derived.Test.YtjkpdpggnapmlaaPlain
set_option linter.unusedVariables false
set_option linter.unusedSimpArgs false
set_option maxRecDepth 20000
namespace Go.Proofs.Ytjkpdpggnapmlaa.Pure
open Go.RowKit Go.Proofs.Ytjkpdpggnapmlaa.PFnExactJoinSame Go.Proofs.YtjkpdpggnapmlaaW.PrintWords Go.Proofs.YtjkpdpggnapmlaaW.PrintLast Go.Proofs.YtjkpdpggnapmlaaW.PrintMore Go.Proofs.Ytjkpdpggnapmlaa.Plain
def pr_impl_Batch (xs : List S39) : List (Int × Int) := xs.map fun s => (s.f0, s.f1)
theorem pr_impl_Batch_length (xs : List S39) : (pr_impl_Batch xs).length = xs.length := by simp [pr_impl_Batch]
theorem rd_impl_Batch (xs : List S39) (j : Nat) (h : j < xs.length) : rd_T39 xs (j : Int) = xs[j] := by simp [rd_T39, List.getD_eq_getElem?_getD, List.getElem?_eq_getElem h]
theorem pr_impl_Batch_drop (xs : List S39) (j : Nat) (h : j < xs.length) : (pr_impl_Batch xs).drop j = ((xs[j]).f0, (xs[j]).f1) :: (pr_impl_Batch xs).drop (j + 1) := by
  rw [List.drop_eq_getElem_cons (by rw [pr_impl_Batch_length]; exact h)]
  simp [pr_impl_Batch]
theorem pr_impl_Batch_get (xs : List S39) (j : Nat) (h : j < xs.length) : (pr_impl_Batch xs)[j]'(by rw [pr_impl_Batch_length]; exact h) = ((xs[j]).f0, (xs[j]).f1) := by simp [pr_impl_Batch]
theorem pr_impl_Batch_ok {p : Int × Int → Bool} {xs : List S39} (h : (pr_impl_Batch xs).all p = true) (j : Nat) (hj : j < xs.length) : p ((xs[j]).f0, (xs[j]).f1) = true := by
  have := List.all_eq_true.1 h _ (List.getElem_mem (by rw [pr_impl_Batch_length]; exact hj : j < (pr_impl_Batch xs).length))
  rwa [pr_impl_Batch_get xs j hj] at this
def pr_laws_Batch (xs : List S43) : List (Int × Int) := xs.map fun s => (s.f0, s.f1)
theorem pr_laws_Batch_length (xs : List S43) : (pr_laws_Batch xs).length = xs.length := by simp [pr_laws_Batch]
theorem rd_laws_Batch (xs : List S43) (j : Nat) (h : j < xs.length) : rd_T43 xs (j : Int) = xs[j] := by simp [rd_T43, List.getD_eq_getElem?_getD, List.getElem?_eq_getElem h]
theorem pr_laws_Batch_drop (xs : List S43) (j : Nat) (h : j < xs.length) : (pr_laws_Batch xs).drop j = ((xs[j]).f0, (xs[j]).f1) :: (pr_laws_Batch xs).drop (j + 1) := by
  rw [List.drop_eq_getElem_cons (by rw [pr_laws_Batch_length]; exact h)]
  simp [pr_laws_Batch]
theorem pr_laws_Batch_get (xs : List S43) (j : Nat) (h : j < xs.length) : (pr_laws_Batch xs)[j]'(by rw [pr_laws_Batch_length]; exact h) = ((xs[j]).f0, (xs[j]).f1) := by simp [pr_laws_Batch]
theorem pr_laws_Batch_ok {p : Int × Int → Bool} {xs : List S43} (h : (pr_laws_Batch xs).all p = true) (j : Nat) (hj : j < xs.length) : p ((xs[j]).f0, (xs[j]).f1) = true := by
  have := List.all_eq_true.1 h _ (List.getElem_mem (by rw [pr_laws_Batch_length]; exact hj : j < (pr_laws_Batch xs).length))
  rwa [pr_laws_Batch_get xs j hj] at this
theorem laws_szBatchS_eq (xs : List S43) (left : Int) (hn : xs.length ≤ 4611686018427387904) (h0 : 0 ≤ left) (h1 : left ≤ 1048576) : laws_szBatchS.f xs left = some (if left - xs.length < 0 then -1 else left - xs.length) := by
  unfold laws_szBatchS.f
  rw [w64 (by omega) (by omega)]
  split <;> rfl
def cv_Batch (s : S43) : S39 := ⟨s.f0, s.f1⟩
theorem laws_toBatchS_l0 (xs : List S43) (hn : xs.length ≤ 4611686018427387904) (d : Nat) : ∀ (j : Nat) (ys : List S39), j + d = xs.length → ys.length = xs.length → Ev (fun k => laws_toBatchS.l0 k xs ys j) (ys.take j ++ (xs.drop j).map cv_Batch) := by
  induction d with
  | zero =>
    intro j ys hj hy
    refine ev_succ ?_
    simp only [laws_toBatchS.l0]
    rw [List.take_of_length_le (by omega), List.drop_of_length_le (by omega)]
    exact ev_ifn (by omega) (ev_const (by simp))
  | succ d ih =>
    intro j ys hj hy
    refine ev_succ ?_
    simp only [laws_toBatchS.l0, laws_toBatch.f, Option.bind_some]
    rw [wnext (n := xs.length) (by omega) hn, Int.toNat_natCast, rd_laws_Batch xs j (by omega)]
    refine ev_ifp (by omega) (ev_ifp (by omega) (ev_ifp (by omega) (ev_eq (ih (j + 1) (ys.set j (cv_Batch xs[j])) (by omega) (by simpa using hy)) ?_)))
    rw [take_set_succ ys j _ (by omega), List.drop_eq_getElem_cons (show j < xs.length by omega)]
    simp only [List.map_cons, List.append_assoc, List.singleton_append]
theorem laws_toBatchS_ev (xs : List S43) (hn : xs.length ≤ 17592186044416) : Ev (fun k => laws_toBatchS.f k xs) (xs.map cv_Batch) := by
  unfold laws_toBatchS.f
  simp only [Int.toNat_natCast]
  exact ev_ifp (by omega) (ev_ifp hn (ev_eq (laws_toBatchS_l0 xs (by omega) xs.length 0 _ (by omega) (by simp)) (by simp)))
theorem laws_eqBatch_eq (a b : Int) : laws_eqBatch.f a b a b = some true := by
  unfold laws_eqBatch.f
  simp
theorem laws_eqBatchS_l0 (xs : List S39) (hn : xs.length ≤ 4611686018427387904) (d : Nat) : ∀ j : Nat, j + d = xs.length → Ev (fun k => laws_eqBatchS.l0 k xs xs j) true := by
  induction d with
  | zero =>
    intro j hj
    refine ev_succ ?_
    simp only [laws_eqBatchS.l0]
    exact ev_ifn (by omega) (Ev.now _)
  | succ d ih =>
    intro j hj
    refine ev_succ ?_
    simp only [laws_eqBatchS.l0, laws_eqBatch_eq, Option.bind_some, if_true]
    rw [wnext (n := xs.length) (by omega) hn]
    exact ev_ifp (by omega) (ev_ifp (by omega) (ev_ifp (by omega) (ih (j + 1) (by omega))))
theorem laws_eqBatchS_ev (xs : List S39) (hn : xs.length ≤ 4611686018427387904) : Ev (fun k => laws_eqBatchS.f k xs xs) true := by
  unfold laws_eqBatchS.f
  exact ev_ifp rfl (laws_eqBatchS_l0 xs hn xs.length 0 (by omega))
theorem impl_BatchesOk_eq (xs : List S39) : impl_BatchesOk.f xs = some (pBatchesOk (pr_impl_Batch xs)) := by
  unfold impl_BatchesOk.f pBatchesOk pAllOk
  rw [pr_impl_Batch_length]
  congr 2
  unfold pr_impl_Batch
  rw [List.all_map]
  rfl
open Go.Proofs.Ytjkpdpggnapmlaa.Hand (sumM addB mergeB sumM_append pJoinFrom mem_joinFrom rising_joinFrom joinFrom_length)
theorem sumM_range (m : Int) : ∀ xs : List (Int × Int), pAllOk xs = true → 0 ≤ sumM m xs ∧ sumM m xs ≤ 500 * xs.length
  | [], _ => by simp [sumM]
  | p :: t, h => by
    simp only [pAllOk, List.all_cons, Bool.and_eq_true] at h
    have h1 := pBatchOk_range h.1
    have h2 := sumM_range m t h.2
    simp only [sumM, List.length_cons]
    split <;> omega
def mkB (l : List (Int × Int)) : List S39 := l.map fun p => ⟨p.1, p.2⟩
theorem impl_JoinSame_eq (xs : List S39) : impl_JoinSame.f xs = some (if pBatchesOk (pr_impl_Batch xs) = true then mkB (pJoinFrom (pr_impl_Batch xs) 200 1) else []) := by
  have h := impl_BatchesOk_eq xs
  unfold impl_BatchesOk.f at h
  unfold impl_JoinSame.f
  rw [Option.some.inj h]
  rfl
theorem spec_l01In_eq (a b c : Int) : spec_l01In.f a b c = some (decide (b ≤ a ∧ a ≤ c)) := by
  unfold spec_l01In.f
  by_cases h : b ≤ a <;> simp [h]
theorem spec_l07Ok_eq (a b : Int) : spec_l07Ok.f a b = some (pBatchOk a b) := by
  unfold spec_l07Ok.f pBatchOk
  simp only [spec_l01In_eq, Option.bind_some, decide_eq_true_eq]
  by_cases h : 1 ≤ a ∧ a ≤ 500 <;> simp [h]
theorem spec_BatchesOk_l0 (xs : List S39) (hn : xs.length ≤ 1048576) (d : Nat) : ∀ j : Nat, j + d = xs.length → Ev (fun k => spec_BatchesOk.l0 k xs j) (decide (xs.length ≤ 10) && pAllOk ((pr_impl_Batch xs).drop j)) := by
  induction d with
  | zero =>
    intro j hj
    refine ev_succ ?_
    simp only [spec_BatchesOk.l0]
    rw [List.drop_of_length_le (by rw [pr_impl_Batch_length]; omega)]
    refine ev_ifn (by omega) (ev_const ?_)
    simp only [pAllOk, List.all_nil, Bool.and_true]
    exact congrArg some (decide_eq_decide.2 (by omega))
  | succ d ih =>
    intro j hj
    refine ev_succ ?_
    simp only [spec_BatchesOk.l0, spec_l07Ok_eq, Option.bind_some]
    rw [pr_impl_Batch_drop xs j (by omega), rd_impl_Batch xs j (by omega), wnext (n := xs.length) (by omega) (by omega)]
    refine ev_ifp (by omega) (ev_ifp (by omega) ?_)
    by_cases h : pBatchOk (xs[j]).f0 (xs[j]).f1 = true
    · exact ev_ifp h (ev_eq (ih (j + 1) (by omega)) (by simp only [pAllOk, List.all_cons, h, Bool.true_and]))
    · exact ev_ifn h (ev_const (by simp only [pAllOk, List.all_cons, Bool.eq_false_iff.2 h, Bool.false_and, Bool.and_false]))
theorem spec_BatchesOk_ev (xs : List S39) (hn : xs.length ≤ 1048576) : Ev (fun k => spec_BatchesOk.f k xs) (pBatchesOk (pr_impl_Batch xs)) := by
  unfold spec_BatchesOk.f
  exact ev_eq (spec_BatchesOk_l0 xs hn xs.length 0 (by omega)) (by simp only [pBatchesOk, pr_impl_Batch_length, List.drop_zero])
theorem spec_JoinSame_l1 (xs : List S39) (hn : xs.length ≤ 10) (hok : pAllOk (pr_impl_Batch xs) = true) (out : List S39) (m : Int) (r : List S39) (ho : out.length ≤ 300) (hm : 1 ≤ m ∧ m ≤ 200)
    (cont : Ev (fun k => spec_JoinSame.l0 k xs (if sumM m (pr_impl_Batch xs) > 0 then out ++ [⟨mn 500 (sumM m (pr_impl_Batch xs)), m⟩] else out) (m + 1)) r) (d : Nat) : ∀ (j : Nat) (acc : Int), j + d = xs.length → 0 ≤ acc → acc + sumM m ((pr_impl_Batch xs).drop j) = sumM m (pr_impl_Batch xs) →
      Ev (fun k => spec_JoinSame.l1 k xs out m acc j) r := by
  have hs := sumM_range m _ hok
  rw [pr_impl_Batch_length] at hs
  induction d with
  | zero =>
    intro j acc hj h0 h1
    rw [List.drop_of_length_le (by rw [pr_impl_Batch_length]; omega)] at h1
    simp only [sumM] at h1
    obtain rfl : acc = sumM m (pr_impl_Batch xs) := by omega
    refine ev_succ ?_
    simp only [spec_JoinSame.l1]
    rw [w64 (n := m + 1) (by omega) (by omega)]
    refine ev_ifn (by omega) ?_
    by_cases h : sumM m (pr_impl_Batch xs) > 0
    · rw [if_pos h] at cont
      exact ev_ifp h (ev_ifp (by omega) cont)
    · rw [if_neg h] at cont
      exact ev_ifn h cont
  | succ d ih =>
    intro j acc hj h0 h1
    have h2 := pBatchOk_range (p := ((xs[j]'(by omega)).f0, (xs[j]'(by omega)).f1)) (pr_impl_Batch_ok (p := fun p => pBatchOk p.1 p.2) hok j (by omega))
    have h3 := (sumM_range m _ (all_drop hok (j + 1))).1
    rw [pr_impl_Batch_drop xs j (by omega)] at h1
    simp only [sumM] at h1
    dsimp only at h2
    refine ev_succ ?_
    simp only [spec_JoinSame.l1]
    rw [rd_impl_Batch xs j (by omega), wnext (n := xs.length) (by omega) (by omega)]
    refine ev_ifp (by omega) (ev_ifp (by omega) ?_)
    by_cases h : (xs[j]'(by omega)).f1 = m
    · rw [if_pos h] at h1
      rw [w64 (n := acc + (xs[j]'(by omega)).f0) (by omega) (by omega)]
      exact ev_ifp h (ih (j + 1) _ (by omega) (by omega) (by omega))
    · rw [if_neg h] at h1
      exact ev_ifn h (ih (j + 1) _ (by omega) (by omega) (by omega))
theorem spec_JoinSame_l0 (xs : List S39) (hn : xs.length ≤ 10) (hb : pBatchesOk (pr_impl_Batch xs) = true) (d : Nat) : ∀ (m : Int) (out : List S39), m + d = 201 → 1 ≤ m → out.length + d ≤ 201 → Ev (fun k => spec_JoinSame.l0 k xs out m) (out ++ mkB (pJoinFrom (pr_impl_Batch xs) d m)) := by
  have hok := (pBatchesOk_split hb).2
  induction d with
  | zero =>
    intro m out hm h1 ho
    refine ev_succ ?_
    simp only [spec_JoinSame.l0]
    refine ev_ifn (by omega) (ev_succ ?_)
    simp only [spec_JoinSame.j1]
    exact ev_ifn (by decide) (ev_const (by simp [pJoinFrom, mkB]))
  | succ d ih =>
    intro m out hm h1 ho
    refine ev_succ ?_
    simp only [spec_JoinSame.l0]
    refine ev_ifp (by omega) (Ev.bind (spec_BatchesOk_ev xs (by omega)) (ev_succ ?_))
    simp only [spec_JoinSame.j1]
    refine ev_ifp hb ?_
    refine spec_JoinSame_l1 xs hn hok out m _ (by omega) (by omega) ?_ xs.length 0 0 (by omega) (by omega) (by simp)
    by_cases h : sumM m (pr_impl_Batch xs) > 0
    · rw [if_pos h]
      refine ev_eq (ih (m + 1) _ (by omega) (by omega) (by simp; omega)) ?_
      simp only [pJoinFrom]
      rw [if_pos h]
      simp [mkB]
    · rw [if_neg h]
      refine ev_eq (ih (m + 1) _ (by omega) (by omega) (by omega)) ?_
      simp only [pJoinFrom]
      rw [if_neg h]
theorem spec_JoinSame_ev (xs : List S39) (hn : xs.length ≤ 1048576) : Ev (fun k => spec_JoinSame.f k xs) (if pBatchesOk (pr_impl_Batch xs) = true then mkB (pJoinFrom (pr_impl_Batch xs) 200 1) else []) := by
  unfold spec_JoinSame.f
  by_cases hb : pBatchesOk (pr_impl_Batch xs) = true
  · rw [if_pos hb]
    have h10 := (pBatchesOk_split hb).1
    rw [pr_impl_Batch_length] at h10
    exact ev_eq (spec_JoinSame_l0 xs h10 hb 200 1 [] (by omega) (by omega) (by simp)) (by simp)
  · rw [if_neg hb]
    refine ev_succ ?_
    simp only [spec_JoinSame.l0]
    refine ev_ifp (by omega) (Ev.bind (spec_BatchesOk_ev xs (by omega)) (ev_succ ?_))
    simp only [spec_JoinSame.j1]
    exact ev_ifn hb (Ev.now _)
def bFrom (m : Int) : Nat → List S39
  | 0 => []
  | d + 1 => ⟨m, m + 1⟩ :: bFrom (m + 2) d
theorem bFrom_length (d : Nat) : ∀ m, (bFrom m d).length = d := by
  induction d with
  | zero => intro m; rfl
  | succ d ih => intro m; simp [bFrom, ih]
theorem laws_markBatchS_l0 (d : Nat) : ∀ (j : Nat) (xs : List S39) (m : Int), xs.length ≤ 1048576 → 0 ≤ m → m + 2 * d ≤ 4611686018427387904 → j + d = xs.length → Ev (fun k => laws_markBatchS.l0 k xs m j) (m + 2 * d, xs.take j ++ bFrom m d) := by
  induction d with
  | zero =>
    intro j xs m hn hm hm2 hj
    refine ev_succ ?_
    simp only [laws_markBatchS.l0]
    exact ev_ifn (by omega) (ev_const (by rw [List.take_of_length_le (by omega)]; simp [bFrom]))
  | succ d ih =>
    intro j xs m hn hm hm2 hj
    have e : (xs.set j ⟨m, (rd_T39 xs j).f1⟩).set j ⟨(rd_T39 (xs.set j ⟨m, (rd_T39 xs j).f1⟩) j).f0, m + 1⟩ = xs.set j ⟨m, m + 1⟩ := by
      rw [List.set_set]
      congr 2
      simp [rd_T39, List.getD_eq_getElem?_getD, show j < xs.length by omega]
    have hy := ih (j + 1) (xs.set j ⟨m, m + 1⟩) (m + 1 + 1) (by simpa using hn) (by omega) (by omega) (by simp; omega)
    refine ev_succ ?_
    simp only [laws_markBatchS.l0, Option.bind_some]
    rw [w64 (n := m + 1) (by omega) (by omega), w64 (n := m + 1 + 1) (by omega) (by omega), wnext (n := xs.length) (by omega) (by omega), Int.toNat_natCast, e]
    refine ev_ifp (by omega) (ev_ifp (by omega) (ev_eq hy ?_))
    rw [take_set_succ xs j _ (by omega)]
    simp only [bFrom, List.append_assoc, List.singleton_append, Prod.mk.injEq]
    exact ⟨by omega, by rw [show m + 1 + 1 = m + 2 by omega]⟩
theorem laws_markBatchS_ev (xs : List S39) (hn : xs.length ≤ 1048576) : Ev (fun k => laws_markBatchS.f k xs 1) (1 + 2 * (xs.length : Int), bFrom 1 xs.length) := by
  unfold laws_markBatchS.f
  exact ev_eq (laws_markBatchS_l0 xs.length 0 xs 1 (by omega) (by omega) (by omega) (by omega)) (by simp)
theorem laws_heldBatchS_l0 (d : Nat) : ∀ (j : Nat) (xs : List S39) (m : Int), xs.length ≤ 1048576 → 0 ≤ m → m + 2 * d ≤ 4611686018427387904 → j + d = xs.length → xs.drop j = bFrom m d → Ev (fun k => laws_heldBatchS.l0 k xs m j) (m + 2 * d) := by
  induction d with
  | zero =>
    intro j xs m hn hm hm2 hj hx
    refine ev_succ ?_
    simp only [laws_heldBatchS.l0]
    exact ev_ifn (by omega) (ev_const (by simp))
  | succ d ih =>
    intro j xs m hn hm hm2 hj hx
    rw [List.drop_eq_getElem_cons (by omega)] at hx
    simp only [bFrom, List.cons.injEq] at hx
    have e0 : (xs[j]'(by omega)).f0 = m := by rw [hx.1]
    have e1 : (xs[j]'(by omega)).f1 = m + 1 := by rw [hx.1]
    refine ev_succ ?_
    simp only [laws_heldBatchS.l0]
    rw [rd_impl_Batch xs j (by omega), wnext (n := xs.length) (by omega) (by omega), w64 (n := m + 1) (by omega) (by omega), w64 (n := m + 1 + 1) (by omega) (by omega)]
    exact ev_ifp (by omega) (ev_ifp (by omega) (ev_ifp e0 (ev_ifp e1 (ev_eq (ih (j + 1) xs (m + 1 + 1) hn (by omega) (by omega) (by omega) (by rw [hx.2, show m + 1 + 1 = m + 2 by omega])) (by omega)))))
theorem laws_heldBatchS_ev (n : Nat) (hn : n ≤ 1048576) : Ev (fun k => laws_heldBatchS.f k (bFrom 1 n) 1) (1 + 2 * (n : Int)) := by
  unfold laws_heldBatchS.f
  exact laws_heldBatchS_l0 n 0 (bFrom 1 n) 1 (by rw [bFrom_length]; omega) (by omega) (by omega) (by rw [bFrom_length]; omega) rfl
theorem FnExactJoinSame (xs : List S43) (_ : xs.length ≤ maxLen) (hs : xs.length * 16 ≤ 140737488351232) (_ : ∀ x ∈ xs, (Lit.int .i64 x.f0).wf = true ∧ (Lit.int .i64 x.f1).wf = true) : ∃ k, laws_FnExactJoinSame.f k xs = some true := by
  refine Ev.rounds (g := fun k => laws_FnExactJoinSame.f k xs) ?_
  unfold laws_FnExactJoinSame.f
  rw [laws_szBatchS_eq xs 1048576 (by omega) (by omega) (by omega)]
  simp only [Option.bind_some, impl_JoinSame_eq]
  by_cases h : (1048576 : Int) - xs.length < 0
  · rw [if_pos h]
    exact ev_ifp (by decide) (Ev.now _)
  · rw [if_neg h]
    have ht := laws_toBatchS_ev xs (by omega)
    have hl : (xs.map cv_Batch).length ≤ 1048576 := by rw [List.length_map]; omega
    have hsp := spec_JoinSame_ev _ hl
    have hv : (if pBatchesOk (pr_impl_Batch (xs.map cv_Batch)) = true then mkB (pJoinFrom (pr_impl_Batch (xs.map cv_Batch)) 200 1) else []).length ≤ 1048576 := by
      split
      · have := joinFrom_length (pr_impl_Batch (xs.map cv_Batch)) 200 1
        unfold mkB
        rw [List.length_map]
        omega
      · simp
    generalize hgen : (if pBatchesOk (pr_impl_Batch (xs.map cv_Batch)) = true then mkB (pJoinFrom (pr_impl_Batch (xs.map cv_Batch)) 200 1) else []) = v at hsp hv
    have hm := laws_markBatchS_ev _ hl
    have hm2 := laws_markBatchS_ev v hv
    have he := laws_eqBatchS_ev v (by omega)
    have hh := laws_heldBatchS_ev v.length hv
    refine ev_ifn h (Ev.bind ht (Ev.bind hsp (Ev.bind ht ?_)))
    rw [hgen]
    refine Ev.bind he (ev_ifp rfl (Ev.bind ht (Ev.bind (laws_eqBatchS_ev _ (by omega)) (ev_ifp rfl (Ev.bind hm (ev_ifn (by dsimp only; omega) (Ev.bind he (ev_succ ?_))))))))
    simp only [laws_FnExactJoinSame.j0, impl_JoinSame_eq, Option.bind_some]
    refine ev_ifn (by decide) (Ev.bind hm2 (Ev.bind hh (ev_ifn (by omega) (ev_ifp rfl (Ev.bind ht ?_)))))
    rw [hgen]
    exact Ev.bind he (ev_ifp rfl (Ev.bind hh (ev_ifn (by omega) (ev_ifp rfl (Ev.now _)))))
end Go.Proofs.Ytjkpdpggnapmlaa.Pure
