/- What is proved: read as plain functions on numbers and lists, the law FnExactStepsOk answers true at every input of its kinds; no condition is added. -/
import Derived.Test.YtgboomgnekibfaaPFnExactStepsOkx2
import Derived.Test.YtgboomgnekibfaaPlain
set_option linter.unusedVariables false
set_option linter.unusedSimpArgs false
set_option maxRecDepth 20000
namespace Go.Proofs.Ytgboomgnekibfaa.Pure
open Go.RowKit Go.Proofs.Ytgboomgnekibfaa.PFnExactStepsOk Go.Proofs.YtgboomgnekibfaaW.PrintWords Go.Proofs.YtgboomgnekibfaaW.PrintLast Go.Proofs.YtgboomgnekibfaaW.PrintMore Go.Proofs.Ytgboomgnekibfaa.Plain
def pr_impl_Step (xs : List S79) : List (Int × Int) := xs.map fun s => (s.f0, s.f1)
theorem pr_impl_Step_length (xs : List S79) : (pr_impl_Step xs).length = xs.length := by simp [pr_impl_Step]
theorem rd_impl_Step (xs : List S79) (j : Nat) (h : j < xs.length) : rd_T79 xs (j : Int) = xs[j] := by simp [rd_T79, List.getD_eq_getElem?_getD, List.getElem?_eq_getElem h]
theorem pr_impl_Step_drop (xs : List S79) (j : Nat) (h : j < xs.length) : (pr_impl_Step xs).drop j = ((xs[j]).f0, (xs[j]).f1) :: (pr_impl_Step xs).drop (j + 1) := by
  rw [List.drop_eq_getElem_cons (by rw [pr_impl_Step_length]; exact h)]
  simp [pr_impl_Step]
theorem pr_impl_Step_get (xs : List S79) (j : Nat) (h : j < xs.length) : (pr_impl_Step xs)[j]'(by rw [pr_impl_Step_length]; exact h) = ((xs[j]).f0, (xs[j]).f1) := by simp [pr_impl_Step]
def pr_laws_Step (xs : List S81) : List (Int × Int) := xs.map fun s => (s.f0, s.f1)
theorem pr_laws_Step_length (xs : List S81) : (pr_laws_Step xs).length = xs.length := by simp [pr_laws_Step]
theorem rd_laws_Step (xs : List S81) (j : Nat) (h : j < xs.length) : rd_T81 xs (j : Int) = xs[j] := by simp [rd_T81, List.getD_eq_getElem?_getD, List.getElem?_eq_getElem h]
theorem pr_laws_Step_drop (xs : List S81) (j : Nat) (h : j < xs.length) : (pr_laws_Step xs).drop j = ((xs[j]).f0, (xs[j]).f1) :: (pr_laws_Step xs).drop (j + 1) := by
  rw [List.drop_eq_getElem_cons (by rw [pr_laws_Step_length]; exact h)]
  simp [pr_laws_Step]
theorem pr_laws_Step_get (xs : List S81) (j : Nat) (h : j < xs.length) : (pr_laws_Step xs)[j]'(by rw [pr_laws_Step_length]; exact h) = ((xs[j]).f0, (xs[j]).f1) := by simp [pr_laws_Step]
theorem laws_szStepS_eq (xs : List S81) (left : Int) (hn : xs.length ≤ 4611686018427387904) (h0 : 0 ≤ left) (h1 : left ≤ 1048576) : laws_szStepS.f xs left = some (if left - xs.length < 0 then -1 else left - xs.length) := by
  unfold laws_szStepS.f
  rw [w64 (by omega) (by omega)]
  split <;> rfl
theorem spec_l01In_eq (a b c : Int) : spec_l01In.f a b c = some (decide (b ≤ a ∧ a ≤ c)) := by
  unfold spec_l01In.f
  by_cases h : b ≤ a <;> simp [h]
theorem spec_StepsOk_l0 (xs : List S79) (hn : xs.length ≤ 4611686018427387904) (d : Nat) : ∀ j : Nat, j + d = xs.length → Ev (fun k => spec_StepsOk.l0 k xs j) (((pr_impl_Step xs).drop j).all pStepOk && decide (xs.length ≤ 12)) := by
  induction d with
  | zero =>
    intro j hj
    refine ev_at 1 fun k => ?_
    simp only [spec_StepsOk.l0]
    rw [if_neg (by omega), List.drop_of_length_le (by rw [pr_impl_Step_length]; omega)]
    simp only [List.all_nil, Bool.true_and]
    exact congrArg some (decide_eq_decide.2 (by omega))
  | succ d ih =>
    intro j hj
    rw [pr_impl_Step_drop xs j (by omega)]
    simp only [List.all_cons]
    by_cases h : pStepOk ((xs[j]).f0, (xs[j]).f1) = true
    · have h2 := pStepOk_range h
      refine Ev.step (f := fun k => spec_StepsOk.l0 k xs ((j + 1 : Nat) : Int)) (fun k => ?_) (ev_eq (ih (j + 1) (by omega)) (by rw [h, Bool.true_and]))
      simp only [spec_StepsOk.l0, spec_l01In_eq, Option.bind_some, decide_eq_true_eq]
      rw [if_pos (by omega), if_pos (by omega), rd_impl_Step xs j (by omega), if_pos h2.1, if_pos h2.2, wnext (n := xs.length) (by omega) hn]
    · refine ev_at 1 fun k => ?_
      simp only [spec_StepsOk.l0, spec_l01In_eq, Option.bind_some, decide_eq_true_eq]
      rw [if_pos (by omega), if_pos (by omega), rd_impl_Step xs j (by omega)]
      rw [Bool.eq_false_iff.2 h]
      simp only [pStepOk, decide_eq_true_eq] at h
      by_cases h1 : 1 ≤ (xs[j]).f0 ∧ (xs[j]).f0 ≤ 300
      · rw [if_pos h1, if_neg (fun c => h ⟨h1, c⟩)]
        rfl
      · rw [if_neg h1]
        rfl
theorem spec_StepsOk_ev (xs : List S79) (hn : xs.length ≤ 4611686018427387904) : Ev (fun k => spec_StepsOk.f k xs) (pStepsOk (pr_impl_Step xs)) := by
  unfold spec_StepsOk.f
  exact ev_eq (spec_StepsOk_l0 xs hn xs.length 0 (by omega)) (by simp [pStepsOk, pr_impl_Step_length])
def cv_Step (s : S81) : S79 := ⟨s.f0, s.f1⟩
theorem laws_toStepS_l0 (xs : List S81) (hn : xs.length ≤ 4611686018427387904) (d : Nat) : ∀ (j : Nat) (ys : List S79), j + d = xs.length → ys.length = xs.length → Ev (fun k => laws_toStepS.l0 k xs ys j) (ys.take j ++ (xs.drop j).map cv_Step) := by
  induction d with
  | zero =>
    intro j ys hj hy
    refine ev_at 1 fun k => ?_
    simp only [laws_toStepS.l0]
    rw [if_neg (by omega), List.take_of_length_le (by omega), List.drop_of_length_le (by omega)]
    simp
  | succ d ih =>
    intro j ys hj hy
    refine Ev.step (f := fun k => laws_toStepS.l0 k xs (ys.set j (cv_Step xs[j])) ((j + 1 : Nat) : Int)) (fun k => ?_) (ev_eq (ih (j + 1) (ys.set j (cv_Step xs[j])) (by omega) (by simpa using hy)) ?_)
    · simp only [laws_toStepS.l0, laws_toStep.f, Option.bind_some]
      rw [if_pos (by omega), if_pos (by omega), if_pos (by omega), wnext (n := xs.length) (by omega) hn, Int.toNat_natCast, rd_laws_Step xs j (by omega)]
      rfl
    · rw [take_set_succ ys j _ (by omega), List.drop_eq_getElem_cons (show j < xs.length by omega)]
      simp only [List.map_cons, List.append_assoc, List.singleton_append]
theorem laws_toStepS_ev (xs : List S81) (hn : xs.length ≤ 17592186044416) : Ev (fun k => laws_toStepS.f k xs) (xs.map cv_Step) := by
  unfold laws_toStepS.f
  simp only [Int.toNat_natCast]
  refine ev_ifp (by omega) (ev_ifp hn ?_)
  exact ev_eq (laws_toStepS_l0 xs (by omega) xs.length 0 _ (by omega) (by simp)) (by simp)
theorem impl_in_eq (a b c : Int) : impl_in.f a b c = some (decide (b ≤ a ∧ a ≤ c)) := by
  unfold impl_in.f
  by_cases h : b ≤ a <;> simp [h]
theorem impl_StepsOk_l0 (xs : List S79) (hn : xs.length ≤ 4611686018427387904) (d : Nat) : ∀ j : Nat, j + d = xs.length → Ev (fun k => impl_StepsOk.l0 k xs xs (xs.length : Int) j) (((pr_impl_Step xs).drop j).all pStepOk && decide (xs.length ≤ 12)) := by
  induction d with
  | zero =>
    intro j hj
    refine ev_at 1 fun k => ?_
    simp only [impl_StepsOk.l0]
    rw [if_neg (by omega), List.drop_of_length_le (by rw [pr_impl_Step_length]; omega)]
    simp only [List.all_nil, Bool.true_and]
    exact congrArg some (decide_eq_decide.2 (by omega))
  | succ d ih =>
    intro j hj
    rw [pr_impl_Step_drop xs j (by omega)]
    simp only [List.all_cons]
    by_cases h : pStepOk ((xs[j]).f0, (xs[j]).f1) = true
    · have h2 := pStepOk_range h
      refine Ev.step (f := fun k => impl_StepsOk.l0 k xs xs (xs.length : Int) ((j + 1 : Nat) : Int)) (fun k => ?_) (ev_eq (ih (j + 1) (by omega)) (by rw [h, Bool.true_and]))
      simp only [impl_StepsOk.l0, impl_in_eq, Option.bind_some, decide_eq_true_eq]
      rw [if_pos (by omega), if_pos (by omega), if_pos (by omega), rd_impl_Step xs j (by omega), if_pos h2.1, if_pos h2.2, wnext (n := xs.length) (by omega) hn]
    · refine ev_at 1 fun k => ?_
      simp only [impl_StepsOk.l0, impl_in_eq, Option.bind_some, decide_eq_true_eq]
      rw [if_pos (by omega), if_pos (by omega), if_pos (by omega), rd_impl_Step xs j (by omega)]
      rw [Bool.eq_false_iff.2 h]
      simp only [pStepOk, decide_eq_true_eq] at h
      by_cases h1 : 1 ≤ (xs[j]).f0 ∧ (xs[j]).f0 ≤ 300
      · rw [if_pos h1, if_neg (fun c => h ⟨h1, c⟩)]
        rfl
      · rw [if_neg h1]
        rfl
theorem impl_StepsOk_ev (xs : List S79) (hn : xs.length ≤ 4611686018427387904) : Ev (fun k => impl_StepsOk.f k xs) (pStepsOk (pr_impl_Step xs)) := by
  unfold impl_StepsOk.f
  exact ev_eq (impl_StepsOk_l0 xs hn xs.length 0 (by omega)) (by simp [pStepsOk, pr_impl_Step_length])
theorem laws_eqStep_eq (a b : Int) : laws_eqStep.f a b a b = some true := by
  unfold laws_eqStep.f
  simp
theorem laws_eqStepS_l0 (xs : List S79) (hn : xs.length ≤ 4611686018427387904) (d : Nat) : ∀ j : Nat, j + d = xs.length → Ev (fun k => laws_eqStepS.l0 k xs xs j) true := by
  induction d with
  | zero =>
    intro j hj
    refine ev_at 1 fun k => ?_
    simp only [laws_eqStepS.l0]
    rw [if_neg (by omega)]
  | succ d ih =>
    intro j hj
    refine Ev.step (f := fun k => laws_eqStepS.l0 k xs xs ((j + 1 : Nat) : Int)) (fun k => ?_) (ih (j + 1) (by omega))
    simp only [laws_eqStepS.l0, laws_eqStep_eq, Option.bind_some, if_true]
    rw [if_pos (by omega), if_pos (by omega), if_pos (by omega), wnext (n := xs.length) (by omega) hn]
theorem laws_eqStepS_ev (xs : List S79) (hn : xs.length ≤ 4611686018427387904) : Ev (fun k => laws_eqStepS.f k xs xs) true := by
  unfold laws_eqStepS.f
  simp only [if_true]
  exact laws_eqStepS_l0 xs hn xs.length 0 (by omega)
theorem FnExactStepsOk (xs : List S81) (_ : xs.length ≤ maxLen) (hs : xs.length * 16 ≤ 140737488351232) (_ : ∀ x ∈ xs, (Lit.int .i64 x.f0).wf = true ∧ (Lit.int .i64 x.f1).wf = true) : ∃ k, laws_FnExactStepsOk.f k xs = some true := by
  refine Ev.rounds (g := fun k => laws_FnExactStepsOk.f k xs) ?_
  unfold laws_FnExactStepsOk.f
  rw [laws_szStepS_eq xs 1048576 (by omega) (by omega) (by omega)]
  simp only [Option.bind_some]
  by_cases h : (1048576 : Int) - xs.length < 0
  · simp only [if_pos h, show ((-1 : Int) < 0) from by decide, if_true]
    exact Ev.now _
  · simp only [if_neg h]
    have ht := laws_toStepS_ev xs (by omega)
    have hl : (xs.map cv_Step).length ≤ 4611686018427387904 := by rw [List.length_map]; omega
    refine Ev.bind ht (Ev.bind (spec_StepsOk_ev _ hl) (Ev.bind ht (Ev.bind (impl_StepsOk_ev _ hl) ?_)))
    simp only [bne_self_eq_false, Bool.false_eq_true, if_false]
    refine Ev.bind ht (Ev.bind (laws_eqStepS_ev _ hl) ?_)
    simp only [if_true]
    exact Ev.now _
end Go.Proofs.Ytgboomgnekibfaa.Pure
