/- What is proved: read as plain functions on numbers and lists, the law FnExactStartTimes answers true at every input of its kinds; no condition is added. -/
import Derived.Test.YthonmildlahjdaaPFnExactStartTimesx3
import Derived.Test.YthonmildlahjdaaPlain
set_option linter.unusedVariables false
set_option linter.unusedSimpArgs false
set_option maxRecDepth 20000
namespace Go.Proofs.Ythonmildlahjdaa.Pure
open Go.RowKit Go.Proofs.Ythonmildlahjdaa.PFnExactStartTimes Go.Proofs.YthonmildlahjdaaW.PrintWords Go.Proofs.YthonmildlahjdaaW.PrintLast Go.Proofs.YthonmildlahjdaaW.PrintMore Go.Proofs.Ythonmildlahjdaa.Plain
def pr_impl_Step (xs : List S38) : List (Int × Int) := xs.map fun s => (s.f0, s.f1)
theorem pr_impl_Step_length (xs : List S38) : (pr_impl_Step xs).length = xs.length := by simp [pr_impl_Step]
theorem rd_impl_Step (xs : List S38) (j : Nat) (h : j < xs.length) : rd_T38 xs (j : Int) = xs[j] := by simp [rd_T38, List.getD_eq_getElem?_getD, List.getElem?_eq_getElem h]
theorem pr_impl_Step_drop (xs : List S38) (j : Nat) (h : j < xs.length) : (pr_impl_Step xs).drop j = ((xs[j]).f0, (xs[j]).f1) :: (pr_impl_Step xs).drop (j + 1) := by
  rw [List.drop_eq_getElem_cons (by rw [pr_impl_Step_length]; exact h)]
  simp [pr_impl_Step]
theorem pr_impl_Step_get (xs : List S38) (j : Nat) (h : j < xs.length) : (pr_impl_Step xs)[j]'(by rw [pr_impl_Step_length]; exact h) = ((xs[j]).f0, (xs[j]).f1) := by simp [pr_impl_Step]
theorem pr_impl_Step_ok {p : Int × Int → Bool} {xs : List S38} (h : (pr_impl_Step xs).all p = true) (j : Nat) (hj : j < xs.length) : p ((xs[j]).f0, (xs[j]).f1) = true := by
  have := List.all_eq_true.1 h _ (List.getElem_mem (by rw [pr_impl_Step_length]; exact hj : j < (pr_impl_Step xs).length))
  rwa [pr_impl_Step_get xs j hj] at this
def pr_laws_Step (xs : List S59) : List (Int × Int) := xs.map fun s => (s.f0, s.f1)
theorem pr_laws_Step_length (xs : List S59) : (pr_laws_Step xs).length = xs.length := by simp [pr_laws_Step]
theorem rd_laws_Step (xs : List S59) (j : Nat) (h : j < xs.length) : rd_T59 xs (j : Int) = xs[j] := by simp [rd_T59, List.getD_eq_getElem?_getD, List.getElem?_eq_getElem h]
theorem pr_laws_Step_drop (xs : List S59) (j : Nat) (h : j < xs.length) : (pr_laws_Step xs).drop j = ((xs[j]).f0, (xs[j]).f1) :: (pr_laws_Step xs).drop (j + 1) := by
  rw [List.drop_eq_getElem_cons (by rw [pr_laws_Step_length]; exact h)]
  simp [pr_laws_Step]
theorem pr_laws_Step_get (xs : List S59) (j : Nat) (h : j < xs.length) : (pr_laws_Step xs)[j]'(by rw [pr_laws_Step_length]; exact h) = ((xs[j]).f0, (xs[j]).f1) := by simp [pr_laws_Step]
theorem pr_laws_Step_ok {p : Int × Int → Bool} {xs : List S59} (h : (pr_laws_Step xs).all p = true) (j : Nat) (hj : j < xs.length) : p ((xs[j]).f0, (xs[j]).f1) = true := by
  have := List.all_eq_true.1 h _ (List.getElem_mem (by rw [pr_laws_Step_length]; exact hj : j < (pr_laws_Step xs).length))
  rwa [pr_laws_Step_get xs j hj] at this
theorem laws_szStepS_eq (xs : List S59) (left : Int) (hn : xs.length ≤ 4611686018427387904) (h0 : 0 ≤ left) (h1 : left ≤ 1048576) : laws_szStepS.f xs left = some (if left - xs.length < 0 then -1 else left - xs.length) := by
  unfold laws_szStepS.f
  rw [w64 (by omega) (by omega)]
  split <;> rfl
def cv_Step (s : S59) : S38 := ⟨s.f0, s.f1⟩
theorem laws_toStepS_l0 (xs : List S59) (hn : xs.length ≤ 4611686018427387904) (d : Nat) : ∀ (j : Nat) (ys : List S38), j + d = xs.length → ys.length = xs.length → Ev (fun k => laws_toStepS.l0 k xs ys j) (ys.take j ++ (xs.drop j).map cv_Step) := by
  induction d with
  | zero =>
    intro j ys hj hy
    refine ev_at 1 fun k => ?_
    simp only [laws_toStepS.l0]
    rw [if_neg (by omega), List.take_of_length_le (by omega), List.drop_of_length_le (by omega)]
    simp
  | succ d ih =>
    intro j ys hj hy
    refine Ev.step (f := fun k => laws_toStepS.l0 k xs (ys.set j (cv_Step xs[j])) ((j + 1 : Nat) : Int)) (fun k => ?_) (ev_eq (ih (j + 1) (ys.set j (cv_Step xs[j])) (by omega) (by simpa using hy)) ?_)
    · simp only [laws_toStepS.l0, laws_toStep.f, Option.bind_some]
      rw [if_pos (by omega), if_pos (by omega), if_pos (by omega), wnext (n := xs.length) (by omega) hn, Int.toNat_natCast, rd_laws_Step xs j (by omega)]
      rfl
    · rw [take_set_succ ys j _ (by omega), List.drop_eq_getElem_cons (show j < xs.length by omega)]
      simp only [List.map_cons, List.append_assoc, List.singleton_append]
theorem laws_toStepS_ev (xs : List S59) (hn : xs.length ≤ 17592186044416) : Ev (fun k => laws_toStepS.f k xs) (xs.map cv_Step) := by
  unfold laws_toStepS.f
  simp only [Int.toNat_natCast]
  refine ev_ifp (by omega) (ev_ifp hn ?_)
  exact ev_eq (laws_toStepS_l0 xs (by omega) xs.length 0 _ (by omega) (by simp)) (by simp)
theorem laws_eqStep_eq (a b : Int) : laws_eqStep.f a b a b = some true := by
  unfold laws_eqStep.f
  simp
theorem laws_eqStepS_l0 (xs : List S38) (hn : xs.length ≤ 4611686018427387904) (d : Nat) : ∀ j : Nat, j + d = xs.length → Ev (fun k => laws_eqStepS.l0 k xs xs j) true := by
  induction d with
  | zero =>
    intro j hj
    refine ev_at 1 fun k => ?_
    simp only [laws_eqStepS.l0]
    rw [if_neg (by omega)]
  | succ d ih =>
    intro j hj
    refine Ev.step (f := fun k => laws_eqStepS.l0 k xs xs ((j + 1 : Nat) : Int)) (fun k => ?_) (ih (j + 1) (by omega))
    simp only [laws_eqStepS.l0, laws_eqStep_eq, Option.bind_some, if_true]
    rw [if_pos (by omega), if_pos (by omega), if_pos (by omega), wnext (n := xs.length) (by omega) hn]
theorem laws_eqStepS_ev (xs : List S38) (hn : xs.length ≤ 4611686018427387904) : Ev (fun k => laws_eqStepS.f k xs xs) true := by
  unfold laws_eqStepS.f
  simp only [if_true]
  exact laws_eqStepS_l0 xs hn xs.length 0 (by omega)
theorem impl_in_eq (a b c : Int) : impl_in.f a b c = some (decide (b ≤ a ∧ a ≤ c)) := by
  unfold impl_in.f
  by_cases h : b ≤ a <;> simp [h]
theorem impl_StepsOk_l0 (xs : List S38) (hn : xs.length ≤ 4611686018427387904) (d : Nat) : ∀ j : Nat, j + d = xs.length → Ev (fun k => impl_StepsOk.l0 k xs xs (xs.length : Int) j) (((pr_impl_Step xs).drop j).all pStepOk && decide (xs.length ≤ 12)) := by
  induction d with
  | zero =>
    intro j hj
    refine ev_at 1 fun k => ?_
    simp only [impl_StepsOk.l0]
    rw [if_neg (by omega), List.drop_of_length_le (by rw [pr_impl_Step_length]; omega)]
    simp only [List.all_nil, Bool.true_and]
    exact congrArg some (decide_eq_decide.2 (by omega))
  | succ d ih =>
    intro j hj
    rw [pr_impl_Step_drop xs j (by omega)]
    simp only [List.all_cons]
    by_cases h : pStepOk ((xs[j]).f0, (xs[j]).f1) = true
    · have h2 := pStepOk_range h
      refine Ev.step (f := fun k => impl_StepsOk.l0 k xs xs (xs.length : Int) ((j + 1 : Nat) : Int)) (fun k => ?_) (ev_eq (ih (j + 1) (by omega)) (by rw [h, Bool.true_and]))
      simp only [impl_StepsOk.l0, impl_in_eq, Option.bind_some, decide_eq_true_eq]
      rw [if_pos (by omega), if_pos (by omega), if_pos (by omega), rd_impl_Step xs j (by omega), if_pos h2.1, if_pos h2.2, wnext (n := xs.length) (by omega) hn]
    · refine ev_at 1 fun k => ?_
      simp only [impl_StepsOk.l0, impl_in_eq, Option.bind_some, decide_eq_true_eq]
      rw [if_pos (by omega), if_pos (by omega), if_pos (by omega), rd_impl_Step xs j (by omega)]
      rw [Bool.eq_false_iff.2 h]
      simp only [pStepOk, decide_eq_true_eq] at h
      by_cases h1 : 1 ≤ (xs[j]).f0 ∧ (xs[j]).f0 ≤ 300
      · rw [if_pos h1, if_neg (fun c => h ⟨h1, c⟩)]
        rfl
      · rw [if_neg h1]
        rfl
theorem impl_StepsOk_ev (xs : List S38) (hn : xs.length ≤ 4611686018427387904) : Ev (fun k => impl_StepsOk.f k xs) (pStepsOk (pr_impl_Step xs)) := by
  unfold impl_StepsOk.f
  exact ev_eq (impl_StepsOk_l0 xs hn xs.length 0 (by omega)) (by simp [pStepsOk, pr_impl_Step_length])
theorem impl_StartTimes_l0 (xs : List S38) (hn : xs.length ≤ 1048576) (hok : (pr_impl_Step xs).all pStepOk = true) (m : Nat) : ∀ (out : List Int) (r : Int), m ≤ xs.length → out.length = xs.length → r ≤ 1000000 → -1000000 ≤ r - pWhole ((pr_impl_Step xs).take m) → Ev (fun k => impl_StartTimes.l0 k xs r out ((m : Int) - 1)) (pStarts (r - pWhole ((pr_impl_Step xs).take m)) ((pr_impl_Step xs).take m) ++ out.drop m) := by
  induction m with
  | zero =>
    intro out r hm ho h0 h1
    refine ev_succ ?_
    simp only [impl_StartTimes.l0]
    exact ev_ifn (by omega) (ev_const (by simp [pStarts]))
  | succ m ih =>
    intro out r hm ho h0 h1
    have h2 := pStepOk_range (pr_impl_Step_ok hok m (by omega))
    have hl : m < (pr_impl_Step xs).length := by rw [pr_impl_Step_length]; omega
    have h3 : 0 ≤ pWhole ((pr_impl_Step xs).take m) := (pWhole_range _ (List.all_eq_true.2 fun x hx => List.all_eq_true.1 hok x (List.mem_of_mem_take hx))).1
    have ht : (pr_impl_Step xs).take (m + 1) = (pr_impl_Step xs).take m ++ [((xs[m]).f0, (xs[m]).f1)] := by
      rw [List.take_succ_eq_append_getElem hl, pr_impl_Step_get xs m (by omega)]
    rw [ht, pWhole_append] at h1
    rw [ht, pWhole_append, pStarts_snoc]
    simp only [pWhole] at h1 ⊢
    refine ev_succ ?_
    simp only [impl_StartTimes.l0]
    rw [show ((m + 1 : Nat) : Int) - 1 = (m : Int) by omega]
    refine ev_ifp (by omega) (ev_ifp (by omega) (ev_ifp (by omega) (ev_ifp (by omega) ?_)))
    rw [rd_impl_Step xs m (by omega), w64 (n := (xs[m]).f0 + (xs[m]).f1) (by omega) (by omega), w64 (n := r - ((xs[m]).f0 + (xs[m]).f1)) (by omega) (by omega), w64 (n := (m : Int) - 1) (by omega) (by omega), Int.toNat_natCast]
    refine ev_eq (ih _ _ (by omega) (by simpa using ho) (by omega) (by omega)) ?_
    rw [show r - ((xs[m]).f0 + (xs[m]).f1) - pWhole ((pr_impl_Step xs).take m) = r - (pWhole ((pr_impl_Step xs).take m) + ((xs[m]).f0 + (xs[m]).f1 + 0)) by omega, List.append_assoc]
    congr 1
    rw [List.drop_eq_getElem_cons (by simp; omega)]
    simp only [List.getElem_set_self, List.singleton_append]
    rw [List.drop_set_of_lt (by omega)]
    congr 1
    omega
theorem impl_StartTimes_ev (xs : List S38) (r : Int) (hn : xs.length ≤ 1048576) : Ev (fun k => impl_StartTimes.f k xs r) (pStartTimes (pr_impl_Step xs) r) := by
  unfold impl_StartTimes.f pStartTimes
  refine Ev.bind (impl_StepsOk_ev xs (by omega)) ?_
  simp only [impl_in_eq, Option.bind_some]
  by_cases h : pStepsOk (pr_impl_Step xs) = true
  · refine ev_ifp h (ev_succ ?_)
    simp only [impl_StartTimes.j0]
    by_cases h4 : 0 ≤ r ∧ r ≤ 1440
    · rw [if_pos ⟨h, h4⟩, decide_eq_true h4]
      have h2 := pStepsOk_split h
      have h3 := pWhole_range _ h2.1
      have e : (pr_impl_Step xs).take xs.length = pr_impl_Step xs := List.take_of_length_le (by rw [pr_impl_Step_length]; omega)
      rw [Int.toNat_natCast, w64 (n := (xs.length : Int) - 1) (by omega) (by omega)]
      refine ev_ifn (by decide) (ev_ifp (by omega) (ev_ifp (by omega) (ev_eq (impl_StartTimes_l0 xs hn h2.1 xs.length _ r (by omega) (by simp) (by omega) (by rw [e]; omega)) ?_)))
      rw [e, List.drop_of_length_le (by simp)]
      simp
    · rw [if_neg (fun c => h4 c.2), decide_eq_false h4]
      exact ev_ifp (by simp) (Ev.now _)
  · rw [if_neg (fun c => h c.1)]
    refine ev_ifn h (ev_succ ?_)
    simp only [impl_StartTimes.j0]
    exact ev_ifp (by simp) (Ev.now _)
theorem spec_l01In_eq (a b c : Int) : spec_l01In.f a b c = some (decide (b ≤ a ∧ a ≤ c)) := by
  unfold spec_l01In.f
  by_cases h : b ≤ a <;> simp [h]
theorem spec_StepsOk_l0 (xs : List S38) (hn : xs.length ≤ 4611686018427387904) (d : Nat) : ∀ j : Nat, j + d = xs.length → Ev (fun k => spec_StepsOk.l0 k xs j) (((pr_impl_Step xs).drop j).all pStepOk && decide (xs.length ≤ 12)) := by
  induction d with
  | zero =>
    intro j hj
    refine ev_at 1 fun k => ?_
    simp only [spec_StepsOk.l0]
    rw [if_neg (by omega), List.drop_of_length_le (by rw [pr_impl_Step_length]; omega)]
    simp only [List.all_nil, Bool.true_and]
    exact congrArg some (decide_eq_decide.2 (by omega))
  | succ d ih =>
    intro j hj
    rw [pr_impl_Step_drop xs j (by omega)]
    simp only [List.all_cons]
    by_cases h : pStepOk ((xs[j]).f0, (xs[j]).f1) = true
    · have h2 := pStepOk_range h
      refine Ev.step (f := fun k => spec_StepsOk.l0 k xs ((j + 1 : Nat) : Int)) (fun k => ?_) (ev_eq (ih (j + 1) (by omega)) (by rw [h, Bool.true_and]))
      simp only [spec_StepsOk.l0, spec_l01In_eq, Option.bind_some, decide_eq_true_eq]
      rw [if_pos (by omega), if_pos (by omega), rd_impl_Step xs j (by omega), if_pos h2.1, if_pos h2.2, wnext (n := xs.length) (by omega) hn]
    · refine ev_at 1 fun k => ?_
      simp only [spec_StepsOk.l0, spec_l01In_eq, Option.bind_some, decide_eq_true_eq]
      rw [if_pos (by omega), if_pos (by omega), rd_impl_Step xs j (by omega)]
      rw [Bool.eq_false_iff.2 h]
      simp only [pStepOk, decide_eq_true_eq] at h
      by_cases h1 : 1 ≤ (xs[j]).f0 ∧ (xs[j]).f0 ≤ 300
      · rw [if_pos h1, if_neg (fun c => h ⟨h1, c⟩)]
        rfl
      · rw [if_neg h1]
        rfl
theorem spec_StepsOk_ev (xs : List S38) (hn : xs.length ≤ 4611686018427387904) : Ev (fun k => spec_StepsOk.f k xs) (pStepsOk (pr_impl_Step xs)) := by
  unfold spec_StepsOk.f
  exact ev_eq (spec_StepsOk_l0 xs hn xs.length 0 (by omega)) (by simp [pStepsOk, pr_impl_Step_length])
theorem spec_WholeTime_l0 (xs : List S38) (hn : xs.length ≤ 4611686018427387904) (hok : (pr_impl_Step xs).all pStepOk = true) (d : Nat) : ∀ (j : Nat) (acc : Int), j + d = xs.length → 0 ≤ acc → acc + pWhole ((pr_impl_Step xs).drop j) ≤ 1000000 → Ev (fun k => spec_WholeTime.l0 k xs acc j) (acc + pWhole ((pr_impl_Step xs).drop j)) := by
  induction d with
  | zero =>
    intro j acc hj h0 h1
    refine ev_succ ?_
    simp only [spec_WholeTime.l0]
    rw [List.drop_of_length_le (by rw [pr_impl_Step_length]; omega)]
    exact ev_ifn (by omega) (ev_const (by simp [pWhole]))
  | succ d ih =>
    intro j acc hj h0 h1
    have h2 := pStepOk_range (pr_impl_Step_ok hok j (by omega))
    have h3 := (pWhole_range _ (all_drop hok (j + 1))).1
    rw [pr_impl_Step_drop xs j (by omega)] at h1 ⊢
    simp only [pWhole] at h1 ⊢
    refine ev_succ ?_
    simp only [spec_WholeTime.l0]
    refine ev_ifp (by omega) (ev_ifp (by omega) ?_)
    dsimp only at h2
    rw [rd_impl_Step xs j (by omega), wnext (n := xs.length) (by omega) hn, w64 (n := acc + (xs[j]).f0) (by omega) (by omega), w64 (n := acc + (xs[j]).f0 + (xs[j]).f1) (by omega) (by omega)]
    exact ev_eq (ih (j + 1) _ (by omega) (by omega) (by omega)) (by omega)
theorem spec_WholeTime_ev (xs : List S38) (hn : xs.length ≤ 4611686018427387904) : Ev (fun k => spec_WholeTime.f k xs) (pWholeTime (pr_impl_Step xs)) := by
  unfold spec_WholeTime.f pWholeTime
  refine Ev.bind (spec_StepsOk_ev xs hn) ?_
  by_cases h : pStepsOk (pr_impl_Step xs) = true
  · rw [if_pos h]
    have h2 := pStepsOk_split h
    have h3 := pWhole_range _ h2.1
    have e : (pr_impl_Step xs).drop 0 = pr_impl_Step xs := rfl
    exact ev_ifp h (ev_eq (spec_WholeTime_l0 xs hn h2.1 xs.length 0 0 (by omega) (by omega) (by rw [e]; omega)) (by rw [e]; omega))
  · rw [if_neg h]
    exact ev_ifn h (Ev.now _)
theorem spec_l06Ok_ev (xs : List S38) (r : Int) (hn : xs.length ≤ 4611686018427387904) : Ev (fun k => spec_l06Ok.f k xs r) (decide (pStepsOk (pr_impl_Step xs) = true ∧ (0 ≤ r ∧ r ≤ 1440))) := by
  unfold spec_l06Ok.f
  refine Ev.bind (spec_StepsOk_ev xs hn) ?_
  simp only [spec_l01In_eq, Option.bind_some]
  by_cases h : pStepsOk (pr_impl_Step xs) = true
  · exact ev_ifp h (ev_const (by simp [h]))
  · exact ev_ifn h (ev_const (by simp [h]))
theorem spec_StartTimes_l0 (xs : List S38) (hn : xs.length ≤ 1048576) (hok : (pr_impl_Step xs).all pStepOk = true) (d : Nat) : ∀ (j : Nat) (out : List Int) (now : Int), j + d = xs.length → out.length = j → -1000000 ≤ now → now + pWhole ((pr_impl_Step xs).drop j) ≤ 1000000 → Ev (fun k => spec_StartTimes.l0 k xs out now j) (out ++ pStarts now ((pr_impl_Step xs).drop j)) := by
  induction d with
  | zero =>
    intro j out now hj ho h0 h1
    refine ev_succ ?_
    simp only [spec_StartTimes.l0]
    rw [List.drop_of_length_le (by rw [pr_impl_Step_length]; omega)]
    exact ev_ifn (by omega) (ev_const (by simp [pStarts]))
  | succ d ih =>
    intro j out now hj ho h0 h1
    have h2 := pStepOk_range (pr_impl_Step_ok hok j (by omega))
    have h3 := (pWhole_range _ (all_drop hok (j + 1))).1
    rw [pr_impl_Step_drop xs j (by omega)] at h1 ⊢
    simp only [pWhole, pStarts] at h1 ⊢
    refine ev_succ ?_
    simp only [spec_StartTimes.l0]
    refine ev_ifp (by omega) (ev_ifp (by omega) (ev_ifp (by omega) ?_))
    dsimp only at h2
    rw [rd_impl_Step xs j (by omega), wnext (n := xs.length) (by omega) (by omega), w64 (n := now + (xs[j]).f0) (by omega) (by omega), w64 (n := now + (xs[j]).f0 + (xs[j]).f1) (by omega) (by omega)]
    exact ev_eq (ih (j + 1) _ _ (by omega) (by simp [ho]) (by omega) (by omega)) (by simp)
theorem spec_StartTimes_ev (xs : List S38) (r : Int) (hn : xs.length ≤ 1048576) : Ev (fun k => spec_StartTimes.f k xs r) (pStartTimes (pr_impl_Step xs) r) := by
  unfold spec_StartTimes.f pStartTimes
  simp only [Option.bind_some]
  refine Ev.bind (spec_l06Ok_ev xs r (by omega)) ?_
  by_cases h : pStepsOk (pr_impl_Step xs) = true ∧ (0 ≤ r ∧ r ≤ 1440)
  · rw [if_pos h]
    have h2 := pStepsOk_split h.1
    have h3 := pWhole_range _ h2.1
    have e : (pr_impl_Step xs).drop 0 = pr_impl_Step xs := rfl
    refine ev_ifp (decide_eq_true h) (Ev.bind (spec_WholeTime_ev xs (by omega)) ?_)
    have e2 : pWholeTime (pr_impl_Step xs) = pWhole (pr_impl_Step xs) := by unfold pWholeTime; rw [if_pos h.1]
    rw [e2, w64 (n := r - pWhole (pr_impl_Step xs)) (by omega) (by omega)]
    exact ev_eq (spec_StartTimes_l0 xs hn h2.1 xs.length 0 [] _ (by omega) rfl (by omega) (by rw [e]; omega)) (by rw [e]; simp)
  · rw [if_neg h]
    exact ev_ifn (by simp [h]) (Ev.now _)
theorem laws_eqIntS_l0 (xs : List Int) (hn : xs.length ≤ 4611686018427387904) (d : Nat) : ∀ j : Nat, j + d = xs.length → Ev (fun k => laws_eqIntS.l0 k xs xs j) true := by
  induction d with
  | zero =>
    intro j hj
    refine ev_at 1 fun k => ?_
    simp only [laws_eqIntS.l0]
    rw [if_neg (by omega)]
  | succ d ih =>
    intro j hj
    refine Ev.step (f := fun k => laws_eqIntS.l0 k xs xs ((j + 1 : Nat) : Int)) (fun k => ?_) (ih (j + 1) (by omega))
    simp only [laws_eqIntS.l0, if_true]
    rw [if_pos (by omega), if_pos (by omega), if_pos (by omega), wnext (n := xs.length) (by omega) hn]
theorem laws_eqIntS_ev (xs : List Int) (hn : xs.length ≤ 4611686018427387904) : Ev (fun k => laws_eqIntS.f k xs xs) true := by
  unfold laws_eqIntS.f
  simp only [if_true]
  exact laws_eqIntS_l0 xs hn xs.length 0 (by omega)
theorem laws_markStepS_l0 (d : Nat) : ∀ (j : Nat) (xs : List S38) (m : Int), xs.length ≤ 1048576 → 0 ≤ m → m + 2 * d ≤ 4611686018427387904 → j + d = xs.length → ∃ ys, Ev (fun k => laws_markStepS.l0 k xs m j) (m + 2 * d, ys) := by
  induction d with
  | zero =>
    intro j xs m hn hm hm2 hj
    refine ⟨xs, ev_succ ?_⟩
    simp only [laws_markStepS.l0]
    exact ev_ifn (by omega) (ev_const (by simp))
  | succ d ih =>
    intro j xs m hn hm hm2 hj
    obtain ⟨ys, hy⟩ := ih (j + 1) ((xs.set j ⟨m, (rd_T38 xs j).f1⟩).set j ⟨(rd_T38 (xs.set j ⟨m, (rd_T38 xs j).f1⟩) j).f0, m + 1⟩) (m + 1 + 1) (by simpa using hn) (by omega) (by omega) (by simp; omega)
    refine ⟨ys, ev_succ ?_⟩
    simp only [laws_markStepS.l0, Option.bind_some]
    rw [w64 (n := m + 1) (by omega) (by omega), w64 (n := m + 1 + 1) (by omega) (by omega), wnext (n := xs.length) (by omega) (by omega), Int.toNat_natCast]
    exact ev_ifp (by omega) (ev_ifp (by omega) (ev_eq hy (by simp only [Prod.mk.injEq, and_true]; omega)))
theorem laws_markStepS_ev (xs : List S38) (hn : xs.length ≤ 1048576) : ∃ ys, Ev (fun k => laws_markStepS.f k xs 1) (1 + 2 * (xs.length : Int), ys) := by
  unfold laws_markStepS.f
  exact laws_markStepS_l0 xs.length 0 xs 1 (by omega) (by omega) (by omega) (by omega)
theorem laws_markIntS_l0 (d : Nat) : ∀ (j : Nat) (xs : List Int) (m : Int), xs.length ≤ 4611686018427387904 → 0 ≤ m → m + d ≤ 4611686018427387904 → j + d = xs.length → Ev (fun k => laws_markIntS.l0 k xs m j) (m + d, xs.take j ++ pFrom m d) := by
  induction d with
  | zero =>
    intro j xs m hn hm hm2 hj
    refine ev_at 1 fun k => ?_
    simp only [laws_markIntS.l0]
    rw [if_neg (by omega), List.take_of_length_le (by omega)]
    simp [pFrom]
  | succ d ih =>
    intro j xs m hn hm hm2 hj
    refine Ev.step (f := fun k => laws_markIntS.l0 k (xs.set j m) (m + 1) ((j + 1 : Nat) : Int)) (fun k => ?_) (ev_eq (ih (j + 1) (xs.set j m) (m + 1) (by simpa using hn) (by omega) (by omega) (by simp; omega)) ?_)
    · simp only [laws_markIntS.l0]
      rw [if_pos (by omega), if_pos (by omega), wnext (n := xs.length) (by omega) hn, w64 (n := m + 1) (by omega) (by omega), Int.toNat_natCast]
    · rw [take_set_succ xs j m (by omega)]
      simp only [pFrom, List.append_assoc, List.singleton_append, Prod.mk.injEq, and_true]
      omega
theorem laws_markIntS_ev (xs : List Int) (hn : xs.length ≤ 4611686018427387000) : Ev (fun k => laws_markIntS.f k xs 1) (1 + (xs.length : Int), pFrom 1 xs.length) := by
  unfold laws_markIntS.f
  exact ev_eq (laws_markIntS_l0 xs.length 0 xs 1 (by omega) (by omega) (by omega) (by omega)) (by simp)
theorem laws_heldIntS_l0 (d : Nat) : ∀ (j : Nat) (xs : List Int) (m : Int), xs.length ≤ 4611686018427387904 → 0 ≤ m → m + d ≤ 4611686018427387904 → j + d = xs.length → xs.drop j = pFrom m d → Ev (fun k => laws_heldIntS.l0 k xs m j) (m + d) := by
  induction d with
  | zero =>
    intro j xs m hn hm hm2 hj hx
    refine ev_at 1 fun k => ?_
    simp only [laws_heldIntS.l0]
    rw [if_neg (by omega)]
    simp
  | succ d ih =>
    intro j xs m hn hm hm2 hj hx
    rw [List.drop_eq_getElem_cons (by omega)] at hx
    simp only [pFrom, List.cons.injEq] at hx
    refine Ev.step (f := fun k => laws_heldIntS.l0 k xs (m + 1) ((j + 1 : Nat) : Int)) (fun k => ?_) (ev_eq (ih (j + 1) xs (m + 1) hn (by omega) (by omega) (by omega) hx.2) (by omega))
    simp only [laws_heldIntS.l0]
    rw [if_pos (by omega), if_pos (by omega), rd_nat xs j (by omega), if_pos hx.1, wnext (n := xs.length) (by omega) hn, w64 (n := m + 1) (by omega) (by omega)]
theorem laws_heldIntS_ev (n : Nat) (hn : n ≤ 4611686018427387000) : Ev (fun k => laws_heldIntS.f k (pFrom 1 n) 1) (1 + (n : Int)) := by
  unfold laws_heldIntS.f
  exact laws_heldIntS_l0 n 0 (pFrom 1 n) 1 (by rw [pFrom_length]; omega) (by omega) (by omega) (by rw [pFrom_length]; omega) rfl
theorem FnExactStartTimes (xs : List S59) (r : Int) (_ : xs.length ≤ maxLen) (hs : xs.length * 16 ≤ 140737488351232) (_ : ∀ x ∈ xs, (Lit.int .i64 x.f0).wf = true ∧ (Lit.int .i64 x.f1).wf = true) (_ : (Lit.int .i64 r).wf = true) : ∃ k, laws_FnExactStartTimes.f k xs r = some true := by
  refine Ev.rounds (g := fun k => laws_FnExactStartTimes.f k xs r) ?_
  unfold laws_FnExactStartTimes.f
  rw [laws_szStepS_eq xs 1048576 (by omega) (by omega) (by omega)]
  simp only [Option.bind_some]
  by_cases h : (1048576 : Int) - xs.length < 0
  · rw [if_pos h]
    exact ev_ifp (by decide) (Ev.now _)
  · rw [if_neg h]
    have ht := laws_toStepS_ev xs (by omega)
    have hl : (xs.map cv_Step).length ≤ 1048576 := by rw [List.length_map]; omega
    have hv : (pStartTimes (pr_impl_Step (xs.map cv_Step)) r).length ≤ 1048576 := by
      unfold pStartTimes
      split
      · rw [pStarts_length, pr_impl_Step_length]; exact hl
      · simp
    obtain ⟨ys, hm⟩ := laws_markStepS_ev _ hl
    refine ev_ifn h (Ev.bind ht (Ev.bind (spec_StartTimes_ev _ r hl) (Ev.bind ht (Ev.bind (impl_StartTimes_ev _ r hl) (Ev.bind (laws_eqIntS_ev _ (by omega)) (ev_ifp rfl (Ev.bind ht (Ev.bind (laws_eqStepS_ev _ (by omega)) (ev_ifp rfl (Ev.bind hm (ev_ifn (by dsimp only; omega) (Ev.bind (laws_eqIntS_ev _ (by omega)) (ev_succ ?_)))))))))))))
    simp only [laws_FnExactStartTimes.j0]
    refine ev_ifn (by decide) (Ev.bind (laws_markIntS_ev _ (by omega)) (Ev.bind (laws_heldIntS_ev _ (by omega)) (ev_ifn (by omega) (ev_ifp rfl (Ev.bind ht (Ev.bind (impl_StartTimes_ev _ r hl) (Ev.bind (laws_eqIntS_ev _ (by omega)) (ev_ifp rfl (Ev.bind (laws_heldIntS_ev _ (by omega)) (ev_ifn (by omega) (ev_ifp rfl (Ev.now _))))))))))))
end Go.Proofs.Ythonmildlahjdaa.Pure
