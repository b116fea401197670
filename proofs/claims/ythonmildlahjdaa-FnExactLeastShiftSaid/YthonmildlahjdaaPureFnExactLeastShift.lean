/- What is proved: read as plain functions on numbers and lists, the law FnExactLeastShift answers true at every input of its kinds; no condition is added. -/
import Derived.Test.YthonmildlahjdaaPFnExactLeastShiftx4
import Derived.Test.YthonmildlahjdaaPlain
set_option linter.unusedVariables false
set_option linter.unusedSimpArgs false
set_option maxRecDepth 20000
namespace Go.Proofs.Ythonmildlahjdaa.Pure
open Go.RowKit Go.Proofs.Ythonmildlahjdaa.PFnExactLeastShift Go.Proofs.YthonmildlahjdaaW.PrintWords Go.Proofs.YthonmildlahjdaaW.PrintLast Go.Proofs.YthonmildlahjdaaW.PrintMore Go.Proofs.Ythonmildlahjdaa.Plain
def pr_impl_Step (xs : List S38) : List (Int × Int) := xs.map fun s => (s.f0, s.f1)
theorem pr_impl_Step_length (xs : List S38) : (pr_impl_Step xs).length = xs.length := by simp [pr_impl_Step]
theorem rd_impl_Step (xs : List S38) (j : Nat) (h : j < xs.length) : rd_T38 xs (j : Int) = xs[j] := by simp [rd_T38, List.getD_eq_getElem?_getD, List.getElem?_eq_getElem h]
theorem pr_impl_Step_drop (xs : List S38) (j : Nat) (h : j < xs.length) : (pr_impl_Step xs).drop j = ((xs[j]).f0, (xs[j]).f1) :: (pr_impl_Step xs).drop (j + 1) := by
  rw [List.drop_eq_getElem_cons (by rw [pr_impl_Step_length]; exact h)]
  simp [pr_impl_Step]
theorem pr_impl_Step_get (xs : List S38) (j : Nat) (h : j < xs.length) : (pr_impl_Step xs)[j]'(by rw [pr_impl_Step_length]; exact h) = ((xs[j]).f0, (xs[j]).f1) := by simp [pr_impl_Step]
theorem pr_impl_Step_ok {p : Int × Int → Bool} {xs : List S38} (h : (pr_impl_Step xs).all p = true) (j : Nat) (hj : j < xs.length) : p ((xs[j]).f0, (xs[j]).f1) = true := by
  have := List.all_eq_true.1 h _ (List.getElem_mem (by rw [pr_impl_Step_length]; exact hj : j < (pr_impl_Step xs).length))
  rwa [pr_impl_Step_get xs j hj] at this
def pr_laws_Step (xs : List S59) : List (Int × Int) := xs.map fun s => (s.f0, s.f1)
theorem pr_laws_Step_length (xs : List S59) : (pr_laws_Step xs).length = xs.length := by simp [pr_laws_Step]
theorem rd_laws_Step (xs : List S59) (j : Nat) (h : j < xs.length) : rd_T59 xs (j : Int) = xs[j] := by simp [rd_T59, List.getD_eq_getElem?_getD, List.getElem?_eq_getElem h]
theorem pr_laws_Step_drop (xs : List S59) (j : Nat) (h : j < xs.length) : (pr_laws_Step xs).drop j = ((xs[j]).f0, (xs[j]).f1) :: (pr_laws_Step xs).drop (j + 1) := by
  rw [List.drop_eq_getElem_cons (by rw [pr_laws_Step_length]; exact h)]
  simp [pr_laws_Step]
theorem pr_laws_Step_get (xs : List S59) (j : Nat) (h : j < xs.length) : (pr_laws_Step xs)[j]'(by rw [pr_laws_Step_length]; exact h) = ((xs[j]).f0, (xs[j]).f1) := by simp [pr_laws_Step]
theorem pr_laws_Step_ok {p : Int × Int → Bool} {xs : List S59} (h : (pr_laws_Step xs).all p = true) (j : Nat) (hj : j < xs.length) : p ((xs[j]).f0, (xs[j]).f1) = true := by
  have := List.all_eq_true.1 h _ (List.getElem_mem (by rw [pr_laws_Step_length]; exact hj : j < (pr_laws_Step xs).length))
  rwa [pr_laws_Step_get xs j hj] at this
theorem laws_szStepS_eq (xs : List S59) (left : Int) (hn : xs.length ≤ 4611686018427387904) (h0 : 0 ≤ left) (h1 : left ≤ 1048576) : laws_szStepS.f xs left = some (if left - xs.length < 0 then -1 else left - xs.length) := by
  unfold laws_szStepS.f
  rw [w64 (by omega) (by omega)]
  split <;> rfl
def cv_Step (s : S59) : S38 := ⟨s.f0, s.f1⟩
theorem laws_toStepS_l0 (xs : List S59) (hn : xs.length ≤ 4611686018427387904) (d : Nat) : ∀ (j : Nat) (ys : List S38), j + d = xs.length → ys.length = xs.length → Ev (fun k => laws_toStepS.l0 k xs ys j) (ys.take j ++ (xs.drop j).map cv_Step) := by
  induction d with
  | zero =>
    intro j ys hj hy
    refine ev_at 1 fun k => ?_
    simp only [laws_toStepS.l0]
    rw [if_neg (by omega), List.take_of_length_le (by omega), List.drop_of_length_le (by omega)]
    simp
  | succ d ih =>
    intro j ys hj hy
    refine Ev.step (f := fun k => laws_toStepS.l0 k xs (ys.set j (cv_Step xs[j])) ((j + 1 : Nat) : Int)) (fun k => ?_) (ev_eq (ih (j + 1) (ys.set j (cv_Step xs[j])) (by omega) (by simpa using hy)) ?_)
    · simp only [laws_toStepS.l0, laws_toStep.f, Option.bind_some]
      rw [if_pos (by omega), if_pos (by omega), if_pos (by omega), wnext (n := xs.length) (by omega) hn, Int.toNat_natCast, rd_laws_Step xs j (by omega)]
      rfl
    · rw [take_set_succ ys j _ (by omega), List.drop_eq_getElem_cons (show j < xs.length by omega)]
      simp only [List.map_cons, List.append_assoc, List.singleton_append]
theorem laws_toStepS_ev (xs : List S59) (hn : xs.length ≤ 17592186044416) : Ev (fun k => laws_toStepS.f k xs) (xs.map cv_Step) := by
  unfold laws_toStepS.f
  simp only [Int.toNat_natCast]
  refine ev_ifp (by omega) (ev_ifp hn ?_)
  exact ev_eq (laws_toStepS_l0 xs (by omega) xs.length 0 _ (by omega) (by simp)) (by simp)
theorem laws_eqStep_eq (a b : Int) : laws_eqStep.f a b a b = some true := by
  unfold laws_eqStep.f
  simp
theorem laws_eqStepS_l0 (xs : List S38) (hn : xs.length ≤ 4611686018427387904) (d : Nat) : ∀ j : Nat, j + d = xs.length → Ev (fun k => laws_eqStepS.l0 k xs xs j) true := by
  induction d with
  | zero =>
    intro j hj
    refine ev_at 1 fun k => ?_
    simp only [laws_eqStepS.l0]
    rw [if_neg (by omega)]
  | succ d ih =>
    intro j hj
    refine Ev.step (f := fun k => laws_eqStepS.l0 k xs xs ((j + 1 : Nat) : Int)) (fun k => ?_) (ih (j + 1) (by omega))
    simp only [laws_eqStepS.l0, laws_eqStep_eq, Option.bind_some, if_true]
    rw [if_pos (by omega), if_pos (by omega), if_pos (by omega), wnext (n := xs.length) (by omega) hn]
theorem laws_eqStepS_ev (xs : List S38) (hn : xs.length ≤ 4611686018427387904) : Ev (fun k => laws_eqStepS.f k xs xs) true := by
  unfold laws_eqStepS.f
  simp only [if_true]
  exact laws_eqStepS_l0 xs hn xs.length 0 (by omega)
theorem impl_in_eq (a b c : Int) : impl_in.f a b c = some (decide (b ≤ a ∧ a ≤ c)) := by
  unfold impl_in.f
  by_cases h : b ≤ a <;> simp [h]
theorem impl_StepsOk_l0 (xs : List S38) (hn : xs.length ≤ 4611686018427387904) (d : Nat) : ∀ j : Nat, j + d = xs.length → Ev (fun k => impl_StepsOk.l0 k xs xs (xs.length : Int) j) (((pr_impl_Step xs).drop j).all pStepOk && decide (xs.length ≤ 12)) := by
  induction d with
  | zero =>
    intro j hj
    refine ev_at 1 fun k => ?_
    simp only [impl_StepsOk.l0]
    rw [if_neg (by omega), List.drop_of_length_le (by rw [pr_impl_Step_length]; omega)]
    simp only [List.all_nil, Bool.true_and]
    exact congrArg some (decide_eq_decide.2 (by omega))
  | succ d ih =>
    intro j hj
    rw [pr_impl_Step_drop xs j (by omega)]
    simp only [List.all_cons]
    by_cases h : pStepOk ((xs[j]).f0, (xs[j]).f1) = true
    · have h2 := pStepOk_range h
      refine Ev.step (f := fun k => impl_StepsOk.l0 k xs xs (xs.length : Int) ((j + 1 : Nat) : Int)) (fun k => ?_) (ev_eq (ih (j + 1) (by omega)) (by rw [h, Bool.true_and]))
      simp only [impl_StepsOk.l0, impl_in_eq, Option.bind_some, decide_eq_true_eq]
      rw [if_pos (by omega), if_pos (by omega), if_pos (by omega), rd_impl_Step xs j (by omega), if_pos h2.1, if_pos h2.2, wnext (n := xs.length) (by omega) hn]
    · refine ev_at 1 fun k => ?_
      simp only [impl_StepsOk.l0, impl_in_eq, Option.bind_some, decide_eq_true_eq]
      rw [if_pos (by omega), if_pos (by omega), if_pos (by omega), rd_impl_Step xs j (by omega)]
      rw [Bool.eq_false_iff.2 h]
      simp only [pStepOk, decide_eq_true_eq] at h
      by_cases h1 : 1 ≤ (xs[j]).f0 ∧ (xs[j]).f0 ≤ 300
      · rw [if_pos h1, if_neg (fun c => h ⟨h1, c⟩)]
        rfl
      · rw [if_neg h1]
        rfl
theorem impl_StepsOk_ev (xs : List S38) (hn : xs.length ≤ 4611686018427387904) : Ev (fun k => impl_StepsOk.f k xs) (pStepsOk (pr_impl_Step xs)) := by
  unfold impl_StepsOk.f
  exact ev_eq (impl_StepsOk_l0 xs hn xs.length 0 (by omega)) (by simp [pStepsOk, pr_impl_Step_length])
theorem impl_StartTimes_l0 (xs : List S38) (hn : xs.length ≤ 1048576) (hok : (pr_impl_Step xs).all pStepOk = true) (m : Nat) : ∀ (out : List Int) (r : Int), m ≤ xs.length → out.length = xs.length → r ≤ 1000000 → -1000000 ≤ r - pWhole ((pr_impl_Step xs).take m) → Ev (fun k => impl_StartTimes.l0 k xs r out ((m : Int) - 1)) (pStarts (r - pWhole ((pr_impl_Step xs).take m)) ((pr_impl_Step xs).take m) ++ out.drop m) := by
  induction m with
  | zero =>
    intro out r hm ho h0 h1
    refine ev_succ ?_
    simp only [impl_StartTimes.l0]
    exact ev_ifn (by omega) (ev_const (by simp [pStarts]))
  | succ m ih =>
    intro out r hm ho h0 h1
    have h2 := pStepOk_range (pr_impl_Step_ok hok m (by omega))
    have hl : m < (pr_impl_Step xs).length := by rw [pr_impl_Step_length]; omega
    have h3 : 0 ≤ pWhole ((pr_impl_Step xs).take m) := (pWhole_range _ (List.all_eq_true.2 fun x hx => List.all_eq_true.1 hok x (List.mem_of_mem_take hx))).1
    have ht : (pr_impl_Step xs).take (m + 1) = (pr_impl_Step xs).take m ++ [((xs[m]).f0, (xs[m]).f1)] := by
      rw [List.take_succ_eq_append_getElem hl, pr_impl_Step_get xs m (by omega)]
    rw [ht, pWhole_append] at h1
    rw [ht, pWhole_append, pStarts_snoc]
    simp only [pWhole] at h1 ⊢
    refine ev_succ ?_
    simp only [impl_StartTimes.l0]
    rw [show ((m + 1 : Nat) : Int) - 1 = (m : Int) by omega]
    refine ev_ifp (by omega) (ev_ifp (by omega) (ev_ifp (by omega) (ev_ifp (by omega) ?_)))
    rw [rd_impl_Step xs m (by omega), w64 (n := (xs[m]).f0 + (xs[m]).f1) (by omega) (by omega), w64 (n := r - ((xs[m]).f0 + (xs[m]).f1)) (by omega) (by omega), w64 (n := (m : Int) - 1) (by omega) (by omega), Int.toNat_natCast]
    refine ev_eq (ih _ _ (by omega) (by simpa using ho) (by omega) (by omega)) ?_
    rw [show r - ((xs[m]).f0 + (xs[m]).f1) - pWhole ((pr_impl_Step xs).take m) = r - (pWhole ((pr_impl_Step xs).take m) + ((xs[m]).f0 + (xs[m]).f1 + 0)) by omega, List.append_assoc]
    congr 1
    rw [List.drop_eq_getElem_cons (by simp; omega)]
    simp only [List.getElem_set_self, List.singleton_append]
    rw [List.drop_set_of_lt (by omega)]
    congr 1
    omega
theorem impl_StartTimes_ev (xs : List S38) (r : Int) (hn : xs.length ≤ 1048576) : Ev (fun k => impl_StartTimes.f k xs r) (pStartTimes (pr_impl_Step xs) r) := by
  unfold impl_StartTimes.f pStartTimes
  refine Ev.bind (impl_StepsOk_ev xs (by omega)) ?_
  simp only [impl_in_eq, Option.bind_some]
  by_cases h : pStepsOk (pr_impl_Step xs) = true
  · refine ev_ifp h (ev_succ ?_)
    simp only [impl_StartTimes.j0]
    by_cases h4 : 0 ≤ r ∧ r ≤ 1440
    · rw [if_pos ⟨h, h4⟩, decide_eq_true h4]
      have h2 := pStepsOk_split h
      have h3 := pWhole_range _ h2.1
      have e : (pr_impl_Step xs).take xs.length = pr_impl_Step xs := List.take_of_length_le (by rw [pr_impl_Step_length]; omega)
      rw [Int.toNat_natCast, w64 (n := (xs.length : Int) - 1) (by omega) (by omega)]
      refine ev_ifn (by decide) (ev_ifp (by omega) (ev_ifp (by omega) (ev_eq (impl_StartTimes_l0 xs hn h2.1 xs.length _ r (by omega) (by simp) (by omega) (by rw [e]; omega)) ?_)))
      rw [e, List.drop_of_length_le (by simp)]
      simp
    · rw [if_neg (fun c => h4 c.2), decide_eq_false h4]
      exact ev_ifp (by simp) (Ev.now _)
  · rw [if_neg (fun c => h c.1)]
    refine ev_ifn h (ev_succ ?_)
    simp only [impl_StartTimes.j0]
    exact ev_ifp (by simp) (Ev.now _)
theorem pStartTimes_good {xs : List S38} {r : Int} (h : pStepsOk (pr_impl_Step xs) = true ∧ (0 ≤ r ∧ r ≤ 1440)) : pStartTimes (pr_impl_Step xs) r = pStarts (r - pWhole (pr_impl_Step xs)) (pr_impl_Step xs) ∧ (pStarts (r - pWhole (pr_impl_Step xs)) (pr_impl_Step xs)).length = xs.length ∧ xs.length ≤ 12 ∧ (pr_impl_Step xs).all pStepOk = true ∧ ∀ t ∈ pStarts (r - pWhole (pr_impl_Step xs)) (pr_impl_Step xs), -20000 ≤ t ∧ t ≤ 20000 := by
  have h2 := pStepsOk_split h.1
  have h3 := pWhole_range _ h2.1
  rw [pr_impl_Step_length] at h2
  rw [pr_impl_Step_length] at h3
  refine ⟨by unfold pStartTimes; rw [if_pos h], by rw [pStarts_length, pr_impl_Step_length], h2.2, h2.1, fun t ht => ?_⟩
  have := pStarts_range _ _ h2.1 t ht
  omega
theorem pClash_range {xs ys : List S38} {ra rb : Int} (h : pStepsOk (pr_impl_Step xs) = true ∧ (0 ≤ ra ∧ ra ≤ 1440)) (h2 : pStepsOk (pr_impl_Step ys) = true ∧ (0 ≤ rb ∧ rb ≤ 1440)) : 0 ≤ pClash (pr_impl_Step xs) (pr_impl_Step ys) ra rb ∧ pClash (pr_impl_Step xs) (pr_impl_Step ys) ra rb ≤ 100000 := by
  obtain ⟨_, l1, n1, o1, _⟩ := pStartTimes_good h
  obtain ⟨_, l2, n2, o2, _⟩ := pStartTimes_good h2
  have l1' : (pStarts (ra - pWhole (pr_impl_Step xs)) (pr_impl_Step xs)).length = (pr_impl_Step xs).length := by rw [pStarts_length]
  have l2' : (pStarts (rb - pWhole (pr_impl_Step ys)) (pr_impl_Step ys)).length = (pr_impl_Step ys).length := by rw [pStarts_length]
  have := pSum2_range (zb := pPairs (pStarts (rb - pWhole (pr_impl_Step ys)) (pr_impl_Step ys)) (pr_impl_Step ys)) (by rw [pPairs_length l2', pr_impl_Step_length]; exact n2) (pPairs (pStarts (ra - pWhole (pr_impl_Step xs)) (pr_impl_Step xs)) (pr_impl_Step xs)) (fun p hp => by
    obtain ⟨q, hq, rfl⟩ := List.mem_map.1 hp
    have := pStepOk_range (List.all_eq_true.1 o1 _ (List.of_mem_zip hq).2)
    dsimp only
    omega)
  rw [pPairs_length l1', pr_impl_Step_length] at this
  unfold pClash
  omega
theorem impl_WorkClash_l1 (xs ys : List S38) (ta tb : List Int) (hx : xs.length ≤ 12) (hy : ys.length ≤ 12) (okx : (pr_impl_Step xs).all pStepOk = true) (oky : (pr_impl_Step ys).all pStepOk = true) (la : ta.length = xs.length) (lb : tb.length = ys.length)
    (ra : ∀ t ∈ ta, -20000 ≤ t ∧ t ≤ 20000) (rb : ∀ t ∈ tb, -20000 ≤ t ∧ t ≤ 20000) (i : Nat) (hi : i < xs.length)
    (cont : ∀ acc : Int, 0 ≤ acc → acc + pSum2 (pPairs tb (pr_impl_Step ys)) ((pPairs ta (pr_impl_Step xs)).drop (i + 1)) ≤ 1000000 → Ev (fun k => impl_WorkClash.l0 k xs ys acc tb ta (ta.length : Int) ((i + 1 : Nat) : Int)) (acc + pSum2 (pPairs tb (pr_impl_Step ys)) ((pPairs ta (pr_impl_Step xs)).drop (i + 1)))) (d : Nat) :
    ∀ (j : Nat) (acc : Int), j + d = ys.length → 0 ≤ acc → acc + pSum1 (ta[i]) (xs[i]).f0 ((pPairs tb (pr_impl_Step ys)).drop j) + pSum2 (pPairs tb (pr_impl_Step ys)) ((pPairs ta (pr_impl_Step xs)).drop (i + 1)) ≤ 1000000 →
      Ev (fun k => impl_WorkClash.l1 k xs ys acc tb i ta[i] ta (ta.length : Int) i tb (tb.length : Int) j) (acc + pSum1 (ta[i]) (xs[i]).f0 ((pPairs tb (pr_impl_Step ys)).drop j) + pSum2 (pPairs tb (pr_impl_Step ys)) ((pPairs ta (pr_impl_Step xs)).drop (i + 1))) := by
  have gx := pStepOk_range (pr_impl_Step_ok okx i hi)
  dsimp only at gx
  have gt := ra ta[i] (List.getElem_mem _)
  have lb' : tb.length = (pr_impl_Step ys).length := by rw [pr_impl_Step_length]; exact lb
  have la' : ta.length = (pr_impl_Step xs).length := by rw [pr_impl_Step_length]; exact la
  have s2 : 0 ≤ pSum2 (pPairs tb (pr_impl_Step ys)) ((pPairs ta (pr_impl_Step xs)).drop (i + 1)) := by
    refine (pSum2_range (by rw [pPairs_length lb', pr_impl_Step_length]; exact hy) _ fun p hp => ?_).1
    obtain ⟨q, hq, rfl⟩ := List.mem_map.1 (List.mem_of_mem_drop hp)
    have := pStepOk_range (List.all_eq_true.1 okx _ (List.of_mem_zip hq).2)
    dsimp only
    omega
  induction d with
  | zero =>
    intro j acc hj h0 h1
    have e : (pPairs tb (pr_impl_Step ys)).drop j = [] := List.drop_of_length_le (by rw [pPairs_length lb', pr_impl_Step_length]; omega)
    rw [e] at h1 ⊢
    simp only [pSum1] at h1 ⊢
    refine ev_succ ?_
    simp only [impl_WorkClash.l1]
    rw [wnext (n := xs.length) hi (by omega)]
    exact ev_ifn (by omega) (ev_eq (cont acc h0 (by omega)) (by omega))
  | succ d ih =>
    intro j acc hj h0 h1
    have gy := pStepOk_range (pr_impl_Step_ok oky j (by omega))
    dsimp only at gy
    have gu := rb tb[j] (List.getElem_mem _)
    have e := pPairs_drop lb' j (by rw [pr_impl_Step_length]; omega)
    rw [pr_impl_Step_get ys j (by omega)] at e
    rw [e] at h1 ⊢
    simp only [pSum1] at h1 ⊢
    have s1 := (pSum1_range (s := ta[i]) (m := (xs[i]).f0) (by omega) ((pPairs tb (pr_impl_Step ys)).drop (j + 1))).1
    have so := (pOver_range (s := ta[i]) (m := (xs[i]).f0) (t := tb[j]) (n := (ys[j]).f0) (by omega)).1
    refine ev_succ ?_
    simp only [impl_WorkClash.l1]
    refine ev_ifp (by omega) (ev_ifp (by omega) (ev_ifp (by omega) (ev_ifp (by omega) (ev_ifp (by omega) (ev_ifp (by omega) ?_)))))
    rw [rd_nat tb j (by omega), rd_impl_Step xs i hi, rd_impl_Step ys j (by omega), mx_comm _ 0, over_arith h0 (by omega) gt (by omega) gu (by omega), wnext (n := ys.length) (by omega) (by omega)]
    exact ev_eq (ih (j + 1) _ (by omega) (by omega) (by omega)) (by omega)
theorem impl_WorkClash_l0 (xs ys : List S38) (ta tb : List Int) (hx : xs.length ≤ 12) (hy : ys.length ≤ 12) (okx : (pr_impl_Step xs).all pStepOk = true) (oky : (pr_impl_Step ys).all pStepOk = true) (la : ta.length = xs.length) (lb : tb.length = ys.length)
    (ra : ∀ t ∈ ta, -20000 ≤ t ∧ t ≤ 20000) (rb : ∀ t ∈ tb, -20000 ≤ t ∧ t ≤ 20000) (d : Nat) :
    ∀ (i : Nat) (acc : Int), i + d = xs.length → 0 ≤ acc → acc + pSum2 (pPairs tb (pr_impl_Step ys)) ((pPairs ta (pr_impl_Step xs)).drop i) ≤ 1000000 → Ev (fun k => impl_WorkClash.l0 k xs ys acc tb ta (ta.length : Int) i) (acc + pSum2 (pPairs tb (pr_impl_Step ys)) ((pPairs ta (pr_impl_Step xs)).drop i)) := by
  have la' : ta.length = (pr_impl_Step xs).length := by rw [pr_impl_Step_length]; exact la
  induction d with
  | zero =>
    intro i acc hj h0 h1
    have e : (pPairs ta (pr_impl_Step xs)).drop i = [] := List.drop_of_length_le (by rw [pPairs_length la', pr_impl_Step_length]; omega)
    rw [e] at h1 ⊢
    refine ev_succ ?_
    simp only [impl_WorkClash.l0]
    exact ev_ifn (by omega) (ev_const (by simp [pSum2]))
  | succ d ih =>
    intro i acc hj h0 h1
    have e := pPairs_drop la' i (by rw [pr_impl_Step_length]; omega)
    rw [pr_impl_Step_get xs i (by omega)] at e
    rw [e] at h1 ⊢
    simp only [pSum2] at h1 ⊢
    refine ev_succ ?_
    simp only [impl_WorkClash.l0]
    refine ev_ifp (by omega) (ev_ifp (by omega) (ev_ifp (by omega) ?_))
    rw [rd_nat ta i (by omega)]
    exact ev_eq (impl_WorkClash_l1 xs ys ta tb hx hy okx oky la lb ra rb i (by omega) (fun acc h0 h1 => ih (i + 1) acc (by omega) h0 h1) ys.length 0 acc (by omega) h0 (by simp only [List.drop_zero]; omega)) (by simp only [List.drop_zero]; omega)
theorem impl_WorkClash_ev (xs ys : List S38) (ra rb : Int) (hx : xs.length ≤ 1048576) (hy : ys.length ≤ 1048576) : Ev (fun k => impl_WorkClash.f k xs ys ra rb) (pWorkClash (pr_impl_Step xs) (pr_impl_Step ys) ra rb) := by
  unfold impl_WorkClash.f pWorkClash
  simp only [impl_in_eq, Option.bind_some]
  refine Ev.bind (impl_StepsOk_ev xs (by omega)) ?_
  by_cases g1 : pStepsOk (pr_impl_Step xs) = true
  · refine ev_ifp g1 (Ev.bind (impl_StepsOk_ev ys (by omega)) ?_)
    by_cases g2 : pStepsOk (pr_impl_Step ys) = true
    · refine ev_ifp g2 ?_
      by_cases g3 : 0 ≤ ra ∧ ra ≤ 1440
      · refine ev_ifp (decide_eq_true g3) (ev_succ ?_)
        simp only [impl_WorkClash.j0]
        by_cases g4 : 0 ≤ rb ∧ rb ≤ 1440
        · rw [if_pos ⟨⟨g1, g3⟩, ⟨g2, g4⟩⟩, decide_eq_true g4]
          obtain ⟨e1, l1, n1, o1, r1⟩ := pStartTimes_good ⟨g1, g3⟩
          obtain ⟨e2, l2, n2, o2, r2⟩ := pStartTimes_good ⟨g2, g4⟩
          have hc := pClash_range ⟨g1, g3⟩ ⟨g2, g4⟩
          refine ev_ifn (by decide) (Ev.bind (impl_StartTimes_ev ys rb hy) (Ev.bind (impl_StartTimes_ev xs ra hx) ?_))
          rw [e1, e2]
          exact ev_eq (impl_WorkClash_l0 xs ys _ _ n1 n2 o1 o2 l1 l2 r1 r2 xs.length 0 0 (by omega) (by omega) (by simp only [List.drop_zero]; unfold pClash at hc; omega)) (by simp only [List.drop_zero]; unfold pClash; omega)
        · rw [if_neg (fun c => g4 c.2.2), decide_eq_false g4]
          exact ev_ifp (by simp) (Ev.now _)
      · rw [if_neg (fun c => g3 c.1.2)]
        refine ev_ifn (by simp [g3]) (ev_succ ?_)
        simp only [impl_WorkClash.j0]
        exact ev_ifp (by simp) (Ev.now _)
    · rw [if_neg (fun c => g2 c.2.1)]
      refine ev_ifn g2 (ev_succ ?_)
      simp only [impl_WorkClash.j0]
      exact ev_ifp (by simp) (Ev.now _)
  · rw [if_neg (fun c => g1 c.1.1)]
    refine ev_ifn g1 (ev_succ ?_)
    simp only [impl_WorkClash.j0]
    exact ev_ifp (by simp) (Ev.now _)
theorem impl_LeastShift_l0 (xs ys : List S38) (r : Int) (hx : xs.length ≤ 1048576) (hy : ys.length ≤ 1048576) (f : Nat) : ∀ n : Int, 0 ≤ n → n ≤ 1000000 → (r ≤ 1440 → r - n < f) → Ev (fun k => impl_LeastShift.l0 k xs ys r n) (pLeastShift (pr_impl_Step xs) (pr_impl_Step ys) r f n) := by
  induction f with
  | zero =>
    intro n h0 h1 h2
    refine ev_succ ?_
    simp only [impl_LeastShift.l0]
    by_cases h3 : n ≤ r
    · refine ev_ifp h3 (ev_succ ?_)
      simp only [impl_LeastShift.j1]
      rw [decide_eq_false (show ¬ r ≤ 1440 by omega)]
      exact ev_ifn (by decide) (Ev.now _)
    · refine ev_ifn h3 (ev_succ ?_)
      simp only [impl_LeastShift.j1]
      exact ev_ifn (by decide) (Ev.now _)
  | succ f ih =>
    intro n h0 h1 h2
    unfold pLeastShift
    refine ev_succ ?_
    simp only [impl_LeastShift.l0]
    by_cases h3 : n ≤ r
    · refine ev_ifp h3 (ev_succ ?_)
      simp only [impl_LeastShift.j1]
      by_cases h4 : r ≤ 1440
      · rw [decide_eq_true h4, if_pos ⟨h3, h4⟩, w64 (n := r - n) (by omega) (by omega)]
        refine ev_ifp rfl (Ev.bind (impl_WorkClash_ev xs ys r (r - n) hx hy) ?_)
        by_cases h5 : pWorkClash (pr_impl_Step xs) (pr_impl_Step ys) r (r - n) = 0
        · rw [if_pos h5]
          exact ev_ifp h5 (Ev.now _)
        · rw [if_neg h5, w64 (n := n + 1) (by omega) (by omega)]
          exact ev_ifn h5 (ih (n + 1) (by omega) (by omega) (by omega))
      · rw [decide_eq_false h4, if_neg (fun c => h4 c.2)]
        exact ev_ifn (by decide) (Ev.now _)
    · rw [if_neg (fun c => h3 c.1)]
      refine ev_ifn h3 (ev_succ ?_)
      simp only [impl_LeastShift.j1]
      exact ev_ifn (by decide) (Ev.now _)
theorem impl_LeastShift_ev (xs ys : List S38) (r : Int) (hx : xs.length ≤ 1048576) (hy : ys.length ≤ 1048576) : Ev (fun k => impl_LeastShift.f k xs ys r) (pLeastShift (pr_impl_Step xs) (pr_impl_Step ys) r 1500 0) := by
  unfold impl_LeastShift.f
  exact impl_LeastShift_l0 xs ys r hx hy 1500 0 (by omega) (by omega) (by omega)
theorem spec_l01In_eq (a b c : Int) : spec_l01In.f a b c = some (decide (b ≤ a ∧ a ≤ c)) := by
  unfold spec_l01In.f
  by_cases h : b ≤ a <;> simp [h]
theorem spec_StepsOk_l0 (xs : List S38) (hn : xs.length ≤ 4611686018427387904) (d : Nat) : ∀ j : Nat, j + d = xs.length → Ev (fun k => spec_StepsOk.l0 k xs j) (((pr_impl_Step xs).drop j).all pStepOk && decide (xs.length ≤ 12)) := by
  induction d with
  | zero =>
    intro j hj
    refine ev_at 1 fun k => ?_
    simp only [spec_StepsOk.l0]
    rw [if_neg (by omega), List.drop_of_length_le (by rw [pr_impl_Step_length]; omega)]
    simp only [List.all_nil, Bool.true_and]
    exact congrArg some (decide_eq_decide.2 (by omega))
  | succ d ih =>
    intro j hj
    rw [pr_impl_Step_drop xs j (by omega)]
    simp only [List.all_cons]
    by_cases h : pStepOk ((xs[j]).f0, (xs[j]).f1) = true
    · have h2 := pStepOk_range h
      refine Ev.step (f := fun k => spec_StepsOk.l0 k xs ((j + 1 : Nat) : Int)) (fun k => ?_) (ev_eq (ih (j + 1) (by omega)) (by rw [h, Bool.true_and]))
      simp only [spec_StepsOk.l0, spec_l01In_eq, Option.bind_some, decide_eq_true_eq]
      rw [if_pos (by omega), if_pos (by omega), rd_impl_Step xs j (by omega), if_pos h2.1, if_pos h2.2, wnext (n := xs.length) (by omega) hn]
    · refine ev_at 1 fun k => ?_
      simp only [spec_StepsOk.l0, spec_l01In_eq, Option.bind_some, decide_eq_true_eq]
      rw [if_pos (by omega), if_pos (by omega), rd_impl_Step xs j (by omega)]
      rw [Bool.eq_false_iff.2 h]
      simp only [pStepOk, decide_eq_true_eq] at h
      by_cases h1 : 1 ≤ (xs[j]).f0 ∧ (xs[j]).f0 ≤ 300
      · rw [if_pos h1, if_neg (fun c => h ⟨h1, c⟩)]
        rfl
      · rw [if_neg h1]
        rfl
theorem spec_StepsOk_ev (xs : List S38) (hn : xs.length ≤ 4611686018427387904) : Ev (fun k => spec_StepsOk.f k xs) (pStepsOk (pr_impl_Step xs)) := by
  unfold spec_StepsOk.f
  exact ev_eq (spec_StepsOk_l0 xs hn xs.length 0 (by omega)) (by simp [pStepsOk, pr_impl_Step_length])
theorem spec_WholeTime_l0 (xs : List S38) (hn : xs.length ≤ 4611686018427387904) (hok : (pr_impl_Step xs).all pStepOk = true) (d : Nat) : ∀ (j : Nat) (acc : Int), j + d = xs.length → 0 ≤ acc → acc + pWhole ((pr_impl_Step xs).drop j) ≤ 1000000 → Ev (fun k => spec_WholeTime.l0 k xs acc j) (acc + pWhole ((pr_impl_Step xs).drop j)) := by
  induction d with
  | zero =>
    intro j acc hj h0 h1
    refine ev_succ ?_
    simp only [spec_WholeTime.l0]
    rw [List.drop_of_length_le (by rw [pr_impl_Step_length]; omega)]
    exact ev_ifn (by omega) (ev_const (by simp [pWhole]))
  | succ d ih =>
    intro j acc hj h0 h1
    have h2 := pStepOk_range (pr_impl_Step_ok hok j (by omega))
    have h3 := (pWhole_range _ (all_drop hok (j + 1))).1
    rw [pr_impl_Step_drop xs j (by omega)] at h1 ⊢
    simp only [pWhole] at h1 ⊢
    refine ev_succ ?_
    simp only [spec_WholeTime.l0]
    refine ev_ifp (by omega) (ev_ifp (by omega) ?_)
    dsimp only at h2
    rw [rd_impl_Step xs j (by omega), wnext (n := xs.length) (by omega) hn, w64 (n := acc + (xs[j]).f0) (by omega) (by omega), w64 (n := acc + (xs[j]).f0 + (xs[j]).f1) (by omega) (by omega)]
    exact ev_eq (ih (j + 1) _ (by omega) (by omega) (by omega)) (by omega)
theorem spec_WholeTime_ev (xs : List S38) (hn : xs.length ≤ 4611686018427387904) : Ev (fun k => spec_WholeTime.f k xs) (pWholeTime (pr_impl_Step xs)) := by
  unfold spec_WholeTime.f pWholeTime
  refine Ev.bind (spec_StepsOk_ev xs hn) ?_
  by_cases h : pStepsOk (pr_impl_Step xs) = true
  · rw [if_pos h]
    have h2 := pStepsOk_split h
    have h3 := pWhole_range _ h2.1
    have e : (pr_impl_Step xs).drop 0 = pr_impl_Step xs := rfl
    exact ev_ifp h (ev_eq (spec_WholeTime_l0 xs hn h2.1 xs.length 0 0 (by omega) (by omega) (by rw [e]; omega)) (by rw [e]; omega))
  · rw [if_neg h]
    exact ev_ifn h (Ev.now _)
theorem spec_l06Ok_ev (xs : List S38) (r : Int) (hn : xs.length ≤ 4611686018427387904) : Ev (fun k => spec_l06Ok.f k xs r) (decide (pStepsOk (pr_impl_Step xs) = true ∧ (0 ≤ r ∧ r ≤ 1440))) := by
  unfold spec_l06Ok.f
  refine Ev.bind (spec_StepsOk_ev xs hn) ?_
  simp only [spec_l01In_eq, Option.bind_some]
  by_cases h : pStepsOk (pr_impl_Step xs) = true
  · exact ev_ifp h (ev_const (by simp [h]))
  · exact ev_ifn h (ev_const (by simp [h]))
theorem spec_StartTimes_l0 (xs : List S38) (hn : xs.length ≤ 1048576) (hok : (pr_impl_Step xs).all pStepOk = true) (d : Nat) : ∀ (j : Nat) (out : List Int) (now : Int), j + d = xs.length → out.length = j → -1000000 ≤ now → now + pWhole ((pr_impl_Step xs).drop j) ≤ 1000000 → Ev (fun k => spec_StartTimes.l0 k xs out now j) (out ++ pStarts now ((pr_impl_Step xs).drop j)) := by
  induction d with
  | zero =>
    intro j out now hj ho h0 h1
    refine ev_succ ?_
    simp only [spec_StartTimes.l0]
    rw [List.drop_of_length_le (by rw [pr_impl_Step_length]; omega)]
    exact ev_ifn (by omega) (ev_const (by simp [pStarts]))
  | succ d ih =>
    intro j out now hj ho h0 h1
    have h2 := pStepOk_range (pr_impl_Step_ok hok j (by omega))
    have h3 := (pWhole_range _ (all_drop hok (j + 1))).1
    rw [pr_impl_Step_drop xs j (by omega)] at h1 ⊢
    simp only [pWhole, pStarts] at h1 ⊢
    refine ev_succ ?_
    simp only [spec_StartTimes.l0]
    refine ev_ifp (by omega) (ev_ifp (by omega) (ev_ifp (by omega) ?_))
    dsimp only at h2
    rw [rd_impl_Step xs j (by omega), wnext (n := xs.length) (by omega) (by omega), w64 (n := now + (xs[j]).f0) (by omega) (by omega), w64 (n := now + (xs[j]).f0 + (xs[j]).f1) (by omega) (by omega)]
    exact ev_eq (ih (j + 1) _ _ (by omega) (by simp [ho]) (by omega) (by omega)) (by simp)
theorem spec_StartTimes_ev (xs : List S38) (r : Int) (hn : xs.length ≤ 1048576) : Ev (fun k => spec_StartTimes.f k xs r) (pStartTimes (pr_impl_Step xs) r) := by
  unfold spec_StartTimes.f pStartTimes
  simp only [Option.bind_some]
  refine Ev.bind (spec_l06Ok_ev xs r (by omega)) ?_
  by_cases h : pStepsOk (pr_impl_Step xs) = true ∧ (0 ≤ r ∧ r ≤ 1440)
  · rw [if_pos h]
    have h2 := pStepsOk_split h.1
    have h3 := pWhole_range _ h2.1
    have e : (pr_impl_Step xs).drop 0 = pr_impl_Step xs := rfl
    refine ev_ifp (decide_eq_true h) (Ev.bind (spec_WholeTime_ev xs (by omega)) ?_)
    have e2 : pWholeTime (pr_impl_Step xs) = pWhole (pr_impl_Step xs) := by unfold pWholeTime; rw [if_pos h.1]
    rw [e2, w64 (n := r - pWhole (pr_impl_Step xs)) (by omega) (by omega)]
    exact ev_eq (spec_StartTimes_l0 xs hn h2.1 xs.length 0 [] _ (by omega) rfl (by omega) (by rw [e]; omega)) (by rw [e]; simp)
  · rw [if_neg h]
    exact ev_ifn (by simp [h]) (Ev.now _)
theorem spec_WorkClash_l1 (xs ys : List S38) (ta tb : List Int) (hx : xs.length ≤ 12) (hy : ys.length ≤ 12) (okx : (pr_impl_Step xs).all pStepOk = true) (oky : (pr_impl_Step ys).all pStepOk = true) (la : ta.length = xs.length) (lb : tb.length = ys.length)
    (ra : ∀ t ∈ ta, -20000 ≤ t ∧ t ≤ 20000) (rb : ∀ t ∈ tb, -20000 ≤ t ∧ t ≤ 20000) (i : Nat) (hi : i < xs.length)
    (cont : ∀ acc : Int, 0 ≤ acc → acc + pSum2 (pPairs tb (pr_impl_Step ys)) ((pPairs ta (pr_impl_Step xs)).drop (i + 1)) ≤ 1000000 → Ev (fun k => spec_WorkClash.l0 k xs ys ta tb acc ((i + 1 : Nat) : Int)) (acc + pSum2 (pPairs tb (pr_impl_Step ys)) ((pPairs ta (pr_impl_Step xs)).drop (i + 1)))) (d : Nat) :
    ∀ (j : Nat) (acc : Int), j + d = ys.length → 0 ≤ acc → acc + pSum1 (ta[i]) (xs[i]).f0 ((pPairs tb (pr_impl_Step ys)).drop j) + pSum2 (pPairs tb (pr_impl_Step ys)) ((pPairs ta (pr_impl_Step xs)).drop (i + 1)) ≤ 1000000 →
      Ev (fun k => spec_WorkClash.l1 k xs ys ta tb acc i j) (acc + pSum1 (ta[i]) (xs[i]).f0 ((pPairs tb (pr_impl_Step ys)).drop j) + pSum2 (pPairs tb (pr_impl_Step ys)) ((pPairs ta (pr_impl_Step xs)).drop (i + 1))) := by
  have gx := pStepOk_range (pr_impl_Step_ok okx i hi)
  dsimp only at gx
  have gt := ra ta[i] (List.getElem_mem _)
  have lb' : tb.length = (pr_impl_Step ys).length := by rw [pr_impl_Step_length]; exact lb
  have la' : ta.length = (pr_impl_Step xs).length := by rw [pr_impl_Step_length]; exact la
  have s2 : 0 ≤ pSum2 (pPairs tb (pr_impl_Step ys)) ((pPairs ta (pr_impl_Step xs)).drop (i + 1)) := by
    refine (pSum2_range (by rw [pPairs_length lb', pr_impl_Step_length]; exact hy) _ fun p hp => ?_).1
    obtain ⟨q, hq, rfl⟩ := List.mem_map.1 (List.mem_of_mem_drop hp)
    have := pStepOk_range (List.all_eq_true.1 okx _ (List.of_mem_zip hq).2)
    dsimp only
    omega
  induction d with
  | zero =>
    intro j acc hj h0 h1
    have e : (pPairs tb (pr_impl_Step ys)).drop j = [] := List.drop_of_length_le (by rw [pPairs_length lb', pr_impl_Step_length]; omega)
    rw [e] at h1 ⊢
    simp only [pSum1] at h1 ⊢
    refine ev_succ ?_
    simp only [spec_WorkClash.l1]
    rw [wnext (n := xs.length) hi (by omega)]
    exact ev_ifn (by omega) (ev_eq (cont acc h0 (by omega)) (by omega))
  | succ d ih =>
    intro j acc hj h0 h1
    have gy := pStepOk_range (pr_impl_Step_ok oky j (by omega))
    dsimp only at gy
    have gu := rb tb[j] (List.getElem_mem _)
    have e := pPairs_drop lb' j (by rw [pr_impl_Step_length]; omega)
    rw [pr_impl_Step_get ys j (by omega)] at e
    rw [e] at h1 ⊢
    simp only [pSum1] at h1 ⊢
    have s1 := (pSum1_range (s := ta[i]) (m := (xs[i]).f0) (by omega) ((pPairs tb (pr_impl_Step ys)).drop (j + 1))).1
    have so := (pOver_range (s := ta[i]) (m := (xs[i]).f0) (t := tb[j]) (n := (ys[j]).f0) (by omega)).1
    refine ev_succ ?_
    simp only [spec_WorkClash.l1]
    refine ev_ifp (by omega) (ev_ifp (by omega) (ev_ifp (by omega) (ev_ifp (by omega) (ev_ifp (by omega) (ev_ifp (by omega) ?_)))))
    rw [rd_nat ta i (by omega), rd_nat tb j (by omega), rd_impl_Step xs i hi, rd_impl_Step ys j (by omega), over_arith h0 (by omega) gt (by omega) gu (by omega), wnext (n := ys.length) (by omega) (by omega)]
    exact ev_eq (ih (j + 1) _ (by omega) (by omega) (by omega)) (by omega)
theorem spec_WorkClash_l0 (xs ys : List S38) (ta tb : List Int) (hx : xs.length ≤ 12) (hy : ys.length ≤ 12) (okx : (pr_impl_Step xs).all pStepOk = true) (oky : (pr_impl_Step ys).all pStepOk = true) (la : ta.length = xs.length) (lb : tb.length = ys.length)
    (ra : ∀ t ∈ ta, -20000 ≤ t ∧ t ≤ 20000) (rb : ∀ t ∈ tb, -20000 ≤ t ∧ t ≤ 20000) (d : Nat) :
    ∀ (i : Nat) (acc : Int), i + d = xs.length → 0 ≤ acc → acc + pSum2 (pPairs tb (pr_impl_Step ys)) ((pPairs ta (pr_impl_Step xs)).drop i) ≤ 1000000 → Ev (fun k => spec_WorkClash.l0 k xs ys ta tb acc i) (acc + pSum2 (pPairs tb (pr_impl_Step ys)) ((pPairs ta (pr_impl_Step xs)).drop i)) := by
  have la' : ta.length = (pr_impl_Step xs).length := by rw [pr_impl_Step_length]; exact la
  induction d with
  | zero =>
    intro i acc hj h0 h1
    have e : (pPairs ta (pr_impl_Step xs)).drop i = [] := List.drop_of_length_le (by rw [pPairs_length la', pr_impl_Step_length]; omega)
    rw [e] at h1 ⊢
    refine ev_succ ?_
    simp only [spec_WorkClash.l0]
    exact ev_ifn (by omega) (ev_const (by simp [pSum2]))
  | succ d ih =>
    intro i acc hj h0 h1
    have e := pPairs_drop la' i (by rw [pr_impl_Step_length]; omega)
    rw [pr_impl_Step_get xs i (by omega)] at e
    rw [e] at h1 ⊢
    simp only [pSum2] at h1 ⊢
    refine ev_succ ?_
    simp only [spec_WorkClash.l0]
    refine ev_ifp (by omega) ?_
    exact ev_eq (spec_WorkClash_l1 xs ys ta tb hx hy okx oky la lb ra rb i (by omega) (fun acc h0 h1 => ih (i + 1) acc (by omega) h0 h1) ys.length 0 acc (by omega) h0 (by simp only [List.drop_zero]; omega)) (by simp only [List.drop_zero]; omega)
theorem spec_WorkClash_ev (xs ys : List S38) (ra rb : Int) (hx : xs.length ≤ 1048576) (hy : ys.length ≤ 1048576) : Ev (fun k => spec_WorkClash.f k xs ys ra rb) (pWorkClash (pr_impl_Step xs) (pr_impl_Step ys) ra rb) := by
  unfold spec_WorkClash.f pWorkClash
  refine Ev.bind (spec_l06Ok_ev xs ra (by omega)) ?_
  by_cases h : pStepsOk (pr_impl_Step xs) = true ∧ (0 ≤ ra ∧ ra ≤ 1440)
  · refine ev_ifp (decide_eq_true h) (Ev.bind (spec_l06Ok_ev ys rb (by omega)) (ev_succ ?_))
    simp only [spec_WorkClash.j0]
    by_cases h2 : pStepsOk (pr_impl_Step ys) = true ∧ (0 ≤ rb ∧ rb ≤ 1440)
    · rw [if_pos ⟨h, h2⟩, decide_eq_true h2]
      obtain ⟨e1, l1, n1, o1, r1⟩ := pStartTimes_good h
      obtain ⟨e2, l2, n2, o2, r2⟩ := pStartTimes_good h2
      have hc := pClash_range h h2
      refine ev_ifn (by decide) (Ev.bind (spec_StartTimes_ev xs ra hx) (Ev.bind (spec_StartTimes_ev ys rb hy) ?_))
      rw [e1, e2]
      exact ev_eq (spec_WorkClash_l0 xs ys _ _ n1 n2 o1 o2 l1 l2 r1 r2 xs.length 0 0 (by omega) (by omega) (by simp only [List.drop_zero]; unfold pClash at hc; omega)) (by simp only [List.drop_zero]; unfold pClash; omega)
    · rw [if_neg (fun c => h2 c.2), decide_eq_false h2]
      exact ev_ifp (by simp) (Ev.now _)
  · rw [if_neg (fun c => h c.1)]
    refine ev_ifn (by simp [h]) (ev_succ ?_)
    simp only [spec_WorkClash.j0]
    exact ev_ifp (by simp) (Ev.now _)
theorem spec_LeastShift_l0 (xs ys : List S38) (r : Int) (hx : xs.length ≤ 1048576) (hy : ys.length ≤ 1048576) (f : Nat) : ∀ n : Int, 0 ≤ n → n ≤ 1000000 → (r ≤ 1440 → r - n < f) → Ev (fun k => spec_LeastShift.l0 k xs ys r n) (pLeastShift (pr_impl_Step xs) (pr_impl_Step ys) r f n) := by
  induction f with
  | zero =>
    intro n h0 h1 h2
    refine ev_succ ?_
    simp only [spec_LeastShift.l0]
    by_cases h3 : n ≤ r
    · refine ev_ifp h3 (Ev.bind (spec_l06Ok_ev xs r (by omega)) ?_)
      refine ev_ifn (by simp; omega) (ev_succ ?_)
      simp only [spec_LeastShift.j1]
      exact ev_ifn (by decide) (Ev.now _)
    · refine ev_ifn h3 (ev_succ ?_)
      simp only [spec_LeastShift.j1]
      exact ev_ifn (by decide) (Ev.now _)
  | succ f ih =>
    intro n h0 h1 h2
    refine ev_succ ?_
    simp only [spec_LeastShift.l0]
    by_cases h3 : n ≤ r
    · refine ev_ifp h3 (Ev.bind (spec_l06Ok_ev xs r (by omega)) ?_)
      by_cases h4 : pStepsOk (pr_impl_Step xs) = true ∧ (0 ≤ r ∧ r ≤ 1440)
      · refine ev_ifp (decide_eq_true h4) (Ev.bind (spec_StepsOk_ev ys (by omega)) (ev_succ ?_))
        simp only [spec_LeastShift.j1]
        by_cases h6 : pStepsOk (pr_impl_Step ys) = true
        · refine ev_ifp h6 ?_
          unfold pLeastShift
          rw [if_pos ⟨h3, h4.2.2⟩, w64 (n := r - n) (by omega) (by omega)]
          refine Ev.bind (spec_WorkClash_ev xs ys r (r - n) hx hy) ?_
          by_cases h5 : pWorkClash (pr_impl_Step xs) (pr_impl_Step ys) r (r - n) = 0
          · rw [if_pos h5]
            exact ev_ifp h5 (Ev.now _)
          · rw [if_neg h5, w64 (n := n + 1) (by omega) (by omega)]
            exact ev_ifn h5 (ih (n + 1) (by omega) (by omega) (by omega))
        · rw [pLeastShift_bad (fun c => h6 c.2)]
          exact ev_ifn h6 (Ev.now _)
      · have e : pLeastShift (pr_impl_Step xs) (pr_impl_Step ys) r (f + 1) n = -1 := by
          by_cases h7 : pStepsOk (pr_impl_Step xs) = true
          · unfold pLeastShift
            rw [if_neg (fun c => h4 ⟨h7, by omega, c.2⟩)]
          · exact pLeastShift_bad (fun c => h7 c.1) _ _
        rw [e]
        refine ev_ifn (by simp only [decide_eq_true_eq]; exact h4) (ev_succ ?_)
        simp only [spec_LeastShift.j1]
        exact ev_ifn (by decide) (Ev.now _)
    · unfold pLeastShift
      rw [if_neg (fun c => h3 c.1)]
      refine ev_ifn h3 (ev_succ ?_)
      simp only [spec_LeastShift.j1]
      exact ev_ifn (by decide) (Ev.now _)
theorem spec_LeastShift_ev (xs ys : List S38) (r : Int) (hx : xs.length ≤ 1048576) (hy : ys.length ≤ 1048576) : Ev (fun k => spec_LeastShift.f k xs ys r) (pLeastShift (pr_impl_Step xs) (pr_impl_Step ys) r 1500 0) := by
  unfold spec_LeastShift.f
  exact spec_LeastShift_l0 xs ys r hx hy 1500 0 (by omega) (by omega) (by omega)
theorem FnExactLeastShift (xs ys : List S59) (r : Int) (_ : xs.length ≤ maxLen) (hs : xs.length * 16 ≤ 140737488351232) (_ : ∀ x ∈ xs, (Lit.int .i64 x.f0).wf = true ∧ (Lit.int .i64 x.f1).wf = true) (_ : ys.length ≤ maxLen) (hs2 : ys.length * 16 ≤ 140737488351232) (_ : ∀ x ∈ ys, (Lit.int .i64 x.f0).wf = true ∧ (Lit.int .i64 x.f1).wf = true) (_ : (Lit.int .i64 r).wf = true) : ∃ k, laws_FnExactLeastShift.f k xs ys r = some true := by
  refine Ev.rounds (g := fun k => laws_FnExactLeastShift.f k xs ys r) ?_
  unfold laws_FnExactLeastShift.f
  rw [laws_szStepS_eq xs 1048576 (by omega) (by omega) (by omega)]
  simp only [Option.bind_some]
  by_cases h : (1048576 : Int) - xs.length < 0
  · rw [if_pos h]
    exact ev_ifp (by decide) (Ev.now _)
  · rw [if_neg h, laws_szStepS_eq ys _ (by omega) (by omega) (by omega)]
    simp only [Option.bind_some]
    refine ev_ifn h ?_
    by_cases h2 : (1048576 : Int) - xs.length - ys.length < 0
    · rw [if_pos h2]
      exact ev_ifp (by decide) (Ev.now _)
    · rw [if_neg h2]
      have tx := laws_toStepS_ev xs (by omega)
      have ty := laws_toStepS_ev ys (by omega)
      have lx : (xs.map cv_Step).length ≤ 1048576 := by rw [List.length_map]; omega
      have ly : (ys.map cv_Step).length ≤ 1048576 := by rw [List.length_map]; omega
      exact ev_ifn h2 (Ev.bind tx (Ev.bind ty (Ev.bind (spec_LeastShift_ev _ _ r lx ly) (Ev.bind tx (Ev.bind ty (Ev.bind (impl_LeastShift_ev _ _ r lx ly) (ev_ifp rfl (Ev.bind tx (Ev.bind (laws_eqStepS_ev _ (by omega)) (ev_ifp rfl (Ev.bind ty (Ev.bind (laws_eqStepS_ev _ (by omega)) (ev_ifp rfl (Ev.now _))))))))))))))
end Go.Proofs.Ythonmildlahjdaa.Pure
