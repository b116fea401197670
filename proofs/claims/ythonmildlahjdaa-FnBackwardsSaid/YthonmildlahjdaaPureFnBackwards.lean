/- What is proved: read as plain functions on numbers and lists, the law FnBackwards answers true at every input of its kinds; no condition is added. -/
import Derived.Test.YthonmildlahjdaaPFnBackwardsx4
import Derived.Test.YthonmildlahjdaaPlain
set_option linter.unusedVariables false
set_option linter.unusedSimpArgs false
set_option maxRecDepth 20000
namespace Go.Proofs.Ythonmildlahjdaa.Pure
open Go.RowKit Go.Proofs.Ythonmildlahjdaa.PFnBackwards Go.Proofs.YthonmildlahjdaaW.PrintWords Go.Proofs.YthonmildlahjdaaW.PrintLast Go.Proofs.YthonmildlahjdaaW.PrintMore Go.Proofs.Ythonmildlahjdaa.Plain
def pr_impl_Step (xs : List S38) : List (Int × Int) := xs.map fun s => (s.f0, s.f1)
theorem pr_impl_Step_length (xs : List S38) : (pr_impl_Step xs).length = xs.length := by simp [pr_impl_Step]
theorem rd_impl_Step (xs : List S38) (j : Nat) (h : j < xs.length) : rd_T38 xs (j : Int) = xs[j] := by simp [rd_T38, List.getD_eq_getElem?_getD, List.getElem?_eq_getElem h]
theorem pr_impl_Step_drop (xs : List S38) (j : Nat) (h : j < xs.length) : (pr_impl_Step xs).drop j = ((xs[j]).f0, (xs[j]).f1) :: (pr_impl_Step xs).drop (j + 1) := by
  rw [List.drop_eq_getElem_cons (by rw [pr_impl_Step_length]; exact h)]
  simp [pr_impl_Step]
theorem pr_impl_Step_get (xs : List S38) (j : Nat) (h : j < xs.length) : (pr_impl_Step xs)[j]'(by rw [pr_impl_Step_length]; exact h) = ((xs[j]).f0, (xs[j]).f1) := by simp [pr_impl_Step]
theorem pr_impl_Step_ok {p : Int × Int → Bool} {xs : List S38} (h : (pr_impl_Step xs).all p = true) (j : Nat) (hj : j < xs.length) : p ((xs[j]).f0, (xs[j]).f1) = true := by
  have := List.all_eq_true.1 h _ (List.getElem_mem (by rw [pr_impl_Step_length]; exact hj : j < (pr_impl_Step xs).length))
  rwa [pr_impl_Step_get xs j hj] at this
theorem impl_in_eq (a b c : Int) : impl_in.f a b c = some (decide (b ≤ a ∧ a ≤ c)) := by
  unfold impl_in.f
  by_cases h : b ≤ a <;> simp [h]
theorem impl_StepsOk_l0 (xs : List S38) (hn : xs.length ≤ 4611686018427387904) (d : Nat) : ∀ j : Nat, j + d = xs.length → Ev (fun k => impl_StepsOk.l0 k xs xs (xs.length : Int) j) (((pr_impl_Step xs).drop j).all pStepOk && decide (xs.length ≤ 12)) := by
  induction d with
  | zero =>
    intro j hj
    refine ev_at 1 fun k => ?_
    simp only [impl_StepsOk.l0]
    rw [if_neg (by omega), List.drop_of_length_le (by rw [pr_impl_Step_length]; omega)]
    simp only [List.all_nil, Bool.true_and]
    exact congrArg some (decide_eq_decide.2 (by omega))
  | succ d ih =>
    intro j hj
    rw [pr_impl_Step_drop xs j (by omega)]
    simp only [List.all_cons]
    by_cases h : pStepOk ((xs[j]).f0, (xs[j]).f1) = true
    · have h2 := pStepOk_range h
      refine Ev.step (f := fun k => impl_StepsOk.l0 k xs xs (xs.length : Int) ((j + 1 : Nat) : Int)) (fun k => ?_) (ev_eq (ih (j + 1) (by omega)) (by rw [h, Bool.true_and]))
      simp only [impl_StepsOk.l0, impl_in_eq, Option.bind_some, decide_eq_true_eq]
      rw [if_pos (by omega), if_pos (by omega), if_pos (by omega), rd_impl_Step xs j (by omega), if_pos h2.1, if_pos h2.2, wnext (n := xs.length) (by omega) hn]
    · refine ev_at 1 fun k => ?_
      simp only [impl_StepsOk.l0, impl_in_eq, Option.bind_some, decide_eq_true_eq]
      rw [if_pos (by omega), if_pos (by omega), if_pos (by omega), rd_impl_Step xs j (by omega)]
      rw [Bool.eq_false_iff.2 h]
      simp only [pStepOk, decide_eq_true_eq] at h
      by_cases h1 : 1 ≤ (xs[j]).f0 ∧ (xs[j]).f0 ≤ 300
      · rw [if_pos h1, if_neg (fun c => h ⟨h1, c⟩)]
        rfl
      · rw [if_neg h1]
        rfl
theorem impl_StepsOk_ev (xs : List S38) (hn : xs.length ≤ 4611686018427387904) : Ev (fun k => impl_StepsOk.f k xs) (pStepsOk (pr_impl_Step xs)) := by
  unfold impl_StepsOk.f
  exact ev_eq (impl_StepsOk_l0 xs hn xs.length 0 (by omega)) (by simp [pStepsOk, pr_impl_Step_length])
theorem impl_WholeTime_l0 (xs : List S38) (hn : xs.length ≤ 4611686018427387904) (hok : (pr_impl_Step xs).all pStepOk = true) (d : Nat) : ∀ (j : Nat) (acc : Int), j + d = xs.length → 0 ≤ acc → acc + pWhole ((pr_impl_Step xs).drop j) ≤ 1000000 → Ev (fun k => impl_WholeTime.l0 k acc xs (xs.length : Int) j) (acc + pWhole ((pr_impl_Step xs).drop j)) := by
  induction d with
  | zero =>
    intro j acc hj h0 h1
    refine ev_succ ?_
    simp only [impl_WholeTime.l0]
    rw [List.drop_of_length_le (by rw [pr_impl_Step_length]; omega)]
    exact ev_ifn (by omega) (ev_const (by simp [pWhole]))
  | succ d ih =>
    intro j acc hj h0 h1
    have h2 := pStepOk_range (pr_impl_Step_ok hok j (by omega))
    have h3 := (pWhole_range _ (all_drop hok (j + 1))).1
    rw [pr_impl_Step_drop xs j (by omega)] at h1 ⊢
    simp only [pWhole] at h1 ⊢
    refine ev_succ ?_
    simp only [impl_WholeTime.l0]
    refine ev_ifp (by omega) (ev_ifp (by omega) (ev_ifp (by omega) ?_))
    dsimp only at h2
    rw [rd_impl_Step xs j (by omega), wnext (n := xs.length) (by omega) hn, w64 (n := (xs[j]).f0 + (xs[j]).f1) (by omega) (by omega), w64 (n := acc + ((xs[j]).f0 + (xs[j]).f1)) (by omega) (by omega)]
    exact ev_eq (ih (j + 1) _ (by omega) (by omega) (by omega)) (by omega)
theorem impl_WholeTime_ev (xs : List S38) (hn : xs.length ≤ 4611686018427387904) : Ev (fun k => impl_WholeTime.f k xs) (pWholeTime (pr_impl_Step xs)) := by
  unfold impl_WholeTime.f pWholeTime
  refine Ev.bind (impl_StepsOk_ev xs hn) ?_
  by_cases h : pStepsOk (pr_impl_Step xs) = true
  · rw [if_pos h]
    have h2 := pStepsOk_split h
    have h3 := pWhole_range _ h2.1
    have e : (pr_impl_Step xs).drop 0 = pr_impl_Step xs := rfl
    exact ev_ifp h (ev_eq (impl_WholeTime_l0 xs hn h2.1 xs.length 0 0 (by omega) (by omega) (by rw [e]; omega)) (by rw [e]; omega))
  · rw [if_neg h]
    exact ev_ifn h (Ev.now _)
theorem laws_big_eq (xs : List Int) : laws_big.f xs = some (decide ((xs.length : Int) > 1048576)) := rfl
theorem spec_l01New_l0 (xs : List Int) (hn : xs.length ≤ 4611686018427387904) (d : Nat) : ∀ (j : Nat) (h : Int), j + d = xs.length → ∃ h', Ev (fun k => spec_l01New.l0 k xs h j) (xs, 0, h') := by
  induction d with
  | zero =>
    intro j h hj
    refine ⟨h, ev_at 1 fun k => ?_⟩
    simp only [spec_l01New.l0]
    rw [if_neg (by omega)]
  | succ d ih =>
    intro j h hj
    by_cases h4 : (j : Int) < 4000
    · obtain ⟨h', he⟩ := ih (j + 1) (Go.bits .and .i64 (wrap64 ((wrap64 ((wrap64 (h * 131)) + (wrap64 (rd xs j)))) + 7)) 1073741823) (by omega)
      refine ⟨h', Ev.step (f := fun k => spec_l01New.l0 k xs (Go.bits .and .i64 (wrap64 ((wrap64 ((wrap64 (h * 131)) + (wrap64 (rd xs j)))) + 7)) 1073741823) ((j + 1 : Nat) : Int)) (fun k => ?_) he⟩
      simp only [spec_l01New.l0]
      rw [if_pos (by omega), if_pos h4, if_pos (by omega), wnext (n := xs.length) (by omega) hn]
    · refine ⟨h, ev_at 1 fun k => ?_⟩
      simp only [spec_l01New.l0]
      rw [if_pos (by omega), if_neg h4]
theorem spec_l01New_ev (xs : List Int) (hn : xs.length ≤ 4611686018427387904) : ∃ h, Ev (fun k => spec_l01New.f k xs) (xs, 0, h) := by
  unfold spec_l01New.f
  exact spec_l01New_l0 xs hn xs.length 0 _ (by omega)
theorem spec_l01Byte_some (b : List Int) (i h : Int) (hb : b.length ≤ 4611686018427387904) (hi : 0 ≤ i) : ∃ x i' h', spec_l01Byte.f b i h = some (x, i', h') ∧ (0 ≤ x ∧ x ≤ 255) ∧ 0 ≤ i' := by
  unfold spec_l01Byte.f
  by_cases h1 : i < b.length
  · rw [if_pos h1, if_pos hi, w64 (n := i + 1) (by omega) (by omega)]
    exact ⟨_, _, _, rfl, and255 _, by omega⟩
  · rw [if_neg h1]
    exact ⟨_, _, _, rfl, and255 _, hi⟩
theorem spec_l01Below_some (b : List Int) (i h n : Int) (hb : b.length ≤ 4611686018427387904) (hi : 0 ≤ i) : ∃ r i' h', spec_l01Below.f b i h n = some (r, i', h') ∧ 0 ≤ r ∧ (1 ≤ n → r < n) ∧ 0 ≤ i' := by
  unfold spec_l01Below.f
  by_cases h1 : n ≤ 0
  · rw [if_pos h1]
    exact ⟨_, _, _, rfl, by omega, by omega, hi⟩
  · rw [if_neg h1]
    obtain ⟨x, i1, h1', e1, p1, q1⟩ := spec_l01Byte_some b i h hb hi
    by_cases h2 : n ≤ 256
    · rw [if_pos h2, e1]
      simp only [Option.bind_some]
      rw [if_neg (show ¬ n = 0 by omega)]
      have := tmod_range p1.1 (show 1 ≤ n by omega)
      exact ⟨_, _, _, rfl, this.1, fun _ => this.2, q1⟩
    · rw [if_neg h2, e1]
      simp only [Option.bind_some]
      obtain ⟨y, i2, h2', e2, p2, q2⟩ := spec_l01Byte_some b i1 h1' hb q1
      rw [e2]
      simp only [Option.bind_some]
      obtain ⟨z, i3, h3', e3, p3, q3⟩ := spec_l01Byte_some b i2 h2' hb q2
      rw [e3]
      simp only [Option.bind_some]
      obtain ⟨v, i4, h4', e4, p4, q4⟩ := spec_l01Byte_some b i3 h3' hb q3
      rw [e4]
      simp only [Option.bind_some]
      rw [if_neg (show ¬ n = 0 by omega)]
      have h0 : 0 ≤ wrap64 (wrap64 (wrap64 (wrap64 (x * 16777216) + wrap64 (y * 65536)) + wrap64 (z * 256)) + v) := by
        rw [w64 (n := x * 16777216) (by omega) (by omega), w64 (n := y * 65536) (by omega) (by omega), w64 (n := z * 256) (by omega) (by omega), w64 (n := x * 16777216 + y * 65536) (by omega) (by omega), w64 (n := x * 16777216 + y * 65536 + z * 256) (by omega) (by omega), w64 (by omega) (by omega)]
        omega
      have := tmod_range h0 (show 1 ≤ n by omega)
      exact ⟨_, _, _, rfl, this.1, fun _ => this.2, q4⟩
theorem spec_l06List_l0 (b : List Int) (hb : b.length ≤ 4611686018427387904) (n : Nat) (hn : n ≤ 12) (d : Nat) : ∀ (j : Nat) (out : List S38) (i h : Int), j + d = n → 0 ≤ i → out.length = j → (pr_impl_Step out).all pStepOk = true → ∃ ys i' h', Ev (fun k => spec_l06List.l0 k out n j b i h) (ys, i', h') ∧ 0 ≤ i' ∧ ys.length = n ∧ (pr_impl_Step ys).all pStepOk = true := by
  induction d with
  | zero =>
    intro j out i h hj hi ho hok
    refine ⟨out, i, h, ev_succ ?_, hi, by omega, hok⟩
    simp only [spec_l06List.l0]
    exact ev_ifn (by omega) (Ev.now _)
  | succ d ih =>
    intro j out i h hj hi ho hok
    obtain ⟨x, i1, h1, e1, p1, p1', q1⟩ := spec_l01Below_some b i h 30 hb hi
    obtain ⟨y, i2, h2, e2, p2, p2', q2⟩ := spec_l01Below_some b i1 h1 40 hb q1
    have p1'' := p1' (by omega)
    have p2'' := p2' (by omega)
    obtain ⟨ys, i', h', hE, r1, r2, r3⟩ := ih (j + 1) (out ++ [(⟨1 + x, 2 * y⟩ : S38)]) i2 h2 (by omega) q2 (by simp [ho]) (by
      simp only [pr_impl_Step, List.map_append, List.all_append, List.map_cons, List.map_nil, List.all_cons, List.all_nil, Bool.and_true, Bool.and_eq_true] at hok ⊢
      refine ⟨hok, ?_⟩
      simp only [pStepOk, decide_eq_true_eq]
      omega)
    refine ⟨ys, i', h', ev_succ ?_, r1, r2, r3⟩
    simp only [spec_l06List.l0, e1, e2, Option.bind_some]
    rw [w64 (n := 1 + x) (by omega) (by omega), w64 (n := 2 * y) (by omega) (by omega), wnext (n := n) (by omega) (by omega)]
    exact ev_ifp (by omega) (ev_ifp (by omega) hE)
theorem spec_l06List_ev (b : List Int) (i h : Int) (hb : b.length ≤ 4611686018427387904) (hi : 0 ≤ i) : ∃ ys i' h', Ev (fun k => spec_l06List.f k b i h) (ys, i', h') ∧ 0 ≤ i' ∧ ys.length ≤ 12 ∧ (pr_impl_Step ys).all pStepOk = true := by
  unfold spec_l06List.f
  obtain ⟨x, i1, h1, e1, p1, p1', q1⟩ := spec_l01Below_some b i h 6 hb hi
  have p1'' := p1' (by omega)
  obtain ⟨n, hn⟩ := Int.eq_ofNat_of_zero_le p1
  obtain ⟨ys, i', h', hE, r1, r2, r3⟩ := spec_l06List_l0 b hb n (by omega) n 0 [] i1 h1 (by omega) q1 rfl rfl
  refine ⟨ys, i', h', ?_, r1, by omega, r3⟩
  simp only [e1, Option.bind_some, hn]
  exact hE
theorem spec_DrawSteps_ev (xs : List Int) (hb : xs.length ≤ 4611686018427387904) : ∃ a c, Ev (fun k => spec_DrawSteps.f k xs) (a, c) ∧ a.length ≤ 12 ∧ c.length ≤ 12 ∧ (pr_impl_Step a).all pStepOk = true ∧ (pr_impl_Step c).all pStepOk = true := by
  obtain ⟨h, hN⟩ := spec_l01New_ev xs hb
  unfold spec_DrawSteps.f
  obtain ⟨a, i1, h1, e1, q1, l1, o1⟩ := spec_l06List_ev xs 0 h hb (by omega)
  obtain ⟨c, i2, h2, e2, q2, l2, o2⟩ := spec_l06List_ev xs i1 h1 hb q1
  exact ⟨a, c, Ev.bind hN (Ev.bind e1 (Ev.bind e2 (Ev.now _))), l1, l2, o1, o2⟩
theorem impl_StartTimes_l0 (xs : List S38) (hn : xs.length ≤ 1048576) (hok : (pr_impl_Step xs).all pStepOk = true) (m : Nat) : ∀ (out : List Int) (r : Int), m ≤ xs.length → out.length = xs.length → r ≤ 1000000 → -1000000 ≤ r - pWhole ((pr_impl_Step xs).take m) → Ev (fun k => impl_StartTimes.l0 k xs r out ((m : Int) - 1)) (pStarts (r - pWhole ((pr_impl_Step xs).take m)) ((pr_impl_Step xs).take m) ++ out.drop m) := by
  induction m with
  | zero =>
    intro out r hm ho h0 h1
    refine ev_succ ?_
    simp only [impl_StartTimes.l0]
    exact ev_ifn (by omega) (ev_const (by simp [pStarts]))
  | succ m ih =>
    intro out r hm ho h0 h1
    have h2 := pStepOk_range (pr_impl_Step_ok hok m (by omega))
    have hl : m < (pr_impl_Step xs).length := by rw [pr_impl_Step_length]; omega
    have h3 : 0 ≤ pWhole ((pr_impl_Step xs).take m) := (pWhole_range _ (List.all_eq_true.2 fun x hx => List.all_eq_true.1 hok x (List.mem_of_mem_take hx))).1
    have ht : (pr_impl_Step xs).take (m + 1) = (pr_impl_Step xs).take m ++ [((xs[m]).f0, (xs[m]).f1)] := by
      rw [List.take_succ_eq_append_getElem hl, pr_impl_Step_get xs m (by omega)]
    rw [ht, pWhole_append] at h1
    rw [ht, pWhole_append, pStarts_snoc]
    simp only [pWhole] at h1 ⊢
    refine ev_succ ?_
    simp only [impl_StartTimes.l0]
    rw [show ((m + 1 : Nat) : Int) - 1 = (m : Int) by omega]
    refine ev_ifp (by omega) (ev_ifp (by omega) (ev_ifp (by omega) (ev_ifp (by omega) ?_)))
    rw [rd_impl_Step xs m (by omega), w64 (n := (xs[m]).f0 + (xs[m]).f1) (by omega) (by omega), w64 (n := r - ((xs[m]).f0 + (xs[m]).f1)) (by omega) (by omega), w64 (n := (m : Int) - 1) (by omega) (by omega), Int.toNat_natCast]
    refine ev_eq (ih _ _ (by omega) (by simpa using ho) (by omega) (by omega)) ?_
    rw [show r - ((xs[m]).f0 + (xs[m]).f1) - pWhole ((pr_impl_Step xs).take m) = r - (pWhole ((pr_impl_Step xs).take m) + ((xs[m]).f0 + (xs[m]).f1 + 0)) by omega, List.append_assoc]
    congr 1
    rw [List.drop_eq_getElem_cons (by simp; omega)]
    simp only [List.getElem_set_self, List.singleton_append]
    rw [List.drop_set_of_lt (by omega)]
    congr 1
    omega
theorem impl_StartTimes_ev (xs : List S38) (r : Int) (hn : xs.length ≤ 1048576) : Ev (fun k => impl_StartTimes.f k xs r) (pStartTimes (pr_impl_Step xs) r) := by
  unfold impl_StartTimes.f pStartTimes
  refine Ev.bind (impl_StepsOk_ev xs (by omega)) ?_
  simp only [impl_in_eq, Option.bind_some]
  by_cases h : pStepsOk (pr_impl_Step xs) = true
  · refine ev_ifp h (ev_succ ?_)
    simp only [impl_StartTimes.j0]
    by_cases h4 : 0 ≤ r ∧ r ≤ 1440
    · rw [if_pos ⟨h, h4⟩, decide_eq_true h4]
      have h2 := pStepsOk_split h
      have h3 := pWhole_range _ h2.1
      have e : (pr_impl_Step xs).take xs.length = pr_impl_Step xs := List.take_of_length_le (by rw [pr_impl_Step_length]; omega)
      rw [Int.toNat_natCast, w64 (n := (xs.length : Int) - 1) (by omega) (by omega)]
      refine ev_ifn (by decide) (ev_ifp (by omega) (ev_ifp (by omega) (ev_eq (impl_StartTimes_l0 xs hn h2.1 xs.length _ r (by omega) (by simp) (by omega) (by rw [e]; omega)) ?_)))
      rw [e, List.drop_of_length_le (by simp)]
      simp
    · rw [if_neg (fun c => h4 c.2), decide_eq_false h4]
      exact ev_ifp (by simp) (Ev.now _)
  · rw [if_neg (fun c => h c.1)]
    refine ev_ifn h (ev_succ ?_)
    simp only [impl_StartTimes.j0]
    exact ev_ifp (by simp) (Ev.now _)
theorem laws_at_some (xs : List Int) (a : Int) (hb : xs.length ≤ 1048576) (ha : 0 ≤ a ∧ a ≤ 1000) (hx : ∀ x ∈ xs, (Lit.int .u8 x).wf = true) : ∃ v, laws_at.f xs a = some v ∧ 0 ≤ v ∧ v ≤ 255 := by
  unfold laws_at.f
  by_cases h : (xs.length : Int) = 0
  · rw [if_pos h]
    exact ⟨0, rfl, by omega, by omega⟩
  · rw [if_neg h, w64 (n := a * 5) (by omega) (by omega), w64 (n := a * 5 + 1) (by omega) (by omega)]
    have h2 := tmod_range (x := a * 5 + 1) (n := (xs.length : Int)) (by omega) (by omega)
    rw [if_pos h2.1, if_pos h2.2]
    obtain ⟨j, hj⟩ := Int.eq_ofNat_of_zero_le h2.1
    rw [hj] at h2 ⊢
    have hj2 : j < xs.length := by omega
    rw [rd_nat xs j hj2]
    have h3 := wf8 (hx _ (List.getElem_mem hj2))
    exact ⟨_, rfl, by rw [w64 (by omega) (by omega)]; exact h3⟩
theorem pStartTimes_good {xs : List S38} {r : Int} (h : pStepsOk (pr_impl_Step xs) = true ∧ (0 ≤ r ∧ r ≤ 1440)) : pStartTimes (pr_impl_Step xs) r = pStarts (r - pWhole (pr_impl_Step xs)) (pr_impl_Step xs) ∧ (pStarts (r - pWhole (pr_impl_Step xs)) (pr_impl_Step xs)).length = xs.length ∧ xs.length ≤ 12 ∧ (pr_impl_Step xs).all pStepOk = true ∧ ∀ t ∈ pStarts (r - pWhole (pr_impl_Step xs)) (pr_impl_Step xs), -20000 ≤ t ∧ t ≤ 20000 := by
  have h2 := pStepsOk_split h.1
  have h3 := pWhole_range _ h2.1
  rw [pr_impl_Step_length] at h2
  rw [pr_impl_Step_length] at h3
  refine ⟨by unfold pStartTimes; rw [if_pos h], by rw [pStarts_length, pr_impl_Step_length], h2.2, h2.1, fun t ht => ?_⟩
  have := pStarts_range _ _ h2.1 t ht
  omega
theorem pClash_range {xs ys : List S38} {ra rb : Int} (h : pStepsOk (pr_impl_Step xs) = true ∧ (0 ≤ ra ∧ ra ≤ 1440)) (h2 : pStepsOk (pr_impl_Step ys) = true ∧ (0 ≤ rb ∧ rb ≤ 1440)) : 0 ≤ pClash (pr_impl_Step xs) (pr_impl_Step ys) ra rb ∧ pClash (pr_impl_Step xs) (pr_impl_Step ys) ra rb ≤ 100000 := by
  obtain ⟨_, l1, n1, o1, _⟩ := pStartTimes_good h
  obtain ⟨_, l2, n2, o2, _⟩ := pStartTimes_good h2
  have l1' : (pStarts (ra - pWhole (pr_impl_Step xs)) (pr_impl_Step xs)).length = (pr_impl_Step xs).length := by rw [pStarts_length]
  have l2' : (pStarts (rb - pWhole (pr_impl_Step ys)) (pr_impl_Step ys)).length = (pr_impl_Step ys).length := by rw [pStarts_length]
  have := pSum2_range (zb := pPairs (pStarts (rb - pWhole (pr_impl_Step ys)) (pr_impl_Step ys)) (pr_impl_Step ys)) (by rw [pPairs_length l2', pr_impl_Step_length]; exact n2) (pPairs (pStarts (ra - pWhole (pr_impl_Step xs)) (pr_impl_Step xs)) (pr_impl_Step xs)) (fun p hp => by
    obtain ⟨q, hq, rfl⟩ := List.mem_map.1 hp
    have := pStepOk_range (List.all_eq_true.1 o1 _ (List.of_mem_zip hq).2)
    dsimp only
    omega)
  rw [pPairs_length l1', pr_impl_Step_length] at this
  unfold pClash
  omega
theorem impl_WorkClash_l1 (xs ys : List S38) (ta tb : List Int) (hx : xs.length ≤ 12) (hy : ys.length ≤ 12) (okx : (pr_impl_Step xs).all pStepOk = true) (oky : (pr_impl_Step ys).all pStepOk = true) (la : ta.length = xs.length) (lb : tb.length = ys.length)
    (ra : ∀ t ∈ ta, -20000 ≤ t ∧ t ≤ 20000) (rb : ∀ t ∈ tb, -20000 ≤ t ∧ t ≤ 20000) (i : Nat) (hi : i < xs.length)
    (cont : ∀ acc : Int, 0 ≤ acc → acc + pSum2 (pPairs tb (pr_impl_Step ys)) ((pPairs ta (pr_impl_Step xs)).drop (i + 1)) ≤ 1000000 → Ev (fun k => impl_WorkClash.l0 k xs ys acc tb ta (ta.length : Int) ((i + 1 : Nat) : Int)) (acc + pSum2 (pPairs tb (pr_impl_Step ys)) ((pPairs ta (pr_impl_Step xs)).drop (i + 1)))) (d : Nat) :
    ∀ (j : Nat) (acc : Int), j + d = ys.length → 0 ≤ acc → acc + pSum1 (ta[i]) (xs[i]).f0 ((pPairs tb (pr_impl_Step ys)).drop j) + pSum2 (pPairs tb (pr_impl_Step ys)) ((pPairs ta (pr_impl_Step xs)).drop (i + 1)) ≤ 1000000 →
      Ev (fun k => impl_WorkClash.l1 k xs ys acc tb i ta[i] ta (ta.length : Int) i tb (tb.length : Int) j) (acc + pSum1 (ta[i]) (xs[i]).f0 ((pPairs tb (pr_impl_Step ys)).drop j) + pSum2 (pPairs tb (pr_impl_Step ys)) ((pPairs ta (pr_impl_Step xs)).drop (i + 1))) := by
  have gx := pStepOk_range (pr_impl_Step_ok okx i hi)
  dsimp only at gx
  have gt := ra ta[i] (List.getElem_mem _)
  have lb' : tb.length = (pr_impl_Step ys).length := by rw [pr_impl_Step_length]; exact lb
  have la' : ta.length = (pr_impl_Step xs).length := by rw [pr_impl_Step_length]; exact la
  have s2 : 0 ≤ pSum2 (pPairs tb (pr_impl_Step ys)) ((pPairs ta (pr_impl_Step xs)).drop (i + 1)) := by
    refine (pSum2_range (by rw [pPairs_length lb', pr_impl_Step_length]; exact hy) _ fun p hp => ?_).1
    obtain ⟨q, hq, rfl⟩ := List.mem_map.1 (List.mem_of_mem_drop hp)
    have := pStepOk_range (List.all_eq_true.1 okx _ (List.of_mem_zip hq).2)
    dsimp only
    omega
  induction d with
  | zero =>
    intro j acc hj h0 h1
    have e : (pPairs tb (pr_impl_Step ys)).drop j = [] := List.drop_of_length_le (by rw [pPairs_length lb', pr_impl_Step_length]; omega)
    rw [e] at h1 ⊢
    simp only [pSum1] at h1 ⊢
    refine ev_succ ?_
    simp only [impl_WorkClash.l1]
    rw [wnext (n := xs.length) hi (by omega)]
    exact ev_ifn (by omega) (ev_eq (cont acc h0 (by omega)) (by omega))
  | succ d ih =>
    intro j acc hj h0 h1
    have gy := pStepOk_range (pr_impl_Step_ok oky j (by omega))
    dsimp only at gy
    have gu := rb tb[j] (List.getElem_mem _)
    have e := pPairs_drop lb' j (by rw [pr_impl_Step_length]; omega)
    rw [pr_impl_Step_get ys j (by omega)] at e
    rw [e] at h1 ⊢
    simp only [pSum1] at h1 ⊢
    have s1 := (pSum1_range (s := ta[i]) (m := (xs[i]).f0) (by omega) ((pPairs tb (pr_impl_Step ys)).drop (j + 1))).1
    have so := (pOver_range (s := ta[i]) (m := (xs[i]).f0) (t := tb[j]) (n := (ys[j]).f0) (by omega)).1
    refine ev_succ ?_
    simp only [impl_WorkClash.l1]
    refine ev_ifp (by omega) (ev_ifp (by omega) (ev_ifp (by omega) (ev_ifp (by omega) (ev_ifp (by omega) (ev_ifp (by omega) ?_)))))
    rw [rd_nat tb j (by omega), rd_impl_Step xs i hi, rd_impl_Step ys j (by omega), mx_comm _ 0, over_arith h0 (by omega) gt (by omega) gu (by omega), wnext (n := ys.length) (by omega) (by omega)]
    exact ev_eq (ih (j + 1) _ (by omega) (by omega) (by omega)) (by omega)
theorem impl_WorkClash_l0 (xs ys : List S38) (ta tb : List Int) (hx : xs.length ≤ 12) (hy : ys.length ≤ 12) (okx : (pr_impl_Step xs).all pStepOk = true) (oky : (pr_impl_Step ys).all pStepOk = true) (la : ta.length = xs.length) (lb : tb.length = ys.length)
    (ra : ∀ t ∈ ta, -20000 ≤ t ∧ t ≤ 20000) (rb : ∀ t ∈ tb, -20000 ≤ t ∧ t ≤ 20000) (d : Nat) :
    ∀ (i : Nat) (acc : Int), i + d = xs.length → 0 ≤ acc → acc + pSum2 (pPairs tb (pr_impl_Step ys)) ((pPairs ta (pr_impl_Step xs)).drop i) ≤ 1000000 → Ev (fun k => impl_WorkClash.l0 k xs ys acc tb ta (ta.length : Int) i) (acc + pSum2 (pPairs tb (pr_impl_Step ys)) ((pPairs ta (pr_impl_Step xs)).drop i)) := by
  have la' : ta.length = (pr_impl_Step xs).length := by rw [pr_impl_Step_length]; exact la
  induction d with
  | zero =>
    intro i acc hj h0 h1
    have e : (pPairs ta (pr_impl_Step xs)).drop i = [] := List.drop_of_length_le (by rw [pPairs_length la', pr_impl_Step_length]; omega)
    rw [e] at h1 ⊢
    refine ev_succ ?_
    simp only [impl_WorkClash.l0]
    exact ev_ifn (by omega) (ev_const (by simp [pSum2]))
  | succ d ih =>
    intro i acc hj h0 h1
    have e := pPairs_drop la' i (by rw [pr_impl_Step_length]; omega)
    rw [pr_impl_Step_get xs i (by omega)] at e
    rw [e] at h1 ⊢
    simp only [pSum2] at h1 ⊢
    refine ev_succ ?_
    simp only [impl_WorkClash.l0]
    refine ev_ifp (by omega) (ev_ifp (by omega) (ev_ifp (by omega) ?_))
    rw [rd_nat ta i (by omega)]
    exact ev_eq (impl_WorkClash_l1 xs ys ta tb hx hy okx oky la lb ra rb i (by omega) (fun acc h0 h1 => ih (i + 1) acc (by omega) h0 h1) ys.length 0 acc (by omega) h0 (by simp only [List.drop_zero]; omega)) (by simp only [List.drop_zero]; omega)
theorem impl_WorkClash_ev (xs ys : List S38) (ra rb : Int) (hx : xs.length ≤ 1048576) (hy : ys.length ≤ 1048576) : Ev (fun k => impl_WorkClash.f k xs ys ra rb) (pWorkClash (pr_impl_Step xs) (pr_impl_Step ys) ra rb) := by
  unfold impl_WorkClash.f pWorkClash
  simp only [impl_in_eq, Option.bind_some]
  refine Ev.bind (impl_StepsOk_ev xs (by omega)) ?_
  by_cases g1 : pStepsOk (pr_impl_Step xs) = true
  · refine ev_ifp g1 (Ev.bind (impl_StepsOk_ev ys (by omega)) ?_)
    by_cases g2 : pStepsOk (pr_impl_Step ys) = true
    · refine ev_ifp g2 ?_
      by_cases g3 : 0 ≤ ra ∧ ra ≤ 1440
      · refine ev_ifp (decide_eq_true g3) (ev_succ ?_)
        simp only [impl_WorkClash.j0]
        by_cases g4 : 0 ≤ rb ∧ rb ≤ 1440
        · rw [if_pos ⟨⟨g1, g3⟩, ⟨g2, g4⟩⟩, decide_eq_true g4]
          obtain ⟨e1, l1, n1, o1, r1⟩ := pStartTimes_good ⟨g1, g3⟩
          obtain ⟨e2, l2, n2, o2, r2⟩ := pStartTimes_good ⟨g2, g4⟩
          have hc := pClash_range ⟨g1, g3⟩ ⟨g2, g4⟩
          refine ev_ifn (by decide) (Ev.bind (impl_StartTimes_ev ys rb hy) (Ev.bind (impl_StartTimes_ev xs ra hx) ?_))
          rw [e1, e2]
          exact ev_eq (impl_WorkClash_l0 xs ys _ _ n1 n2 o1 o2 l1 l2 r1 r2 xs.length 0 0 (by omega) (by omega) (by simp only [List.drop_zero]; unfold pClash at hc; omega)) (by simp only [List.drop_zero]; unfold pClash; omega)
        · rw [if_neg (fun c => g4 c.2.2), decide_eq_false g4]
          exact ev_ifp (by simp) (Ev.now _)
      · rw [if_neg (fun c => g3 c.1.2)]
        refine ev_ifn (by simp [g3]) (ev_succ ?_)
        simp only [impl_WorkClash.j0]
        exact ev_ifp (by simp) (Ev.now _)
    · rw [if_neg (fun c => g2 c.2.1)]
      refine ev_ifn g2 (ev_succ ?_)
      simp only [impl_WorkClash.j0]
      exact ev_ifp (by simp) (Ev.now _)
  · rw [if_neg (fun c => g1 c.1.1)]
    refine ev_ifn g1 (ev_succ ?_)
    simp only [impl_WorkClash.j0]
    exact ev_ifp (by simp) (Ev.now _)
theorem impl_LeastShift_l0 (xs ys : List S38) (r : Int) (hx : xs.length ≤ 1048576) (hy : ys.length ≤ 1048576) (f : Nat) : ∀ n : Int, 0 ≤ n → n ≤ 1000000 → (r ≤ 1440 → r - n < f) → Ev (fun k => impl_LeastShift.l0 k xs ys r n) (pLeastShift (pr_impl_Step xs) (pr_impl_Step ys) r f n) := by
  induction f with
  | zero =>
    intro n h0 h1 h2
    refine ev_succ ?_
    simp only [impl_LeastShift.l0]
    by_cases h3 : n ≤ r
    · refine ev_ifp h3 (ev_succ ?_)
      simp only [impl_LeastShift.j1]
      rw [decide_eq_false (show ¬ r ≤ 1440 by omega)]
      exact ev_ifn (by decide) (Ev.now _)
    · refine ev_ifn h3 (ev_succ ?_)
      simp only [impl_LeastShift.j1]
      exact ev_ifn (by decide) (Ev.now _)
  | succ f ih =>
    intro n h0 h1 h2
    unfold pLeastShift
    refine ev_succ ?_
    simp only [impl_LeastShift.l0]
    by_cases h3 : n ≤ r
    · refine ev_ifp h3 (ev_succ ?_)
      simp only [impl_LeastShift.j1]
      by_cases h4 : r ≤ 1440
      · rw [decide_eq_true h4, if_pos ⟨h3, h4⟩, w64 (n := r - n) (by omega) (by omega)]
        refine ev_ifp rfl (Ev.bind (impl_WorkClash_ev xs ys r (r - n) hx hy) ?_)
        by_cases h5 : pWorkClash (pr_impl_Step xs) (pr_impl_Step ys) r (r - n) = 0
        · rw [if_pos h5]
          exact ev_ifp h5 (Ev.now _)
        · rw [if_neg h5, w64 (n := n + 1) (by omega) (by omega)]
          exact ev_ifn h5 (ih (n + 1) (by omega) (by omega) (by omega))
      · rw [decide_eq_false h4, if_neg (fun c => h4 c.2)]
        exact ev_ifn (by decide) (Ev.now _)
    · rw [if_neg (fun c => h3 c.1)]
      refine ev_ifn h3 (ev_succ ?_)
      simp only [impl_LeastShift.j1]
      exact ev_ifn (by decide) (Ev.now _)
theorem impl_LeastShift_ev (xs ys : List S38) (r : Int) (hx : xs.length ≤ 1048576) (hy : ys.length ≤ 1048576) : Ev (fun k => impl_LeastShift.f k xs ys r) (pLeastShift (pr_impl_Step xs) (pr_impl_Step ys) r 1500 0) := by
  unfold impl_LeastShift.f
  exact impl_LeastShift_l0 xs ys r hx hy 1500 0 (by omega) (by omega) (by omega)
theorem pStepsOk_mk {a : List S38} (l : a.length ≤ 12) (o : (pr_impl_Step a).all pStepOk = true) : pStepsOk (pr_impl_Step a) = true := by
  unfold pStepsOk
  rw [o, pr_impl_Step_length]
  simpa using l
theorem fnb_j4 (a c : List S38) (l : Int) (la : a.length ≤ 12) (lc : c.length ≤ 12) (oa : (pr_impl_Step a).all pStepOk = true) (oc : (pr_impl_Step c).all pStepOk = true) (hl : l < 0 → pWorkClash (pr_impl_Step a) (pr_impl_Step c) 600 0 ≠ 0) : Ev (fun k => laws_FnBackwards.j4 k a c 600 l false) true := by
  refine ev_succ ?_
  simp only [laws_FnBackwards.j4]
  refine ev_ifn (by decide) (Ev.bind (impl_StepsOk_ev a (by omega)) (ev_ifp (pStepsOk_mk la oa) ?_))
  by_cases h : l ≥ 0
  · exact ev_ifp h (Ev.now _)
  · refine ev_ifn h (Ev.bind (impl_WorkClash_ev a c 600 0 (by omega) (by omega)) (ev_const ?_))
    have h1 := hl (by omega)
    have h2 : 0 ≤ pWorkClash (pr_impl_Step a) (pr_impl_Step c) 600 0 := by
      unfold pWorkClash
      rw [if_pos ⟨⟨pStepsOk_mk la oa, by omega⟩, pStepsOk_mk lc oc, by omega⟩]
      exact (pClash_range ⟨pStepsOk_mk la oa, by omega⟩ ⟨pStepsOk_mk lc oc, by omega⟩).1
    rw [decide_eq_true (by omega)]
theorem fnb_j3 (a c : List S38) (la : a.length ≤ 12) (lc : c.length ≤ 12) (oa : (pr_impl_Step a).all pStepOk = true) (oc : (pr_impl_Step c).all pStepOk = true) : Ev (fun k => laws_FnBackwards.j3 k a c 600 (pLeastShift (pr_impl_Step a) (pr_impl_Step c) 600 1500 0) false) true := by
  have hp := pLeastShift_props (xs := pr_impl_Step a) (ys := pr_impl_Step c) (ready := 600) (by omega) 1500 0 (by omega) (by omega) (by omega) (by omega)
  generalize pLeastShift (pr_impl_Step a) (pr_impl_Step c) 600 1500 0 = l at hp ⊢
  refine ev_succ ?_
  simp only [laws_FnBackwards.j3]
  refine ev_ifn (by decide) ?_
  by_cases h : l ≥ 0
  · have hq : 0 ≤ l ∧ l ≤ 600 ∧ pWorkClash (pr_impl_Step a) (pr_impl_Step c) 600 (600 - l) = 0 ∧ (0 < l → pWorkClash (pr_impl_Step a) (pr_impl_Step c) 600 (600 - l + 1) ≠ 0) := by
      rcases hp with hp | hp
      · have := hp.1
        omega
      · exact hp
    rw [w64 (n := 600 - l) (by omega) (by omega), w64 (n := 600 - l + 1) (by omega) (by omega)]
    refine ev_ifp h (ev_ifn (by omega) (Ev.bind (impl_WorkClash_ev a c 600 (600 - l) (by omega) (by omega)) (ev_ifp hq.2.2.1 ?_)))
    by_cases h0 : l > 0
    · refine ev_ifp h0 (Ev.bind (impl_WorkClash_ev a c 600 (600 - l + 1) (by omega) (by omega)) ?_)
      rw [show (pWorkClash (pr_impl_Step a) (pr_impl_Step c) 600 (600 - l + 1) == 0) = false by simpa using hq.2.2.2 h0]
      exact fnb_j4 a c l la lc oa oc (by omega)
    · exact ev_ifn h0 (fnb_j4 a c l la lc oa oc (by omega))
  · have hq : pWorkClash (pr_impl_Step a) (pr_impl_Step c) 600 0 ≠ 0 := by
      rcases hp with hp | hp
      · exact hp.2
      · omega
    exact ev_ifn h (fnb_j4 a c l la lc oa oc (fun _ => hq))
theorem fnb_l1 (a c : List S38) (q : Int) (la : a.length ≤ 12) (lc : c.length ≤ 12) (oa : (pr_impl_Step a).all pStepOk = true) (oc : (pr_impl_Step c).all pStepOk = true) (hq : 0 ≤ q ∧ q ≤ 1440) (d : Nat) : ∀ (j : Nat) (acc : Int), j + d = a.length → acc + pMins ((pr_impl_Step a).drop j) = pMins (pr_impl_Step a) → 0 ≤ acc →
    Ev (fun k => laws_FnBackwards.l1 k a c 600 q (pWorkClash (pr_impl_Step a) (pr_impl_Step c) 600 q) (pLeastShift (pr_impl_Step a) (pr_impl_Step c) 600 1500 0) acc j) true := by
  have hm := pMins_range _ oa
  rw [pr_impl_Step_length] at hm
  induction d with
  | zero =>
    intro j acc hj h0 h1
    refine ev_succ ?_
    simp only [laws_FnBackwards.l1]
    rw [List.drop_of_length_le (by rw [pr_impl_Step_length]; omega)] at h0
    simp only [pMins] at h0
    have ga := pStepsOk_mk la oa
    have gc := pStepsOk_mk lc oc
    have hc : pWorkClash (pr_impl_Step a) (pr_impl_Step c) 600 q = pClash (pr_impl_Step a) (pr_impl_Step c) 600 q := by unfold pWorkClash; rw [if_pos ⟨⟨ga, by omega⟩, gc, hq⟩]
    have hs : pWorkClash (pr_impl_Step a) (pr_impl_Step a) 600 600 = pMins (pr_impl_Step a) := by unfold pWorkClash; rw [if_pos ⟨⟨ga, by omega⟩, ga, by omega⟩]; exact pClash_self 600 oa
    have r1 := (pClash_range (ra := 600) (rb := q) ⟨ga, by omega⟩ ⟨gc, hq⟩).1
    have r2 := pClash_le (xs := pr_impl_Step a) (ys := pr_impl_Step c) 600 q oa oc
    refine ev_ifn (by omega) (ev_ifn (by omega) (Ev.bind (impl_WorkClash_ev c a q 600 (by omega) (by omega)) (ev_ifp (pWorkClash_comm _ _ _ _) (ev_ifn (by omega) (Ev.bind (impl_WorkClash_ev a a 600 600 (by omega) (by omega)) ?_)))))
    rw [hs, show (pMins (pr_impl_Step a) != acc) = false by rw [bne_eq_false_iff_eq]; omega]
    exact fnb_j3 a c la lc oa oc
  | succ d ih =>
    intro j acc hj h0 h1
    have h2 := pStepOk_range (pr_impl_Step_ok oa j (by omega))
    have h3 := (pMins_range _ (all_drop oa (j + 1))).1
    rw [pr_impl_Step_drop a j (by omega)] at h0
    simp only [pMins] at h0
    dsimp only at h2
    refine ev_succ ?_
    simp only [laws_FnBackwards.l1]
    rw [rd_impl_Step a j (by omega), wnext (n := a.length) (by omega) (by omega), w64 (n := acc + (a[j]).f0) (by omega) (by omega)]
    exact ev_ifp (by omega) (ev_ifp (by omega) (ih (j + 1) _ (by omega) (by omega) (by omega)))
theorem fnb_l0 (xs : List Int) (hb : xs.length ≤ 1048576) (hx : ∀ x ∈ xs, (Lit.int .u8 x).wf = true) (a c : List S38) (ts : List Int) (hts : ts = pStarts (600 - pWhole (pr_impl_Step a)) (pr_impl_Step a)) (la : a.length ≤ 12) (lc : c.length ≤ 12) (oa : (pr_impl_Step a).all pStepOk = true) (oc : (pr_impl_Step c).all pStepOk = true) (d : Nat) : ∀ (j : Nat), j + d = a.length →
    Ev (fun k => laws_FnBackwards.l0 k xs a c 600 ts j) true := by
  have hlt : ts.length = a.length := by rw [hts, pStarts_length, pr_impl_Step_length]
  have hw := pWhole_range _ oa
  rw [pr_impl_Step_length] at hw
  induction d with
  | zero =>
    intro j hj
    refine ev_succ ?_
    simp only [laws_FnBackwards.l0]
    obtain ⟨v, ev, v0, v1⟩ := laws_at_some xs 0 hb (by omega) hx
    simp only [ev, Option.bind_some]
    rw [w64 (n := v * 2) (by omega) (by omega)]
    exact ev_ifn (by omega) (Ev.bind (impl_WorkClash_ev a c 600 (v * 2) (by omega) (by omega)) (Ev.bind (impl_LeastShift_ev a c 600 (by omega) (by omega)) (fnb_l1 a c (v * 2) la lc oa oc (by omega) a.length 0 0 (by omega) (by simp) (by omega))))
  | succ d ih =>
    intro j hj
    have h2 := pStepOk_range (pr_impl_Step_ok oa j (by omega))
    dsimp only at h2
    have ht : (pr_impl_Step a).take (j + 1) = (pr_impl_Step a).take j ++ [((a[j]'(by omega)).f0, (a[j]'(by omega)).f1)] := by
      rw [List.take_succ_eq_append_getElem (by rw [pr_impl_Step_length]; omega), pr_impl_Step_get a j (by omega)]
    have ea : ∀ i : Nat, (hi : i < ts.length) → ts[i] = 600 - pWhole (pr_impl_Step a) + pWhole ((pr_impl_Step a).take i) := by
      intro i hi
      subst hts
      exact pStarts_get _ _ i hi
    have h3 := pWhole_range _ (show ((pr_impl_Step a).take j).all pStepOk = true from List.all_eq_true.2 fun x hx => List.all_eq_true.1 oa x (List.mem_of_mem_take hx))
    have h3l : ((pr_impl_Step a).take j).length ≤ 12 := by rw [List.length_take, pr_impl_Step_length]; omega
    have e2 : pWhole ((pr_impl_Step a).take (j + 1)) = pWhole ((pr_impl_Step a).take j) + ((a[j]'(by omega)).f0 + (a[j]'(by omega)).f1) := by rw [ht, pWhole_append]; simp only [pWhole]; omega
    refine ev_succ ?_
    simp only [laws_FnBackwards.l0]
    rw [wnext (n := a.length) (by omega) (by omega), rd_nat ts j (by omega), ea j (by omega), rd_impl_Step a j (by omega), w64 (n := 600 - pWhole (pr_impl_Step a) + pWhole ((pr_impl_Step a).take j) + (a[j]'(by omega)).f0) (by omega) (by omega), w64 (n := 600 - pWhole (pr_impl_Step a) + pWhole ((pr_impl_Step a).take j) + (a[j]'(by omega)).f0 + (a[j]'(by omega)).f1) (by omega) (by omega)]
    refine ev_ifp (by omega) ?_
    by_cases h4 : ((j + 1 : Nat) : Int) < (ts.length : Int)
    · refine ev_ifp h4 (ev_ifp (by omega) (ev_ifp (by omega) (ev_ifp (by omega) (ev_ifp ?_ (ih (j + 1) (by omega))))))
      rw [rd_nat ts (j + 1) (by omega), ea (j + 1) (by omega), e2]
      omega
    · have e3 : (pr_impl_Step a).take (j + 1) = pr_impl_Step a := List.take_of_length_le (by rw [pr_impl_Step_length]; omega)
      rw [e3] at e2
      exact ev_ifn h4 (ev_ifp (by omega) (ev_ifp (by omega) (ev_ifp (by omega) (ih (j + 1) (by omega)))))
theorem FnBackwards : laws_FnBackwards.Pure := by
  intro l0 hm _ hx
  refine Ev.rounds (g := fun k => laws_FnBackwards.f k l0) ?_
  unfold laws_FnBackwards.f
  simp only [laws_big_eq, Option.bind_some]
  by_cases h : (l0.length : Int) > 1048576
  · simp only [decide_eq_true h, if_true]
    exact Ev.now _
  · simp only [decide_eq_false h, Bool.false_eq_true, if_false]
    obtain ⟨a, c, hd, la, lc, oa, oc⟩ := spec_DrawSteps_ev l0 (by omega)
    have ga := pStepsOk_mk la oa
    have hw := pWhole_range _ oa
    rw [pr_impl_Step_length] at hw
    obtain ⟨e1, e2, _, _, _⟩ := pStartTimes_good (xs := a) (r := 600) ⟨ga, by omega⟩
    have e3 : pWholeTime (pr_impl_Step a) = pWhole (pr_impl_Step a) := by unfold pWholeTime; rw [if_pos ga]
    refine Ev.bind hd (Ev.bind (impl_StartTimes_ev a 600 (by omega)) (Ev.bind (impl_WholeTime_ev a (by omega)) ?_))
    rw [e1, e3]
    generalize hts : pStarts (600 - pWhole (pr_impl_Step a)) (pr_impl_Step a) = ts at e2
    have hl : (ts.length : Int) = (a.length : Int) := by rw [e2]
    have fin : Ev (fun k => laws_FnBackwards.j0 k l0 a c 600 ts false) true := by
      refine ev_succ ?_
      simp only [laws_FnBackwards.j0]
      exact ev_ifn (by decide) (fnb_l0 l0 (by omega) hx a c ts hts.symm la lc oa oc a.length 0 (by omega))
    refine ev_ifn (by omega) (ev_ifp hl ?_)
    by_cases h0 : (a.length : Int) > 0
    · refine ev_ifp h0 (ev_ifp (by omega) ?_)
      have e4 : rd ts 0 = 600 - pWhole (pr_impl_Step a) := by
        have := rd_nat ts 0 (by omega)
        rw [show ((0 : Nat) : Int) = 0 from rfl] at this
        subst hts
        rw [this, pStarts_get]
        simp [pWhole]
      rw [e4, w64 (n := 600 - pWhole (pr_impl_Step a)) (by omega) (by omega), show ((600 - pWhole (pr_impl_Step a)) != (600 - pWhole (pr_impl_Step a))) = false from by simp]
      exact fin
    · exact ev_ifn h0 fin
end Go.Proofs.Ythonmildlahjdaa.Pure
