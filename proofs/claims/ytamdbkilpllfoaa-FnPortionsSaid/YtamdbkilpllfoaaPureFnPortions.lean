/- What is proved: read as plain functions on numbers and lists, the law FnPortions answers true at every input of its kinds; no condition is added. -/
import Derived.Test.YtamdbkilpllfoaaPFnPortionsx3
import Derived.Test.YtamdbkilpllfoaaPlain
set_option linter.unusedVariables false
set_option linter.unusedSimpArgs false
set_option maxRecDepth 20000
namespace Go.Proofs.Ytamdbkilpllfoaa.Pure
open Go.RowKit Go.Proofs.Ytamdbkilpllfoaa.PFnPortions Go.Proofs.YtamdbkilpllfoaaW.PrintWords Go.Proofs.YtamdbkilpllfoaaW.PrintLast Go.Proofs.YtamdbkilpllfoaaW.PrintMore Go.Proofs.Ytamdbkilpllfoaa.Plain
def pr_impl_Loaf (xs : List S36) : List (Int × Int) := xs.map fun s => (s.f0, s.f1)
theorem pr_impl_Loaf_length (xs : List S36) : (pr_impl_Loaf xs).length = xs.length := by simp [pr_impl_Loaf]
theorem rd_impl_Loaf (xs : List S36) (j : Nat) (h : j < xs.length) : rd_T36 xs (j : Int) = xs[j] := by simp [rd_T36, List.getD_eq_getElem?_getD, List.getElem?_eq_getElem h]
theorem pr_impl_Loaf_drop (xs : List S36) (j : Nat) (h : j < xs.length) : (pr_impl_Loaf xs).drop j = ((xs[j]).f0, (xs[j]).f1) :: (pr_impl_Loaf xs).drop (j + 1) := by
  rw [List.drop_eq_getElem_cons (by rw [pr_impl_Loaf_length]; exact h)]
  simp [pr_impl_Loaf]
theorem pr_impl_Loaf_get (xs : List S36) (j : Nat) (h : j < xs.length) : (pr_impl_Loaf xs)[j]'(by rw [pr_impl_Loaf_length]; exact h) = ((xs[j]).f0, (xs[j]).f1) := by simp [pr_impl_Loaf]
theorem pr_impl_Loaf_ok {p : Int × Int → Bool} {xs : List S36} (h : (pr_impl_Loaf xs).all p = true) (j : Nat) (hj : j < xs.length) : p ((xs[j]).f0, (xs[j]).f1) = true := by
  have := List.all_eq_true.1 h _ (List.getElem_mem (by rw [pr_impl_Loaf_length]; exact hj : j < (pr_impl_Loaf xs).length))
  rwa [pr_impl_Loaf_get xs j hj] at this
theorem laws_big_eq (xs : List Int) : laws_big.f xs = some (decide ((xs.length : Int) > 1048576)) := rfl
theorem laws_at_some (xs : List Int) (a : Int) (hb : xs.length ≤ 1048576) (ha : 0 ≤ a ∧ a ≤ 1000) (hx : ∀ x ∈ xs, (Lit.int .u8 x).wf = true) : ∃ v, laws_at.f xs a = some v ∧ 0 ≤ v ∧ v ≤ 255 := by
  unfold laws_at.f
  by_cases h : (xs.length : Int) = 0
  · rw [if_pos h]
    exact ⟨0, rfl, by omega, by omega⟩
  · rw [if_neg h, w64 (n := a * 5) (by omega) (by omega), w64 (n := a * 5 + 1) (by omega) (by omega)]
    have h2 := tmod_range (x := a * 5 + 1) (n := (xs.length : Int)) (by omega) (by omega)
    rw [if_pos h2.1, if_pos h2.2]
    obtain ⟨j, hj⟩ := Int.eq_ofNat_of_zero_le h2.1
    rw [hj] at h2 ⊢
    have hj2 : j < xs.length := by omega
    rw [rd_nat xs j hj2]
    have h3 := wf8 (hx _ (List.getElem_mem hj2))
    exact ⟨_, rfl, by rw [w64 (by omega) (by omega)]; exact h3⟩
theorem spec_l01New_l0 (xs : List Int) (hn : xs.length ≤ 4611686018427387904) (d : Nat) : ∀ (j : Nat) (h : Int), j + d = xs.length → ∃ h', Ev (fun k => spec_l01New.l0 k xs h j) (xs, 0, h') := by
  induction d with
  | zero =>
    intro j h hj
    refine ⟨h, ev_at 1 fun k => ?_⟩
    simp only [spec_l01New.l0]
    rw [if_neg (by omega)]
  | succ d ih =>
    intro j h hj
    by_cases h4 : (j : Int) < 4000
    · obtain ⟨h', he⟩ := ih (j + 1) (Go.bits .and .i64 (wrap64 ((wrap64 ((wrap64 (h * 131)) + (wrap64 (rd xs j)))) + 7)) 1073741823) (by omega)
      refine ⟨h', Ev.step (f := fun k => spec_l01New.l0 k xs (Go.bits .and .i64 (wrap64 ((wrap64 ((wrap64 (h * 131)) + (wrap64 (rd xs j)))) + 7)) 1073741823) ((j + 1 : Nat) : Int)) (fun k => ?_) he⟩
      simp only [spec_l01New.l0]
      rw [if_pos (by omega), if_pos h4, if_pos (by omega), wnext (n := xs.length) (by omega) hn]
    · refine ⟨h, ev_at 1 fun k => ?_⟩
      simp only [spec_l01New.l0]
      rw [if_pos (by omega), if_neg h4]
theorem spec_l01New_ev (xs : List Int) (hn : xs.length ≤ 4611686018427387904) : ∃ h, Ev (fun k => spec_l01New.f k xs) (xs, 0, h) := by
  unfold spec_l01New.f
  exact spec_l01New_l0 xs hn xs.length 0 _ (by omega)
theorem spec_l01Byte_some (b : List Int) (i h : Int) (hb : b.length ≤ 4611686018427387904) (hi : 0 ≤ i) : ∃ x i' h', spec_l01Byte.f b i h = some (x, i', h') ∧ (0 ≤ x ∧ x ≤ 255) ∧ 0 ≤ i' := by
  unfold spec_l01Byte.f
  by_cases h1 : i < b.length
  · rw [if_pos h1, if_pos hi, w64 (n := i + 1) (by omega) (by omega)]
    exact ⟨_, _, _, rfl, and255 _, by omega⟩
  · rw [if_neg h1]
    exact ⟨_, _, _, rfl, and255 _, hi⟩
theorem spec_l01Below_some (b : List Int) (i h n : Int) (hb : b.length ≤ 4611686018427387904) (hi : 0 ≤ i) : ∃ r i' h', spec_l01Below.f b i h n = some (r, i', h') ∧ 0 ≤ r ∧ (1 ≤ n → r < n) ∧ 0 ≤ i' := by
  unfold spec_l01Below.f
  by_cases h1 : n ≤ 0
  · rw [if_pos h1]
    exact ⟨_, _, _, rfl, by omega, by omega, hi⟩
  · rw [if_neg h1]
    obtain ⟨x, i1, h1', e1, p1, q1⟩ := spec_l01Byte_some b i h hb hi
    by_cases h2 : n ≤ 256
    · rw [if_pos h2, e1]
      simp only [Option.bind_some]
      rw [if_neg (show ¬ n = 0 by omega)]
      have := tmod_range p1.1 (show 1 ≤ n by omega)
      exact ⟨_, _, _, rfl, this.1, fun _ => this.2, q1⟩
    · rw [if_neg h2, e1]
      simp only [Option.bind_some]
      obtain ⟨y, i2, h2', e2, p2, q2⟩ := spec_l01Byte_some b i1 h1' hb q1
      rw [e2]
      simp only [Option.bind_some]
      obtain ⟨z, i3, h3', e3, p3, q3⟩ := spec_l01Byte_some b i2 h2' hb q2
      rw [e3]
      simp only [Option.bind_some]
      obtain ⟨v, i4, h4', e4, p4, q4⟩ := spec_l01Byte_some b i3 h3' hb q3
      rw [e4]
      simp only [Option.bind_some]
      rw [if_neg (show ¬ n = 0 by omega)]
      have h0 : 0 ≤ wrap64 (wrap64 (wrap64 (wrap64 (x * 16777216) + wrap64 (y * 65536)) + wrap64 (z * 256)) + v) := by
        rw [w64 (n := x * 16777216) (by omega) (by omega), w64 (n := y * 65536) (by omega) (by omega), w64 (n := z * 256) (by omega) (by omega), w64 (n := x * 16777216 + y * 65536) (by omega) (by omega), w64 (n := x * 16777216 + y * 65536 + z * 256) (by omega) (by omega), w64 (by omega) (by omega)]
        omega
      have := tmod_range h0 (show 1 ≤ n by omega)
      exact ⟨_, _, _, rfl, this.1, fun _ => this.2, q4⟩
theorem spec_l03Loaf_some (b : List Int) (i h : Int) (hb : b.length ≤ 4611686018427387904) (hi : 0 ≤ i) : ∃ x y i' h', spec_l03Loaf.f b i h = some (x, y, i', h') ∧ (50 ≤ x ∧ x < 1050) ∧ (0 ≤ y ∧ y < 25) ∧ 0 ≤ i' := by
  unfold spec_l03Loaf.f
  obtain ⟨x, i1, h1, e1, p1, p1', q1⟩ := spec_l01Below_some b i h 250 hb hi
  rw [e1]
  simp only [Option.bind_some]
  obtain ⟨y, i2, h2, e2, p2, p2', q2⟩ := spec_l01Below_some b i1 h1 25 hb q1
  rw [e2]
  simp only [Option.bind_some]
  have := p1' (by omega)
  have := p2' (by omega)
  rw [w64 (n := 4 * x) (by omega) (by omega), w64 (n := 50 + 4 * x) (by omega) (by omega)]
  exact ⟨_, _, _, _, rfl, by omega, by omega, q2⟩
theorem spec_DrawLoaf_ev (xs : List Int) (hb : xs.length ≤ 4611686018427387904) : ∃ x y, Ev (fun k => spec_DrawLoaf.f k xs) (x, y) ∧ (50 ≤ x ∧ x < 1050) ∧ (0 ≤ y ∧ y < 25) := by
  obtain ⟨h, hN⟩ := spec_l01New_ev xs hb
  unfold spec_DrawLoaf.f
  obtain ⟨x, y, i1, h1, e1, r1, r2, _⟩ := spec_l03Loaf_some xs 0 h hb (by omega)
  refine ⟨x, y, Ev.bind hN (ev_const ?_), r1, r2⟩
  simp only [e1, Option.bind_some]
theorem impl_in_eq (a b c : Int) : impl_in.f a b c = some (decide (b ≤ a ∧ a ≤ c)) := by
  unfold impl_in.f
  by_cases h : b ≤ a <;> simp [h]
theorem impl_LoafOk_eq (a b : Int) : impl_LoafOk.f a b = some (pLoafOk a b) := by
  unfold impl_LoafOk.f pLoafOk
  simp only [impl_in_eq, Option.bind_some, decide_eq_true_eq]
  by_cases h : 10 ≤ a ∧ a ≤ 5000 <;> simp [h]
theorem impl_up_eq {a b : Int} (h : 0 ≤ a ∧ a ≤ 1000000000) (h2 : 1 ≤ b ∧ b ≤ 1000000) : impl_up.f a b = some (pUp a b) := by
  unfold impl_up.f
  rw [if_neg (by omega), up_arith h h2]
theorem impl_Loaf_baked_eq {a b d : Int} (h : 0 ≤ d ∧ d ≤ 1000000) (h2 : 0 ≤ b ∧ b ≤ 40) : impl_Loaf_baked.f a b d = some (pBaked b d) := by
  have h0 := mul_range h h2
  have e := baked_arith h h2
  unfold impl_Loaf_baked.f impl_up.f
  rw [w64 (n := d * b) (by omega) (by omega), if_neg (by omega)]
  rw [w64 (n := d * b) (by omega) (by omega)] at e
  simp only [Option.bind_some]
  rw [← e]
  rw [w64 (n := d * b + 100) (by omega) (by omega), w64 (n := d * b + 99) (by omega) (by omega), show d * b + 100 - 1 = d * b + 99 by omega, w64 (n := d * b + 99) (by omega) (by omega)]
theorem impl_DoughFor_l0 {a b : Int} (hok : pLoafOk a b = true) (n : Nat) : ∀ x : Int, 0 ≤ x → x ≤ 8334 → 8334 - x < n → Ev (fun k => impl_DoughFor.l0 k x a b) (pLeast a b n x) := by
  have h3 := hok
  simp only [pLoafOk, decide_eq_true_eq] at h3
  induction n with
  | zero => intro x h0 h1 h2; omega
  | succ n ih =>
    intro x h0 h1 h2
    have hb := impl_Loaf_baked_eq (a := a) (b := b) (d := x) (by omega) h3.2
    unfold pLeast
    by_cases h : pBaked b x < a
    · have hx := baked_small h3.2 (by omega) h0 h
      rw [if_pos h]
      refine Ev.step (f := fun k => impl_DoughFor.l0 k (x + 1) a b) (fun k => ?_) (ih (x + 1) (by omega) (by omega) (by omega))
      simp only [impl_DoughFor.l0, hb, Option.bind_some]
      rw [if_pos h, w64 (n := x + 1) (by omega) (by omega)]
    · rw [if_neg h]
      refine ev_at 1 fun k => ?_
      simp only [impl_DoughFor.l0, hb, Option.bind_some]
      rw [if_neg h]
theorem impl_DoughFor_ev (a b : Int) : Ev (fun k => impl_DoughFor.f k a b) (pDoughFor a b) := by
  unfold impl_DoughFor.f pDoughFor
  simp only [impl_LoafOk_eq, Option.bind_some]
  by_cases h : pLoafOk a b = true
  · have h3 := h
    simp only [pLoafOk, decide_eq_true_eq] at h3
    simp only [if_pos h]
    exact impl_DoughFor_l0 h 8400 a (by omega) (by omega) (by omega)
  · simp only [if_neg h]
    exact Ev.now _
theorem impl_LoavesFrom_ev (a b d : Int) : Ev (fun k => impl_LoavesFrom.f k a b d) (pLoavesFrom a b d) := by
  unfold impl_LoavesFrom.f pLoavesFrom
  simp only [impl_LoafOk_eq, impl_in_eq, Option.bind_some, decide_eq_true_eq]
  by_cases h : pLoafOk a b = true
  · have h3 := h
    simp only [pLoafOk, decide_eq_true_eq] at h3
    obtain ⟨p1, p2, _, _⟩ := pDoughFor_props h
    by_cases h2 : 0 ≤ d ∧ d ≤ 1000000
    · have q1 : d / pDoughFor a b ≤ d := Int.ediv_le_self _ h2.1
      have q2 : 0 ≤ d / pDoughFor a b := Int.ediv_nonneg h2.1 (by omega)
      simp only [if_pos h, if_pos h2, if_pos (And.intro h h2)]
      refine Ev.bind (impl_DoughFor_ev a b) (ev_const ?_)
      rw [if_neg (show ¬ pDoughFor a b = 0 by omega), Int.tdiv_eq_ediv_of_nonneg h2.1, w64 (by omega) (by omega)]
    · simp only [if_pos h, if_neg h2, if_neg (fun c : pLoafOk a b = true ∧ 0 ≤ d ∧ d ≤ 1000000 => h2 c.2)]
      exact Ev.now _
  · simp only [if_neg h, if_neg (fun c : pLoafOk a b = true ∧ 0 ≤ d ∧ d ≤ 1000000 => h c.1)]
    exact Ev.now _
theorem impl_BakedWeight_eq (a b d : Int) : impl_BakedWeight.f a b d = some (pBakedWeight a b d) := by
  unfold impl_BakedWeight.f pBakedWeight
  simp only [impl_LoafOk_eq, impl_in_eq, Option.bind_some, decide_eq_true_eq]
  by_cases h : pLoafOk a b = true
  · by_cases h2 : 0 ≤ d ∧ d ≤ 10000
    · have h3 := h
      simp only [pLoafOk, decide_eq_true_eq] at h3
      rw [if_pos h, if_pos h2, if_pos ⟨h, h2⟩, impl_Loaf_baked_eq (by omega) (by omega)]
      rfl
    · rw [if_pos h, if_neg h2, if_neg (fun c => h2 c.2)]
  · rw [if_neg h, if_neg (fun c => h c.1)]
theorem impl_allIn_eq (xs : List Int) (a b : Int) : impl_allIn.f xs a b = some (xs.all fun x => decide (a ≤ x ∧ x ≤ b)) := rfl
theorem impl_DoughForAll_l0 (xs : List S36) (cs : List Int) (hn : xs.length ≤ 12) (hc : cs.length = xs.length) (hok : pCountsOk cs = true) (d : Nat) : ∀ (j : Nat) (acc : Int), j + d = xs.length → 0 ≤ acc → acc ≤ 4167000 * j → Ev (fun k => impl_DoughForAll.l0 k cs acc xs (xs.length : Int) j) (if pLoavesOk ((pr_impl_Loaf xs).drop j) = true then acc + pDfaSum ((pr_impl_Loaf xs).drop j) (cs.drop j) else -1) := by
  induction d with
  | zero =>
    intro j acc hj h0 h1
    refine ev_succ ?_
    simp only [impl_DoughForAll.l0]
    rw [show cs.drop j = [] from List.drop_of_length_le (by omega), show (pr_impl_Loaf xs).drop j = [] from List.drop_of_length_le (by rw [pr_impl_Loaf_length]; omega)]
    exact ev_ifn (by omega) (ev_const (by simp [pDfaSum, pLoavesOk]))
  | succ d ih =>
    intro j acc hj h0 h1
    refine ev_succ ?_
    simp only [impl_DoughForAll.l0, impl_LoafOk_eq, Option.bind_some]
    rw [pr_impl_Loaf_drop xs j (by omega), List.drop_eq_getElem_cons (show j < cs.length by omega), rd_impl_Loaf xs j (by omega), rd_nat cs j (by omega), wnext (n := xs.length) (by omega) (by omega)]
    refine ev_ifp (by omega) (ev_ifp (by omega) (ev_ifp (by omega) ?_))
    by_cases g1 : pLoafOk (xs[j]).f0 (xs[j]).f1 = true
    · have g2 : 0 ≤ cs[j] ∧ cs[j] ≤ 500 := by simpa using List.all_eq_true.1 hok cs[j] (List.getElem_mem _)
      have q := pDoughFor_props g1
      have g3 := g1
      simp only [pLoafOk, decide_eq_true_eq] at g3
      have m := mul_range (a := pDoughFor (xs[j]).f0 (xs[j]).f1) (b := cs[j]) (m := 8334) (n := 500) (by omega) g2
      refine ev_ifp g1 (Ev.bind (impl_DoughFor_ev _ _) (ev_ifp (by omega) ?_))
      rw [w64 (n := pDoughFor (xs[j]).f0 (xs[j]).f1 * cs[j]) (by omega) (by omega), w64 (n := acc + pDoughFor (xs[j]).f0 (xs[j]).f1 * cs[j]) (by omega) (by omega)]
      refine ev_eq (ih (j + 1) _ (by omega) (by omega) (by omega)) ?_
      have e2 : pLoavesOk (((xs[j]).f0, (xs[j]).f1) :: (pr_impl_Loaf xs).drop (j + 1)) = pLoavesOk ((pr_impl_Loaf xs).drop (j + 1)) := by simp only [pLoavesOk, List.all_cons, g1, Bool.true_and]
      rw [e2]
      simp only [pDfaSum]
      split <;> omega
    · have e2 : pLoavesOk (((xs[j]).f0, (xs[j]).f1) :: (pr_impl_Loaf xs).drop (j + 1)) = false := by simp only [pLoavesOk, List.all_cons, Bool.eq_false_iff.2 g1, Bool.false_and]
      rw [e2, if_neg (by decide)]
      exact ev_ifn g1 (Ev.now _)
theorem impl_DoughForAll_ev (xs : List S36) (cs : List Int) : Ev (fun k => impl_DoughForAll.f k xs cs) (pDoughForAll (pr_impl_Loaf xs) cs) := by
  unfold impl_DoughForAll.f pDoughForAll
  rw [pr_impl_Loaf_length]
  simp only [impl_allIn_eq, Option.bind_some]
  by_cases h : xs.length ≤ 12
  · refine ev_ifn (by omega) ?_
    by_cases h2 : cs.length = xs.length
    · refine ev_ifp (by omega) (ev_succ ?_)
      simp only [impl_DoughForAll.j0]
      by_cases c : pCountsOk cs = true
      · rw [show (cs.all fun x => decide (0 ≤ x ∧ x ≤ 500)) = true from c]
        refine ev_ifn (by decide) (ev_eq (impl_DoughForAll_l0 xs cs h h2 c xs.length 0 0 (by omega) (by omega) (by omega)) ?_)
        rw [List.drop_zero, List.drop_zero]
        by_cases c2 : pLoavesOk (pr_impl_Loaf xs) = true
        · rw [if_pos c2, if_pos ⟨⟨h, h2⟩, c, c2⟩]
          omega
        · rw [if_neg c2, if_neg (fun q => c2 q.2.2)]
      · rw [show (cs.all fun x => decide (0 ≤ x ∧ x ≤ 500)) = false from Bool.eq_false_iff.2 c, if_neg (fun q => c q.2.1)]
        exact ev_ifp (by simp) (Ev.now _)
    · rw [if_neg (fun q => h2 q.1.2)]
      refine ev_ifn (by omega) (ev_succ ?_)
      simp only [impl_DoughForAll.j0]
      exact ev_ifp (by simp) (Ev.now _)
  · rw [if_neg (fun q => h q.1.1)]
    refine ev_ifp (by omega) (ev_succ ?_)
    simp only [impl_DoughForAll.j0]
    exact ev_ifp (by simp) (Ev.now _)
theorem fnp_j0 (a b n x y : Int) (ha : 50 ≤ a ∧ a < 1050) (hb : 0 ≤ b ∧ b < 25) (hn : n = pDoughFor a b) (hn2 : 0 ≤ n ∧ n ≤ 8334) (hx : 0 ≤ x ∧ x < 50) (hy : 0 ≤ y ∧ y < 50) : Ev (fun k => laws_FnPortions.j0 k n x y false a b) true := by
  have hl : pLoafOk a b = true := by simp only [pLoafOk, decide_eq_true_eq]; omega
  have r1 := mul_range hn2 (b := x) (n := 50) (by omega)
  have r2 := mul_range hn2 (b := y) (n := 50) (by omega)
  have e1 : pDoughForAll (pr_impl_Loaf [(⟨a, b⟩ : S36), ⟨a, b⟩]) [x, y] = (x + y) * n := by
    unfold pDoughForAll
    have c1 : pCountsOk [x, y] = true := by simp only [pCountsOk, List.all_cons, List.all_nil, Bool.and_true, Bool.and_eq_true, decide_eq_true_eq]; omega
    have c2 : pLoavesOk (pr_impl_Loaf [(⟨a, b⟩ : S36), ⟨a, b⟩]) = true := by simp [pLoavesOk, pr_impl_Loaf, hl]
    rw [if_pos ⟨⟨by simp [pr_impl_Loaf], by simp [pr_impl_Loaf]⟩, c1, c2⟩]
    simp only [pr_impl_Loaf, List.map_cons, List.map_nil, pDfaSum, ← hn]
    rw [Int.add_mul, Int.mul_comm x n, Int.mul_comm y n]
    omega
  have e2 : pDoughForAll (pr_impl_Loaf ([] : List S36)) [] = 0 := by decide
  have e3 : pBakedWeight a b 0 = 0 := by
    unfold pBakedWeight pBaked
    rw [if_pos ⟨hl, by omega⟩]
    omega
  have e4 : pBakedWeight 500 15 589 = 500 := by decide
  refine ev_succ ?_
  simp only [laws_FnPortions.j0]
  have r3 := mul_range (a := x + y) (b := n) (m := 100) (n := 8334) (by omega) hn2
  refine ev_ifn (by decide) (Ev.bind (impl_DoughForAll_ev _ _) ?_)
  rw [w64 (n := x + y) (by omega) (by omega), w64 (n := (x + y) * n) (by omega) (by omega), e1]
  refine ev_ifp rfl (Ev.bind (impl_DoughForAll_ev _ _) ?_)
  rw [e2]
  refine ev_ifp rfl (ev_const ?_)
  simp only [impl_BakedWeight_eq, impl_LoafOk_eq, Option.bind_some, e3, e4]
  rw [if_pos trivial, if_pos hl]
  rfl
theorem FnPortions : laws_FnPortions.Pure := by
  intro l0 hm _ hx
  refine Ev.rounds (g := fun k => laws_FnPortions.f k l0) ?_
  unfold laws_FnPortions.f
  simp only [laws_big_eq, Option.bind_some]
  by_cases h : (l0.length : Int) > 1048576
  · simp only [decide_eq_true h, if_true]
    exact Ev.now _
  · simp only [decide_eq_false h, Bool.false_eq_true, if_false]
    obtain ⟨a, b, hdr, ha, hb⟩ := spec_DrawLoaf_ev l0 (by omega)
    obtain ⟨v, ev, v0, v1⟩ := laws_at_some l0 0 (by omega) (by omega) hx
    obtain ⟨u, eu, u0, u1⟩ := laws_at_some l0 1 (by omega) (by omega) hx
    obtain ⟨t, et, t0, t1⟩ := laws_at_some l0 2 (by omega) (by omega) hx
    have hl : pLoafOk a b = true := by simp only [pLoafOk, decide_eq_true_eq]; omega
    obtain ⟨p1, p2, p3, p4⟩ := pDoughFor_props hl
    refine Ev.bind hdr (Ev.bind (impl_DoughFor_ev a b) ?_)
    simp only [ev, eu, et, Option.bind_some]
    rw [w64 (n := v * 20) (by omega) (by omega)]
    refine Ev.bind (impl_LoavesFrom_ev a b (v * 20)) ?_
    have ek : pLoavesFrom a b (v * 20) = v * 20 / pDoughFor a b := by unfold pLoavesFrom; rw [if_pos ⟨hl, by omega⟩]
    have eb : pBakedWeight a b (pDoughFor a b) = pBaked b (pDoughFor a b) := by unfold pBakedWeight; rw [if_pos ⟨hl, by omega⟩]
    have eb2 : pBakedWeight a b (pDoughFor a b - 1) = pBaked b (pDoughFor a b - 1) := by unfold pBakedWeight; rw [if_pos ⟨hl, by omega⟩]
    have hb2 : pBaked b (pDoughFor a b - 1) < a := by
      by_cases c : a ≤ pDoughFor a b - 1
      · exact p4 _ c (by omega)
      · have c2 : pDoughFor a b - 1 ≤ a - 1 := by omega
        have c3 := (mul_range (a := pDoughFor a b - 1) (b := b) (m := 8334) (n := 25) (by omega) (by omega)).1
        unfold pBaked
        omega
    simp only [impl_BakedWeight_eq, Option.bind_some]
    rw [w64 (n := pDoughFor a b - 1) (by omega) (by omega), ek, eb, eb2]
    generalize hn : pDoughFor a b = n at *
    have g1 := Int.ediv_mul_le (v * 20) (b := n) (by omega)
    have g2 := Int.lt_ediv_add_one_mul_self (v * 20) (b := n) (by omega)
    have g3 : 0 ≤ v * 20 / n := Int.ediv_nonneg (by omega) (by omega)
    have g4 : v * 20 / n ≤ v * 20 := Int.ediv_le_self _ (by omega)
    generalize v * 20 / n = q at g1 g2 g3 g4 ⊢
    have g5 : (q + 1) * n = q * n + n := by rw [Int.add_mul, Int.one_mul]
    have g6 : 0 ≤ q * n := Int.mul_nonneg g3 (by omega)
    rw [w64 (n := q * n) (by omega) (by omega), w64 (n := q + 1) (by omega) (by omega), w64 (n := (q + 1) * n) (by omega) (by omega), decide_eq_false (show ¬ (q + 1) * n ≤ v * 20 by omega)]
    have m1 := tmod_range (x := u) (n := 50) (by omega) (by omega)
    have m2 := tmod_range (x := t) (n := 50) (by omega) (by omega)
    exact ev_ifn (by omega) (ev_ifn (by omega) (ev_ifn (by omega) (ev_ifn (by omega) (fnp_j0 a b n _ _ ha hb hn.symm (by omega) m1 m2))))
end Go.Proofs.Ytamdbkilpllfoaa.Pure
