/- What is proved: read as plain functions on numbers and lists, the law FnDoughs answers true at every input of its kinds; no condition is added. -/
import Derived.Test.YthonmildlahjdaaPFnDoughsx3
import Derived.Test.YthonmildlahjdaaPlain
set_option linter.unusedVariables false
set_option linter.unusedSimpArgs false
set_option maxRecDepth 20000
namespace Go.Proofs.Ythonmildlahjdaa.Pure
open Go.RowKit Go.Proofs.Ythonmildlahjdaa.PFnDoughs Go.Proofs.YthonmildlahjdaaW.PrintWords Go.Proofs.YthonmildlahjdaaW.PrintLast Go.Proofs.YthonmildlahjdaaW.PrintMore Go.Proofs.Ythonmildlahjdaa.Plain
theorem laws_big_eq (xs : List Int) : laws_big.f xs = some (decide ((xs.length : Int) > 1048576)) := rfl
theorem laws_at_some (xs : List Int) (a : Int) (hb : xs.length ≤ 1048576) (ha : 0 ≤ a ∧ a ≤ 1000) (hx : ∀ x ∈ xs, (Lit.int .u8 x).wf = true) : ∃ v, laws_at.f xs a = some v ∧ 0 ≤ v ∧ v ≤ 255 := by
  unfold laws_at.f
  by_cases h : (xs.length : Int) = 0
  · rw [if_pos h]
    exact ⟨0, rfl, by omega, by omega⟩
  · rw [if_neg h, w64 (n := a * 5) (by omega) (by omega), w64 (n := a * 5 + 1) (by omega) (by omega)]
    have h2 := tmod_range (x := a * 5 + 1) (n := (xs.length : Int)) (by omega) (by omega)
    rw [if_pos h2.1, if_pos h2.2]
    obtain ⟨j, hj⟩ := Int.eq_ofNat_of_zero_le h2.1
    rw [hj] at h2 ⊢
    have hj2 : j < xs.length := by omega
    rw [rd_nat xs j hj2]
    have h3 := wf8 (hx _ (List.getElem_mem hj2))
    exact ⟨_, rfl, by rw [w64 (by omega) (by omega)]; exact h3⟩
theorem spec_l01New_l0 (xs : List Int) (hn : xs.length ≤ 4611686018427387904) (d : Nat) : ∀ (j : Nat) (h : Int), j + d = xs.length → ∃ h', Ev (fun k => spec_l01New.l0 k xs h j) (xs, 0, h') := by
  induction d with
  | zero =>
    intro j h hj
    refine ⟨h, ev_at 1 fun k => ?_⟩
    simp only [spec_l01New.l0]
    rw [if_neg (by omega)]
  | succ d ih =>
    intro j h hj
    by_cases h4 : (j : Int) < 4000
    · obtain ⟨h', he⟩ := ih (j + 1) (Go.bits .and .i64 (wrap64 ((wrap64 ((wrap64 (h * 131)) + (wrap64 (rd xs j)))) + 7)) 1073741823) (by omega)
      refine ⟨h', Ev.step (f := fun k => spec_l01New.l0 k xs (Go.bits .and .i64 (wrap64 ((wrap64 ((wrap64 (h * 131)) + (wrap64 (rd xs j)))) + 7)) 1073741823) ((j + 1 : Nat) : Int)) (fun k => ?_) he⟩
      simp only [spec_l01New.l0]
      rw [if_pos (by omega), if_pos h4, if_pos (by omega), wnext (n := xs.length) (by omega) hn]
    · refine ⟨h, ev_at 1 fun k => ?_⟩
      simp only [spec_l01New.l0]
      rw [if_pos (by omega), if_neg h4]
theorem spec_l01New_ev (xs : List Int) (hn : xs.length ≤ 4611686018427387904) : ∃ h, Ev (fun k => spec_l01New.f k xs) (xs, 0, h) := by
  unfold spec_l01New.f
  exact spec_l01New_l0 xs hn xs.length 0 _ (by omega)
theorem spec_l01Byte_some (b : List Int) (i h : Int) (hb : b.length ≤ 4611686018427387904) (hi : 0 ≤ i) : ∃ x i' h', spec_l01Byte.f b i h = some (x, i', h') ∧ (0 ≤ x ∧ x ≤ 255) ∧ 0 ≤ i' := by
  unfold spec_l01Byte.f
  by_cases h1 : i < b.length
  · rw [if_pos h1, if_pos hi, w64 (n := i + 1) (by omega) (by omega)]
    exact ⟨_, _, _, rfl, and255 _, by omega⟩
  · rw [if_neg h1]
    exact ⟨_, _, _, rfl, and255 _, hi⟩
theorem spec_l01Below_some (b : List Int) (i h n : Int) (hb : b.length ≤ 4611686018427387904) (hi : 0 ≤ i) : ∃ r i' h', spec_l01Below.f b i h n = some (r, i', h') ∧ 0 ≤ r ∧ (1 ≤ n → r < n) ∧ 0 ≤ i' := by
  unfold spec_l01Below.f
  by_cases h1 : n ≤ 0
  · rw [if_pos h1]
    exact ⟨_, _, _, rfl, by omega, by omega, hi⟩
  · rw [if_neg h1]
    obtain ⟨x, i1, h1', e1, p1, q1⟩ := spec_l01Byte_some b i h hb hi
    by_cases h2 : n ≤ 256
    · rw [if_pos h2, e1]
      simp only [Option.bind_some]
      rw [if_neg (show ¬ n = 0 by omega)]
      have := tmod_range p1.1 (show 1 ≤ n by omega)
      exact ⟨_, _, _, rfl, this.1, fun _ => this.2, q1⟩
    · rw [if_neg h2, e1]
      simp only [Option.bind_some]
      obtain ⟨y, i2, h2', e2, p2, q2⟩ := spec_l01Byte_some b i1 h1' hb q1
      rw [e2]
      simp only [Option.bind_some]
      obtain ⟨z, i3, h3', e3, p3, q3⟩ := spec_l01Byte_some b i2 h2' hb q2
      rw [e3]
      simp only [Option.bind_some]
      obtain ⟨v, i4, h4', e4, p4, q4⟩ := spec_l01Byte_some b i3 h3' hb q3
      rw [e4]
      simp only [Option.bind_some]
      rw [if_neg (show ¬ n = 0 by omega)]
      have h0 : 0 ≤ wrap64 (wrap64 (wrap64 (wrap64 (x * 16777216) + wrap64 (y * 65536)) + wrap64 (z * 256)) + v) := by
        rw [w64 (n := x * 16777216) (by omega) (by omega), w64 (n := y * 65536) (by omega) (by omega), w64 (n := z * 256) (by omega) (by omega), w64 (n := x * 16777216 + y * 65536) (by omega) (by omega), w64 (n := x * 16777216 + y * 65536 + z * 256) (by omega) (by omega), w64 (by omega) (by omega)]
        omega
      have := tmod_range h0 (show 1 ≤ n by omega)
      exact ⟨_, _, _, rfl, this.1, fun _ => this.2, q4⟩
theorem spec_l02Dough_some (b : List Int) (i h : Int) (hb : b.length ≤ 4611686018427387904) (hi : 0 ≤ i) : ∃ x y z i' h', spec_l02Dough.f b i h = some (x, y, z, i', h') ∧ (550 ≤ x ∧ x < 800) ∧ (15 ≤ y ∧ y < 25) ∧ (0 ≤ z ∧ z < 250) ∧ 0 ≤ i' := by
  unfold spec_l02Dough.f
  obtain ⟨x, i1, h1, e1, p1, p1', q1⟩ := spec_l01Below_some b i h 250 hb hi
  rw [e1]
  simp only [Option.bind_some]
  obtain ⟨y, i2, h2, e2, p2, p2', q2⟩ := spec_l01Below_some b i1 h1 10 hb q1
  rw [e2]
  simp only [Option.bind_some]
  obtain ⟨z, i3, h3, e3, p3, p3', q3⟩ := spec_l01Below_some b i2 h2 250 hb q2
  rw [e3]
  simp only [Option.bind_some]
  have := p1' (by omega)
  have := p2' (by omega)
  have := p3' (by omega)
  rw [w64 (n := 550 + x) (by omega) (by omega), w64 (n := 15 + y) (by omega) (by omega)]
  exact ⟨_, _, _, _, _, rfl, by omega, by omega, by omega, q3⟩
theorem spec_DrawDough_ev (xs : List Int) (hb : xs.length ≤ 4611686018427387904) : ∃ x y z, Ev (fun k => spec_DrawDough.f k xs) (x, y, z) ∧ (550 ≤ x ∧ x < 800) ∧ (15 ≤ y ∧ y < 25) ∧ (0 ≤ z ∧ z < 250) := by
  obtain ⟨h, hN⟩ := spec_l01New_ev xs hb
  unfold spec_DrawDough.f
  obtain ⟨x, y, z, i1, h1, e1, r1, r2, r3, _⟩ := spec_l02Dough_some xs 0 h hb (by omega)
  refine ⟨x, y, z, Ev.bind hN (ev_const ?_), r1, r2, r3⟩
  simp only [e1, Option.bind_some]
theorem impl_in_eq (a b c : Int) : impl_in.f a b c = some (decide (b ≤ a ∧ a ≤ c)) := by
  unfold impl_in.f
  by_cases h : b ≤ a <;> simp [h]
theorem impl_DoughOk_eq (a b c : Int) : impl_DoughOk.f a b c = some (pDoughOk a b c) := by
  unfold impl_DoughOk.f pDoughOk
  simp only [impl_in_eq, Option.bind_some, decide_eq_true_eq]
  by_cases h : 300 ≤ a ∧ a ≤ 1200 <;> by_cases h2 : 0 ≤ b ∧ b ≤ 50 <;> simp [h, h2]
theorem impl_WholeParts_eq (a b c : Int) : impl_WholeParts.f a b c = some (pWholeParts a b c) := by
  unfold impl_WholeParts.f pWholeParts
  simp only [impl_DoughOk_eq, Option.bind_some]
  by_cases h : pDoughOk a b c = true
  · rw [if_pos h, if_pos h, wholeParts_arith h]
  · rw [if_neg h, if_neg h]
theorem impl_up_eq {a b : Int} (h : 0 ≤ a ∧ a ≤ 1000000000) (h2 : 1 ≤ b ∧ b ≤ 1000000) : impl_up.f a b = some (pUp a b) := by
  unfold impl_up.f
  rw [if_neg (by omega), up_arith h h2]
theorem impl_FlourFor_ev (a b c w : Int) : Ev (fun k => impl_FlourFor.f k a b c w) (pFlourFor a b c w) := ev_at 1 fun k => by
  unfold impl_FlourFor.f pFlourFor
  simp only [impl_WholeParts_eq, impl_DoughOk_eq, impl_in_eq, Option.bind_some, impl_FlourFor.j0]
  by_cases h : pDoughOk a b c = true
  · have h3 := h
    simp only [pDoughOk, decide_eq_true_eq] at h3
    have e : pWholeParts a b c = 1000 + a + b + c := by unfold pWholeParts; rw [if_pos h]
    by_cases h2 : 0 ≤ w ∧ w ≤ 1000000
    · rw [e, w64 (n := 1000 * w) (by omega) (by omega), impl_up_eq (by omega) (by omega)]
      simp [h, h2]
    · simp [h, h2]
  · simp [h]
theorem impl_PartOf_eq (a b : Int) : impl_PartOf.f a b = some (pPartOf a b) := by
  unfold impl_PartOf.f pPartOf
  simp only [impl_in_eq, Option.bind_some, decide_eq_true_eq]
  by_cases h : 0 ≤ a ∧ a ≤ 1000000
  · by_cases h2 : 0 ≤ b ∧ b ≤ 2000
    · rw [if_pos h, if_pos h2, if_pos ⟨h, h2⟩, partOf_arith h h2]
    · rw [if_pos h, if_neg h2, if_neg (fun c => h2 c.2)]
  · rw [if_neg h, if_neg (fun c => h c.1)]
theorem impl_Amounts_ev (a b c f : Int) : Ev (fun k => impl_Amounts.f k a b c f) (pAmounts a b c f) := ev_at 1 fun k => by
  unfold impl_Amounts.f pAmounts
  simp only [impl_DoughOk_eq, impl_in_eq, impl_PartOf_eq, Option.bind_some, impl_Amounts.j0]
  by_cases h : pDoughOk a b c = true
  · by_cases h2 : 0 ≤ f ∧ f ≤ 1000000 <;> simp [h, h2]
  · simp [h]
theorem impl_sum_l0 (xs : List Int) (hn : xs.length ≤ 1048576) (d : Nat) : ∀ (j : Nat) (acc : Int), j + d = xs.length → Ev (fun k => impl_sum.l0 k acc xs (xs.length : Int) j) (pSumW acc (xs.drop j)) := by
  induction d with
  | zero =>
    intro j acc hj
    refine ev_succ ?_
    simp only [impl_sum.l0]
    rw [List.drop_of_length_le (by omega)]
    exact ev_ifn (by omega) (Ev.now _)
  | succ d ih =>
    intro j acc hj
    refine ev_succ ?_
    simp only [impl_sum.l0]
    rw [List.drop_eq_getElem_cons (show j < xs.length by omega), rd_nat xs j (by omega), wnext (n := xs.length) (by omega) (by omega)]
    exact ev_ifp (by omega) (ev_ifp (by omega) (ev_ifp (by omega) (ih (j + 1) _ (by omega))))
theorem impl_sum_ev (xs : List Int) (hn : xs.length ≤ 1048576) : Ev (fun k => impl_sum.f k xs) (pSumW 0 xs) := by
  unfold impl_sum.f
  exact ev_eq (impl_sum_l0 xs hn xs.length 0 0 (by omega)) (by simp)
theorem impl_DoughWeight_ev (a b c f : Int) : Ev (fun k => impl_DoughWeight.f k a b c f) (pDoughWeight a b c f) := by
  unfold impl_DoughWeight.f pDoughWeight
  have hl : (pAmounts a b c f).length ≤ 4 := by unfold pAmounts; split <;> simp
  refine Ev.bind (impl_Amounts_ev a b c f) ?_
  by_cases h : (pAmounts a b c f).isEmpty = true
  · rw [if_pos h]
    exact ev_ifp h (Ev.now _)
  · rw [if_neg h]
    exact ev_ifn h (impl_sum_ev _ (by omega))
theorem cmp_isNaN_int_eq (a : Int) : cmp_isNaN_int.f a = some false := by
  unfold cmp_isNaN_int.f
  simp
theorem impl_Firmer_eq (a b c a2 b2 c2 : Int) : impl_Firmer.f a b c a2 b2 c2 = some (pFirmer a b c a2 b2 c2) := by
  unfold impl_Firmer.f pFirmer cmp_Compare_int.f
  simp only [impl_DoughOk_eq, cmp_isNaN_int_eq, Option.bind_some]
  by_cases h : pDoughOk a b c = true
  · by_cases h2 : pDoughOk a2 b2 c2 = true
    · simp only [h, h2, if_true, and_self, Bool.false_eq_true, if_false]
      by_cases h3 : a < a2
      · simp [h3]
      · by_cases h4 : a2 < a <;> simp [h3, h4]
    · simp [h, h2]
  · simp [h]
theorem fnd_j0 (a b c w f : Int) (ha : 550 ≤ a ∧ a < 800) (hb : 15 ≤ b ∧ b < 25) (hc : 0 ≤ c ∧ c < 250) (hw : 0 ≤ w ∧ w ≤ 2295) (hf : 0 ≤ f ∧ f ≤ 1000000) (h1 : 1000 * w ≤ f * (1000 + a + b + c)) : Ev (fun k => laws_FnDoughs.j0 k w f [f, pPartOf f a, pPartOf f b, pPartOf f c] false a b c) true := by
  have hd : pDoughOk a b c = true := by simp only [pDoughOk, decide_eq_true_eq]; omega
  have hd2 : pDoughOk (a - 1) b c = true := by simp only [pDoughOk, decide_eq_true_eq]; omega
  have am : pAmounts a b c f = [f, pPartOf f a, pPartOf f b, pPartOf f c] := by unfold pAmounts; rw [if_pos ⟨hd, hf⟩]
  have ea : pPartOf f a = (f * a + 500) / 1000 := by unfold pPartOf; rw [if_pos ⟨hf, by omega⟩]
  have eb : pPartOf f b = (f * b + 500) / 1000 := by unfold pPartOf; rw [if_pos ⟨hf, by omega⟩]
  have ec : pPartOf f c = (f * c + 500) / 1000 := by unfold pPartOf; rw [if_pos ⟨hf, by omega⟩]
  have e20 : pPartOf f 20 = (f * 20 + 500) / 1000 := by unfold pPartOf; rw [if_pos ⟨hf, by omega⟩]
  have ra := mul_range hf (b := a) (n := 2000) (by omega)
  have rb := mul_range hf (b := b) (n := 2000) (by omega)
  have rc := mul_range hf (b := c) (n := 2000) (by omega)
  have hp : f * (1000 + a + b + c) = f * 1000 + f * a + f * b + f * c := by rw [Int.mul_add, Int.mul_add, Int.mul_add]
  have ew : pDoughWeight a b c f = f + pPartOf f a + pPartOf f b + pPartOf f c := by
    unfold pDoughWeight
    rw [am]
    simp only [List.isEmpty_cons, Bool.false_eq_true, if_false, pSumW]
    rw [w64 (n := 0 + f) (by omega) (by omega), w64 (n := 0 + f + pPartOf f a) (by omega) (by omega), w64 (n := 0 + f + pPartOf f a + pPartOf f b) (by omega) (by omega), w64 (n := 0 + f + pPartOf f a + pPartOf f b + pPartOf f c) (by omega) (by omega)]
    omega
  have er : ∀ (x y z v : Int), rd [x, y, z, v] 0 = x ∧ rd [x, y, z, v] 1 = y ∧ rd [x, y, z, v] 2 = z ∧ rd [x, y, z, v] 3 = v := fun x y z v => ⟨rfl, rfl, rfl, rfl⟩
  obtain ⟨r0, r1, r2, r3⟩ := er f (pPartOf f a) (pPartOf f b) (pPartOf f c)
  refine ev_succ ?_
  simp only [laws_FnDoughs.j0]
  refine ev_ifn (by decide) (Ev.bind (impl_DoughWeight_ev a b c f) ?_)
  simp only [impl_PartOf_eq, impl_Firmer_eq, impl_DoughOk_eq, Option.bind_some]
  rw [r0, r1, r2, r3, w64 (n := f + pPartOf f a) (by omega) (by omega), w64 (n := f + pPartOf f a + pPartOf f b) (by omega) (by omega), w64 (n := f + pPartOf f a + pPartOf f b + pPartOf f c) (by omega) (by omega),
    w64 (n := w - 2) (by omega) (by omega), w64 (n := 1000 * pPartOf f 20) (by omega) (by omega), w64 (n := 20 * f) (by omega) (by omega), w64 (n := 20 * f + 500) (by omega) (by omega), w64 (n := 20 * f - 501) (by omega) (by omega), w64 (n := a - 1) (by omega) (by omega)]
  have f1 : pFirmer (a - 1) b c a b c = -1 := by unfold pFirmer; rw [if_pos ⟨hd2, hd⟩, if_pos (by omega)]
  have f2 : pFirmer a b c (a - 1) b c = 1 := by unfold pFirmer; rw [if_pos ⟨hd, hd2⟩, if_neg (by omega), if_pos (by omega)]
  have f3 : pFirmer a b c a b c = 0 := by unfold pFirmer; rw [if_pos ⟨hd, hd⟩, if_neg (by omega), if_neg (by omega)]
  have f4 : pPartOf 1000 655 = 655 := by decide
  rw [f1, f2, f3, f4, ew]
  simp only [List.length_cons, List.length_nil]
  refine ev_const ?_
  rw [if_pos (by omega), if_pos (by omega), if_pos (by omega), if_pos (by omega), if_pos trivial, if_pos (by omega), if_pos (by omega), if_pos (by omega), if_pos trivial, if_pos trivial, if_pos trivial, if_pos hd]
  rfl
theorem FnDoughs : laws_FnDoughs.Pure := by
  intro l0 hm _ hx
  refine Ev.rounds (g := fun k => laws_FnDoughs.f k l0) ?_
  unfold laws_FnDoughs.f
  simp only [laws_big_eq, Option.bind_some]
  by_cases h : (l0.length : Int) > 1048576
  · simp only [decide_eq_true h, if_true]
    exact Ev.now _
  · simp only [decide_eq_false h, Bool.false_eq_true, if_false]
    obtain ⟨a, b, c, hdr, ha, hb, hc⟩ := spec_DrawDough_ev l0 (by omega)
    obtain ⟨v, ev, v0, v1⟩ := laws_at_some l0 0 (by omega) (by omega) hx
    have hd : pDoughOk a b c = true := by simp only [pDoughOk, decide_eq_true_eq]; omega
    refine Ev.bind hdr ?_
    simp only [ev, Option.bind_some]
    rw [w64 (n := v * 9) (by omega) (by omega)]
    generalize hw : v * 9 = w
    refine Ev.bind (impl_FlourFor_ev a b c w) ?_
    have ef : pFlourFor a b c w = (1000 * w + (1000 + a + b + c) - 1) / (1000 + a + b + c) := by unfold pFlourFor; rw [if_pos ⟨hd, by omega⟩]; rfl
    rw [ef]
    have g1 := Int.ediv_mul_le (1000 * w + (1000 + a + b + c) - 1) (b := 1000 + a + b + c) (by omega)
    have g2 := Int.lt_ediv_add_one_mul_self (1000 * w + (1000 + a + b + c) - 1) (b := 1000 + a + b + c) (by omega)
    have g3 : 0 ≤ (1000 * w + (1000 + a + b + c) - 1) / (1000 + a + b + c) := Int.ediv_nonneg (by omega) (by omega)
    generalize (1000 * w + (1000 + a + b + c) - 1) / (1000 + a + b + c) = f at g1 g2 g3 ⊢
    have g4 : f * 1565 ≤ f * (1000 + a + b + c) := Int.mul_le_mul_of_nonneg_left (by omega) g3
    have g5 : (f + 1) * (1000 + a + b + c) = f * (1000 + a + b + c) + (1000 + a + b + c) := by rw [Int.add_mul, Int.one_mul]
    have g6 : (f - 1) * (1000 + a + b + c) = f * (1000 + a + b + c) - (1000 + a + b + c) := by rw [Int.sub_mul, Int.one_mul]
    have hf : 0 ≤ f ∧ f ≤ 1000000 := by omega
    have am : pAmounts a b c f = [f, pPartOf f a, pPartOf f b, pPartOf f c] := by unfold pAmounts; rw [if_pos ⟨hd, hf⟩]
    have ep : pWholeParts a b c = 1000 + a + b + c := by unfold pWholeParts; rw [if_pos hd]
    have fin := fnd_j0 a b c w f ha hb hc (by omega) hf (by omega)
    simp only [impl_WholeParts_eq, impl_PartOf_eq, Option.bind_some]
    refine Ev.bind (impl_Amounts_ev a b c f) ?_
    rw [am, ep, wholeParts_arith hd]
    have er : ∀ (x y z v : Int), rd [x, y, z, v] 0 = x ∧ rd [x, y, z, v] 1 = y ∧ rd [x, y, z, v] 2 = z ∧ rd [x, y, z, v] 3 = v := fun x y z v => ⟨rfl, rfl, rfl, rfl⟩
    obtain ⟨r0, r1, r2, r3⟩ := er f (pPartOf f a) (pPartOf f b) (pPartOf f c)
    rw [r0, r1, r2, r3, show (pPartOf f c != pPartOf f c) = false by simp]
    rw [w64 (n := f * (1000 + a + b + c)) (by omega) (by omega), Int.tdiv_eq_ediv_of_nonneg (show 0 ≤ f * (1000 + a + b + c) by omega), w64 (n := f * (1000 + a + b + c) / 1000) (by omega) (by omega), w64 (n := f - 1) (by omega) (by omega)]
    simp only [List.length_cons, List.length_nil]
    refine ev_ifp trivial (ev_ifn (by omega) (ev_ifn (by omega) ?_))
    by_cases h0 : f > 0
    · have g7 : 0 ≤ (f - 1) * (1000 + a + b + c) := Int.mul_nonneg (by omega) (by omega)
      rw [w64 (n := (f - 1) * (1000 + a + b + c)) (by omega) (by omega), Int.tdiv_eq_ediv_of_nonneg g7, w64 (n := (f - 1) * (1000 + a + b + c) / 1000) (by omega) (by omega)]
      exact ev_ifp h0 (ev_ifn (by omega) (ev_ifp (by omega) (ev_ifp (by omega) (ev_ifp trivial (ev_ifp (by omega) (ev_ifp trivial (ev_ifp (by omega) (ev_ifp trivial (ev_ifp (by omega) fin)))))))))
    · exact ev_ifn h0 (ev_ifp (by omega) (ev_ifp (by omega) (ev_ifp trivial (ev_ifp (by omega) (ev_ifp trivial (ev_ifp (by omega) (ev_ifp trivial (ev_ifp (by omega) fin))))))))
end Go.Proofs.Ythonmildlahjdaa.Pure
