/- What is proved: read as plain functions on numbers and lists, the law FnClamped answers true at every input of its kinds; no condition is added. -/
import Derived.Test.YtgboomgnekibfaaPFnClampedx1
import Derived.Test.YtgboomgnekibfaaPlain
set_option linter.unusedVariables false
set_option linter.unusedSimpArgs false
set_option maxRecDepth 20000
namespace Go.Proofs.Ytgboomgnekibfaa.Pure
open Go.RowKit Go.Proofs.Ytgboomgnekibfaa.PFnClamped Go.Proofs.YtgboomgnekibfaaW.PrintWords Go.Proofs.YtgboomgnekibfaaW.PrintLast Go.Proofs.YtgboomgnekibfaaW.PrintMore Go.Proofs.Ytgboomgnekibfaa.Plain
theorem laws_big_eq (xs : List Int) : laws_big.f xs = some (decide ((xs.length : Int) > 1048576)) := rfl
theorem spec_l01New_l0 (xs : List Int) (hn : xs.length ≤ 4611686018427387904) (d : Nat) : ∀ (j : Nat) (h : Int), j + d = xs.length → ∃ h', Ev (fun k => spec_l01New.l0 k xs h j) (xs, 0, h') := by
  induction d with
  | zero =>
    intro j h hj
    refine ⟨h, ev_at 1 fun k => ?_⟩
    simp only [spec_l01New.l0]
    rw [if_neg (by omega)]
  | succ d ih =>
    intro j h hj
    by_cases h4 : (j : Int) < 4000
    · obtain ⟨h', he⟩ := ih (j + 1) (Go.bits .and .i64 (wrap64 ((wrap64 ((wrap64 (h * 131)) + (wrap64 (rd xs j)))) + 7)) 1073741823) (by omega)
      refine ⟨h', Ev.step (f := fun k => spec_l01New.l0 k xs (Go.bits .and .i64 (wrap64 ((wrap64 ((wrap64 (h * 131)) + (wrap64 (rd xs j)))) + 7)) 1073741823) ((j + 1 : Nat) : Int)) (fun k => ?_) he⟩
      simp only [spec_l01New.l0]
      rw [if_pos (by omega), if_pos h4, if_pos (by omega), wnext (n := xs.length) (by omega) hn]
    · refine ⟨h, ev_at 1 fun k => ?_⟩
      simp only [spec_l01New.l0]
      rw [if_pos (by omega), if_neg h4]
theorem spec_l01New_ev (xs : List Int) (hn : xs.length ≤ 4611686018427387904) : ∃ h, Ev (fun k => spec_l01New.f k xs) (xs, 0, h) := by
  unfold spec_l01New.f
  exact spec_l01New_l0 xs hn xs.length 0 _ (by omega)
theorem spec_l01Byte_some (b : List Int) (i h : Int) (hb : b.length ≤ 4611686018427387904) (hi : 0 ≤ i) : ∃ x i' h', spec_l01Byte.f b i h = some (x, i', h') ∧ (0 ≤ x ∧ x ≤ 255) ∧ 0 ≤ i' := by
  unfold spec_l01Byte.f
  by_cases h1 : i < b.length
  · rw [if_pos h1, if_pos hi, w64 (n := i + 1) (by omega) (by omega)]
    exact ⟨_, _, _, rfl, and255 _, by omega⟩
  · rw [if_neg h1]
    exact ⟨_, _, _, rfl, and255 _, hi⟩
theorem spec_l01Below_some (b : List Int) (i h n : Int) (hb : b.length ≤ 4611686018427387904) (hi : 0 ≤ i) : ∃ r i' h', spec_l01Below.f b i h n = some (r, i', h') ∧ 0 ≤ r ∧ (1 ≤ n → r < n) ∧ 0 ≤ i' := by
  unfold spec_l01Below.f
  by_cases h1 : n ≤ 0
  · rw [if_pos h1]
    exact ⟨_, _, _, rfl, by omega, by omega, hi⟩
  · rw [if_neg h1]
    obtain ⟨x, i1, h1', e1, p1, q1⟩ := spec_l01Byte_some b i h hb hi
    by_cases h2 : n ≤ 256
    · rw [if_pos h2, e1]
      simp only [Option.bind_some]
      rw [if_neg (show ¬ n = 0 by omega)]
      have := tmod_range p1.1 (show 1 ≤ n by omega)
      exact ⟨_, _, _, rfl, this.1, fun _ => this.2, q1⟩
    · rw [if_neg h2, e1]
      simp only [Option.bind_some]
      obtain ⟨y, i2, h2', e2, p2, q2⟩ := spec_l01Byte_some b i1 h1' hb q1
      rw [e2]
      simp only [Option.bind_some]
      obtain ⟨z, i3, h3', e3, p3, q3⟩ := spec_l01Byte_some b i2 h2' hb q2
      rw [e3]
      simp only [Option.bind_some]
      obtain ⟨v, i4, h4', e4, p4, q4⟩ := spec_l01Byte_some b i3 h3' hb q3
      rw [e4]
      simp only [Option.bind_some]
      rw [if_neg (show ¬ n = 0 by omega)]
      have h0 : 0 ≤ wrap64 (wrap64 (wrap64 (wrap64 (x * 16777216) + wrap64 (y * 65536)) + wrap64 (z * 256)) + v) := by
        rw [w64 (n := x * 16777216) (by omega) (by omega), w64 (n := y * 65536) (by omega) (by omega), w64 (n := z * 256) (by omega) (by omega), w64 (n := x * 16777216 + y * 65536) (by omega) (by omega), w64 (n := x * 16777216 + y * 65536 + z * 256) (by omega) (by omega), w64 (by omega) (by omega)]
        omega
      have := tmod_range h0 (show 1 ≤ n by omega)
      exact ⟨_, _, _, rfl, this.1, fun _ => this.2, q4⟩
theorem spec_l01Once_some (b : List Int) (i h n : Int) (hb : b.length ≤ 4611686018427387904) (hi : 0 ≤ i) : ∃ r i' h', spec_l01Once.f b i h n = some (r, i', h') ∧ 0 ≤ i' := by
  unfold spec_l01Once.f
  obtain ⟨r, i1, h1, e1, _, _, q1⟩ := spec_l01Below_some b i h n hb hi
  rw [e1]
  simp only [Option.bind_some]
  exact ⟨_, _, _, rfl, q1⟩
theorem spec_l01PickInt_some (b : List Int) (i h : Int) (l : List Int) (hb : b.length ≤ 4611686018427387904) (hi : 0 ≤ i) (hl : 1 ≤ l.length) : ∃ r i' h', spec_l01PickInt.f b i h l = some (r, i', h') ∧ 0 ≤ i' := by
  unfold spec_l01PickInt.f
  obtain ⟨r, i1, h1, e1, p1, p2, q1⟩ := spec_l01Below_some b i h l.length hb hi
  rw [e1]
  simp only [Option.bind_some]
  rw [if_pos p1, if_pos (p2 (by omega))]
  exact ⟨_, _, _, rfl, q1⟩
theorem spec_l01Number_some (b : List Int) (i h : Int) (hb : b.length ≤ 4611686018427387904) (hi : 0 ≤ i) : ∃ r i' h', spec_l01Number.f b i h = some (r, i', h') ∧ 0 ≤ i' := by
  unfold spec_l01Number.f
  obtain ⟨r, i1, h1, e1, p1, p2, q1⟩ := spec_l01Below_some b i h 4 hb hi
  rw [e1]
  simp only [Option.bind_some]
  by_cases c0 : r = 0
  · rw [if_pos c0]
    obtain ⟨r2, i2, h2, e2, q2⟩ := spec_l01PickInt_some b i1 h1 ([(-1), 0, 127, 128, 16383, 16384, 1000000000, 1000000001, 9223372036854775807, (-9223372036854775808)] : List Int) hb q1 (by simp)
    rw [e2]
    exact ⟨_, _, _, rfl, q2⟩
  · rw [if_neg c0]
    by_cases c1 : r = 1
    · rw [if_pos c1]
      obtain ⟨r2, i2, h2, e2, _, _, q2⟩ := spec_l01Below_some b i1 h1 1000000000 hb q1
      rw [e2]
      exact ⟨_, _, _, rfl, q2⟩
    · rw [if_neg c1]
      obtain ⟨r2, i2, h2, e2, _, _, q2⟩ := spec_l01Below_some b i1 h1 400 hb q1
      rw [e2]
      exact ⟨_, _, _, rfl, q2⟩
theorem spec_DrawClamp_ev (xs : List Int) (hb : xs.length ≤ 4611686018427387904) : ∃ n a b, Ev (fun k => spec_DrawClamp.f k xs) (n, a, b) := by
  obtain ⟨h, hN⟩ := spec_l01New_ev xs hb
  unfold spec_DrawClamp.f
  obtain ⟨o, i1, h1, e1, q1⟩ := spec_l01Once_some xs 0 h 4 hb (by omega)
  cases o with
  | true =>
    obtain ⟨n, i2, h2, e2, q2⟩ := spec_l01Number_some xs i1 h1 hb q1
    obtain ⟨a, i3, h3, e3, q3⟩ := spec_l01Number_some xs i2 h2 hb q2
    obtain ⟨b, i4, h4, e4, q4⟩ := spec_l01Number_some xs i3 h3 hb q3
    refine ⟨n, a, b, Ev.bind hN (ev_const ?_)⟩
    simp only [e1, e2, e3, e4, Option.bind_some, if_true]
  | false =>
    obtain ⟨n, i2, h2, e2, _, _, q2⟩ := spec_l01Below_some xs i1 h1 40 hb q1
    obtain ⟨a, i3, h3, e3, _, _, q3⟩ := spec_l01Below_some xs i2 h2 80 hb q2
    obtain ⟨b, i4, h4, e4, _, _, q4⟩ := spec_l01Below_some xs i3 h3 30 hb q3
    refine ⟨wrap64 (a - 40), wrap64 (n - 20), wrap64 (wrap64 (wrap64 (n - 20) + b) - 3), Ev.bind hN (ev_const ?_)⟩
    simp only [e1, e2, e3, e4, Option.bind_some, Bool.false_eq_true, if_false]
theorem impl_Clamp_eq (n a b : Int) : impl_Clamp.f n a b = some (pClamp n a b) := by
  unfold impl_Clamp.f pClamp mx mn
  congr 1
  (repeat' split) <;> omega
theorem FnClamped : laws_FnClamped.Pure := by
  intro l0 hm _ _
  refine Ev.rounds (g := fun k => laws_FnClamped.f k l0) ?_
  unfold laws_FnClamped.f
  simp only [laws_big_eq, Option.bind_some]
  by_cases h : (l0.length : Int) > 1048576
  · simp only [decide_eq_true h, if_true]
    exact Ev.now _
  · simp only [decide_eq_false h, Bool.false_eq_true, if_false]
    obtain ⟨n, a, b, hd⟩ := spec_DrawClamp_ev l0 (by omega)
    refine Ev.bind hd (ev_const ?_)
    simp only [impl_Clamp_eq, Option.bind_some]
    have e7 : (pClamp 7 3 5 == 5) = true := by decide
    rw [e7]
    by_cases c1 : b < a
    · rw [if_pos c1, if_pos (by unfold pClamp; rw [if_pos c1])]
    · have c2 : pClamp n a b ≥ a := by unfold pClamp; (repeat' split) <;> omega
      have c3 : pClamp n a b ≤ b := by unfold pClamp; (repeat' split) <;> omega
      have c4 : pClamp (pClamp n a b) a b = pClamp n a b := by
        generalize pClamp n a b = x at c2 c3
        unfold pClamp
        (repeat' split) <;> omega
      rw [if_neg c1, if_pos c2, if_pos c3, if_pos c4]
      by_cases c5 : n < a
      · rw [if_pos c5]
      · by_cases c6 : n > b
        · rw [if_neg c5, if_pos c6]
        · rw [if_neg c5, if_neg c6, if_pos (by unfold pClamp; rw [if_neg c1, if_neg c5, if_neg c6])]
end Go.Proofs.Ytgboomgnekibfaa.Pure
