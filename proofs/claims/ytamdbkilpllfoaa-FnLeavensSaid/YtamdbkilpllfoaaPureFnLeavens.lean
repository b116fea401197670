/- What is proved: read as plain functions on numbers and lists, the law FnLeavens answers true at every input of its kinds; no condition is added. -/
import Derived.Test.YtamdbkilpllfoaaPFnLeavensx4
import Derived.Test.YtamdbkilpllfoaaPlain
set_option linter.unusedVariables false
set_option linter.unusedSimpArgs false
set_option maxRecDepth 20000
namespace Go.Proofs.Ytamdbkilpllfoaa.Pure
open Go.RowKit Go.Proofs.Ytamdbkilpllfoaa.PFnLeavens Go.Proofs.YtamdbkilpllfoaaW.PrintWords Go.Proofs.YtamdbkilpllfoaaW.PrintLast Go.Proofs.YtamdbkilpllfoaaW.PrintMore Go.Proofs.Ytamdbkilpllfoaa.Plain
theorem laws_big_eq (xs : List Int) : laws_big.f xs = some (decide ((xs.length : Int) > 1048576)) := rfl
theorem laws_at_some (xs : List Int) (a : Int) (hb : xs.length ≤ 1048576) (ha : 0 ≤ a ∧ a ≤ 1000) (hx : ∀ x ∈ xs, (Lit.int .u8 x).wf = true) : ∃ v, laws_at.f xs a = some v ∧ 0 ≤ v ∧ v ≤ 255 := by
  unfold laws_at.f
  by_cases h : (xs.length : Int) = 0
  · rw [if_pos h]
    exact ⟨0, rfl, by omega, by omega⟩
  · rw [if_neg h, w64 (n := a * 5) (by omega) (by omega), w64 (n := a * 5 + 1) (by omega) (by omega)]
    have h2 := tmod_range (x := a * 5 + 1) (n := (xs.length : Int)) (by omega) (by omega)
    rw [if_pos h2.1, if_pos h2.2]
    obtain ⟨j, hj⟩ := Int.eq_ofNat_of_zero_le h2.1
    rw [hj] at h2 ⊢
    have hj2 : j < xs.length := by omega
    rw [rd_nat xs j hj2]
    have h3 := wf8 (hx _ (List.getElem_mem hj2))
    exact ⟨_, rfl, by rw [w64 (by omega) (by omega)]; exact h3⟩
theorem spec_l01New_l0 (xs : List Int) (hn : xs.length ≤ 4611686018427387904) (d : Nat) : ∀ (j : Nat) (h : Int), j + d = xs.length → ∃ h', Ev (fun k => spec_l01New.l0 k xs h j) (xs, 0, h') := by
  induction d with
  | zero =>
    intro j h hj
    refine ⟨h, ev_at 1 fun k => ?_⟩
    simp only [spec_l01New.l0]
    rw [if_neg (by omega)]
  | succ d ih =>
    intro j h hj
    by_cases h4 : (j : Int) < 4000
    · obtain ⟨h', he⟩ := ih (j + 1) (Go.bits .and .i64 (wrap64 ((wrap64 ((wrap64 (h * 131)) + (wrap64 (rd xs j)))) + 7)) 1073741823) (by omega)
      refine ⟨h', Ev.step (f := fun k => spec_l01New.l0 k xs (Go.bits .and .i64 (wrap64 ((wrap64 ((wrap64 (h * 131)) + (wrap64 (rd xs j)))) + 7)) 1073741823) ((j + 1 : Nat) : Int)) (fun k => ?_) he⟩
      simp only [spec_l01New.l0]
      rw [if_pos (by omega), if_pos h4, if_pos (by omega), wnext (n := xs.length) (by omega) hn]
    · refine ⟨h, ev_at 1 fun k => ?_⟩
      simp only [spec_l01New.l0]
      rw [if_pos (by omega), if_neg h4]
theorem spec_l01New_ev (xs : List Int) (hn : xs.length ≤ 4611686018427387904) : ∃ h, Ev (fun k => spec_l01New.f k xs) (xs, 0, h) := by
  unfold spec_l01New.f
  exact spec_l01New_l0 xs hn xs.length 0 _ (by omega)
theorem spec_l01Byte_some (b : List Int) (i h : Int) (hb : b.length ≤ 4611686018427387904) (hi : 0 ≤ i) : ∃ x i' h', spec_l01Byte.f b i h = some (x, i', h') ∧ (0 ≤ x ∧ x ≤ 255) ∧ 0 ≤ i' := by
  unfold spec_l01Byte.f
  by_cases h1 : i < b.length
  · rw [if_pos h1, if_pos hi, w64 (n := i + 1) (by omega) (by omega)]
    exact ⟨_, _, _, rfl, and255 _, by omega⟩
  · rw [if_neg h1]
    exact ⟨_, _, _, rfl, and255 _, hi⟩
theorem spec_l01Below_some (b : List Int) (i h n : Int) (hb : b.length ≤ 4611686018427387904) (hi : 0 ≤ i) : ∃ r i' h', spec_l01Below.f b i h n = some (r, i', h') ∧ 0 ≤ r ∧ (1 ≤ n → r < n) ∧ 0 ≤ i' := by
  unfold spec_l01Below.f
  by_cases h1 : n ≤ 0
  · rw [if_pos h1]
    exact ⟨_, _, _, rfl, by omega, by omega, hi⟩
  · rw [if_neg h1]
    obtain ⟨x, i1, h1', e1, p1, q1⟩ := spec_l01Byte_some b i h hb hi
    by_cases h2 : n ≤ 256
    · rw [if_pos h2, e1]
      simp only [Option.bind_some]
      rw [if_neg (show ¬ n = 0 by omega)]
      have := tmod_range p1.1 (show 1 ≤ n by omega)
      exact ⟨_, _, _, rfl, this.1, fun _ => this.2, q1⟩
    · rw [if_neg h2, e1]
      simp only [Option.bind_some]
      obtain ⟨y, i2, h2', e2, p2, q2⟩ := spec_l01Byte_some b i1 h1' hb q1
      rw [e2]
      simp only [Option.bind_some]
      obtain ⟨z, i3, h3', e3, p3, q3⟩ := spec_l01Byte_some b i2 h2' hb q2
      rw [e3]
      simp only [Option.bind_some]
      obtain ⟨v, i4, h4', e4, p4, q4⟩ := spec_l01Byte_some b i3 h3' hb q3
      rw [e4]
      simp only [Option.bind_some]
      rw [if_neg (show ¬ n = 0 by omega)]
      have h0 : 0 ≤ wrap64 (wrap64 (wrap64 (wrap64 (x * 16777216) + wrap64 (y * 65536)) + wrap64 (z * 256)) + v) := by
        rw [w64 (n := x * 16777216) (by omega) (by omega), w64 (n := y * 65536) (by omega) (by omega), w64 (n := z * 256) (by omega) (by omega), w64 (n := x * 16777216 + y * 65536) (by omega) (by omega), w64 (n := x * 16777216 + y * 65536 + z * 256) (by omega) (by omega), w64 (by omega) (by omega)]
        omega
      have := tmod_range h0 (show 1 ≤ n by omega)
      exact ⟨_, _, _, rfl, this.1, fun _ => this.2, q4⟩
theorem spec_l04Leaven_some (b : List Int) (i h : Int) (hb : b.length ≤ 4611686018427387904) (hi : 0 ≤ i) : ∃ x y i' h', spec_l04Leaven.f b i h = some (x, y, i', h') ∧ (1 ≤ x ∧ x ≤ 250) ∧ (0 ≤ y ∧ y < 20) ∧ 0 ≤ i' := by
  unfold spec_l04Leaven.f
  obtain ⟨x, i1, h1, e1, p1, p1', q1⟩ := spec_l01Below_some b i h 250 hb hi
  rw [e1]
  simp only [Option.bind_some]
  obtain ⟨y, i2, h2, e2, p2, p2', q2⟩ := spec_l01Below_some b i1 h1 20 hb q1
  rw [e2]
  simp only [Option.bind_some]
  have := p1' (by omega)
  have := p2' (by omega)
  rw [w64 (n := 1 + x) (by omega) (by omega)]
  exact ⟨_, _, _, _, rfl, by omega, by omega, q2⟩
theorem spec_DrawLeaven_ev (xs : List Int) (hb : xs.length ≤ 4611686018427387904) : ∃ x y, Ev (fun k => spec_DrawLeaven.f k xs) (x, y) ∧ (1 ≤ x ∧ x ≤ 250) ∧ (0 ≤ y ∧ y < 20) := by
  obtain ⟨h, hN⟩ := spec_l01New_ev xs hb
  unfold spec_DrawLeaven.f
  obtain ⟨x, y, i1, h1, e1, r1, r2, _⟩ := spec_l04Leaven_some xs 0 h hb (by omega)
  refine ⟨x, y, Ev.bind hN (ev_const ?_), r1, r2⟩
  simp only [e1, Option.bind_some]
theorem impl_in_eq (a b c : Int) : impl_in.f a b c = some (decide (b ≤ a ∧ a ≤ c)) := by
  unfold impl_in.f
  by_cases h : b ≤ a <;> simp [h]
theorem impl_LeavenOk_eq (a b : Int) : impl_LeavenOk.f a b = some (pLeavenOk a b) := by
  unfold impl_LeavenOk.f pLeavenOk
  simp only [impl_in_eq, Option.bind_some, decide_eq_true_eq]
  by_cases h : 0 ≤ a ∧ a ≤ 100000 <;> simp [h]
theorem impl_Feed_ev (g f t : Int) : Ev (fun k => impl_Feed.f k g f t) (pFeed g f t) := ev_at 1 fun k => by
  unfold impl_Feed.f pFeed
  simp only [impl_LeavenOk_eq, impl_in_eq, Option.bind_some, impl_Feed.j0]
  by_cases h : pLeavenOk g f = true
  · by_cases h0 : g = 0
    · simp [h, h0]
    · by_cases h1 : 1 ≤ t ∧ t ≤ 10
      · have h3 := h
        simp only [pLeavenOk, decide_eq_true_eq] at h3
        have h4 := mul_range (a := g) (b := t + 1) (m := 100000) (n := 11) h3.1 (by omega)
        have e1 : wrap64 (t + 1) = t + 1 := w64 (by omega) (by omega)
        have e2 : wrap64 (g * (t + 1)) = g * (t + 1) := w64 (by omega) (by omega)
        have e3 : wrap64 (f + 1) = f + 1 := w64 (by omega) (by omega)
        rw [e1, e2, e3]
        by_cases h5 : pLeavenOk (g * (t + 1)) (f + 1) = true <;> simp [h, h0, h1, h5]
      · simp [h, h0, h1]
  · simp [h]
theorem impl_FeedingsFor_l0 {t need : Int} (hneed : need ≤ 100000) (n : Nat) : ∀ g f c : Int, g ≤ 100000 → 0 ≤ c → c + (100000 - g) ≤ 200000 → 100000 - g < n → Ev (fun k => impl_FeedingsFor.l0 k t need c g f) (pFeedings t need n g f c) := by
  induction n with
  | zero => intro g f c h0 h1 h2 h3; omega
  | succ n ih =>
    intro g f c h0 h1 h2 h3
    unfold pFeedings
    by_cases h : g < need
    · rw [if_pos h]
      by_cases h4 : (pFeed g f t).2.2 = true
      · have h5 := pFeed_grows h4
        rw [if_pos h4]
        refine Ev.step (f := fun k => (impl_Feed.f k g f t).bind fun bt => if bt.2.2 = true then impl_FeedingsFor.l0 k t need (wrap64 (c + 1)) bt.1 bt.2.1 else some (-1)) (fun k => ?_) (Ev.bind (impl_Feed_ev g f t) ?_)
        · simp only [impl_FeedingsFor.l0]
          rw [if_pos h]
        · simp only [if_pos h4]
          rw [w64 (n := c + 1) (by omega) (by omega)]
          exact ih _ _ _ h5.2 (by omega) (by omega) (by omega)
      · rw [if_neg h4]
        refine Ev.step (f := fun k => (impl_Feed.f k g f t).bind fun bt => if bt.2.2 = true then impl_FeedingsFor.l0 k t need (wrap64 (c + 1)) bt.1 bt.2.1 else some (-1)) (fun k => ?_) (Ev.bind (impl_Feed_ev g f t) ?_)
        · simp only [impl_FeedingsFor.l0]
          rw [if_pos h]
        · simp only [if_neg h4]
          exact Ev.now _
    · rw [if_neg h]
      refine ev_at 1 fun k => ?_
      simp only [impl_FeedingsFor.l0]
      rw [if_neg h]
theorem impl_FeedingsFor_ev (g f t need : Int) : Ev (fun k => impl_FeedingsFor.f k g f t need) (pFeedingsFor g f t need) := by
  unfold impl_FeedingsFor.f pFeedingsFor
  simp only [impl_LeavenOk_eq, impl_in_eq, Option.bind_some]
  by_cases h : pLeavenOk g f = true
  · have h3 := h
    simp only [pLeavenOk, decide_eq_true_eq] at h3
    by_cases h2 : 0 ≤ need ∧ need ≤ 100000
    · simp only [if_pos h, if_pos (And.intro h h2), decide_eq_true h2, Bool.not_true]
      refine Ev.step (f := fun k => impl_FeedingsFor.l0 k t need 0 g f) (fun k => ?_) (impl_FeedingsFor_l0 h2.2 _ _ _ _ (by omega) (by omega) (by omega) (by omega))
      simp only [impl_FeedingsFor.j0]
      rw [if_neg (by decide)]
    · simp only [if_pos h, if_neg (fun c : pLeavenOk g f = true ∧ 0 ≤ need ∧ need ≤ 100000 => h2 c.2), decide_eq_false h2, Bool.not_false]
      exact ev_at 1 fun k => by simp only [impl_FeedingsFor.j0, if_true]
  · simp only [if_neg h, if_neg (fun c : pLeavenOk g f = true ∧ 0 ≤ need ∧ need ≤ 100000 => h c.1)]
    exact ev_at 1 fun k => by simp only [impl_FeedingsFor.j0, if_true]
theorem impl_TakeLeaven_eq (g f n k : Int) : impl_TakeLeaven.f g f n k = some (pTake g f n k) := by
  unfold impl_TakeLeaven.f pTake
  simp only [impl_LeavenOk_eq, impl_in_eq, Option.bind_some, decide_eq_true_eq]
  by_cases h : pLeavenOk g f = true
  · have h3 := h
    simp only [pLeavenOk, decide_eq_true_eq] at h3
    by_cases h1 : 0 ≤ n ∧ n ≤ 100000
    · rw [w64 (n := g - n) (by omega) (by omega)]
      by_cases h2 : 0 ≤ k ∧ k ≤ 100000
      · by_cases h4 : g - n < k
        · have h5 : ¬ k ≤ g - n := by omega
          simp [h, h1, h2, h4, h5]
        · have h5 : k ≤ g - n := by omega
          simp [h, h1, h2, h4, h5]
      · simp [h, h1, h2]
    · simp [h, h1]
  · simp [h]
theorem impl_allIn_eq (xs : List Int) (a b : Int) : impl_allIn.f xs a b = some (xs.all fun x => decide (a ≤ x ∧ x ≤ b)) := rfl
theorem impl_lasts_l0 (ns : List Int) (t : Int) (hn : ns.length ≤ 1048576) (d : Nat) : ∀ (j : Nat) (g f : Int), j + d = ns.length → Ev (fun k => impl_lasts.l0 k t ns (ns.length : Int) j g f) (pLasts t (ns.drop j) g f) := by
  induction d with
  | zero =>
    intro j g f hj
    refine ev_succ ?_
    simp only [impl_lasts.l0]
    rw [List.drop_of_length_le (by omega)]
    exact ev_ifn (by omega) (Ev.now _)
  | succ d ih =>
    intro j g f hj
    refine ev_succ ?_
    simp only [impl_lasts.l0, impl_TakeLeaven_eq, Option.bind_some]
    rw [List.drop_eq_getElem_cons (show j < ns.length by omega), rd_nat ns j (by omega), wnext (n := ns.length) (by omega) (by omega)]
    refine ev_ifp (by omega) (ev_ifp (by omega) (ev_ifp (by omega) (Ev.bind (impl_Feed_ev g f t) ?_)))
    unfold pLasts
    by_cases h1 : (pFeed g f t).2.2 = true
    · rw [if_pos h1]
      refine ev_ifp h1 ?_
      by_cases h2 : (pTake (pFeed g f t).1 (pFeed g f t).2.1 ns[j] 1).2.2 = true
      · rw [if_pos h2]
        exact ev_ifp h2 (ih (j + 1) _ _ (by omega))
      · rw [if_neg h2]
        exact ev_ifn h2 (Ev.now _)
    · rw [if_neg h1]
      exact ev_ifn h1 (Ev.now _)
theorem impl_lasts_ev (ns : List Int) (t g f : Int) (hn : ns.length ≤ 1048576) : Ev (fun k => impl_lasts.f k g f ns t) (pLasts t ns g f) := by
  unfold impl_lasts.f
  exact ev_eq (impl_lasts_l0 ns t hn ns.length 0 g f (by omega)) (by simp)
theorem impl_KeepForDays_l0 (ns : List Int) (t : Int) (hn : ns.length ≤ 1048576) (n : Nat) : ∀ g : Int, 0 ≤ g → g ≤ 100001 → 100001 - g < n → Ev (fun k => impl_KeepForDays.l0 k ns t g) (pKeepL t ns n g) := by
  induction n with
  | zero => intro g h0 h1 h2; omega
  | succ n ih =>
    intro g h0 h1 h2
    refine ev_succ ?_
    simp only [impl_KeepForDays.l0]
    unfold pKeepL
    by_cases h : g ≤ 100000
    · rw [if_pos h]
      refine ev_ifp h (Ev.bind (impl_lasts_ev ns t g 0 hn) ?_)
      by_cases h3 : pLasts t ns g 0 = true
      · rw [if_pos h3]
        exact ev_ifp h3 (Ev.now _)
      · rw [if_neg h3, w64 (n := g + 1) (by omega) (by omega)]
        exact ev_ifn h3 (ih _ (by omega) (by omega) (by omega))
    · rw [if_neg h]
      exact ev_ifn h (Ev.now _)
theorem impl_KeepForDays_ev (ns : List Int) (t : Int) (hn : ns.length ≤ 1048576) : Ev (fun k => impl_KeepForDays.f k ns t) (pKeepForDays ns t) := by
  unfold impl_KeepForDays.f pKeepForDays
  simp only [impl_allIn_eq, impl_in_eq, Option.bind_some]
  by_cases h : ns.length ≤ 10
  · refine ev_ifn (by omega) ?_
    by_cases h2 : pNeedsOk ns = true
    · refine ev_ifp h2 (ev_succ ?_)
      simp only [impl_KeepForDays.j0]
      by_cases h3 : 1 ≤ t ∧ t ≤ 10
      · rw [if_pos ⟨h, h2, h3⟩, decide_eq_true h3]
        exact ev_ifn (by decide) (impl_KeepForDays_l0 ns t hn _ 0 (by omega) (by omega) (by omega))
      · rw [if_neg (fun c => h3 c.2.2), decide_eq_false h3]
        exact ev_ifp (by simp) (Ev.now _)
    · rw [if_neg (fun c => h2 c.2.1)]
      refine ev_ifn h2 (ev_succ ?_)
      simp only [impl_KeepForDays.j0]
      exact ev_ifp (by simp) (Ev.now _)
  · rw [if_neg (fun c => h c.1)]
    refine ev_ifp (by omega) (ev_succ ?_)
    simp only [impl_KeepForDays.j0]
    exact ev_ifp (by simp) (Ev.now _)
theorem spec_l01In_eq (a b c : Int) : spec_l01In.f a b c = some (decide (b ≤ a ∧ a ≤ c)) := by
  unfold spec_l01In.f
  by_cases h : b ≤ a <;> simp [h]
theorem spec_LeavenOk_eq (a b : Int) : spec_LeavenOk.f a b = some (pLeavenOk a b) := by
  unfold spec_LeavenOk.f pLeavenOk
  simp only [spec_l01In_eq, Option.bind_some, decide_eq_true_eq]
  by_cases h : 0 ≤ a ∧ a ≤ 100000 <;> simp [h]
theorem spec_Feed_ev (g f t : Int) : Ev (fun k => spec_Feed.f k g f t) (pFeed g f t) := ev_at 1 fun k => by
  unfold spec_Feed.f pFeed
  simp only [spec_LeavenOk_eq, spec_l01In_eq, Option.bind_some, spec_Feed.j0]
  by_cases h : pLeavenOk g f = true
  · by_cases h0 : g = 0
    · simp [h, h0]
    · by_cases h1 : 1 ≤ t ∧ t ≤ 10
      · have h3 := h
        simp only [pLeavenOk, decide_eq_true_eq] at h3
        have h4 := mul_range (a := g) (b := t + 1) (m := 100000) (n := 11) h3.1 (by omega)
        have e1 : wrap64 (t + 1) = t + 1 := w64 (by omega) (by omega)
        have e2 : wrap64 (g * (t + 1)) = g * (t + 1) := w64 (by omega) (by omega)
        have e3 : wrap64 (f + 1) = f + 1 := w64 (by omega) (by omega)
        rw [e1, e2, e3]
        by_cases h5 : pLeavenOk (g * (t + 1)) (f + 1) = true <;> simp [h, h0, h1, h5]
      · simp [h, h0, h1]
  · simp [h]
theorem spec_TakeLeaven_eq (g f n k : Int) : spec_TakeLeaven.f g f n k = some (pTake g f n k) := by
  unfold spec_TakeLeaven.f pTake
  simp only [spec_LeavenOk_eq, spec_l01In_eq, Option.bind_some, decide_eq_true_eq]
  by_cases h : pLeavenOk g f = true
  · have h3 := h
    simp only [pLeavenOk, decide_eq_true_eq] at h3
    by_cases h1 : 0 ≤ n ∧ n ≤ 100000
    · rw [w64 (n := g - n) (by omega) (by omega)]
      by_cases h2 : 0 ≤ k ∧ k ≤ 100000
      · by_cases h4 : g - n < k
        · have h5 : ¬ k ≤ g - n := by omega
          simp [h, h1, h2, h4, h5]
        · have h5 : k ≤ g - n := by omega
          simp [h, h1, h2, h4, h5]
      · simp [h, h1, h2]
    · simp [h, h1]
  · simp [h]
/-- Where the feedings stand: each doubles, at least. -/
def FedWell (c : Nat) (g f : Int) : Prop := (2 : Int) ^ c ≤ g ∧ g ≤ 100000 ∧ 0 ≤ f ∧ f ≤ 19 + (c : Int)
theorem fed_few {c : Nat} {g f : Int} (h : FedWell c g f) (hg : g < 2551) : c ≤ 11 := by
  by_cases h1 : c ≤ 11
  · exact h1
  · have h2 : (2 : Nat) ^ 12 ≤ 2 ^ c := Nat.pow_le_pow_right (by omega) (by omega)
    have h3 : ((2 ^ c : Nat) : Int) = (2 : Int) ^ c := by simp
    have h4 := h.1
    omega
theorem fed_pos {c : Nat} {g f : Int} (h : FedWell c g f) : 1 ≤ g := by
  have h2 : 0 < (2 : Nat) ^ c := Nat.pow_pos (by omega)
  have h3 : ((2 ^ c : Nat) : Int) = (2 : Int) ^ c := by simp
  have h4 := h.1
  omega
theorem fed_step {c : Nat} {g f t : Int} (ht : 1 ≤ t ∧ t ≤ 4) (h : FedWell c g f) (hg : g < 2551) : pFeed g f t = (g * (t + 1), f + 1, true) ∧ FedWell (c + 1) (g * (t + 1)) (f + 1) ∧ g + 1 ≤ g * (t + 1) := by
  have h1 := fed_few h hg
  have h2 := fed_pos h
  have h3 := h.2.2
  have m1 := mul_range (a := g) (b := t + 1) (m := 2551) (n := 5) (by omega) (by omega)
  have m2 : g * 2 ≤ g * (t + 1) := Int.mul_le_mul_of_nonneg_left (by omega) (by omega)
  have h4 : (pFeed g f t).2.2 = true := (pFeed_iff (by omega) (by omega) (by omega)).2 ⟨by omega, by omega⟩
  refine ⟨pFeed_val h4, ⟨?_, by omega, by omega, by omega⟩, by omega⟩
  have := h.1
  rw [Int.pow_succ]
  omega
theorem feedings_ge {t need : Int} (ht : 1 ≤ t ∧ t ≤ 4) (hn : need ≤ 2550) (n : Nat) : ∀ (c : Nat) (g f : Int), FedWell c g f → 1 ≤ n → need - g < n → (c : Int) ≤ pFeedings t need n g f c := by
  induction n with
  | zero => intro c g f h h1 h2; omega
  | succ n ih =>
    intro c g f h h1 h2
    unfold pFeedings
    by_cases h3 : g < need
    · obtain ⟨e, h4, h5⟩ := fed_step ht h (by omega)
      rw [if_pos h3, e, if_pos rfl]
      have := ih (c + 1) _ _ h4 (by omega) (by omega)
      simp only [Int.natCast_add, Int.cast_ofNat_Int] at this
      show (c : Int) ≤ pFeedings t need n (g * (t + 1)) (f + 1) ((c : Int) + 1)
      omega
    · rw [if_neg h3]
      omega
theorem lasts_step {t n g f : Int} (r : List Int) (ht : 1 ≤ t ∧ t ≤ 4) (hg : 256 ≤ g ∧ g ≤ 10000) (hf : 0 ≤ f ∧ f < 900) (hn : 0 ≤ n ∧ n ≤ 255) : pLasts t (n :: r) g f = pLasts t r (g * (t + 1) - n) (f + 1) ∧ 256 ≤ g * (t + 1) - n ∧ g * (t + 1) - n ≤ 5 * g := by
  have m1 := mul_range (a := g) (b := t + 1) (m := 10000) (n := 5) (by omega) (by omega)
  have m2 : g * 2 ≤ g * (t + 1) := Int.mul_le_mul_of_nonneg_left (by omega) (by omega)
  have m3 : g * (t + 1) ≤ g * 5 := Int.mul_le_mul_of_nonneg_left (by omega) (by omega)
  have h4 : (pFeed g f t).2.2 = true := (pFeed_iff (by omega) (by omega) (by omega)).2 ⟨by omega, by omega⟩
  have h5 : (pTake (g * (t + 1)) (f + 1) n 1).2.2 = true := (pTake_iff (by omega) (by omega) (by omega)).2 (by omega)
  refine ⟨?_, by omega, by omega⟩
  conv => lhs; unfold pLasts
  rw [pFeed_val h4, if_pos rfl, if_pos h5, pTake_val h5]
theorem keepL_props {t : Int} {ns : List Int} {L : Int} (hL : pLasts t ns L 0 = true) (h1 : L ≤ 100000) (n : Nat) : ∀ x : Int, x ≤ L → L - x < n → (0 < x → pLasts t ns (x - 1) 0 = false) →
    x ≤ pKeepL t ns n x ∧ pKeepL t ns n x ≤ 100000 ∧ pLasts t ns (pKeepL t ns n x) 0 = true ∧ (0 < pKeepL t ns n x → pLasts t ns (pKeepL t ns n x - 1) 0 = false) := by
  induction n with
  | zero => intro x h2 h3; omega
  | succ n ih =>
    intro x h2 h3 h4
    by_cases h5 : pLasts t ns x 0 = true
    · have e : pKeepL t ns (n + 1) x = x := by unfold pKeepL; rw [if_pos (by omega), if_pos h5]
      rw [e]
      exact ⟨by omega, by omega, h5, h4⟩
    · have e : pKeepL t ns (n + 1) x = pKeepL t ns n (x + 1) := by
        conv => lhs; unfold pKeepL
        rw [if_pos (by omega), if_neg h5]
      have h6 : x ≠ L := fun c => h5 (c ▸ hL)
      rw [e]
      have := ih (x + 1) (by omega) (by omega) (fun _ => by rw [show x + 1 - 1 = x by omega]; simpa using h5)
      exact ⟨by omega, this.2⟩
theorem keep_good {t a b c : Int} (ht : 1 ≤ t ∧ t ≤ 4) (ha : 0 ≤ a ∧ a ≤ 255) (hb : 0 ≤ b ∧ b ≤ 255) (hc : 0 ≤ c ∧ c ≤ 255) :
    (1 ≤ pKeepForDays [a, b, c] t ∧ pKeepForDays [a, b, c] t ≤ 100000) ∧ pLasts t [a, b, c] (pKeepForDays [a, b, c] t) 0 = true ∧ pLasts t [a, b, c] (pKeepForDays [a, b, c] t - 1) 0 = false := by
  have e : pKeepForDays [a, b, c] t = pKeepL t [a, b, c] 100002 0 := by
    unfold pKeepForDays
    rw [if_pos ⟨by simp, by simp only [pNeedsOk, List.all_cons, List.all_nil, Bool.and_true, Bool.and_eq_true, decide_eq_true_eq]; omega, by omega⟩]
  have h256 : pLasts t [a, b, c] 256 0 = true := by
    obtain ⟨e1, l1, u1⟩ := lasts_step (g := 256) (f := 0) [b, c] ht (by omega) (by omega) ha
    obtain ⟨e2, l2, u2⟩ := lasts_step (g := 256 * (t + 1) - a) (f := 0 + 1) [c] ht (by omega) (by omega) hb
    obtain ⟨e3, l3, u3⟩ := lasts_step (g := (256 * (t + 1) - a) * (t + 1) - b) (f := 0 + 1 + 1) [] ht (by omega) (by omega) hc
    rw [e1, e2, e3]
    rfl
  have hz : pLasts t [a, b, c] 0 0 = false := by
    unfold pLasts
    rw [pFeed_zero, if_neg (by decide)]
  obtain ⟨k0, k1, k2, k3⟩ := keepL_props h256 (by omega) 100002 0 (by omega) (by omega) (fun c => absurd c (by omega))
  rw [e]
  have k4 : pKeepL t [a, b, c] 100002 0 ≠ 0 := fun c => by rw [c, hz] at k2; cases k2
  exact ⟨by omega, k2, k3 (by omega)⟩
theorem fnl_l2 (t K less g0 f0 : Int) (ns : List Int) (hns : ns.length ≤ 10) (b : Bool) (hb : b = (less == 0)) (hl : 0 ≤ less ∧ less ≤ 1)
    (cont : Ev (fun k => laws_FnLeavens.l1 k t ns K (less + 1) g0 f0) true) (d : Nat) : ∀ (j : Nat) (x : Bool) (z1 z2 : Int), j + d = ns.length → (x = true → pLasts t (ns.drop j) z1 z2 = b) → (x = false → b = false) →
      Ev (fun k => laws_FnLeavens.l2 k t ns K less x j g0 f0 z1 z2) true := by
  have out : ∀ (x : Bool) (j z1 z2 : Int), x = b → Ev (fun k => laws_FnLeavens.j5 k t ns K less x j false g0 f0 z1 z2) true := by
    intro x j z1 z2 hx
    refine ev_succ ?_
    simp only [laws_FnLeavens.j5]
    rw [w64 (n := less + 1) (by omega) (by omega)]
    exact ev_ifn (by decide) (ev_ifn (by rw [hx, hb]; simp) cont)
  induction d with
  | zero =>
    intro j x z1 z2 hj h1 h2
    have hx : x = b := by
      cases x with
      | true => rw [← h1 rfl, List.drop_of_length_le (by omega)]; rfl
      | false => exact (h2 rfl).symm
    refine ev_succ ?_
    simp only [laws_FnLeavens.l2]
    exact ev_ifn (by omega) (out x j z1 z2 hx)
  | succ d ih =>
    intro j x z1 z2 hj h1 h2
    refine ev_succ ?_
    simp only [laws_FnLeavens.l2]
    cases x with
    | false => exact ev_ifp (by omega) (out false j z1 z2 (h2 rfl).symm)
    | true =>
      have h3 := h1 rfl
      rw [List.drop_eq_getElem_cons (show j < ns.length by omega)] at h3
      unfold pLasts at h3
      refine ev_ifp (by omega) (ev_succ ?_)
      simp only [laws_FnLeavens.j5]
      refine ev_ifp trivial (Ev.bind (spec_Feed_ev z1 z2 t) (ev_ifp (by omega) (ev_ifp (by omega) ?_)))
      rw [rd_nat ns j (by omega), wnext (n := ns.length) (by omega) (by omega)]
      simp only [spec_TakeLeaven_eq, Option.bind_some]
      by_cases h4 : (pFeed z1 z2 t).2.2 = true
      · rw [if_pos h4] at h3
        refine ev_ifp h4 (ih (j + 1) _ _ _ (by omega) (fun h5 => ?_) (fun h5 => ?_))
        · rw [if_pos h5] at h3
          exact h3
        · rw [if_neg (by rw [h5]; decide)] at h3
          exact h3.symm
      · rw [if_neg h4] at h3
        exact ev_ifn h4 (ih (j + 1) _ _ _ (by omega) (fun c => by cases c) (fun _ => h3.symm))
theorem fnl_j2 (xs : List Int) (hb : xs.length ≤ 1048576) (hx : ∀ x ∈ xs, (Lit.int .u8 x).wf = true) (t g0 f0 : Int) (ht : 1 ≤ t ∧ t ≤ 4) (hg : 1 ≤ g0 ∧ g0 ≤ 250) (hf : 0 ≤ f0 ∧ f0 < 20) : Ev (fun k => laws_FnLeavens.j2 k xs t false g0 f0) true := by
  obtain ⟨a, ea, a0, a1⟩ := laws_at_some xs 3 hb (by omega) hx
  obtain ⟨b, eb, b0, b1⟩ := laws_at_some xs 4 hb (by omega) hx
  obtain ⟨c, ec, c0, c1⟩ := laws_at_some xs 5 hb (by omega) hx
  obtain ⟨k0, k1, k2⟩ := keep_good (a := a) (b := b) (c := c) ht (by omega) (by omega) (by omega)
  refine ev_succ ?_
  simp only [laws_FnLeavens.j2, ea, eb, ec, Option.bind_some]
  refine ev_ifn (by decide) (Ev.bind (impl_KeepForDays_ev [a, b, c] t (by simp)) (ev_ifn (by omega) ?_))
  generalize pKeepForDays [a, b, c] t = K at k0 k1 k2 ⊢
  have hlo : pLeavenOk g0 f0 = true := by simp only [pLeavenOk, decide_eq_true_eq]; omega
  have e0 : pKeepForDays [] 2 = 0 := by
    unfold pKeepForDays
    rw [if_pos ⟨by simp, rfl, by omega⟩]
    unfold pKeepL
    rw [if_pos (by omega), if_pos (show pLasts 2 [] 0 0 = true from rfl)]
  have h2 : Ev (fun k => laws_FnLeavens.l1 k t [a, b, c] K 2 g0 f0) true := by
    refine ev_succ ?_
    simp only [laws_FnLeavens.l1, impl_LeavenOk_eq, Option.bind_some]
    refine ev_ifn (by omega) (ev_ifp hlo (Ev.bind (impl_KeepForDays_ev [] 2 (by simp)) (ev_const ?_)))
    rw [e0]
    rfl
  have h1 : Ev (fun k => laws_FnLeavens.l1 k t [a, b, c] K 1 g0 f0) true := by
    refine ev_succ ?_
    simp only [laws_FnLeavens.l1]
    rw [w64 (n := K - 1) (by omega) (by omega)]
    exact ev_ifp (by omega) (fnl_l2 t K 1 g0 f0 [a, b, c] (by simp) false (by decide) (by omega) h2 3 0 true (K - 1) 0 rfl (fun _ => k2) (fun c => by cases c))
  refine ev_succ ?_
  simp only [laws_FnLeavens.l1]
  rw [w64 (n := K - 0) (by omega) (by omega), show K - 0 = K by omega]
  exact ev_ifp (by omega) (fnl_l2 t K 0 g0 f0 [a, b, c] (by simp) true (by decide) (by omega) h1 3 0 true K 0 rfl (fun _ => k1) (fun c => by cases c))
theorem fnl_l0 (xs : List Int) (hb : xs.length ≤ 1048576) (hx : ∀ x ∈ xs, (Lit.int .u8 x).wf = true) (t need n g0 f0 : Int) (ht : 1 ≤ t ∧ t ≤ 4) (hneed : need ≤ 2550) (hg : 1 ≤ g0 ∧ g0 ≤ 250) (hf : 0 ≤ f0 ∧ f0 < 20) (m : Nat) : ∀ (c : Nat) (g f : Int), FedWell c g f → 1 ≤ m → need - g < m → n = pFeedings t need m g f c →
    Ev (fun k => laws_FnLeavens.l0 k xs t need n c g0 f0 g f) true := by
  induction m with
  | zero => intro c g f h h1 h2; omega
  | succ m ih =>
    intro c g f h h1 h2 hn
    refine ev_succ ?_
    simp only [laws_FnLeavens.l0]
    by_cases h3 : g < need
    · obtain ⟨e, h4, h5⟩ := fed_step ht h (by omega)
      have hc := fed_few h (by omega)
      unfold pFeedings at hn
      rw [if_pos h3, e, if_pos rfl] at hn
      have h6 := feedings_ge ht hneed m (c + 1) _ _ h4 (by omega) (by omega)
      simp only [Int.natCast_add, Int.cast_ofNat_Int] at h6
      refine ev_ifp (by rw [hn]; simp only at h6 ⊢; omega) (ev_ifn (by omega) (Ev.bind (impl_Feed_ev g f t) ?_))
      rw [e, w64 (n := (c : Int) + 1) (by omega) (by omega)]
      exact ih (c + 1) _ _ h4 (by omega) (by omega) (by rw [hn]; simp)
    · unfold pFeedings at hn
      rw [if_neg h3] at hn
      obtain ⟨v, ev, v0, v1⟩ := laws_at_some xs 2 hb (by omega) hx
      simp only [ev, impl_TakeLeaven_eq, Option.bind_some]
      rw [w64 (n := g0 + 1) (by omega) (by omega)]
      have hr := tmod_range (x := v) (n := g0 + 1) (by omega) (by omega)
      generalize Int.tmod v (g0 + 1) = q at hr ⊢
      rw [w64 (n := g0 - q) (by omega) (by omega)]
      have hi := pTake_iff (g := g0) (f := f0) (n := q) (by omega) (by omega) (by omega)
      have fin := fnl_j2 xs hb hx t g0 f0 ht hg hf
      refine ev_ifn (by omega) (ev_ifn h3 (ev_ifn (by omega) ?_))
      by_cases h4 : (pTake g0 f0 q 1).2.2 = true
      · have := hi.1 h4
        rw [pTake_val h4, decide_eq_true (show q < g0 by omega), show (g0 - q != g0 - q) = false by simp]
        exact ev_ifn (by simp) (ev_ifp rfl fin)
      · have h5 : ¬ q < g0 := fun c => h4 (hi.2 (by omega))
        rw [show (pTake g0 f0 q 1).2.2 = false by simpa using h4, decide_eq_false h5]
        exact ev_ifn (by decide) (ev_ifn (by decide) fin)
theorem FnLeavens : laws_FnLeavens.Pure := by
  intro l0 hm _ hx
  refine Ev.rounds (g := fun k => laws_FnLeavens.f k l0) ?_
  unfold laws_FnLeavens.f
  simp only [laws_big_eq, Option.bind_some]
  by_cases h : (l0.length : Int) > 1048576
  · simp only [decide_eq_true h, if_true]
    exact Ev.now _
  · simp only [decide_eq_false h, Bool.false_eq_true, if_false]
    obtain ⟨g, f, hdr, hg, hf⟩ := spec_DrawLeaven_ev l0 (by omega)
    obtain ⟨v, ev, v0, v1⟩ := laws_at_some l0 0 (by omega) (by omega) hx
    obtain ⟨u, eu, u0, u1⟩ := laws_at_some l0 1 (by omega) (by omega) hx
    have hr := tmod_range (x := v) (n := 4) (by omega) (by omega)
    refine Ev.bind hdr ?_
    simp only [ev, eu, Option.bind_some]
    generalize Int.tmod v 4 = q at hr ⊢
    rw [w64 (n := 1 + q) (by omega) (by omega), w64 (n := u * 10) (by omega) (by omega)]
    generalize ht : 1 + q = t
    have hw : FedWell 0 g f := ⟨by simp; omega, by omega, by omega, by simp; omega⟩
    obtain ⟨e1, h4, h5⟩ := fed_step (t := t) (by omega) hw (by omega)
    have m1 := mul_range (a := g) (b := t + 1) (m := 250) (n := 5) (by omega) (by omega)
    have en : pFeedingsFor g f t (u * 10) = pFeedings t (u * 10) 100002 g f 0 := by
      unfold pFeedingsFor
      rw [if_pos ⟨by simp only [pLeavenOk, decide_eq_true_eq]; omega, by omega⟩]
    have hge := feedings_ge (t := t) (need := u * 10) (by omega) (by omega) 100002 0 g f hw (by omega) (by omega)
    refine Ev.bind (impl_Feed_ev g f t) (Ev.bind (impl_FeedingsFor_ev g f t (u * 10)) ?_)
    rw [e1, en, w64 (n := t + 1) (by omega) (by omega), w64 (n := g * (t + 1)) (by omega) (by omega), w64 (n := f + 1) (by omega) (by omega)]
    rw [decide_eq_false (show ¬ pFeedings t (u * 10) 100002 g f 0 < 0 from by have hge' : (0 : Int) ≤ pFeedings t (u * 10) 100002 g f 0 := hge; omega)]
    refine ev_ifp rfl (ev_ifp rfl (ev_ifp rfl (ev_succ ?_)))
    simp only [laws_FnLeavens.j0]
    exact ev_ifn (by decide) (fnl_l0 l0 (by omega) hx t (u * 10) _ g f (by omega) (by omega) hg hf 100002 0 g f hw (by omega) (by omega) rfl)
end Go.Proofs.Ytamdbkilpllfoaa.Pure
