/- What is proved: read as plain functions on numbers and lists, the law FnRises answers true at every input of its kinds; no condition is added. -/
import Derived.Test.YtamdbkilpllfoaaPFnRisesx3
import Derived.Test.YtamdbkilpllfoaaPlain
set_option linter.unusedVariables false
set_option linter.unusedSimpArgs false
set_option maxRecDepth 20000
namespace Go.Proofs.Ytamdbkilpllfoaa.Pure
open Go.RowKit Go.Proofs.Ytamdbkilpllfoaa.PFnRises Go.Proofs.YtamdbkilpllfoaaW.PrintWords Go.Proofs.YtamdbkilpllfoaaW.PrintLast Go.Proofs.YtamdbkilpllfoaaW.PrintMore Go.Proofs.Ytamdbkilpllfoaa.Plain
theorem impl_in_eq (a b c : Int) : impl_in.f a b c = some (decide (b ≤ a ∧ a ≤ c)) := by
  unfold impl_in.f
  by_cases h : b ≤ a <;> simp [h]
theorem impl_SpeedAt_ev (d : Int) : Ev (fun k => impl_SpeedAt.f k d) (pSpeed d) := ev_at 1 fun k => by
  unfold impl_SpeedAt.f pSpeed
  simp only [impl_in_eq, Option.bind_some, decide_eq_true_eq, impl_SpeedAt.j0]
  by_cases h : -30 ≤ d ∧ d ≤ 60
  · rw [if_pos h, if_neg (fun c : ¬ (-30 ≤ d ∧ d ≤ 60) => c h)]
    by_cases h1 : d < 4
    · simp [h1]
    · by_cases h2 : d ≥ 35
      · have h3 : 34 < d := by omega
        simp [h1, h2, h3]
      · have h3 : ¬ 34 < d := by omega
        simp only [h1, h2, h3, if_false, decide_false, Bool.false_eq_true, false_or]
        (repeat' split) <;> first | rfl | omega
  · simp [h]
theorem impl_allIn_eq (xs : List Int) (a b : Int) : impl_allIn.f xs a b = some (xs.all fun x => decide (a ≤ x ∧ x ≤ b)) := rfl
theorem impl_RiseAfter_l0 (xs : List Int) (hn : xs.length ≤ 1048576) (hok : pDegOk xs = true) (d : Nat) : ∀ (j : Nat) (acc : Int), j + d = xs.length → 0 ≤ acc → acc ≤ 16 * j → Ev (fun k => impl_RiseAfter.l0 k acc xs (xs.length : Int) j) (acc + pRise (xs.drop j)) := by
  induction d with
  | zero =>
    intro j acc hj h0 h1
    refine ev_succ ?_
    simp only [impl_RiseAfter.l0]
    rw [List.drop_of_length_le (by omega)]
    exact ev_ifn (by omega) (ev_const (by simp [pRise]))
  | succ d ih =>
    intro j acc hj h0 h1
    refine ev_succ ?_
    simp only [impl_RiseAfter.l0]
    have hr := pSpeed_range xs[j]
    have hs := pSpeed_in (d := xs[j]) (by simpa using List.all_eq_true.1 hok xs[j] (List.getElem_mem _))
    rw [List.drop_eq_getElem_cons (show j < xs.length by omega), rd_nat xs j (by omega), wnext (n := xs.length) (by omega) (by omega)]
    refine ev_ifp (by omega) (ev_ifp (by omega) (ev_ifp (by omega) (Ev.bind (impl_SpeedAt_ev _) ?_)))
    rw [w64 (n := acc + pSpeed xs[j]) (by omega) (by omega)]
    refine ev_eq (ih (j + 1) _ (by omega) (by omega) (by omega)) ?_
    simp only [pRise]
    omega
theorem impl_RiseAfter_ev (xs : List Int) (hn : xs.length ≤ 1048576) : Ev (fun k => impl_RiseAfter.f k xs) (pRiseAfter xs) := by
  unfold impl_RiseAfter.f pRiseAfter
  simp only [impl_allIn_eq, Option.bind_some]
  by_cases h : xs.length ≤ 1000
  · refine ev_ifn (by omega) (ev_succ ?_)
    simp only [impl_RiseAfter.j0]
    by_cases h2 : pDegOk xs = true
    · rw [if_pos ⟨h, h2⟩, show (xs.all fun x => decide (-30 ≤ x ∧ x ≤ 60)) = true from h2]
      exact ev_ifn (by decide) (ev_eq (impl_RiseAfter_l0 xs hn h2 xs.length 0 0 (by omega) (by omega) (by omega)) (by simp))
    · rw [if_neg (fun c => h2 c.2), show (xs.all fun x => decide (-30 ≤ x ∧ x ≤ 60)) = false from Bool.eq_false_iff.2 h2]
      exact ev_ifp (by simp) (Ev.now _)
  · rw [if_neg (fun c => h c.1)]
    refine ev_ifp (by omega) (ev_succ ?_)
    simp only [impl_RiseAfter.j0]
    exact ev_ifp (by simp) (Ev.now _)
theorem impl_ReadyAt_l0 (xs : List Int) (p : Int) (hn : xs.length ≤ 1000) (hok : pDegOk xs = true) (d : Nat) : ∀ j : Nat, j + d = xs.length → Ev (fun k => impl_ReadyAt.l0 k xs p (xs.length : Int) j) (pReadyL p (xs.drop j) (pRise (xs.take j)) j) := by
  induction d with
  | zero =>
    intro j hj
    refine ev_succ ?_
    simp only [impl_ReadyAt.l0]
    rw [List.drop_of_length_le (by omega)]
    exact ev_ifn (by omega) (Ev.now _)
  | succ d ih =>
    intro j hj
    refine ev_succ ?_
    simp only [impl_ReadyAt.l0]
    have hr := pSpeed_range xs[j]
    have ht : xs.take (j + 1) = xs.take j ++ [xs[j]] := List.take_succ_eq_append_getElem (by omega)
    have hv : pRiseAfter (xs.take (j + 1)) = pRise (xs.take j) + pSpeed xs[j] := by
      unfold pRiseAfter
      rw [if_pos ⟨by rw [List.length_take]; omega, List.all_eq_true.2 fun x hx => List.all_eq_true.1 hok x (List.mem_of_mem_take hx)⟩, ht, pRise_append]
      simp [pRise]
    rw [List.drop_eq_getElem_cons (show j < xs.length by omega), wnext (n := xs.length) (by omega) (by omega), Int.toNat_natCast]
    refine ev_ifp (by omega) (ev_ifp (by omega) (ev_ifp (by omega) (Ev.bind (impl_RiseAfter_ev _ (by rw [List.length_take]; omega)) ?_)))
    rw [hv]
    unfold pReadyL
    by_cases h : pRise (xs.take j) + pSpeed xs[j] ≥ p
    · rw [if_pos h]
      exact ev_ifp h (Ev.now _)
    · rw [if_neg h]
      refine ev_ifn h (ev_eq (ih (j + 1) (by omega)) ?_)
      rw [ht, pRise_append]
      simp only [pRise, Int.add_zero]
      congr 1
theorem impl_ReadyAt_ev (xs : List Int) (p : Int) (hn : xs.length ≤ 1048576) : Ev (fun k => impl_ReadyAt.f k xs p) (pReadyAt xs p) := by
  unfold impl_ReadyAt.f pReadyAt
  refine Ev.bind (impl_RiseAfter_ev xs hn) ?_
  simp only [impl_in_eq, Option.bind_some]
  by_cases h : pRiseAfter xs < 0
  · rw [if_pos (.inl h)]
    refine ev_ifp h (ev_succ ?_)
    simp only [impl_ReadyAt.j0]
    exact ev_ifp (by simp) (Ev.now _)
  · refine ev_ifn h (ev_succ ?_)
    simp only [impl_ReadyAt.j0]
    by_cases h2 : 1 ≤ p ∧ p ≤ 10000
    · rw [if_neg (show ¬ (pRiseAfter xs < 0 ∨ ¬ (1 ≤ p ∧ p ≤ 10000)) by omega), decide_eq_true h2]
      have h3 : xs.length ≤ 1000 ∧ pDegOk xs = true := by
        unfold pRiseAfter at h
        split at h
        · assumption
        · omega
      exact ev_ifn (by decide) (ev_eq (impl_ReadyAt_l0 xs p h3.1 h3.2 xs.length 0 (by omega)) (by simp [pRise]))
    · rw [if_pos (.inr h2), decide_eq_false h2]
      exact ev_ifp (by simp) (Ev.now _)
theorem laws_big_eq (xs : List Int) : laws_big.f xs = some (decide ((xs.length : Int) > 1048576)) := rfl
theorem spec_l01Byte_some (b : List Int) (i h : Int) (hb : b.length ≤ 4611686018427387904) (hi : 0 ≤ i) : ∃ x i' h', spec_l01Byte.f b i h = some (x, i', h') ∧ (0 ≤ x ∧ x ≤ 255) ∧ 0 ≤ i' := by
  unfold spec_l01Byte.f
  by_cases h1 : i < b.length
  · rw [if_pos h1, if_pos hi, w64 (n := i + 1) (by omega) (by omega)]
    exact ⟨_, _, _, rfl, and255 _, by omega⟩
  · rw [if_neg h1]
    exact ⟨_, _, _, rfl, and255 _, hi⟩
theorem spec_l01Below_some (b : List Int) (i h n : Int) (hb : b.length ≤ 4611686018427387904) (hi : 0 ≤ i) : ∃ r i' h', spec_l01Below.f b i h n = some (r, i', h') ∧ 0 ≤ r ∧ (1 ≤ n → r < n) ∧ 0 ≤ i' := by
  unfold spec_l01Below.f
  by_cases h1 : n ≤ 0
  · rw [if_pos h1]
    exact ⟨_, _, _, rfl, by omega, by omega, hi⟩
  · rw [if_neg h1]
    obtain ⟨x, i1, h1', e1, p1, q1⟩ := spec_l01Byte_some b i h hb hi
    by_cases h2 : n ≤ 256
    · rw [if_pos h2, e1]
      simp only [Option.bind_some]
      rw [if_neg (show ¬ n = 0 by omega)]
      have := tmod_range p1.1 (show 1 ≤ n by omega)
      exact ⟨_, _, _, rfl, this.1, fun _ => this.2, q1⟩
    · rw [if_neg h2, e1]
      simp only [Option.bind_some]
      obtain ⟨y, i2, h2', e2, p2, q2⟩ := spec_l01Byte_some b i1 h1' hb q1
      rw [e2]
      simp only [Option.bind_some]
      obtain ⟨z, i3, h3', e3, p3, q3⟩ := spec_l01Byte_some b i2 h2' hb q2
      rw [e3]
      simp only [Option.bind_some]
      obtain ⟨v, i4, h4', e4, p4, q4⟩ := spec_l01Byte_some b i3 h3' hb q3
      rw [e4]
      simp only [Option.bind_some]
      rw [if_neg (show ¬ n = 0 by omega)]
      have h0 : 0 ≤ wrap64 (wrap64 (wrap64 (wrap64 (x * 16777216) + wrap64 (y * 65536)) + wrap64 (z * 256)) + v) := by
        rw [w64 (n := x * 16777216) (by omega) (by omega), w64 (n := y * 65536) (by omega) (by omega), w64 (n := z * 256) (by omega) (by omega), w64 (n := x * 16777216 + y * 65536) (by omega) (by omega), w64 (n := x * 16777216 + y * 65536 + z * 256) (by omega) (by omega), w64 (by omega) (by omega)]
        omega
      have := tmod_range h0 (show 1 ≤ n by omega)
      exact ⟨_, _, _, rfl, this.1, fun _ => this.2, q4⟩
theorem spec_l05List_l0 (b : List Int) (hb : b.length ≤ 4611686018427387904) (n : Nat) (hn : n ≤ 20) (d : Nat) : ∀ (j : Nat) (out : List Int) (i h : Int), j + d = n → 0 ≤ i → out.length = j → pDegOk out = true → ∃ ys i' h', Ev (fun k => spec_l05List.l0 k out n j b i h) (ys, i', h') ∧ ys.length = n ∧ pDegOk ys = true := by
  induction d with
  | zero =>
    intro j out i h hj hi ho hok
    refine ⟨out, i, h, ev_succ ?_, by omega, hok⟩
    simp only [spec_l05List.l0]
    exact ev_ifn (by omega) (Ev.now _)
  | succ d ih =>
    intro j out i h hj hi ho hok
    obtain ⟨x, i1, h1, e1, p1, p1', q1⟩ := spec_l01Below_some b i h 40 hb hi
    have p1'' := p1' (by omega)
    obtain ⟨ys, i', h', hE, r2, r3⟩ := ih (j + 1) (out ++ [x]) i1 h1 (by omega) q1 (by simp [ho]) (by
      simp only [pDegOk, List.all_append, List.all_cons, List.all_nil, Bool.and_true, Bool.and_eq_true, decide_eq_true_eq] at hok ⊢
      exact ⟨hok, by omega⟩)
    refine ⟨ys, i', h', ev_succ ?_, r2, r3⟩
    simp only [spec_l05List.l0, e1, Option.bind_some]
    rw [wnext (n := n) (by omega) (by omega)]
    exact ev_ifp (by omega) (ev_ifp (by omega) hE)
theorem spec_l05List_ev (b : List Int) (i h : Int) (hb : b.length ≤ 4611686018427387904) (hi : 0 ≤ i) : ∃ ys i' h', Ev (fun k => spec_l05List.f k b i h) (ys, i', h') ∧ ys.length ≤ 20 ∧ pDegOk ys = true := by
  unfold spec_l05List.f
  obtain ⟨x, i1, h1, e1, p1, p1', q1⟩ := spec_l01Below_some b i h 20 hb hi
  have p1'' := p1' (by omega)
  obtain ⟨n, hn⟩ := Int.eq_ofNat_of_zero_le p1
  obtain ⟨ys, i', h', hE, r2, r3⟩ := spec_l05List_l0 b hb n (by omega) n 0 [] i1 h1 (by omega) q1 rfl rfl
  refine ⟨ys, i', h', ?_, by omega, r3⟩
  simp only [e1, Option.bind_some, hn]
  exact hE
theorem spec_l01New_l0 (xs : List Int) (hn : xs.length ≤ 4611686018427387904) (d : Nat) : ∀ (j : Nat) (h : Int), j + d = xs.length → ∃ h', Ev (fun k => spec_l01New.l0 k xs h j) (xs, 0, h') := by
  induction d with
  | zero =>
    intro j h hj
    refine ⟨h, ev_at 1 fun k => ?_⟩
    simp only [spec_l01New.l0]
    rw [if_neg (by omega)]
  | succ d ih =>
    intro j h hj
    by_cases h4 : (j : Int) < 4000
    · obtain ⟨h', he⟩ := ih (j + 1) (Go.bits .and .i64 (wrap64 ((wrap64 ((wrap64 (h * 131)) + (wrap64 (rd xs j)))) + 7)) 1073741823) (by omega)
      refine ⟨h', Ev.step (f := fun k => spec_l01New.l0 k xs (Go.bits .and .i64 (wrap64 ((wrap64 ((wrap64 (h * 131)) + (wrap64 (rd xs j)))) + 7)) 1073741823) ((j + 1 : Nat) : Int)) (fun k => ?_) he⟩
      simp only [spec_l01New.l0]
      rw [if_pos (by omega), if_pos h4, if_pos (by omega), wnext (n := xs.length) (by omega) hn]
    · refine ⟨h, ev_at 1 fun k => ?_⟩
      simp only [spec_l01New.l0]
      rw [if_pos (by omega), if_neg h4]
theorem spec_l01New_ev (xs : List Int) (hn : xs.length ≤ 4611686018427387904) : ∃ h, Ev (fun k => spec_l01New.f k xs) (xs, 0, h) := by
  unfold spec_l01New.f
  exact spec_l01New_l0 xs hn xs.length 0 _ (by omega)
theorem spec_DrawDegrees_ev (xs : List Int) (hb : xs.length ≤ 4611686018427387904) : ∃ d, Ev (fun k => spec_DrawDegrees.f k xs) d ∧ d.length ≤ 20 ∧ pDegOk d = true := by
  obtain ⟨h, hN⟩ := spec_l01New_ev xs hb
  unfold spec_DrawDegrees.f
  obtain ⟨a, i1, h1, e1, l1, o1⟩ := spec_l05List_ev xs 0 h hb (by omega)
  exact ⟨a, Ev.bind hN (Ev.bind e1 (Ev.now _)), l1, o1⟩
theorem laws_at_some (xs : List Int) (a : Int) (hb : xs.length ≤ 1048576) (ha : 0 ≤ a ∧ a ≤ 1000) (hx : ∀ x ∈ xs, (Lit.int .u8 x).wf = true) : ∃ v, laws_at.f xs a = some v ∧ 0 ≤ v ∧ v ≤ 255 := by
  unfold laws_at.f
  by_cases h : (xs.length : Int) = 0
  · rw [if_pos h]
    exact ⟨0, rfl, by omega, by omega⟩
  · rw [if_neg h, w64 (n := a * 5) (by omega) (by omega), w64 (n := a * 5 + 1) (by omega) (by omega)]
    have h2 := tmod_range (x := a * 5 + 1) (n := (xs.length : Int)) (by omega) (by omega)
    rw [if_pos h2.1, if_pos h2.2]
    obtain ⟨j, hj⟩ := Int.eq_ofNat_of_zero_le h2.1
    rw [hj] at h2 ⊢
    have hj2 : j < xs.length := by omega
    rw [rd_nat xs j hj2]
    have h3 := wf8 (hx _ (List.getElem_mem hj2))
    exact ⟨_, rfl, by rw [w64 (by omega) (by omega)]; exact h3⟩
theorem impl_up_eq {a b : Int} (h : 0 ≤ a ∧ a ≤ 1000000000) (h2 : 1 ≤ b ∧ b ≤ 1000000) : impl_up.f a b = some (pUp a b) := by
  unfold impl_up.f
  rw [if_neg (by omega), up_arith h h2]
theorem impl_MinutesAt_ev (d p : Int) : Ev (fun k => impl_MinutesAt.f k d p) (pMinutes d p) := by
  unfold impl_MinutesAt.f pMinutes
  refine Ev.bind (impl_SpeedAt_ev d) (ev_const ?_)
  have hr := pSpeed_range d
  simp only [impl_in_eq, Option.bind_some, decide_eq_true_eq]
  by_cases h : pSpeed d ≤ 0
  · simp [h]
  · by_cases h2 : 0 ≤ p ∧ p ≤ 10000
    · rw [if_neg h, if_pos h2, if_neg (show ¬ (pSpeed d ≤ 0 ∨ ¬ (0 ≤ p ∧ p ≤ 10000)) by omega), impl_up_eq (by omega) (by omega)]
      rfl
    · simp [h, h2]
theorem impl_CoolestFor_l0 (p m : Int) (n : Nat) : ∀ d : Int, 4 ≤ d → d ≤ 35 → 35 - d < n → Ev (fun k => impl_CoolestFor.l0 k p m d) (pCoolest p m n d) := by
  induction n with
  | zero => intro d h0 h1 h2; omega
  | succ n ih =>
    intro d h0 h1 h2
    refine ev_succ ?_
    simp only [impl_CoolestFor.l0]
    unfold pCoolest
    by_cases h : d ≤ 34
    · rw [if_pos h]
      refine ev_ifp h (Ev.bind (impl_MinutesAt_ev d p) ?_)
      by_cases h3 : pMinutes d p ≤ m
      · rw [if_pos h3]
        exact ev_ifp h3 (Ev.now _)
      · rw [if_neg h3]
        refine ev_ifn h3 ?_
        rw [w64 (n := d + 1) (by omega) (by omega)]
        exact ih _ (by omega) (by omega) (by omega)
    · rw [if_neg h]
      exact ev_ifn h (Ev.now _)
theorem impl_CoolestFor_ev (p m : Int) : Ev (fun k => impl_CoolestFor.f k p m) (pCoolestFor p m) := by
  unfold impl_CoolestFor.f pCoolestFor
  simp only [impl_in_eq, Option.bind_some, decide_eq_true_eq]
  by_cases h : 0 ≤ p ∧ p ≤ 10000
  · refine ev_ifp h (ev_succ ?_)
    simp only [impl_CoolestFor.j0]
    by_cases h2 : 1 ≤ m ∧ m ≤ 10000
    · rw [if_pos ⟨h, h2⟩, decide_eq_true h2]
      exact ev_ifn (by decide) (impl_CoolestFor_l0 p m 32 4 (by omega) (by omega) (by omega))
    · rw [if_neg (fun c => h2 c.2), decide_eq_false h2]
      exact ev_ifp (by simp) (Ev.now _)
  · rw [if_neg (fun c => h c.1)]
    refine ev_ifn h (ev_succ ?_)
    simp only [impl_CoolestFor.j0]
    exact ev_ifp (by simp) (Ev.now _)
theorem fnr_j3 (n p : Int) (hp : 1 ≤ p ∧ p ≤ 256) : Ev (fun k => laws_FnRises.j3 k n p n false) true := by
  have hs : pSpeed 24 = 8 := by decide
  have hm : pMinutes 24 p = pUp p 8 := by rw [pMinutes_ok (by omega) (by omega), hs]
  have hu := pUp_props (a := p) (b := 8) (by omega) (by omega)
  refine ev_succ ?_
  simp only [laws_FnRises.j3]
  refine ev_ifn (by decide) (Ev.bind (impl_MinutesAt_ev 24 p) ?_)
  rw [hm, w64 (n := pUp p 8 * 8) (by omega) (by omega), w64 (n := pUp p 8 - 1) (by omega) (by omega), w64 (n := (pUp p 8 - 1) * 8) (by omega) (by omega)]
  refine ev_ifp trivial (ev_ifp (by omega) (ev_ifp (by omega) (Ev.bind (impl_SpeedAt_ev 3) (ev_ifp (by decide) (Ev.bind (impl_SpeedAt_ev 35) (ev_const (by decide)))))))
theorem fnr_l1 (xs : List Int) (hb : xs.length ≤ 1048576) (hx : ∀ x ∈ xs, (Lit.int .u8 x).wf = true) (n p : Int) (hp : 1 ≤ p ∧ p ≤ 256) (d : Nat) : ∀ t : Int, 4 ≤ t → t + d = 34 → Ev (fun k => laws_FnRises.l1 k xs n p n t) true := by
  induction d with
  | zero =>
    intro t h0 h1
    obtain ⟨v, ev, v0, v1⟩ := laws_at_some xs 1 hb (by omega) hx
    refine ev_succ ?_
    simp only [laws_FnRises.l1, ev, Option.bind_some]
    rw [w64 (n := 1 + v) (by omega) (by omega)]
    have hc : pCoolestFor p (1 + v) = pCoolest p (1 + v) 32 4 := by unfold pCoolestFor; rw [if_pos (by omega)]
    have hq := pCoolest_props (p := p) (m := 1 + v) 32 4 (by omega) (by omega) (by omega) (by omega)
    refine ev_ifn (by omega) (Ev.bind (impl_CoolestFor_ev p (1 + v)) ?_)
    rw [hc]
    generalize pCoolest p (1 + v) 32 4 = c at hq ⊢
    by_cases h2 : c ≥ 0
    · obtain ⟨q1, q2, q3⟩ : (4 ≤ c ∧ c ≤ 34) ∧ pMinutes c p ≤ 1 + v ∧ (4 < c → 1 + v < pMinutes (c - 1) p) := by
        rcases hq with hq | hq
        · have := hq.1
          omega
        · exact hq
      refine ev_ifp h2 (Ev.bind (impl_MinutesAt_ev c p) (ev_ifn (by omega) ?_))
      rw [w64 (n := c - 1) (by omega) (by omega)]
      by_cases h3 : c > 4
      · have := q3 h3
        exact ev_ifp h3 (Ev.bind (impl_MinutesAt_ev (c - 1) p) (ev_ifn (by omega) (ev_ifn (by omega) (fnr_j3 n p hp))))
      · exact ev_ifn h3 (ev_ifn (by omega) (fnr_j3 n p hp))
    · have q1 : 1 + v < pMinutes 34 p := by
        rcases hq with hq | hq
        · exact hq.2
        · omega
      refine ev_ifn h2 (ev_ifp (by omega) (Ev.bind (impl_MinutesAt_ev 34 p) ?_))
      rw [decide_eq_false (show ¬ pMinutes 34 p ≤ 1 + v by omega)]
      exact fnr_j3 n p hp
  | succ d ih =>
    intro t h0 h1
    have h2 := pSpeed_up (t := t) (by omega)
    have h3 := pMinutes_down (t := t) (p := p) (by omega) (by omega)
    refine ev_succ ?_
    simp only [laws_FnRises.l1]
    rw [w64 (n := t + 1) (by omega) (by omega)]
    exact ev_ifp (by omega) (Ev.bind (impl_SpeedAt_ev (t + 1)) (Ev.bind (impl_SpeedAt_ev t) (ev_ifn (by omega) (Ev.bind (impl_MinutesAt_ev (t + 1) p) (Ev.bind (impl_MinutesAt_ev t p) (ev_ifn (by omega) (ih (t + 1) (by omega) (by omega))))))))
theorem fnr_l0 (xs : List Int) (hb : xs.length ≤ 1048576) (hx : ∀ x ∈ xs, (Lit.int .u8 x).wf = true) (ds : List Int) (hl : ds.length ≤ 20) (hd : pDegOk ds = true) (p : Int) (hp : 1 ≤ p ∧ p ≤ 256) (d : Nat) : ∀ (j : Nat) (acc : Int), j + d = ds.length → 0 ≤ acc → acc + pRise (ds.drop j) = pRise ds → Ev (fun k => laws_FnRises.l0 k xs ds (pRise ds) p acc j) true := by
  have hr := pRise_range ds hd
  induction d with
  | zero =>
    intro j acc hj h0 h1
    rw [List.drop_of_length_le (by omega)] at h1
    simp only [pRise] at h1
    refine ev_succ ?_
    simp only [laws_FnRises.l0]
    rw [show acc = pRise ds by omega]
    exact ev_ifn (by omega) (fnr_l1 xs hb hx (pRise ds) p hp 30 4 (by omega) (by omega))
  | succ d ih =>
    intro j acc hj h0 h1
    have h2 := (pRise_range (ds.drop (j + 1)) (all_drop hd (j + 1))).1
    rw [List.drop_eq_getElem_cons (show j < ds.length by omega)] at h1
    simp only [pRise] at h1
    have h3 : 0 ≤ pSpeed (ds[j]'(by omega)) := by
      have := List.all_eq_true.1 hd _ (List.getElem_mem (show j < ds.length by omega))
      simp only [decide_eq_true_eq] at this
      exact pSpeed_in this
    refine ev_succ ?_
    simp only [laws_FnRises.l0]
    rw [rd_nat ds j (by omega), wnext (n := ds.length) (by omega) (by omega)]
    refine ev_ifp (by omega) (ev_ifp (by omega) (Ev.bind (impl_SpeedAt_ev _) ?_))
    rw [w64 (n := acc + pSpeed (ds[j]'(by omega))) (by omega) (by omega)]
    exact ih (j + 1) _ (by omega) (by omega) (by omega)
theorem FnRises : laws_FnRises.Pure := by
  intro l0 hm _ hx
  refine Ev.rounds (g := fun k => laws_FnRises.f k l0) ?_
  unfold laws_FnRises.f
  simp only [laws_big_eq, Option.bind_some]
  by_cases h : (l0.length : Int) > 1048576
  · simp only [decide_eq_true h, if_true]
    exact Ev.now _
  · simp only [decide_eq_false h, Bool.false_eq_true, if_false]
    obtain ⟨ds, hdr, hl, hd⟩ := spec_DrawDegrees_ev l0 (by omega)
    obtain ⟨v, ev, v0, v1⟩ := laws_at_some l0 0 (by omega) (by omega) hx
    have ea : ∀ ys : List Int, ys.length ≤ 20 → pDegOk ys = true → pRiseAfter ys = pRise ys := fun ys h1 h2 => by unfold pRiseAfter; rw [if_pos ⟨by omega, h2⟩]
    have hr := pRise_range ds hd
    refine Ev.bind hdr (Ev.bind (impl_RiseAfter_ev ds (by omega)) ?_)
    simp only [ev, Option.bind_some]
    rw [w64 (n := 1 + v) (by omega) (by omega), ea ds hl hd]
    generalize hp : 1 + v = p
    refine Ev.bind (impl_ReadyAt_ev ds p (by omega)) ?_
    have er : pReadyAt ds p = pReadyL p ds 0 0 := by
      unfold pReadyAt
      rw [ea ds hl hd, if_neg (by omega)]
    rw [er]
    have fin : Ev (fun k => laws_FnRises.j0 k l0 ds (pRise ds) p false) true := by
      refine ev_succ ?_
      simp only [laws_FnRises.j0]
      exact ev_ifn (by decide) (fnr_l0 l0 (by omega) hx ds hl hd p (by omega) ds.length 0 0 (by omega) (by omega) (by simp))
    refine ev_ifn (by omega) ?_
    rcases pReadyL_props (p := p) ds 0 0 (by omega) with ⟨h1, h2⟩ | ⟨j, h1, h2, h3, h4⟩
    · rw [h1]
      refine ev_ifn (by rw [decide_eq_false (show ¬ (-1 : Int) ≥ 0 by omega), decide_eq_false (show ¬ pRise ds ≥ p by omega)]; decide) (ev_ifn (by omega) (ev_ifn (by omega) fin))
    · have h5 := pRise_take_le hd (j + 1)
      have l1 : (ds.take (j + 1)).length ≤ 20 := by rw [List.length_take]; omega
      have l2 : (ds.take j).length ≤ 20 := by rw [List.length_take]; omega
      rw [h2, show (0 : Int) + (j : Int) = (j : Int) by omega, wnext (n := ds.length) h1 (by omega), Int.toNat_natCast, Int.toNat_natCast]
      refine ev_ifn (by rw [decide_eq_true (show (j : Int) ≥ 0 by omega), decide_eq_true (show pRise ds ≥ p by omega)]; decide) (ev_ifn (by omega) (ev_ifp (by omega) (ev_ifp (by omega) (ev_ifp (by omega) (Ev.bind (impl_RiseAfter_ev _ (by omega)) ?_)))))
      rw [ea _ l1 (pDegOk_take hd _)]
      refine ev_ifn (by omega) (ev_ifp (by omega) (ev_ifp (by omega) (Ev.bind (impl_RiseAfter_ev _ (by omega)) ?_)))
      rw [ea _ l2 (pDegOk_take hd _), decide_eq_false (by omega)]
      exact fin
end Go.Proofs.Ytamdbkilpllfoaa.Pure
