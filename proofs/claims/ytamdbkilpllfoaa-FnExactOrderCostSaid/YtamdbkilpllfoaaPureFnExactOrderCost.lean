/- What is proved: read as plain functions on numbers and lists, the law FnExactOrderCost answers true at every input of its kinds; no condition is added. -/
import Derived.Test.YtamdbkilpllfoaaPFnExactOrderCostx3
import Derived.Test.YtamdbkilpllfoaaPlain
set_option linter.unusedVariables false
set_option linter.unusedSimpArgs false
set_option maxRecDepth 20000
namespace Go.Proofs.Ytamdbkilpllfoaa.Pure
open Go.RowKit Go.Proofs.Ytamdbkilpllfoaa.PFnExactOrderCost Go.Proofs.YtamdbkilpllfoaaW.PrintWords Go.Proofs.YtamdbkilpllfoaaW.PrintLast Go.Proofs.YtamdbkilpllfoaaW.PrintMore Go.Proofs.Ytamdbkilpllfoaa.Plain
theorem laws_toIntS_l0 (xs : List Int) (hn : xs.length ≤ 4611686018427387904) (d : Nat) : ∀ (j : Nat) (ys : List Int), j + d = xs.length → ys.length = xs.length → Ev (fun k => laws_toIntS.l0 k xs ys j) (ys.take j ++ xs.drop j) := by
  induction d with
  | zero =>
    intro j ys hj hy
    refine ev_succ ?_
    simp only [laws_toIntS.l0]
    rw [List.take_of_length_le (by omega), List.drop_of_length_le (by omega)]
    exact ev_ifn (by omega) (ev_const (by simp))
  | succ d ih =>
    intro j ys hj hy
    refine ev_succ ?_
    simp only [laws_toIntS.l0]
    rw [wnext (n := xs.length) (by omega) hn, Int.toNat_natCast, rd_nat xs j (by omega)]
    refine ev_ifp (by omega) (ev_ifp (by omega) (ev_ifp (by omega) (ev_eq (ih (j + 1) (ys.set j xs[j]) (by omega) (by simpa using hy)) ?_)))
    rw [take_set_succ ys j _ (by omega), List.drop_eq_getElem_cons (show j < xs.length by omega)]
    simp only [List.append_assoc, List.singleton_append]
theorem laws_toIntS_ev (xs : List Int) (hn : xs.length ≤ 35184372088832) : Ev (fun k => laws_toIntS.f k xs) xs := by
  unfold laws_toIntS.f
  simp only [Int.toNat_natCast]
  exact ev_ifp (by omega) (ev_ifp hn (ev_eq (laws_toIntS_l0 xs (by omega) xs.length 0 _ (by omega) (by simp)) (by simp)))
theorem laws_eqIntS_l0 (xs : List Int) (hn : xs.length ≤ 4611686018427387904) (d : Nat) : ∀ j : Nat, j + d = xs.length → Ev (fun k => laws_eqIntS.l0 k xs xs j) true := by
  induction d with
  | zero =>
    intro j hj
    refine ev_at 1 fun k => ?_
    simp only [laws_eqIntS.l0]
    rw [if_neg (by omega)]
  | succ d ih =>
    intro j hj
    refine Ev.step (f := fun k => laws_eqIntS.l0 k xs xs ((j + 1 : Nat) : Int)) (fun k => ?_) (ih (j + 1) (by omega))
    simp only [laws_eqIntS.l0, if_true]
    rw [if_pos (by omega), if_pos (by omega), if_pos (by omega), wnext (n := xs.length) (by omega) hn]
theorem laws_eqIntS_ev (xs : List Int) (hn : xs.length ≤ 4611686018427387904) : Ev (fun k => laws_eqIntS.f k xs xs) true := by
  unfold laws_eqIntS.f
  simp only [if_true]
  exact laws_eqIntS_l0 xs hn xs.length 0 (by omega)
theorem spec_l01In_eq (a b c : Int) : spec_l01In.f a b c = some (decide (b ≤ a ∧ a ≤ c)) := by
  unfold spec_l01In.f
  by_cases h : b ≤ a <;> simp [h]
theorem spec_l08Ok_eq (a : Int) : spec_l08Ok.f a = some (decide (0 ≤ a ∧ a ≤ 350)) := by
  unfold spec_l08Ok.f
  simp only [spec_l01In_eq, Option.bind_some]
theorem spec_l08List_l0 (xs : List Int) (s : Int) (hn : xs.length ≤ 1048576) (d : Nat) : ∀ j : Nat, j + d = xs.length → Ev (fun k => spec_l08List.l0 k xs s j) ((xs.drop j).all (fun x => decide (0 ≤ x ∧ x ≤ 350)) && decide (xs.length ≤ 8 ∧ (0 ≤ s ∧ s ≤ 350))) := by
  induction d with
  | zero =>
    intro j hj
    refine ev_succ ?_
    simp only [spec_l08List.l0, spec_l08Ok_eq, Option.bind_some]
    rw [List.drop_of_length_le (by omega)]
    refine ev_ifn (by omega) ?_
    by_cases h : xs.length ≤ 8
    · exact ev_ifp (by omega) (ev_const (by simp [h]))
    · exact ev_ifn (by omega) (ev_const (by simp [h]))
  | succ d ih =>
    intro j hj
    refine ev_succ ?_
    simp only [spec_l08List.l0, spec_l08Ok_eq, Option.bind_some]
    rw [List.drop_eq_getElem_cons (show j < xs.length by omega), rd_nat xs j (by omega), wnext (n := xs.length) (by omega) (by omega), List.all_cons]
    refine ev_ifp (by omega) (ev_ifp (by omega) ?_)
    by_cases h : 0 ≤ xs[j] ∧ xs[j] ≤ 350
    · rw [decide_eq_true h, Bool.true_and]
      exact ev_ifp rfl (ih (j + 1) (by omega))
    · rw [decide_eq_false h, Bool.false_and, Bool.false_and]
      exact ev_ifn (by decide) (Ev.now _)
theorem spec_l08List_ev (xs : List Int) (s : Int) (hn : xs.length ≤ 1048576) : Ev (fun k => spec_l08List.f k xs s) (decide (pHeatsOk xs = true ∧ (0 ≤ s ∧ s ≤ 350))) := by
  unfold spec_l08List.f
  refine ev_eq (spec_l08List_l0 xs s hn xs.length 0 (by omega)) ?_
  rw [List.drop_zero]
  simp only [pHeatsOk]
  rw [Bool.eq_iff_iff]
  simp only [Bool.and_eq_true, decide_eq_true_eq]
  exact ⟨fun c => ⟨⟨c.2.1, c.1⟩, c.2.2⟩, fun c => ⟨c.1.2, c.1.1, c.2⟩⟩
theorem spec_HeatCost_ev (a b : Int) : Ev (fun k => spec_HeatCost.f k a b) (pHeatCost a b) := ev_at 1 fun k => by
  unfold spec_HeatCost.f pHeatCost
  simp only [spec_l08Ok_eq, spec_HeatCost.j0, Option.bind_some, decide_eq_true_eq]
  by_cases h : 0 ≤ a ∧ a ≤ 350
  · by_cases h2 : 0 ≤ b ∧ b ≤ 350
    · have e1 : wrap64 (b - a) = b - a := w64 (by omega) (by omega)
      have e2 : wrap64 (2 * (b - a)) = 2 * (b - a) := w64 (by omega) (by omega)
      have e3 : wrap64 (a - b) = a - b := w64 (by omega) (by omega)
      rw [e1, e2, e3]
      by_cases h3 : a < b <;> simp [h, h2, h3]
    · simp [h, h2]
  · simp [h]
theorem rdOf_nat (xs : List Bool) (j : Nat) (h : j < xs.length) : rdOf false xs (j : Int) = xs[j] := by
  simp [rdOf, List.getD_eq_getElem?_getD, List.getElem?_eq_getElem h]
theorem spec_OrderCost_l0 (hs os : List Int) (hh : hs.length ≤ 8) (hn : os.length ≤ 1048576) (d : Nat) : ∀ (j : Nat) (seen : List Bool) (acc now : Int), j + d = os.length → seen.length = hs.length → (∀ m : Nat, m < hs.length → seen.getD m false = decide ((m : Int) ∈ os.take j)) → -1000 * (j : Int) ≤ acc → acc ≤ 1000 * j →
    Ev (fun k => spec_OrderCost.l0 k hs os seen acc now j) (if pOrdOk hs.length (os.take j) (os.drop j) = true then acc + pCost hs now (os.drop j) else -1) := by
  induction d with
  | zero =>
    intro j seen acc now hj hs1 hs2 h0 h1
    refine ev_succ ?_
    simp only [spec_OrderCost.l0]
    rw [List.drop_of_length_le (by omega)]
    exact ev_ifn (by omega) (ev_const (by simp [pOrdOk, pCost]))
  | succ d ih =>
    intro j seen acc now hj hs1 hs2 h0 h1
    refine ev_succ ?_
    simp only [spec_OrderCost.l0, spec_l01In_eq, Option.bind_some]
    rw [List.drop_eq_getElem_cons (show j < os.length by omega), rd_nat os j (by omega), wnext (n := os.length) (by omega) (by omega), w64 (n := (hs.length : Int) - 1) (by omega) (by omega)]
    refine ev_ifp (by omega) (ev_ifp (by omega) ?_)
    by_cases h : 0 ≤ os[j] ∧ os[j] ≤ (hs.length : Int) - 1
    · obtain ⟨m, hm⟩ := Int.eq_ofNat_of_zero_le h.1
      have hml : m < hs.length := by omega
      have hg := hs2 m hml
      rw [List.getD_eq_getElem?_getD, List.getElem?_eq_getElem (by omega), Option.getD_some] at hg
      refine ev_ifp (decide_eq_true h) (ev_ifp h.1 (ev_ifp (by omega) ?_))
      rw [hm] at h ⊢
      rw [rdOf_nat seen m (by omega), hg]
      by_cases hin : (m : Int) ∈ os.take j
      · rw [if_neg (by rw [pOrdOk_dup hin]; decide)]
        exact ev_ifp (decide_eq_true hin) (Ev.now _)
      · rw [pOrdOk_go h hin]
        simp only [pCost]
        refine ev_ifn (by rw [decide_eq_false hin]; decide) (ev_ifp (by omega) (Ev.bind (spec_HeatCost_ev _ _) ?_))
        have hc := pHeatCost_range now (rd hs m)
        have ht : os.take (j + 1) = os.take j ++ [(m : Int)] := by rw [List.take_succ_eq_append_getElem (by omega), hm]
        rw [w64 (n := acc + pHeatCost now (rd hs m)) (by omega) (by omega), Int.toNat_natCast]
        refine ev_eq (ih (j + 1) (seen.set m true) _ _ (by omega) (by simpa using hs1) (fun q hq => ?_) (by omega) (by omega)) ?_
        · rw [ht]
          by_cases e : q = m
          · subst e
            simp [List.getD_eq_getElem?_getD, hs1, hq]
          · have e2 : ((q : Int) ∈ os.take j ++ [(m : Int)]) ↔ (q : Int) ∈ os.take j := by
              simp only [List.mem_append, List.mem_singleton]
              constructor
              · rintro (h | h)
                · exact h
                · omega
              · exact .inl
            rw [decide_eq_decide.2 e2, ← hs2 q hq, List.getD_eq_getElem?_getD, List.getD_eq_getElem?_getD, List.getElem?_set_ne (by omega)]
        · rw [ht]
          split <;> omega
    · rw [if_neg (by rw [pOrdOk_bad h]; decide)]
      exact ev_ifn (by rw [decide_eq_false h]; decide) (Ev.now _)
theorem spec_OrderCost_ev (hs os : List Int) (s : Int) (hn : hs.length ≤ 1048576) (hm : os.length ≤ 1048576) : Ev (fun k => spec_OrderCost.f k hs os s) (pOrderCost hs os s) := by
  unfold spec_OrderCost.f pOrderCost
  refine Ev.bind (spec_l08List_ev hs s hn) ?_
  by_cases h : pHeatsOk hs = true ∧ (0 ≤ s ∧ s ≤ 350)
  · refine ev_ifp (decide_eq_true h) (ev_succ ?_)
    simp only [spec_OrderCost.j0]
    by_cases h2 : os.length = hs.length
    · have h3 : hs.length ≤ 8 := by have := h.1; simp only [pHeatsOk, Bool.and_eq_true, decide_eq_true_eq] at this; exact this.1
      have e : ((os.length : Int) != (hs.length : Int)) = false := by rw [bne_eq_false_iff_eq]; omega
      rw [e, Int.toNat_natCast]
      refine ev_ifn (by decide) (ev_ifp (by omega) (ev_ifp (by omega) (ev_eq (spec_OrderCost_l0 hs os h3 hm os.length 0 _ 0 s (by omega) (by simp) (fun m hq => by simp [List.getD_eq_getElem?_getD, hq]) (by omega) (by omega)) ?_)))
      rw [List.take_zero, List.drop_zero]
      by_cases h4 : pOrdOk hs.length [] os = true
      · rw [if_pos h4, if_pos ⟨h, h2, h4⟩]
        omega
      · rw [if_neg h4, if_neg (fun c => h4 c.2.2)]
    · have e : ((os.length : Int) != (hs.length : Int)) = true := by rw [bne_iff_ne]; omega
      rw [e, if_neg (fun c => h2 c.2.1)]
      exact ev_ifp rfl (Ev.now _)
  · rw [if_neg (fun c => h c.1)]
    refine ev_ifn (by simp [h]) (ev_succ ?_)
    simp only [spec_OrderCost.j0]
    exact ev_ifp (by simp) (Ev.now _)
theorem impl_in_eq (a b c : Int) : impl_in.f a b c = some (decide (b ≤ a ∧ a ≤ c)) := by
  unfold impl_in.f
  by_cases h : b ≤ a <;> simp [h]
theorem impl_allIn_eq (xs : List Int) (a b : Int) : impl_allIn.f xs a b = some (xs.all fun x => decide (a ≤ x ∧ x ≤ b)) := rfl
theorem impl_areHeats_eq (xs : List Int) : impl_areHeats.f xs = some (pHeatsOk xs) := by
  unfold impl_areHeats.f pHeatsOk
  simp only [impl_allIn_eq, Option.bind_some]
  by_cases h : xs.length ≤ 8
  · rw [if_pos (by omega), decide_eq_true h, Bool.true_and]
  · rw [if_neg (by omega), decide_eq_false h, Bool.false_and]
theorem slices_Index_int_int_l0 (xs : List Int) (a : Int) (hn : xs.length ≤ 1048576) (d : Nat) : ∀ j : Nat, j + d = xs.length → ∃ r, Ev (fun k => slices_Index_int_int.l0 k xs a (xs.length : Int) j) r ∧ (r ≥ 0 ↔ a ∈ xs.drop j) := by
  induction d with
  | zero =>
    intro j hj
    refine ⟨-1, ev_succ ?_, ?_⟩
    · simp only [slices_Index_int_int.l0]
      exact ev_ifn (by omega) (Ev.now _)
    · rw [List.drop_of_length_le (by omega)]
      simp
  | succ d ih =>
    intro j hj
    obtain ⟨r, he, hr⟩ := ih (j + 1) (by omega)
    by_cases h : a = xs[j]
    · refine ⟨j, ev_succ ?_, ?_⟩
      · simp only [slices_Index_int_int.l0]
        rw [rd_nat xs j (by omega)]
        exact ev_ifp (by omega) (ev_ifp (by omega) (ev_ifp (by omega) (ev_ifp h (Ev.now _))))
      · rw [List.drop_eq_getElem_cons (show j < xs.length by omega), ← h]
        exact ⟨fun _ => List.mem_cons_self, fun _ => by omega⟩
    · refine ⟨r, ev_succ ?_, ?_⟩
      · simp only [slices_Index_int_int.l0]
        rw [rd_nat xs j (by omega), wnext (n := xs.length) (by omega) (by omega)]
        exact ev_ifp (by omega) (ev_ifp (by omega) (ev_ifp (by omega) (ev_ifn h he)))
      · rw [List.drop_eq_getElem_cons (show j < xs.length by omega), hr]
        exact ⟨fun c => List.mem_cons_of_mem _ c, fun c => (List.mem_cons.1 c).resolve_left h⟩
theorem slices_Contains_int_int_ev (xs : List Int) (a : Int) (hn : xs.length ≤ 1048576) : Ev (fun k => slices_Contains_int_int.f k xs a) (decide (a ∈ xs)) := by
  unfold slices_Contains_int_int.f slices_Index_int_int.f
  obtain ⟨r, he, hr⟩ := slices_Index_int_int_l0 xs a hn xs.length 0 (by omega)
  rw [List.drop_zero] at hr
  refine Ev.bind he (ev_const ?_)
  rw [decide_eq_decide.2 hr]
theorem impl_isOrder_l0 (n : Int) (os : List Int) (h0 : 0 ≤ n ∧ n ≤ 1048576) (hn : os.length ≤ 1048576) (d : Nat) : ∀ j : Nat, j + d = os.length → Ev (fun k => impl_isOrder.l0 k os n os (os.length : Int) j) (pOrdOk n (os.take j) (os.drop j) && ((os.length : Int) == n)) := by
  induction d with
  | zero =>
    intro j hj
    refine ev_succ ?_
    simp only [impl_isOrder.l0]
    rw [List.drop_of_length_le (by omega)]
    exact ev_ifn (by omega) (ev_const (by simp [pOrdOk]))
  | succ d ih =>
    intro j hj
    refine ev_succ ?_
    simp only [impl_isOrder.l0, impl_in_eq, Option.bind_some]
    rw [List.drop_eq_getElem_cons (show j < os.length by omega), rd_nat os j (by omega), wnext (n := os.length) (by omega) (by omega), w64 (n := n - 1) (by omega) (by omega), Int.toNat_natCast]
    refine ev_ifp (by omega) (ev_ifp (by omega) (ev_ifp (by omega) ?_))
    by_cases h : 0 ≤ os[j] ∧ os[j] ≤ n - 1
    · refine ev_ifp (decide_eq_true h) (ev_ifp (by omega) (Ev.bind (slices_Contains_int_int_ev _ _ (by rw [List.length_take]; omega)) ?_))
      by_cases hin : os[j] ∈ os.take j
      · rw [pOrdOk_dup hin, Bool.false_and]
        exact ev_ifp (decide_eq_true hin) (Ev.now _)
      · rw [pOrdOk_go h hin]
        have ht : os.take (j + 1) = os.take j ++ [os[j]] := List.take_succ_eq_append_getElem (by omega)
        exact ev_ifn (by rw [decide_eq_false hin]; decide) (ev_eq (ih (j + 1) (by omega)) (by rw [ht]))
    · rw [pOrdOk_bad h, Bool.false_and]
      exact ev_ifn (by rw [decide_eq_false h]; decide) (Ev.now _)
theorem impl_isOrder_ev (n : Int) (os : List Int) (h0 : 0 ≤ n ∧ n ≤ 1048576) (hn : os.length ≤ 1048576) : Ev (fun k => impl_isOrder.f k os n) (pOrdOk n [] os && ((os.length : Int) == n)) := by
  unfold impl_isOrder.f
  exact ev_eq (impl_isOrder_l0 n os h0 hn os.length 0 (by omega)) (by simp)
theorem impl_HeatCost_ev (a b : Int) : Ev (fun k => impl_HeatCost.f k a b) (pHeatCost a b) := ev_at 1 fun k => by
  unfold impl_HeatCost.f pHeatCost
  simp only [impl_in_eq, impl_HeatCost.j0, Option.bind_some, decide_eq_true_eq]
  by_cases h : 0 ≤ a ∧ a ≤ 350
  · by_cases h2 : 0 ≤ b ∧ b ≤ 350
    · have e1 : wrap64 (b - a) = b - a := w64 (by omega) (by omega)
      have e2 : wrap64 (2 * (b - a)) = 2 * (b - a) := w64 (by omega) (by omega)
      have e3 : wrap64 (a - b) = a - b := w64 (by omega) (by omega)
      rw [e1, e2, e3]
      by_cases h3 : a < b <;> simp [h, h2, h3]
    · simp [h, h2]
  · simp [h]
theorem impl_OrderCost_l0 (hs os : List Int) (hh : hs.length ≤ 8) (hn : os.length ≤ 1048576) (d : Nat) : ∀ (j : Nat) (acc now : Int), j + d = os.length → pOrdOk hs.length (os.take j) (os.drop j) = true → -1000 * (j : Int) ≤ acc → acc ≤ 1000 * j →
    Ev (fun k => impl_OrderCost.l0 k hs now acc os (os.length : Int) j) (acc + pCost hs now (os.drop j)) := by
  induction d with
  | zero =>
    intro j acc now hj ho h0 h1
    refine ev_succ ?_
    simp only [impl_OrderCost.l0]
    rw [List.drop_of_length_le (by omega)]
    exact ev_ifn (by omega) (ev_const (by simp [pCost]))
  | succ d ih =>
    intro j acc now hj ho h0 h1
    refine ev_succ ?_
    simp only [impl_OrderCost.l0]
    rw [List.drop_eq_getElem_cons (show j < os.length by omega)] at ho ⊢
    simp only [pOrdOk, Bool.and_eq_true, decide_eq_true_eq] at ho
    have ht : os.take (j + 1) = os.take j ++ [os[j]] := List.take_succ_eq_append_getElem (by omega)
    have hc := pHeatCost_range now (rd hs os[j])
    rw [rd_nat os j (by omega), wnext (n := os.length) (by omega) (by omega)]
    refine ev_ifp (by omega) (ev_ifp (by omega) (ev_ifp (by omega) (ev_ifp ho.1.1 (ev_ifp (by omega) (Ev.bind (impl_HeatCost_ev _ _) ?_)))))
    rw [w64 (n := acc + pHeatCost now (rd hs os[j])) (by omega) (by omega)]
    simp only [pCost]
    exact ev_eq (ih (j + 1) _ _ (by omega) (by rw [ht]; exact ho.2.2) (by omega) (by omega)) (by omega)
theorem impl_OrderCost_ev (hs os : List Int) (s : Int) (hn : hs.length ≤ 1048576) (hm : os.length ≤ 1048576) : Ev (fun k => impl_OrderCost.f k hs os s) (pOrderCost hs os s) := by
  unfold impl_OrderCost.f pOrderCost
  simp only [impl_areHeats_eq, impl_in_eq, Option.bind_some]
  by_cases h : pHeatsOk hs = true
  · have h3 : hs.length ≤ 8 := by have := h; simp only [pHeatsOk, Bool.and_eq_true, decide_eq_true_eq] at this; exact this.1
    refine ev_ifp h ?_
    by_cases h5 : 0 ≤ s ∧ s ≤ 350
    · refine ev_ifp (decide_eq_true h5) (Ev.bind (impl_isOrder_ev _ os (by omega) hm) (ev_succ ?_))
      simp only [impl_OrderCost.j0]
      by_cases h4 : pOrdOk hs.length [] os = true
      · by_cases h2 : os.length = hs.length
        · have e : ((os.length : Int) == (hs.length : Int)) = true := by rw [beq_iff_eq]; omega
          rw [h4, e, if_pos ⟨⟨h, h5⟩, h2, rfl⟩]
          exact ev_ifn (by decide) (ev_eq (impl_OrderCost_l0 hs os h3 hm os.length 0 0 s (by omega) h4 (by omega) (by omega)) (by simp))
        · have e : ((os.length : Int) == (hs.length : Int)) = false := by rw [beq_eq_false_iff_ne]; omega
          rw [e, Bool.and_false, if_neg (fun c => h2 c.2.1)]
          exact ev_ifp (by simp) (Ev.now _)
      · rw [Bool.eq_false_iff.2 h4, Bool.false_and, if_neg (fun c => by cases c.2.2)]
        exact ev_ifp (by simp) (Ev.now _)
    · rw [if_neg (fun c => h5 c.1.2)]
      refine ev_ifn (by simp [h5]) (ev_succ ?_)
      simp only [impl_OrderCost.j0]
      exact ev_ifp (by simp) (Ev.now _)
  · rw [if_neg (fun c => h c.1.1)]
    refine ev_ifn h (ev_succ ?_)
    simp only [impl_OrderCost.j0]
    exact ev_ifp (by simp) (Ev.now _)
theorem FnExactOrderCost : laws_FnExactOrderCost.Pure := by
  intro hs os s _ _ _ _ _ _ _
  refine Ev.rounds (g := fun k => laws_FnExactOrderCost.f k hs os s) ?_
  unfold laws_FnExactOrderCost.f
  by_cases h : (hs.length : Int) > 1048576
  · exact ev_ifp h (Ev.now _)
  · refine ev_ifn h ?_
    by_cases h2 : (os.length : Int) > 1048576
    · exact ev_ifp h2 (Ev.now _)
    · have hn : hs.length ≤ 1048576 := by omega
      have hm : os.length ≤ 1048576 := by omega
      have th := laws_toIntS_ev hs (by omega)
      have t2 := laws_toIntS_ev os (by omega)
      exact ev_ifn h2 (Ev.bind th (Ev.bind t2 (Ev.bind (spec_OrderCost_ev hs os s hn hm) (Ev.bind th (Ev.bind t2 (Ev.bind (impl_OrderCost_ev hs os s hn hm) (ev_ifp rfl (Ev.bind th (Ev.bind (laws_eqIntS_ev hs (by omega)) (ev_ifp rfl (Ev.bind t2 (Ev.bind (laws_eqIntS_ev os (by omega)) (ev_ifp rfl (Ev.now _))))))))))))))
end Go.Proofs.Ytamdbkilpllfoaa.Pure
