/- What is proved: read as plain functions on numbers and lists, the law FnExactBestHeats answers true at every input of its kinds; no condition is added. -/
import Derived.Test.YtamdbkilpllfoaaPFnExactBestHeatsx4
import Derived.Test.YtamdbkilpllfoaaPlain
set_option linter.unusedVariables false
set_option linter.unusedSimpArgs false
set_option maxRecDepth 20000
namespace Go.Proofs.Ytamdbkilpllfoaa.Pure
open Go.RowKit Go.Proofs.Ytamdbkilpllfoaa.PFnExactBestHeats Go.Proofs.YtamdbkilpllfoaaW.PrintWords Go.Proofs.YtamdbkilpllfoaaW.PrintLast Go.Proofs.YtamdbkilpllfoaaW.PrintMore Go.Proofs.Ytamdbkilpllfoaa.Plain
theorem laws_toIntS_l0 (xs : List Int) (hn : xs.length ≤ 4611686018427387904) (d : Nat) : ∀ (j : Nat) (ys : List Int), j + d = xs.length → ys.length = xs.length → Ev (fun k => laws_toIntS.l0 k xs ys j) (ys.take j ++ xs.drop j) := by
  induction d with
  | zero =>
    intro j ys hj hy
    refine ev_succ ?_
    simp only [laws_toIntS.l0]
    rw [List.take_of_length_le (by omega), List.drop_of_length_le (by omega)]
    exact ev_ifn (by omega) (ev_const (by simp))
  | succ d ih =>
    intro j ys hj hy
    refine ev_succ ?_
    simp only [laws_toIntS.l0]
    rw [wnext (n := xs.length) (by omega) hn, Int.toNat_natCast, rd_nat xs j (by omega)]
    refine ev_ifp (by omega) (ev_ifp (by omega) (ev_ifp (by omega) (ev_eq (ih (j + 1) (ys.set j xs[j]) (by omega) (by simpa using hy)) ?_)))
    rw [take_set_succ ys j _ (by omega), List.drop_eq_getElem_cons (show j < xs.length by omega)]
    simp only [List.append_assoc, List.singleton_append]
theorem laws_toIntS_ev (xs : List Int) (hn : xs.length ≤ 35184372088832) : Ev (fun k => laws_toIntS.f k xs) xs := by
  unfold laws_toIntS.f
  simp only [Int.toNat_natCast]
  exact ev_ifp (by omega) (ev_ifp hn (ev_eq (laws_toIntS_l0 xs (by omega) xs.length 0 _ (by omega) (by simp)) (by simp)))
theorem laws_eqIntS_l0 (xs : List Int) (hn : xs.length ≤ 4611686018427387904) (d : Nat) : ∀ j : Nat, j + d = xs.length → Ev (fun k => laws_eqIntS.l0 k xs xs j) true := by
  induction d with
  | zero =>
    intro j hj
    refine ev_at 1 fun k => ?_
    simp only [laws_eqIntS.l0]
    rw [if_neg (by omega)]
  | succ d ih =>
    intro j hj
    refine Ev.step (f := fun k => laws_eqIntS.l0 k xs xs ((j + 1 : Nat) : Int)) (fun k => ?_) (ih (j + 1) (by omega))
    simp only [laws_eqIntS.l0, if_true]
    rw [if_pos (by omega), if_pos (by omega), if_pos (by omega), wnext (n := xs.length) (by omega) hn]
theorem laws_eqIntS_ev (xs : List Int) (hn : xs.length ≤ 4611686018427387904) : Ev (fun k => laws_eqIntS.f k xs xs) true := by
  unfold laws_eqIntS.f
  simp only [if_true]
  exact laws_eqIntS_l0 xs hn xs.length 0 (by omega)
theorem spec_l01In_eq (a b c : Int) : spec_l01In.f a b c = some (decide (b ≤ a ∧ a ≤ c)) := by
  unfold spec_l01In.f
  by_cases h : b ≤ a <;> simp [h]
theorem spec_l08Ok_eq (a : Int) : spec_l08Ok.f a = some (decide (0 ≤ a ∧ a ≤ 350)) := by
  unfold spec_l08Ok.f
  simp only [spec_l01In_eq, Option.bind_some]
theorem spec_l08List_l0 (xs : List Int) (s : Int) (hn : xs.length ≤ 1048576) (d : Nat) : ∀ j : Nat, j + d = xs.length → Ev (fun k => spec_l08List.l0 k xs s j) ((xs.drop j).all (fun x => decide (0 ≤ x ∧ x ≤ 350)) && decide (xs.length ≤ 8 ∧ (0 ≤ s ∧ s ≤ 350))) := by
  induction d with
  | zero =>
    intro j hj
    refine ev_succ ?_
    simp only [spec_l08List.l0, spec_l08Ok_eq, Option.bind_some]
    rw [List.drop_of_length_le (by omega)]
    refine ev_ifn (by omega) ?_
    by_cases h : xs.length ≤ 8
    · exact ev_ifp (by omega) (ev_const (by simp [h]))
    · exact ev_ifn (by omega) (ev_const (by simp [h]))
  | succ d ih =>
    intro j hj
    refine ev_succ ?_
    simp only [spec_l08List.l0, spec_l08Ok_eq, Option.bind_some]
    rw [List.drop_eq_getElem_cons (show j < xs.length by omega), rd_nat xs j (by omega), wnext (n := xs.length) (by omega) (by omega), List.all_cons]
    refine ev_ifp (by omega) (ev_ifp (by omega) ?_)
    by_cases h : 0 ≤ xs[j] ∧ xs[j] ≤ 350
    · rw [decide_eq_true h, Bool.true_and]
      exact ev_ifp rfl (ih (j + 1) (by omega))
    · rw [decide_eq_false h, Bool.false_and, Bool.false_and]
      exact ev_ifn (by decide) (Ev.now _)
theorem spec_l08List_ev (xs : List Int) (s : Int) (hn : xs.length ≤ 1048576) : Ev (fun k => spec_l08List.f k xs s) (decide (pHeatsOk xs = true ∧ (0 ≤ s ∧ s ≤ 350))) := by
  unfold spec_l08List.f
  refine ev_eq (spec_l08List_l0 xs s hn xs.length 0 (by omega)) ?_
  rw [List.drop_zero]
  simp only [pHeatsOk]
  rw [Bool.eq_iff_iff]
  simp only [Bool.and_eq_true, decide_eq_true_eq]
  exact ⟨fun c => ⟨⟨c.2.1, c.1⟩, c.2.2⟩, fun c => ⟨c.1.2, c.1.1, c.2⟩⟩
theorem spec_HeatCost_ev (a b : Int) : Ev (fun k => spec_HeatCost.f k a b) (pHeatCost a b) := ev_at 1 fun k => by
  unfold spec_HeatCost.f pHeatCost
  simp only [spec_l08Ok_eq, spec_HeatCost.j0, Option.bind_some, decide_eq_true_eq]
  by_cases h : 0 ≤ a ∧ a ≤ 350
  · by_cases h2 : 0 ≤ b ∧ b ≤ 350
    · have e1 : wrap64 (b - a) = b - a := w64 (by omega) (by omega)
      have e2 : wrap64 (2 * (b - a)) = 2 * (b - a) := w64 (by omega) (by omega)
      have e3 : wrap64 (a - b) = a - b := w64 (by omega) (by omega)
      rw [e1, e2, e3]
      by_cases h3 : a < b <;> simp [h, h2, h3]
    · simp [h, h2]
  · simp [h]
/-- The first k from i on (r of them) at which x is least, among those that are free. -/
def hScan (free : Nat → Bool) (x : Nat → Int) : Nat → Nat → Option (Nat × Int) → Option (Nat × Int)
  | 0, _, b => b
  | r + 1, i, b => hScan free x r (i + 1) (if free i then (match b with | none => some (i, x i) | some p => if x i < p.2 then some (i, x i) else some p) else b)
def hStep (free : Nat → Bool) (x : Nat → Int) (i : Nat) (b : Option (Nat × Int)) : Option (Nat × Int) := if free i then (match b with | none => some (i, x i) | some p => if x i < p.2 then some (i, x i) else some p) else b
theorem hScan_succ (free : Nat → Bool) (x : Nat → Int) (r i : Nat) (b : Option (Nat × Int)) : hScan free x (r + 1) i b = hScan free x r (i + 1) (hStep free x i b) := rfl
theorem hScan_inv (free : Nat → Bool) (x : Nat → Int) (P : Nat → Int → Prop) (hx : ∀ i, free i = true → P i (x i)) (r : Nat) : ∀ (i : Nat) (b : Option (Nat × Int)), (∀ k v, b = some (k, v) → P k v) → ∀ k v, hScan free x r i b = some (k, v) → P k v := by
  induction r with
  | zero => intro i b hb k v h; exact hb k v h
  | succ r ih =>
    intro i b hb k v h
    rw [hScan_succ] at h
    refine ih (i + 1) _ ?_ k v h
    intro k v h
    unfold hStep at h
    split at h
    · split at h
      · simp only [Option.some.injEq, Prod.mk.injEq] at h
        obtain ⟨rfl, rfl⟩ := h
        exact hx _ ‹_›
      · split at h
        · simp only [Option.some.injEq, Prod.mk.injEq] at h
          obtain ⟨rfl, rfl⟩ := h
          exact hx _ ‹_›
        · exact hb k v h
    · exact hb k v h
theorem hScan_lt (free : Nat → Bool) (x : Nat → Int) (n : Nat) (r : Nat) : ∀ (i : Nat) (b : Option (Nat × Int)), i + r ≤ n → (∀ k v, b = some (k, v) → k < n) → ∀ k v, hScan free x r i b = some (k, v) → k < n := by
  induction r with
  | zero => intro i b _ hb k v h; exact hb k v h
  | succ r ih =>
    intro i b hi hb k v h
    rw [hScan_succ] at h
    refine ih (i + 1) _ (by omega) ?_ k v h
    intro k v h
    unfold hStep at h
    split at h
    · split at h
      · simp only [Option.some.injEq, Prod.mk.injEq] at h
        omega
      · split at h
        · simp only [Option.some.injEq, Prod.mk.injEq] at h
          omega
        · exact hb k v h
    · exact hb k v h
theorem hScan_keep (free : Nat → Bool) (x : Nat → Int) (r : Nat) : ∀ (i : Nat) (b : Option (Nat × Int)), b ≠ none → hScan free x r i b ≠ none := by
  induction r with
  | zero => intro i b hb; exact hb
  | succ r ih =>
    intro i b hb
    rw [hScan_succ]
    refine ih (i + 1) _ ?_
    unfold hStep
    split
    · split
      · simp
      · split <;> simp
    · exact hb
theorem hScan_some (free : Nat → Bool) (x : Nat → Int) (r : Nat) : ∀ (i : Nat) (b : Option (Nat × Int)), (∃ k, i ≤ k ∧ k < i + r ∧ free k = true) → hScan free x r i b ≠ none := by
  induction r with
  | zero => rintro i b ⟨k, h1, h2, _⟩; omega
  | succ r ih =>
    rintro i b ⟨k, h1, h2, h3⟩
    rw [hScan_succ]
    by_cases e : k = i
    · subst e
      refine hScan_keep free x r _ _ ?_
      unfold hStep
      rw [if_pos h3]
      split
      · simp
      · split <;> simp
    · exact ih (i + 1) _ ⟨k, by omega, by omega, h3⟩
/-- How many below n are not in the set m. -/
def hFr (m : Nat) : Nat → Nat
  | 0 => 0
  | n + 1 => hFr m n + if m.testBit n then 0 else 1
theorem bit_of (m k j : Nat) : (m ||| 1 <<< k).testBit j = (m.testBit j || decide (k = j)) := by
  rw [Nat.testBit_or, Nat.one_shiftLeft, Nat.testBit_two_pow]
theorem hFr_same (m k : Nat) (n : Nat) : n ≤ k → hFr (m ||| 1 <<< k) n = hFr m n := by
  induction n with
  | zero => intro _; rfl
  | succ n ih =>
    intro h
    simp only [hFr, ih (by omega), bit_of]
    rw [decide_eq_false (by omega), Bool.or_false]
theorem hFr_bit (m k : Nat) (n : Nat) : k < n → m.testBit k = false → hFr (m ||| 1 <<< k) n + 1 = hFr m n := by
  induction n with
  | zero => intro h; omega
  | succ n ih =>
    intro h hk
    simp only [hFr, bit_of]
    by_cases e : k = n
    · subst e
      rw [hFr_same m k k (Nat.le_refl _), hk, decide_eq_true rfl]
      simp
    · have := ih (by omega) hk
      rw [decide_eq_false e, Bool.or_false]
      omega
theorem hFr_none (n : Nat) : hFr 0 n = n := by
  induction n with
  | zero => rfl
  | succ n ih => simp [hFr, ih]
theorem hFr_pos (m : Nat) (n : Nat) : 0 < hFr m n → ∃ k, k < n ∧ m.testBit k = false := by
  induction n with
  | zero => intro h; simp [hFr] at h
  | succ n ih =>
    intro h
    simp only [hFr] at h
    cases hb : m.testBit n with
    | false => exact ⟨n, by omega, hb⟩
    | true =>
      rw [hb] at h
      obtain ⟨k, h1, h2⟩ := ih (by simpa using h)
      exact ⟨k, by omega, h2⟩
theorem hFr_zero (m : Nat) (n : Nat) : hFr m n = 0 → ∀ k, k < n → m.testBit k = true := by
  induction n with
  | zero => intro _ k hk; omega
  | succ n ih =>
    intro h k hk
    simp only [hFr] at h
    cases hb : m.testBit n with
    | false => rw [hb] at h; simp at h
    | true =>
      rw [hb] at h
      by_cases e : k = n
      · subst e; exact hb
      · exact ih (by simpa using h) k (by omega)
/-- The least cost of what is left, d heats, where those of m are done and the oven is at a. -/
def hRst (H : Nat → Int) (n : Nat) : Nat → Nat → Int → Int
  | 0, _, _ => 0
  | d + 1, m, a => match hScan (fun k => !m.testBit k) (fun k => pHeatCost a (H k) + hRst H n d (m ||| 1 <<< k) (H k)) n 0 none with
    | none => 0
    | some p => p.2
/-- The first order of that cost. -/
def hGre (H : Nat → Int) (n : Nat) : Nat → Nat → Int → List Int
  | 0, _, _ => []
  | d + 1, m, a => match hScan (fun k => !m.testBit k) (fun k => pHeatCost a (H k) + hRst H n d (m ||| 1 <<< k) (H k)) n 0 none with
    | none => []
    | some p => (p.1 : Int) :: hGre H n d (m ||| 1 <<< p.1) (H p.1)
theorem hRst_of {H : Nat → Int} {n d m : Nat} {a : Int} {p : Nat × Int} (h : hScan (fun k => !m.testBit k) (fun k => pHeatCost a (H k) + hRst H n d (m ||| 1 <<< k) (H k)) n 0 none = some p) : hRst H n (d + 1) m a = p.2 := by
  rw [hRst, h]
theorem hGre_of {H : Nat → Int} {n d m : Nat} {a : Int} {p : Nat × Int} (h : hScan (fun k => !m.testBit k) (fun k => pHeatCost a (H k) + hRst H n d (m ||| 1 <<< k) (H k)) n 0 none = some p) : hGre H n (d + 1) m a = (p.1 : Int) :: hGre H n d (m ||| 1 <<< p.1) (H p.1) := by
  rw [hGre, h]
theorem hc_ok {a b : Int} (ha : 0 ≤ a ∧ a ≤ 350) (hb : 0 ≤ b ∧ b ≤ 350) : 0 ≤ pHeatCost a b ∧ pHeatCost a b ≤ 700 := by
  unfold pHeatCost
  rw [if_pos ⟨ha, hb⟩]
  split <;> omega
theorem hRst_range {H : Nat → Int} {n : Nat} (hH : ∀ k, 0 ≤ H k ∧ H k ≤ 350) (d : Nat) : ∀ (m : Nat) (a : Int), (0 ≤ a ∧ a ≤ 350) → 0 ≤ hRst H n d m a ∧ hRst H n d m a ≤ 700 * d := by
  induction d with
  | zero => intro m a _; simp [hRst]
  | succ d ih =>
    intro m a ha
    unfold hRst
    cases hs : hScan (fun k => !m.testBit k) (fun k => pHeatCost a (H k) + hRst H n d (m ||| 1 <<< k) (H k)) n 0 none with
    | none => dsimp only; omega
    | some p =>
      obtain ⟨k, v⟩ := p
      dsimp only
      refine hScan_inv _ _ (fun _ v => 0 ≤ v ∧ v ≤ 700 * ((d + 1 : Nat) : Int)) (fun i _ => ?_) n 0 none (fun _ _ h => by cases h) k v hs
      have h1 := hc_ok ha (hH i)
      have h2 := ih (m ||| 1 <<< i) (H i) (hH i)
      omega

theorem hOr_fin : ∀ m : Fin 256, ∀ k : Fin 8, (Go.bits .or .i64 (m.1 : Int) (shl .i64 1 (k.1 : Int))) = ((m.1 ||| 1 <<< k.1 : Nat) : Int) := by decide +kernel
theorem hAnd_fin : ∀ m : Fin 256, ∀ k : Fin 8, (Go.bits .and .i64 (shr .i64 (m.1 : Int) (k.1 : Int)) 1) = if m.1.testBit k.1 then 1 else 0 := by decide +kernel
theorem hShl_fin : ∀ n : Fin 9, shl .i64 ((n.1 : Int) + 1) (n.1 : Int) = (((n.1 + 1) * 2 ^ n.1 : Nat) : Int) ∧ shl .i64 1 (n.1 : Int) = ((2 ^ n.1 : Nat) : Int) := by decide +kernel
theorem hFr_fin : ∀ n : Fin 9, ∀ q : Fin 256, q.1 + 1 < 2 ^ n.1 → 0 < hFr q.1 n.1 := by decide +kernel
theorem hFull_fin : ∀ n : Fin 9, hFr (2 ^ n.1 - 1) n.1 = 0 := by decide +kernel
theorem hOr_eq {m k : Nat} (hm : m < 256) (hk : k < 8) : Go.bits .or .i64 (m : Int) (shl .i64 1 (k : Int)) = ((m ||| 1 <<< k : Nat) : Int) := hOr_fin ⟨m, hm⟩ ⟨k, hk⟩
theorem hAnd_eq {m k : Nat} (hm : m < 256) (hk : k < 8) : Go.bits .and .i64 (shr .i64 (m : Int) (k : Int)) 1 = if m.testBit k then 1 else 0 := hAnd_fin ⟨m, hm⟩ ⟨k, hk⟩
theorem hPow {n : Nat} (h : n ≤ 8) : 1 ≤ 2 ^ n ∧ 2 ^ n ≤ 256 := ⟨Nat.one_le_two_pow, Nat.pow_le_pow_right (by omega) h (n := 2)⟩
theorem hOr_lt {m k n : Nat} (hm : m < 2 ^ n) (hk : k < n) : m ||| 1 <<< k < 2 ^ n := Nat.or_lt_two_pow hm (by rw [Nat.one_shiftLeft]; exact Nat.pow_lt_pow_right (by omega) hk)
theorem hOr_gt {m k : Nat} (h : m.testBit k = false) : m < m ||| 1 <<< k := by
  rcases Nat.lt_or_eq_of_le (Nat.left_le_or (n := m) (m := 1 <<< k)) with h1 | h1
  · exact h1
  · have h2 := bit_of m k k
    rw [← h1, h, decide_eq_true rfl] at h2
    cases h2
theorem hIdx {m k n P : Nat} (hm : m < P) (hk : k < n) : m * n + k < (n + 1) * P := by
  have h1 : (m + 1) * n ≤ P * n := Nat.mul_le_mul_right n hm
  have h2 : (n + 1) * P = P * n + P := by rw [Nat.add_mul, Nat.one_mul, Nat.mul_comm]
  rw [Nat.add_mul, Nat.one_mul] at h1
  omega
theorem hIdx_ne {m m' k k' n : Nat} (hm : m < m') (hk : k < n) (hk' : k' < n) : m * n + k ≠ m' * n + k' := by
  have h1 : (m + 1) * n ≤ m' * n := Nat.mul_le_mul_right n hm
  rw [Nat.add_mul, Nat.one_mul] at h1
  omega
theorem hSmall {m k n : Nat} (hm : m < 256) (hn : n ≤ 8) : m * n ≤ 2048 := by
  have : m * n ≤ 256 * 8 := Nat.mul_le_mul (by omega) hn
  omega
/-- The index into the table, as it is reckoned. -/
theorem hAt {m k n : Nat} (hm : m < 256) (hn : n ≤ 8) (hk : k < 8) : wrap64 (wrap64 ((m : Int) * (n : Int)) + (k : Int)) = ((m * n + k : Nat) : Int) := by
  have h1 := hSmall (k := k) hm hn
  rw [← Int.natCast_mul, w64 (n := ((m * n : Nat) : Int)) (by omega) (by omega), w64 (by omega) (by omega)]
  omega
theorem rd_set_ne (t : List Int) (i j : Nat) (v : Int) (h : i ≠ j) : rd (t.set i v) (j : Int) = rd t (j : Int) := by
  simp [rd, List.getD_eq_getElem?_getD, List.getElem?_set_ne h]
theorem rd_set_eq (t : List Int) (i : Nat) (v : Int) (h : i < t.length) : rd (t.set i v) (i : Int) = v := by
  simp [rd, List.getD_eq_getElem?_getD, h]
/-- From the set q on the table holds the least costs. -/
def GoodT (H : Nat → Int) (n : Nat) (t : List Int) (q : Nat) : Prop := t.length = (n + 1) * 2 ^ n ∧ ∀ m, q ≤ m → m < 2 ^ n → ∀ k, k < n → rd t ((m * n + k : Nat) : Int) = hRst H n (hFr m n) m (H k)
def accV : Option (Nat × Int) → Int
  | none => -1
  | some p => p.2
theorem hStep_range {free : Nat → Bool} {x : Nat → Int} {i : Nat} {acc : Option (Nat × Int)} (hx : free i = true → 0 ≤ x i ∧ x i ≤ 7000) (ha : ∀ p, acc = some p → 0 ≤ p.2 ∧ p.2 ≤ 7000) : ∀ p, hStep free x i acc = some p → 0 ≤ p.2 ∧ p.2 ≤ 7000 := by
  intro p h
  unfold hStep at h
  split at h
  · split at h
    · obtain rfl := Option.some.inj h
      exact hx ‹_›
    · split at h
      · obtain rfl := Option.some.inj h
        exact hx ‹_›
      · exact ha p h
  · exact ha p h
def hX (hs : List Int) (d m : Nat) (a : Int) (k : Nat) : Int := pHeatCost a (rd hs k) + hRst (fun k => rd hs k) hs.length d (m ||| 1 <<< k) (rd hs k)
def hFree (m k : Nat) : Bool := !m.testBit k
theorem hX_range {hs : List Int} (hok : ∀ k : Nat, 0 ≤ rd hs k ∧ rd hs k ≤ 350) {d m : Nat} {a : Int} (ha : 0 ≤ a ∧ a ≤ 350) (hd : d ≤ 8) (k : Nat) : 0 ≤ hX hs d m a k ∧ hX hs d m a k ≤ 7000 := by
  have h1 := hc_ok ha (hok k)
  have h2 := hRst_range (H := fun k => rd hs k) (n := hs.length) hok d (m ||| 1 <<< k) (rd hs k) (hok k)
  unfold hX
  omega
theorem spec_l08Rest_l2 (hs : List Int) (hn : hs.length ≤ 8) (hok : ∀ k : Nat, 0 ≤ rd hs k ∧ rd hs k ≤ 350) (m last d : Nat) (hm : m < 2 ^ hs.length) (hlast : last < hs.length) (hd : hFr m hs.length = d + 1) (hd8 : d ≤ 8) (t : List Int) (hg : GoodT (fun k => rd hs k) hs.length t (m + 1)) (v : List Int)
    (cont : Ev (fun k => spec_l08Rest.l1 k hs (hs.length : Int) (t.set (m * hs.length + last) (hRst (fun k => rd hs k) hs.length (d + 1) m (rd hs last))) (m : Int) ((last + 1 : Nat) : Int)) v) (r : Nat) :
    ∀ (j : Nat) (acc : Option (Nat × Int)), j + r = hs.length → (∀ p, acc = some p → 0 ≤ p.2 ∧ p.2 ≤ 7000) → hScan (hFree m) (hX hs d m (rd hs last)) r j acc = hScan (hFree m) (hX hs d m (rd hs last)) hs.length 0 none → Ev (fun k => spec_l08Rest.l2 k hs (hs.length : Int) t (m : Int) (last : Int) (accV acc) (j : Int)) v := by
  have hP := hPow hn
  have hm2 : m < 256 := by omega
  have hlen := hg.1
  induction r with
  | zero =>
    intro j acc hj ha hsc
    obtain ⟨k, hk1, hk2⟩ := hFr_pos m hs.length (by omega)
    have hne := hScan_some (hFree m) (hX hs d m (rd hs last)) hs.length 0 none ⟨k, by omega, by omega, by simp [hFree, hk2]⟩
    change acc = _ at hsc
    obtain ⟨p, hp⟩ : ∃ p, acc = some p := by
      cases acc with
      | none => exact absurd hsc.symm hne
      | some p => exact ⟨p, rfl⟩
    have hr : hRst (fun k => rd hs k) hs.length (d + 1) m (rd hs last) = p.2 := hRst_of (p := p) (by rw [← hp]; exact hsc.symm)
    rw [hr] at cont
    subst hp
    have hi := hIdx hm hlast
    refine ev_succ ?_
    simp only [spec_l08Rest.l2, accV]
    rw [hAt hm2 hn (show last < 8 by omega), Int.toNat_natCast, wnext (j := last) (n := hs.length) hlast (by omega)]
    exact ev_ifn (by omega) (ev_ifp (by omega) (ev_ifp (by omega) cont))
  | succ r ih =>
    intro j acc hj ha hsc
    rw [hScan_succ] at hsc
    have hr := hX_range (hs := hs) hok (d := d) (m := m) (a := rd hs last) (hok last) hd8 j
    have hn2 := ih (j + 1) _ (by omega) (hStep_range (free := hFree m) (x := hX hs d m (rd hs last)) (i := j) (fun _ => hr) ha) hsc
    refine ev_succ ?_
    simp only [spec_l08Rest.l2]
    rw [hAnd_eq hm2 (show j < 8 by omega), wnext (n := hs.length) (by omega) (by omega), hOr_eq hm2 (show j < 8 by omega)]
    refine ev_ifp (by omega) (ev_ifp (by omega) ?_)
    cases hb : m.testBit j with
    | true =>
      have e : hStep (hFree m) (hX hs d m (rd hs last)) j acc = acc := by unfold hStep hFree; rw [hb]; rfl
      rw [e] at hn2
      exact ev_ifp (by simp) hn2
    | false =>
      have hlt := hOr_lt hm (show j < hs.length by omega)
      have hi := hIdx hlt (show j < hs.length by omega)
      have hgt := hOr_gt hb
      have hfr := hFr_bit m j hs.length (by omega) hb
      have hrd := hg.2 (m ||| 1 <<< j) (by omega) hlt j (by omega)
      rw [show hFr (m ||| 1 <<< j) hs.length = d by omega] at hrd
      have hx : pHeatCost (rd hs last) (rd hs j) + rd t (((m ||| 1 <<< j) * hs.length + j : Nat) : Int) = hX hs d m (rd hs last) j := by rw [hrd]; rfl
      rw [hAt (m := m ||| 1 <<< j) (by omega) hn (by omega)]
      refine ev_ifn (by simp) (ev_ifp (by omega) (ev_ifp (by omega) (ev_ifp (by omega) (Ev.bind (spec_HeatCost_ev _ _) (ev_ifp (by omega) (ev_ifp (by omega) ?_))))))
      rw [hx, w64 (n := hX hs d m (rd hs last) j) (by omega) (by omega)]
      have hf : hFree m j = true := by unfold hFree; rw [hb]; rfl
      unfold hStep at hn2
      rw [if_pos hf] at hn2
      cases acc with
      | none => exact ev_ifp (by simp [accV]) hn2
      | some p =>
        have hp := ha p rfl
        dsimp only at hn2
        refine ev_ifn (by simp only [accV]; omega) ?_
        by_cases c : hX hs d m (rd hs last) j < p.2
        · rw [if_pos c] at hn2
          exact ev_ifp c hn2
        · rw [if_neg c] at hn2
          exact ev_ifn c hn2
theorem spec_l08Rest_l1 (hs : List Int) (hn : hs.length ≤ 8) (hok : ∀ k : Nat, 0 ≤ rd hs k ∧ rd hs k ≤ 350) (m d : Nat) (hm : m < 2 ^ hs.length) (hd : hFr m hs.length = d + 1) (hd8 : d ≤ 8) (r : Nat) :
    ∀ (j : Nat) (t : List Int), j + r = hs.length → GoodT (fun k => rd hs k) hs.length t (m + 1) → (∀ k, k < j → rd t ((m * hs.length + k : Nat) : Int) = hRst (fun k => rd hs k) hs.length (hFr m hs.length) m (rd hs k)) →
      ∃ t', GoodT (fun k => rd hs k) hs.length t' m ∧ ∀ v, Ev (fun k => spec_l08Rest.l0 k hs (hs.length : Int) t' ((m : Int) - 1)) v → Ev (fun k => spec_l08Rest.l1 k hs (hs.length : Int) t (m : Int) (j : Int)) v := by
  have hP := hPow hn
  induction r with
  | zero =>
    intro j t hj hg hk
    refine ⟨t, ⟨hg.1, fun m' h1 h2 k h3 => ?_⟩, fun v hv => ?_⟩
    · by_cases e : m' = m
      · subst e
        exact hk k (by omega)
      · exact hg.2 m' (by omega) h2 k h3
    · refine ev_succ ?_
      simp only [spec_l08Rest.l1]
      rw [w64 (n := (m : Int) - 1) (by omega) (by omega)]
      exact ev_ifn (by omega) hv
  | succ r ih =>
    intro j t hj hg hk
    have hi := hIdx hm (show j < hs.length by omega)
    have hlen := hg.1
    obtain ⟨t', g', h'⟩ := ih (j + 1) (t.set (m * hs.length + j) (hRst (fun k => rd hs k) hs.length (d + 1) m (rd hs j))) (by omega) ⟨by rw [List.length_set]; exact hg.1, fun m' h1 h2 k h3 => by
      rw [rd_set_ne _ _ _ _ (hIdx_ne (by omega) (by omega) h3)]
      exact hg.2 m' h1 h2 k h3⟩ (fun k h3 => by
      by_cases e : k = j
      · subst e
        rw [rd_set_eq _ _ _ (by omega), hd]
      · rw [rd_set_ne _ _ _ _ (by omega)]
        exact hk k (by omega))
    refine ⟨t', g', fun v hv => ?_⟩
    refine ev_succ ?_
    simp only [spec_l08Rest.l1]
    refine ev_ifp (by omega) ?_
    have := spec_l08Rest_l2 hs hn hok m j d hm (by omega) hd hd8 t hg v (h' v hv) hs.length 0 none (by omega) (fun p hp => by cases hp) rfl
    exact this
theorem spec_l08Rest_l0 (hs : List Int) (hn : hs.length ≤ 8) (hok : ∀ k : Nat, 0 ≤ rd hs k ∧ rd hs k ≤ 350) (q : Nat) : ∀ (t : List Int), q < 2 ^ hs.length → GoodT (fun k => rd hs k) hs.length t q → ∃ t', GoodT (fun k => rd hs k) hs.length t' 0 ∧ Ev (fun k => spec_l08Rest.l0 k hs (hs.length : Int) t ((q : Int) - 1)) t' := by
  have hP := hPow hn
  induction q with
  | zero =>
    intro t _ hg
    refine ⟨t, hg, ev_succ ?_⟩
    simp only [spec_l08Rest.l0]
    exact ev_ifn (by omega) (Ev.now _)
  | succ q ih =>
    intro t hq hg
    have hpos := hFr_fin ⟨hs.length, by omega⟩ ⟨q, by omega⟩ hq
    dsimp only at hpos
    have hle : hFr q hs.length ≤ hs.length := by
      have : ∀ n, hFr q n ≤ n := by
        intro n
        induction n with
        | zero => exact Nat.le_refl _
        | succ n ih => simp only [hFr]; split <;> omega
      exact this _
    obtain ⟨t1, g1, h1⟩ := spec_l08Rest_l1 hs hn hok q (hFr q hs.length - 1) (by omega) (by omega) (by omega) hs.length 0 t (by omega) hg (fun k hk => by omega)
    obtain ⟨t2, g2, h2⟩ := ih t1 (by omega) g1
    refine ⟨t2, g2, ev_succ ?_⟩
    simp only [spec_l08Rest.l0]
    rw [show (((q + 1 : Nat) : Int) - 1) = (q : Int) by omega]
    exact ev_ifp (by omega) (h1 t2 h2)
theorem spec_l08Rest_ev (hs : List Int) (hn : hs.length ≤ 8) (hok : ∀ k : Nat, 0 ≤ rd hs k ∧ rd hs k ≤ 350) : ∃ t, GoodT (fun k => rd hs k) hs.length t 0 ∧ Ev (fun k => spec_l08Rest.f k hs) t := by
  have hP := hPow hn
  obtain ⟨s1, s2⟩ := hShl_fin ⟨hs.length, by omega⟩
  dsimp only at s1 s2
  have hL : (hs.length + 1) * 2 ^ hs.length ≤ 9 * 256 := Nat.mul_le_mul (by omega) hP.2
  have hfull := hFull_fin ⟨hs.length, by omega⟩
  dsimp only at hfull
  obtain ⟨t, g, h⟩ := spec_l08Rest_l0 hs hn hok (2 ^ hs.length - 1) (List.replicate ((hs.length + 1) * 2 ^ hs.length) 0) (by omega) ⟨by simp, fun m h1 h2 k hk => by
    obtain rfl : m = 2 ^ hs.length - 1 := by omega
    rw [hfull]
    have hi := hIdx h2 hk
    rw [rd_nat _ _ (by simpa using hi)]
    simp [hRst]⟩
  refine ⟨t, g, ?_⟩
  unfold spec_l08Rest.f
  rw [w64 (n := (hs.length : Int) + 1) (by omega) (by omega), s1, s2, Int.toNat_natCast, w64 (n := ((2 ^ hs.length : Nat) : Int) - 2) (by omega) (by omega), show ((2 ^ hs.length : Nat) : Int) - 2 = ((2 ^ hs.length - 1 : Nat) : Int) - 1 by omega]
  exact ev_ifp (by omega) (ev_ifp (by omega) h)
def accK : Option (Nat × Int) → Int
  | none => -1
  | some p => (p.1 : Int)
def accL : Option (Nat × Int) → Int
  | none => 0
  | some p => p.2
theorem spec_BestHeats_l1 (hs : List Int) (hn : hs.length ≤ 8) (hok : ∀ k : Nat, 0 ≤ rd hs k ∧ rd hs k ≤ 350) (t : List Int) (hg : GoodT (fun k => rd hs k) hs.length t 0) (out : List Int) (ho : out.length ≤ 8) (m d : Nat) (a : Int) (hm : m < 2 ^ hs.length) (hd : hFr m hs.length = d + 1) (hd8 : d ≤ 8) (ha : 0 ≤ a ∧ a ≤ 350)
    (p : Nat × Int) (hp : hScan (hFree m) (hX hs d m a) hs.length 0 none = some p) (v : List Int × Bool) (cont : Ev (fun k => spec_BestHeats.l0 k hs (out ++ [(p.1 : Int)]) (hs.length : Int) t ((m ||| 1 <<< p.1 : Nat) : Int) (rd hs p.1)) v) (r : Nat) :
    ∀ (j : Nat) (acc : Option (Nat × Int)), j + r = hs.length → (∀ p, acc = some p → 0 ≤ p.2 ∧ p.2 ≤ 7000) → hScan (hFree m) (hX hs d m a) r j acc = some p → Ev (fun k => spec_BestHeats.l1 k hs out (hs.length : Int) t (m : Int) a (accK acc) (accL acc) (j : Int)) v := by
  have hP := hPow hn
  have hm2 : m < 256 := by omega
  have hlen := hg.1
  have hpl := hScan_lt (hFree m) (hX hs d m a) hs.length hs.length 0 none (by omega) (fun k v h => by cases h) p.1 p.2 hp
  induction r with
  | zero =>
    intro j acc hj hacc hsc
    change acc = _ at hsc
    subst hsc
    refine ev_succ ?_
    simp only [spec_BestHeats.l1, accK]
    rw [hOr_eq hm2 (show p.1 < 8 by omega)]
    exact ev_ifn (by omega) (ev_ifp (by omega) (ev_ifp (by omega) (ev_ifp (by omega) cont)))
  | succ r ih =>
    intro j acc hj hacc hsc
    rw [hScan_succ] at hsc
    have hr := hX_range (hs := hs) hok (d := d) (m := m) (a := a) ha hd8 j
    have hn2 := ih (j + 1) _ (by omega) (hStep_range (free := hFree m) (x := hX hs d m a) (i := j) (fun _ => hr) hacc) hsc
    have hlt := hOr_lt hm (show j < hs.length by omega)
    have hi := hIdx hlt (show j < hs.length by omega)
    refine ev_succ ?_
    simp only [spec_BestHeats.l1]
    rw [hOr_eq hm2 (show j < 8 by omega), hAnd_eq hm2 (show j < 8 by omega), wnext (j := j) (n := hs.length) (by omega) (by omega), hAt (m := m ||| 1 <<< j) (by omega) hn (by omega)]
    refine ev_ifp (by omega) (ev_ifp (by omega) (ev_ifp (by omega) (Ev.bind (spec_HeatCost_ev _ _) (ev_ifp (by omega) (ev_ifp (by omega) ?_)))))
    cases hb : m.testBit j with
    | true =>
      have e : hStep (hFree m) (hX hs d m a) j acc = acc := by unfold hStep hFree; rw [hb]; rfl
      rw [e] at hn2
      exact ev_ifn (by simp) hn2
    | false =>
      have hfr := hFr_bit m j hs.length (by omega) hb
      have hrd := hg.2 (m ||| 1 <<< j) (by omega) hlt j (by omega)
      rw [show hFr (m ||| 1 <<< j) hs.length = d by omega] at hrd
      have hx : pHeatCost a (rd hs j) + rd t (((m ||| 1 <<< j) * hs.length + j : Nat) : Int) = hX hs d m a j := by rw [hrd]; rfl
      refine ev_ifp (by simp) ?_
      rw [hx, w64 (n := hX hs d m a j) (by omega) (by omega)]
      have hf : hFree m j = true := by unfold hFree; rw [hb]; rfl
      unfold hStep at hn2
      rw [if_pos hf] at hn2
      cases acc with
      | none => exact ev_ifp (by simp [accK]) hn2
      | some q =>
        dsimp only at hn2
        refine ev_ifn (by simp only [accK]; omega) ?_
        by_cases c : hX hs d m a j < q.2
        · rw [if_pos c] at hn2
          exact ev_ifp c hn2
        · rw [if_neg c] at hn2
          exact ev_ifn c hn2
theorem spec_BestHeats_l0 (hs : List Int) (hn : hs.length ≤ 8) (hok : ∀ k : Nat, 0 ≤ rd hs k ∧ rd hs k ≤ 350) (t : List Int) (hg : GoodT (fun k => rd hs k) hs.length t 0) (d : Nat) : ∀ (out : List Int) (m : Nat) (a : Int), out.length + d = hs.length → m < 2 ^ hs.length → hFr m hs.length = d → (0 ≤ a ∧ a ≤ 350) →
    Ev (fun k => spec_BestHeats.l0 k hs out (hs.length : Int) t (m : Int) a) (out ++ hGre (fun k => rd hs k) hs.length d m a, true) := by
  induction d with
  | zero =>
    intro out m a ho hm hd ha
    refine ev_succ ?_
    simp only [spec_BestHeats.l0]
    exact ev_ifn (by omega) (ev_const (by simp [hGre]))
  | succ d ih =>
    intro out m a ho hm hd ha
    obtain ⟨k, hk1, hk2⟩ := hFr_pos m hs.length (by omega)
    have hne := hScan_some (hFree m) (hX hs d m a) hs.length 0 none ⟨k, by omega, by omega, by simp [hFree, hk2]⟩
    cases hsc : hScan (hFree m) (hX hs d m a) hs.length 0 none with
    | none => exact absurd hsc hne
    | some p =>
      have hpl := hScan_lt (hFree m) (hX hs d m a) hs.length hs.length 0 none (by omega) (fun k v h => by cases h) p.1 p.2 hsc
      have hfree : m.testBit p.1 = false := by
        have := hScan_inv (hFree m) (hX hs d m a) (fun k _ => m.testBit k = false) (fun i hi => by simpa [hFree] using hi) hs.length 0 none (fun k v h => by cases h) p.1 p.2 hsc
        exact this
      have hfr := hFr_bit m p.1 hs.length hpl hfree
      have hnext := ih (out ++ [(p.1 : Int)]) (m ||| 1 <<< p.1) (rd hs p.1) (by simp; omega) (hOr_lt hm hpl) (by omega) (hok p.1)
      have hge : hGre (fun k => rd hs k) hs.length (d + 1) m a = (p.1 : Int) :: hGre (fun k => rd hs k) hs.length d (m ||| 1 <<< p.1) (rd hs p.1) := hGre_of hsc
      rw [hge]
      rw [List.append_assoc] at hnext
      refine ev_succ ?_
      simp only [spec_BestHeats.l0]
      exact ev_ifp (by omega) (spec_BestHeats_l1 hs hn hok t hg out (by omega) m d a hm hd (by omega) ha p hsc _ hnext hs.length 0 none (by omega) (fun p hp => by cases hp) hsc)
def pBestHeats (hs : List Int) (s : Int) : List Int × Bool := if pHeatsOk hs = true ∧ (0 ≤ s ∧ s ≤ 350) then (hGre (fun k => rd hs k) hs.length hs.length 0 s, true) else ([], false)
theorem heats_ok {hs : List Int} (h : pHeatsOk hs = true) : hs.length ≤ 8 ∧ ∀ k : Nat, 0 ≤ rd hs k ∧ rd hs k ≤ 350 := by
  simp only [pHeatsOk, Bool.and_eq_true, decide_eq_true_eq, List.all_eq_true] at h
  refine ⟨h.1, fun k => ?_⟩
  by_cases hk : k < hs.length
  · rw [rd_nat hs k hk]
    exact h.2 _ (List.getElem_mem _)
  · have : rd hs (k : Int) = 0 := by simp [rd, List.getD_eq_getElem?_getD, List.getElem?_eq_none (show hs.length ≤ k by omega)]
    omega
theorem spec_BestHeats_ev (hs : List Int) (s : Int) (hn : hs.length ≤ 1048576) : Ev (fun k => spec_BestHeats.f k hs s) (pBestHeats hs s) := by
  unfold spec_BestHeats.f pBestHeats
  simp only [Option.bind_some]
  refine Ev.bind (spec_l08List_ev hs s hn) ?_
  by_cases h : pHeatsOk hs = true ∧ (0 ≤ s ∧ s ≤ 350)
  · rw [if_pos h]
    obtain ⟨h8, hok⟩ := heats_ok h.1
    obtain ⟨t, hg, ht⟩ := spec_l08Rest_ev hs h8 hok
    have := spec_BestHeats_l0 hs h8 hok t hg hs.length [] 0 s (by simp) (hPow h8).1 (hFr_none _) h.2
    rw [List.nil_append] at this
    exact ev_ifp (decide_eq_true h) (Ev.bind ht this)
  · rw [if_neg h]
    exact ev_ifn (by simp [h]) (Ev.now _)
theorem hGre_length (H : Nat → Int) (n : Nat) (d : Nat) : ∀ m a, (hGre H n d m a).length ≤ d := by
  induction d with
  | zero => intro m a; simp [hGre]
  | succ d ih =>
    intro m a
    rw [hGre]
    split
    · simp
    · simp only [List.length_cons]
      have := ih (m ||| 1 <<< (‹Nat × Int›).1) (H (‹Nat × Int›).1)
      omega
theorem pBestHeats_length (hs : List Int) (s : Int) : (pBestHeats hs s).1.length ≤ 8 := by
  unfold pBestHeats
  split
  · rename_i h
    have := (heats_ok h.1).1
    have := hGre_length (fun k => rd hs k) hs.length hs.length 0 s
    dsimp only
    omega
  · simp
theorem impl_in_eq (a b c : Int) : impl_in.f a b c = some (decide (b ≤ a ∧ a ≤ c)) := by
  unfold impl_in.f
  by_cases h : b ≤ a <;> simp [h]
theorem impl_allIn_eq (xs : List Int) (a b : Int) : impl_allIn.f xs a b = some (xs.all fun x => decide (a ≤ x ∧ x ≤ b)) := rfl
theorem impl_areHeats_eq (xs : List Int) : impl_areHeats.f xs = some (pHeatsOk xs) := by
  unfold impl_areHeats.f pHeatsOk
  simp only [impl_allIn_eq, Option.bind_some]
  by_cases h : xs.length ≤ 8
  · rw [if_pos (by omega), decide_eq_true h, Bool.true_and]
  · rw [if_neg (by omega), decide_eq_false h, Bool.false_and]
theorem slices_Index_int_int_l0 (xs : List Int) (a : Int) (hn : xs.length ≤ 1048576) (d : Nat) : ∀ j : Nat, j + d = xs.length → ∃ r, Ev (fun k => slices_Index_int_int.l0 k xs a (xs.length : Int) j) r ∧ (r ≥ 0 ↔ a ∈ xs.drop j) := by
  induction d with
  | zero =>
    intro j hj
    refine ⟨-1, ev_succ ?_, ?_⟩
    · simp only [slices_Index_int_int.l0]
      exact ev_ifn (by omega) (Ev.now _)
    · rw [List.drop_of_length_le (by omega)]
      simp
  | succ d ih =>
    intro j hj
    obtain ⟨r, he, hr⟩ := ih (j + 1) (by omega)
    by_cases h : a = xs[j]
    · refine ⟨j, ev_succ ?_, ?_⟩
      · simp only [slices_Index_int_int.l0]
        rw [rd_nat xs j (by omega)]
        exact ev_ifp (by omega) (ev_ifp (by omega) (ev_ifp (by omega) (ev_ifp h (Ev.now _))))
      · rw [List.drop_eq_getElem_cons (show j < xs.length by omega), ← h]
        exact ⟨fun _ => List.mem_cons_self, fun _ => by omega⟩
    · refine ⟨r, ev_succ ?_, ?_⟩
      · simp only [slices_Index_int_int.l0]
        rw [rd_nat xs j (by omega), wnext (n := xs.length) (by omega) (by omega)]
        exact ev_ifp (by omega) (ev_ifp (by omega) (ev_ifp (by omega) (ev_ifn h he)))
      · rw [List.drop_eq_getElem_cons (show j < xs.length by omega), hr]
        exact ⟨fun c => List.mem_cons_of_mem _ c, fun c => (List.mem_cons.1 c).resolve_left h⟩
theorem slices_Contains_int_int_ev (xs : List Int) (a : Int) (hn : xs.length ≤ 1048576) : Ev (fun k => slices_Contains_int_int.f k xs a) (decide (a ∈ xs)) := by
  unfold slices_Contains_int_int.f slices_Index_int_int.f
  obtain ⟨r, he, hr⟩ := slices_Index_int_int_l0 xs a hn xs.length 0 (by omega)
  rw [List.drop_zero] at hr
  refine Ev.bind he (ev_const ?_)
  rw [decide_eq_decide.2 hr]
theorem impl_isOrder_l0 (n : Int) (os : List Int) (h0 : 0 ≤ n ∧ n ≤ 1048576) (hn : os.length ≤ 1048576) (d : Nat) : ∀ j : Nat, j + d = os.length → Ev (fun k => impl_isOrder.l0 k os n os (os.length : Int) j) (pOrdOk n (os.take j) (os.drop j) && ((os.length : Int) == n)) := by
  induction d with
  | zero =>
    intro j hj
    refine ev_succ ?_
    simp only [impl_isOrder.l0]
    rw [List.drop_of_length_le (by omega)]
    exact ev_ifn (by omega) (ev_const (by simp [pOrdOk]))
  | succ d ih =>
    intro j hj
    refine ev_succ ?_
    simp only [impl_isOrder.l0, impl_in_eq, Option.bind_some]
    rw [List.drop_eq_getElem_cons (show j < os.length by omega), rd_nat os j (by omega), wnext (n := os.length) (by omega) (by omega), w64 (n := n - 1) (by omega) (by omega), Int.toNat_natCast]
    refine ev_ifp (by omega) (ev_ifp (by omega) (ev_ifp (by omega) ?_))
    by_cases h : 0 ≤ os[j] ∧ os[j] ≤ n - 1
    · refine ev_ifp (decide_eq_true h) (ev_ifp (by omega) (Ev.bind (slices_Contains_int_int_ev _ _ (by rw [List.length_take]; omega)) ?_))
      by_cases hin : os[j] ∈ os.take j
      · rw [pOrdOk_dup hin, Bool.false_and]
        exact ev_ifp (decide_eq_true hin) (Ev.now _)
      · rw [pOrdOk_go h hin]
        have ht : os.take (j + 1) = os.take j ++ [os[j]] := List.take_succ_eq_append_getElem (by omega)
        exact ev_ifn (by rw [decide_eq_false hin]; decide) (ev_eq (ih (j + 1) (by omega)) (by rw [ht]))
    · rw [pOrdOk_bad h, Bool.false_and]
      exact ev_ifn (by rw [decide_eq_false h]; decide) (Ev.now _)
theorem impl_isOrder_ev (n : Int) (os : List Int) (h0 : 0 ≤ n ∧ n ≤ 1048576) (hn : os.length ≤ 1048576) : Ev (fun k => impl_isOrder.f k os n) (pOrdOk n [] os && ((os.length : Int) == n)) := by
  unfold impl_isOrder.f
  exact ev_eq (impl_isOrder_l0 n os h0 hn os.length 0 (by omega)) (by simp)
theorem impl_HeatCost_ev (a b : Int) : Ev (fun k => impl_HeatCost.f k a b) (pHeatCost a b) := ev_at 1 fun k => by
  unfold impl_HeatCost.f pHeatCost
  simp only [impl_in_eq, impl_HeatCost.j0, Option.bind_some, decide_eq_true_eq]
  by_cases h : 0 ≤ a ∧ a ≤ 350
  · by_cases h2 : 0 ≤ b ∧ b ≤ 350
    · have e1 : wrap64 (b - a) = b - a := w64 (by omega) (by omega)
      have e2 : wrap64 (2 * (b - a)) = 2 * (b - a) := w64 (by omega) (by omega)
      have e3 : wrap64 (a - b) = a - b := w64 (by omega) (by omega)
      rw [e1, e2, e3]
      by_cases h3 : a < b <;> simp [h, h2, h3]
    · simp [h, h2]
  · simp [h]
theorem impl_OrderCost_l0 (hs os : List Int) (hh : hs.length ≤ 8) (hn : os.length ≤ 1048576) (d : Nat) : ∀ (j : Nat) (acc now : Int), j + d = os.length → pOrdOk hs.length (os.take j) (os.drop j) = true → -1000 * (j : Int) ≤ acc → acc ≤ 1000 * j →
    Ev (fun k => impl_OrderCost.l0 k hs now acc os (os.length : Int) j) (acc + pCost hs now (os.drop j)) := by
  induction d with
  | zero =>
    intro j acc now hj ho h0 h1
    refine ev_succ ?_
    simp only [impl_OrderCost.l0]
    rw [List.drop_of_length_le (by omega)]
    exact ev_ifn (by omega) (ev_const (by simp [pCost]))
  | succ d ih =>
    intro j acc now hj ho h0 h1
    refine ev_succ ?_
    simp only [impl_OrderCost.l0]
    rw [List.drop_eq_getElem_cons (show j < os.length by omega)] at ho ⊢
    simp only [pOrdOk, Bool.and_eq_true, decide_eq_true_eq] at ho
    have ht : os.take (j + 1) = os.take j ++ [os[j]] := List.take_succ_eq_append_getElem (by omega)
    have hc := pHeatCost_range now (rd hs os[j])
    rw [rd_nat os j (by omega), wnext (n := os.length) (by omega) (by omega)]
    refine ev_ifp (by omega) (ev_ifp (by omega) (ev_ifp (by omega) (ev_ifp ho.1.1 (ev_ifp (by omega) (Ev.bind (impl_HeatCost_ev _ _) ?_)))))
    rw [w64 (n := acc + pHeatCost now (rd hs os[j])) (by omega) (by omega)]
    simp only [pCost]
    exact ev_eq (ih (j + 1) _ _ (by omega) (by rw [ht]; exact ho.2.2) (by omega) (by omega)) (by omega)
theorem impl_OrderCost_ev (hs os : List Int) (s : Int) (hn : hs.length ≤ 1048576) (hm : os.length ≤ 1048576) : Ev (fun k => impl_OrderCost.f k hs os s) (pOrderCost hs os s) := by
  unfold impl_OrderCost.f pOrderCost
  simp only [impl_areHeats_eq, impl_in_eq, Option.bind_some]
  by_cases h : pHeatsOk hs = true
  · have h3 : hs.length ≤ 8 := by have := h; simp only [pHeatsOk, Bool.and_eq_true, decide_eq_true_eq] at this; exact this.1
    refine ev_ifp h ?_
    by_cases h5 : 0 ≤ s ∧ s ≤ 350
    · refine ev_ifp (decide_eq_true h5) (Ev.bind (impl_isOrder_ev _ os (by omega) hm) (ev_succ ?_))
      simp only [impl_OrderCost.j0]
      by_cases h4 : pOrdOk hs.length [] os = true
      · by_cases h2 : os.length = hs.length
        · have e : ((os.length : Int) == (hs.length : Int)) = true := by rw [beq_iff_eq]; omega
          rw [h4, e, if_pos ⟨⟨h, h5⟩, h2, rfl⟩]
          exact ev_ifn (by decide) (ev_eq (impl_OrderCost_l0 hs os h3 hm os.length 0 0 s (by omega) h4 (by omega) (by omega)) (by simp))
        · have e : ((os.length : Int) == (hs.length : Int)) = false := by rw [beq_eq_false_iff_ne]; omega
          rw [e, Bool.and_false, if_neg (fun c => h2 c.2.1)]
          exact ev_ifp (by simp) (Ev.now _)
      · rw [Bool.eq_false_iff.2 h4, Bool.false_and, if_neg (fun c => by cases c.2.2)]
        exact ev_ifp (by simp) (Ev.now _)
    · rw [if_neg (fun c => h5 c.1.2)]
      refine ev_ifn (by simp [h5]) (ev_succ ?_)
      simp only [impl_OrderCost.j0]
      exact ev_ifp (by simp) (Ev.now _)
  · rw [if_neg (fun c => h c.1.1)]
    refine ev_ifn h (ev_succ ?_)
    simp only [impl_OrderCost.j0]
    exact ev_ifp (by simp) (Ev.now _)
/-! The implementation's search: every order, first to last. -/
open Go.Proofs.Ytamdbkilpllfoaa.Hand (BS stepO kidsF ordO leastO)
def step2 (st : BS) (o : List Int) (c : Int) : BS := match st.1 with
  | none => (some o, c)
  | some b => if c < st.2 then (some o, c) else (some b, st.2)
theorem stepO_eq {cost : List Int → Option Int} {st : BS} {o : List Int} {c : Int} (h : cost o = some c) : stepO cost st o = some (step2 st o c) := by
  unfold stepO
  rw [h]
  rfl
theorem step2_step2 (st : BS) (o1 o2 : List Int) (c1 c2 : Int) : step2 (step2 st o1 c1) o2 c2 = if c2 < c1 then step2 st o2 c2 else step2 st o1 c1 := by
  obtain ⟨b, m⟩ := st
  cases b with
  | none => rfl
  | some b =>
    by_cases h1 : c1 < m
    · by_cases h2 : c2 < c1
      · have h3 : c2 < m := by omega
        simp [step2, h1, h2, h3]
      · simp [step2, h1, h2]
    · by_cases h2 : c2 < c1
      · simp [step2, h1, h2]
      · have h3 : ¬ c2 < m := by omega
        simp [step2, h1, h2, h3]
def candS (l : List Int) (b : Int) (G : Nat → List Int) (st : BS) : Option (Nat × Int) → BS
  | none => st
  | some p => step2 st (l ++ (p.1 : Int) :: G p.1) (b + p.2)
theorem candS_step (l : List Int) (b : Int) (G : Nat → List Int) (st : BS) (free : Nat → Bool) (x : Nat → Int) (i : Nat) (acc : Option (Nat × Int)) (hf : free i = true) :
    step2 (candS l b G st acc) (l ++ (i : Int) :: G i) (b + x i) = candS l b G st (hStep free x i acc) := by
  unfold hStep
  rw [if_pos hf]
  cases acc with
  | none => rfl
  | some p =>
    simp only [candS]
    rw [step2_step2]
    by_cases h : x i < p.2
    · rw [if_pos (by omega), if_pos h]
    · rw [if_neg (by omega), if_neg h]
theorem kids_eq (l : List Int) (n : Nat) (b : Int) (G : Nat → List Int) (st : BS) (free : Nat → Bool) (x : Nat → Int) (g : Int → BS → Option BS) (hfree : ∀ k, k < n → free k = !decide ((k : Int) ∈ l))
    (hg : ∀ k st', k < n → free k = true → g k st' = some (step2 st' (l ++ (k : Int) :: G k) (b + x k))) (r : Nat) : ∀ (i : Nat) (acc : Option (Nat × Int)), i + r = n → kidsF g l r i (candS l b G st acc) = some (candS l b G st (hScan free x r i acc)) := by
  induction r with
  | zero => intro i acc _; rfl
  | succ r ih =>
    intro i acc hi
    rw [hScan_succ]
    show (if (i : Int) ∈ l then some (candS l b G st acc) else g i (candS l b G st acc)).bind (kidsF g l r (i + 1)) = _
    have hf := hfree i (by omega)
    by_cases h : (i : Int) ∈ l
    · rw [if_pos h]
      rw [decide_eq_true h] at hf
      have e : hStep free x i acc = acc := by unfold hStep; rw [hf]; rfl
      rw [e]
      exact ih (i + 1) acc (by omega)
    · rw [if_neg h]
      rw [decide_eq_false h] at hf
      rw [hg i _ (by omega) hf, candS_step l b G st free x i acc hf]
      exact ih (i + 1) _ (by omega)
theorem pOrdOk_snoc (n : Int) (k : Int) : ∀ (l pre : List Int), pOrdOk n pre (l ++ [k]) = (pOrdOk n pre l && (decide (0 ≤ k ∧ k ≤ n - 1) && !decide (k ∈ pre ++ l)))
  | [], pre => by simp [pOrdOk]
  | a :: t, pre => by
    simp only [List.cons_append, pOrdOk]
    rw [pOrdOk_snoc n k t (pre ++ [a])]
    simp only [List.append_assoc, List.singleton_append, Bool.and_assoc]
theorem ordO_eq (hs : List Int) (s : Int) (hh : pHeatsOk hs = true ∧ (0 ≤ s ∧ s ≤ 350)) (d : Nat) : ∀ (l : List Int) (m : Nat) (a : Int) (st : BS), l.length + d = hs.length → pOrdOk hs.length [] l = true → (∀ k : Nat, k < hs.length → m.testBit k = decide ((k : Int) ∈ l)) → hFr m hs.length = d →
    (∀ t, pCost hs s (l ++ t) = pCost hs s l + pCost hs a t) →
    ordO (fun o => some (pOrderCost hs o s)) hs.length d l st = some (step2 st (l ++ hGre (fun k => rd hs k) hs.length d m a) (pCost hs s l + hRst (fun k => rd hs k) hs.length d m a)) := by
  induction d with
  | zero =>
    intro l m a st hl ho hm hf hA
    show stepO _ st l = _
    rw [stepO_eq (c := pCost hs s l) (by
      show some (pOrderCost hs l s) = _
      unfold pOrderCost
      rw [if_pos ⟨hh, by omega, ho⟩])]
    simp [hGre, hRst]
  | succ d ih =>
    intro l m a st hl ho hm hf hA
    have hb := kids_eq l hs.length (pCost hs s l) (fun k => hGre (fun k => rd hs k) hs.length d (m ||| 1 <<< k) (rd hs k)) st (fun k => !m.testBit k) (fun k => pHeatCost a (rd hs k) + hRst (fun k => rd hs k) hs.length d (m ||| 1 <<< k) (rd hs k)) (fun i st' => ordO (fun o => some (pOrderCost hs o s)) hs.length d (l ++ [i]) st')
      (fun k hk => by show (!m.testBit k) = _; rw [hm k hk]) (fun k st' hk hfk => by
        have hfk' : m.testBit k = false := by simpa using hfk
        have hnin : ¬ (k : Int) ∈ l := by have := hm k hk; rw [hfk'] at this; simpa using this
        have hcost : pCost hs s (l ++ [(k : Int)]) = pCost hs s l + pHeatCost a (rd hs k) := by rw [hA]; simp [pCost]
        have := ih (l ++ [(k : Int)]) (m ||| 1 <<< k) (rd hs k) st' (by simp; omega) (by
            rw [pOrdOk_snoc, ho, decide_eq_true (by omega), List.nil_append, decide_eq_false hnin]
            rfl) (fun j hj => by
            rw [bit_of, hm j hj]
            by_cases e : k = j
            · subst e; simp
            · have e2 : ((j : Int) ∈ l ++ [(k : Int)]) ↔ (j : Int) ∈ l := by
                simp only [List.mem_append, List.mem_singleton]
                constructor
                · rintro (h | h)
                  · exact h
                  · omega
                · exact .inl
              rw [decide_eq_false e, Bool.or_false, decide_eq_decide.2 e2]) (by have := hFr_bit m k hs.length hk hfk'; omega) (fun t => by
            rw [List.append_assoc, hA, hcost]
            simp only [List.singleton_append, pCost]
            omega)
        rw [this, hcost, List.append_assoc]
        simp only [List.singleton_append, Int.add_assoc]) hs.length 0 none (by omega)
    show kidsF _ l hs.length 0 st = _
    have h0 : candS l (pCost hs s l) (fun k => hGre (fun k => rd hs k) hs.length d (m ||| 1 <<< k) (rd hs k)) st none = st := rfl
    rw [h0] at hb
    refine hb.trans ?_
    obtain ⟨k, hk1, hk2⟩ := hFr_pos m hs.length (by omega)
    have hne := hScan_some (fun k => !m.testBit k) (fun k => pHeatCost a (rd hs k) + hRst (fun k => rd hs k) hs.length d (m ||| 1 <<< k) (rd hs k)) hs.length 0 none ⟨k, by omega, by omega, by simp [hk2]⟩
    cases hsc : hScan (fun k => !m.testBit k) (fun k => pHeatCost a (rd hs k) + hRst (fun k => rd hs k) hs.length d (m ||| 1 <<< k) (rd hs k)) hs.length 0 none with
    | none => exact absurd hsc hne
    | some p =>
      rw [hRst_of hsc, hGre_of hsc]
      rfl
theorem leastO_eq (hs : List Int) (s : Int) (hh : pHeatsOk hs = true ∧ (0 ≤ s ∧ s ≤ 350)) : leastO (fun o => some (pOrderCost hs o s)) hs.length = some (hGre (fun k => rd hs k) hs.length hs.length 0 s) := by
  unfold leastO
  rw [ordO_eq hs s hh hs.length [] 0 s (none, 0) (by simp) rfl (fun k _ => by simp) (hFr_none _) (fun t => by simp [pCost])]
  rfl
/-! The same with rounds. -/
theorem kids_ev {gK : Nat → Int → BS → Option BS} {g : Int → BS → Option BS} (h : ∀ i st v, g i st = some v → Ev (fun k => gK k i st) v) (l : List Int) : ∀ (r i : Nat) (st v : BS), kidsF g l r i st = some v → Ev (fun k => kidsF (gK k) l r i st) v
  | 0, i, st, v, hv => by
    obtain rfl := Option.some.inj hv
    exact Ev.now _
  | r + 1, i, st, v, hv => by
    obtain ⟨s2, h1, h2⟩ := Option.bind_eq_some_iff.1 hv
    have hr := kids_ev h l r (i + 1) s2 v h2
    show Ev (fun k => (if (i : Int) ∈ l then some st else gK k i st).bind (kidsF (gK k) l r (i + 1))) v
    by_cases c : (i : Int) ∈ l
    · rw [if_pos c] at h1
      obtain rfl := Option.some.inj h1
      simp only [if_pos c]
      exact Ev.bind (Ev.now _) hr
    · rw [if_neg c] at h1
      simp only [if_neg c]
      exact Ev.bind (h _ _ _ h1) hr
theorem ord_ev {costK : Nat → List Int → Option Int} {cost : List Int → Option Int} {N : Nat} (h : ∀ o c, o.length ≤ N → cost o = some c → Ev (fun k => costK k o) c) (n : Nat) : ∀ (d : Nat) (l : List Int) (st v : BS), l.length + d ≤ N → ordO cost n d l st = some v → Ev (fun k => ordO (costK k) n d l st) v
  | 0, l, st, v, hl, hv => by
    change stepO cost st l = some v at hv
    unfold stepO at hv
    obtain ⟨c, hc, rfl⟩ := Option.map_eq_some_iff.1 hv
    show Ev (fun k => stepO (costK k) st l) _
    unfold stepO
    simp only [Option.map_eq_bind]
    exact Ev.bind (h l c (by omega) hc) (Ev.now _)
  | d + 1, l, st, v, hl, hv => kids_ev (gK := fun k i s => ordO (costK k) n d (l ++ [i]) s) (fun i st v hv => ord_ev h n d (l ++ [i]) st v (by simp; omega) hv) l n 0 st v hv
theorem least_ev {costK : Nat → List Int → Option Int} {cost : List Int → Option Int} {n : Nat} (h : ∀ o c, o.length ≤ n → cost o = some c → Ev (fun k => costK k o) c) {v : List Int} (hv : leastO cost n = some v) : Ev (fun k => leastO (costK k) n) v := by
  unfold leastO at hv
  obtain ⟨st, h1, h2⟩ := Option.bind_eq_some_iff.1 hv
  have := ord_ev h n n [] (none, 0) st (by simp) h1
  unfold leastO
  exact Ev.bind this (ev_const h2)
theorem laws_markIntS_l0 (d : Nat) : ∀ (j : Nat) (xs : List Int) (m : Int), xs.length ≤ 4611686018427387904 → 0 ≤ m → m + d ≤ 4611686018427387904 → j + d = xs.length → Ev (fun k => laws_markIntS.l0 k xs m j) (m + d, xs.take j ++ pFrom m d) := by
  induction d with
  | zero =>
    intro j xs m hn hm hm2 hj
    refine ev_at 1 fun k => ?_
    simp only [laws_markIntS.l0]
    rw [if_neg (by omega), List.take_of_length_le (by omega)]
    simp [pFrom]
  | succ d ih =>
    intro j xs m hn hm hm2 hj
    refine Ev.step (f := fun k => laws_markIntS.l0 k (xs.set j m) (m + 1) ((j + 1 : Nat) : Int)) (fun k => ?_) (ev_eq (ih (j + 1) (xs.set j m) (m + 1) (by simpa using hn) (by omega) (by omega) (by simp; omega)) ?_)
    · simp only [laws_markIntS.l0]
      rw [if_pos (by omega), if_pos (by omega), wnext (n := xs.length) (by omega) hn, w64 (n := m + 1) (by omega) (by omega), Int.toNat_natCast]
    · rw [take_set_succ xs j m (by omega)]
      simp only [pFrom, List.append_assoc, List.singleton_append, Prod.mk.injEq, and_true]
      omega
theorem laws_markIntS_ev (xs : List Int) (hn : xs.length ≤ 4611686018427387000) : Ev (fun k => laws_markIntS.f k xs 1) (1 + (xs.length : Int), pFrom 1 xs.length) := by
  unfold laws_markIntS.f
  exact ev_eq (laws_markIntS_l0 xs.length 0 xs 1 (by omega) (by omega) (by omega) (by omega)) (by simp)
theorem laws_heldIntS_l0 (d : Nat) : ∀ (j : Nat) (xs : List Int) (m : Int), xs.length ≤ 4611686018427387904 → 0 ≤ m → m + d ≤ 4611686018427387904 → j + d = xs.length → xs.drop j = pFrom m d → Ev (fun k => laws_heldIntS.l0 k xs m j) (m + d) := by
  induction d with
  | zero =>
    intro j xs m hn hm hm2 hj hx
    refine ev_at 1 fun k => ?_
    simp only [laws_heldIntS.l0]
    rw [if_neg (by omega)]
    simp
  | succ d ih =>
    intro j xs m hn hm hm2 hj hx
    rw [List.drop_eq_getElem_cons (by omega)] at hx
    simp only [pFrom, List.cons.injEq] at hx
    refine Ev.step (f := fun k => laws_heldIntS.l0 k xs (m + 1) ((j + 1 : Nat) : Int)) (fun k => ?_) (ev_eq (ih (j + 1) xs (m + 1) hn (by omega) (by omega) (by omega) hx.2) (by omega))
    simp only [laws_heldIntS.l0]
    rw [if_pos (by omega), if_pos (by omega), rd_nat xs j (by omega), if_pos hx.1, wnext (n := xs.length) (by omega) hn, w64 (n := m + 1) (by omega) (by omega)]
theorem laws_heldIntS_ev (n : Nat) (hn : n ≤ 4611686018427387000) : Ev (fun k => laws_heldIntS.f k (pFrom 1 n) 1) (1 + (n : Int)) := by
  unfold laws_heldIntS.f
  exact laws_heldIntS_l0 n 0 (pFrom 1 n) 1 (by rw [pFrom_length]; omega) (by omega) (by omega) (by rw [pFrom_length]; omega) rfl
theorem impl_BestHeats_ev (hs : List Int) (s : Int) (hn : hs.length ≤ 1048576) : Ev (fun k => impl_BestHeats.f k hs s) (pBestHeats hs s) := by
  unfold impl_BestHeats.f pBestHeats
  simp only [impl_areHeats_eq, Option.bind_some]
  by_cases h : pHeatsOk hs = true ∧ (0 ≤ s ∧ s ≤ 350)
  · rw [if_pos h]
    exact ev_ifp h (Ev.bind (least_ev (cost := fun o => some (pOrderCost hs o s)) (fun o c ho hc => by
      obtain rfl := Option.some.inj hc
      exact impl_OrderCost_ev hs o s hn (by omega)) (leastO_eq hs s h)) (Ev.now _))
  · rw [if_neg h]
    exact ev_ifn h (Ev.now _)
theorem FnExactBestHeats : laws_FnExactBestHeats.Pure := by
  intro hs s _ _ _ _
  refine Ev.rounds (g := fun k => laws_FnExactBestHeats.f k hs s) ?_
  unfold laws_FnExactBestHeats.f
  by_cases h : (hs.length : Int) > 1048576
  · exact ev_ifp h (Ev.now _)
  · refine ev_ifn h ?_
    have hn : hs.length ≤ 1048576 := by omega
    have th := laws_toIntS_ev hs (by omega)
    have hsp := spec_BestHeats_ev hs s hn
    have him := impl_BestHeats_ev hs s hn
    have hv := pBestHeats_length hs s
    generalize pBestHeats hs s = v at hsp him hv
    obtain ⟨v, b⟩ := v
    dsimp only at hv
    have he := laws_eqIntS_ev v (by omega)
    have hm := laws_markIntS_ev v (by omega)
    have hh := laws_heldIntS_ev v.length (by omega)
    refine Ev.bind th (Ev.bind hsp (Ev.bind th (Ev.bind him (Ev.bind he (ev_ifp rfl ?_)))))
    rw [show (b != b) = false by simp]
    refine ev_succ ?_
    simp only [laws_FnExactBestHeats.j0]
    refine ev_ifn (by decide) (Ev.bind th (Ev.bind (laws_eqIntS_ev hs (by omega)) (ev_ifp rfl (Ev.bind (laws_markIntS_ev hs (by omega)) (ev_ifn (by dsimp only; omega) (Ev.bind he (ev_ifp rfl ?_)))))))
    rw [show (b != b) = false by simp]
    refine ev_succ ?_
    simp only [laws_FnExactBestHeats.j1]
    refine ev_ifn (by decide) (Ev.bind hm (Ev.bind hh (ev_ifn (by omega) (ev_ifp rfl (Ev.bind th (Ev.bind him (Ev.bind he (ev_ifp rfl ?_))))))))
    rw [show (b != b) = false by simp]
    refine ev_succ ?_
    simp only [laws_FnExactBestHeats.j2]
    exact ev_ifn (by decide) (Ev.bind hh (ev_ifn (by omega) (ev_ifp rfl (Ev.now _))))
end Go.Proofs.Ytamdbkilpllfoaa.Pure
