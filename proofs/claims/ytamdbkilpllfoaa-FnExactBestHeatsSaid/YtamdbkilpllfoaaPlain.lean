/- Plain laws on whole numbers and lists, with no program in sight; no condition. -/
import Derived.Test.YtamdbkilpllfoaaWWords
import Derived.Test.YtamdbkilpllfoaaWMore
import Derived.Test.YtamdbkilpllfoaaWTab
import Derived.Laws.BitsLemmas
set_option linter.unusedVariables false
set_option linter.unusedSimpArgs false
namespace Go.Proofs.Ytamdbkilpllfoaa.Plain
open Go.RowKit Go.Proofs.YtamdbkilpllfoaaW.PrintWords Go.Proofs.YtamdbkilpllfoaaW.PrintLast Go.Proofs.YtamdbkilpllfoaaW.PrintMore
/-! Plain lemmas: numbers, rounds. -/
theorem ev_at {α : Type} {g : Nat → Option α} {r : α} (c : Nat) (h : ∀ k, g (k + c) = some r) : Ev g r :=
  ⟨c, fun k hk => by
    obtain ⟨d, rfl⟩ := Nat.exists_eq_add_of_le hk
    rw [Nat.add_comm]
    exact h d⟩
theorem ev_const {α : Type} {g : Option α} {r : α} (h : g = some r) : Ev (fun _ => g) r := ⟨0, fun _ _ => h⟩
theorem ev_eq {α : Type} {g : Nat → Option α} {r r' : α} (h : Ev g r) (e : r = r') : Ev g r' := e ▸ h
theorem ev_succ {α : Type} {g : Nat → Option α} {r : α} (h : Ev (fun k => g (k + 1)) r) : Ev g r := Ev.step (fun _ => rfl) h
theorem all_drop {α : Type} {p : α → Bool} {xs : List α} (h : xs.all p = true) (j : Nat) : (xs.drop j).all p = true :=
  List.all_eq_true.2 fun x hx => List.all_eq_true.1 h x (List.mem_of_mem_drop hx)
theorem ev_ifp {α : Type} {c : Prop} [Decidable c] {g f : Nat → Option α} {r : α} (hc : c) (h : Ev g r) : Ev (fun k => if c then g k else f k) r := by
  simp only [if_pos hc]
  exact h
theorem ev_ifn {α : Type} {c : Prop} [Decidable c] {g f : Nat → Option α} {r : α} (hc : ¬ c) (h : Ev f r) : Ev (fun k => if c then g k else f k) r := by
  simp only [if_neg hc]
  exact h
theorem w64 {n : Int} (h0 : -9223372036854775808 ≤ n) (h1 : n ≤ 9223372036854775807) : wrap64 n = n := by unfold wrap64; omega
theorem wf64 {n : Int} (h : (Lit.int .i64 n).wf = true) : -9223372036854775808 ≤ n ∧ n ≤ 9223372036854775807 := by
  simp only [Lit.wf, Bool.and_eq_true, decide_eq_true_eq] at h
  exact h
theorem rd_nat (xs : List Int) (j : Nat) (h : j < xs.length) : rd xs (j : Int) = xs[j] := by
  simp [rd, List.getD_eq_getElem?_getD, List.getElem?_eq_getElem h]
theorem wnext {j n : Nat} (h : j < n) (hn : n ≤ 4611686018427387904) : wrap64 ((j : Int) + 1) = ((j + 1 : Nat) : Int) := by
  rw [w64 (by omega) (by omega)]
  omega
theorem take_set_succ {α : Type} (l : List α) (j : Nat) (v : α) (h : j < l.length) : (l.set j v).take (j + 1) = l.take j ++ [v] := by
  rw [List.take_succ_eq_append_getElem (by simpa using h), List.take_set_of_le (Nat.le_refl j)]
  simp
/-- m, m + 1, .. -/
def pFrom (m : Int) : Nat → List Int
  | 0 => []
  | n + 1 => m :: pFrom (m + 1) n
theorem pFrom_length (n : Nat) : ∀ m, (pFrom m n).length = n := by
  induction n with
  | zero => intro m; rfl
  | succ n ih => intro m; simp [pFrom, ih]
theorem and255 (x : Int) : 0 ≤ Go.bits .and .i64 x 255 ∧ Go.bits .and .i64 x 255 ≤ 255 := by
  have h : (BitVec.ofInt 64 x &&& BitVec.ofInt 64 255).toNat ≤ 255 := by
    rw [BitVec.toNat_and]
    exact Nat.and_le_right
  show 0 ≤ IntKind.i64.wrap ((BitVec.ofInt 64 x &&& BitVec.ofInt 64 255).toNat : Int) ∧ IntKind.i64.wrap ((BitVec.ofInt 64 x &&& BitVec.ofInt 64 255).toNat : Int) ≤ 255
  rw [IntKind.wrap_i64]
  omega
theorem tmod_range {x n : Int} (h : 0 ≤ x) (hn : 1 ≤ n) : 0 ≤ Int.tmod x n ∧ Int.tmod x n < n := by
  rw [Int.tmod_eq_emod_of_nonneg h]
  exact ⟨Int.emod_nonneg _ (by omega), Int.emod_lt_of_pos _ (by omega)⟩

/-! Chapter 1 -/
def pClamp (n a b : Int) : Int := if b < a then a else if n < a then a else if n > b then b else n

/-! Chapter 2 -/
def pDoughOk (a b c : Int) : Bool := decide ((300 ≤ a ∧ a ≤ 1200) ∧ (0 ≤ b ∧ b ≤ 50) ∧ (0 ≤ c ∧ c ≤ 500))
def pWholeParts (a b c : Int) : Int := if pDoughOk a b c = true then 1000 + a + b + c else -1
theorem wholeParts_arith {a b c : Int} (h : pDoughOk a b c = true) : wrap64 (wrap64 (wrap64 (1000 + a) + b) + c) = 1000 + a + b + c := by
  simp only [pDoughOk, decide_eq_true_eq] at h
  rw [w64 (n := 1000 + a) (by omega) (by omega), w64 (n := 1000 + a + b) (by omega) (by omega), w64 (by omega) (by omega)]
def pPartOf (a b : Int) : Int := if (0 ≤ a ∧ a ≤ 1000000) ∧ (0 ≤ b ∧ b ≤ 2000) then (a * b + 500) / 1000 else -1
theorem mul_range {a b m n : Int} (h : 0 ≤ a ∧ a ≤ m) (h2 : 0 ≤ b ∧ b ≤ n) : 0 ≤ a * b ∧ a * b ≤ m * n :=
  ⟨Int.mul_nonneg h.1 h2.1, Int.mul_le_mul h.2 h2.2 h2.1 (by omega)⟩
theorem partOf_arith {a b : Int} (h : 0 ≤ a ∧ a ≤ 1000000) (h2 : 0 ≤ b ∧ b ≤ 2000) : wrap64 (Int.tdiv (wrap64 (wrap64 (a * b) + 500)) 1000) = (a * b + 500) / 1000 := by
  have h0 := mul_range h h2
  rw [w64 (n := a * b) (by omega) (by omega), w64 (n := a * b + 500) (by omega) (by omega), Int.tdiv_eq_ediv_of_nonneg (by omega), w64 (by omega) (by omega)]
def pUp (a b : Int) : Int := (a + b - 1) / b
theorem up_arith {a b : Int} (h : 0 ≤ a ∧ a ≤ 1000000000) (h2 : 1 ≤ b ∧ b ≤ 1000000) : wrap64 (Int.tdiv (wrap64 (wrap64 (a + b) - 1)) b) = pUp a b := by
  have h3 : (a + b - 1) / b ≤ a + b - 1 := Int.ediv_le_self _ (by omega)
  have h4 : 0 ≤ (a + b - 1) / b := Int.ediv_nonneg (by omega) (by omega)
  rw [w64 (n := a + b) (by omega) (by omega), w64 (n := a + b - 1) (by omega) (by omega), Int.tdiv_eq_ediv_of_nonneg (by omega), w64 (by omega) (by omega)]
  rfl
def pAmounts (a b c f : Int) : List Int := if pDoughOk a b c = true ∧ (0 ≤ f ∧ f ≤ 1000000) then [f, pPartOf f a, pPartOf f b, pPartOf f c] else []
def pSumW : Int → List Int → Int
  | acc, [] => acc
  | acc, x :: t => pSumW (wrap64 (acc + x)) t
def pDoughWeight (a b c f : Int) : Int := if (pAmounts a b c f).isEmpty = true then -1 else pSumW 0 (pAmounts a b c f)
def pFirmer (a b c a2 b2 c2 : Int) : Int := if pDoughOk a b c = true ∧ pDoughOk a2 b2 c2 = true then (if a < a2 then -1 else if a > a2 then 1 else 0) else 0
def pFlourFor (a b c w : Int) : Int := if pDoughOk a b c = true ∧ (0 ≤ w ∧ w ≤ 1000000) then pUp (1000 * w) (1000 + a + b + c) else -1

/-! Chapter 3 -/
def pLoafOk (a b : Int) : Bool := decide ((10 ≤ a ∧ a ≤ 5000) ∧ (0 ≤ b ∧ b ≤ 40))
def pBaked (l d : Int) : Int := d - (d * l + 99) / 100
theorem baked_arith {l d : Int} (h : 0 ≤ d ∧ d ≤ 1000000) (h2 : 0 ≤ l ∧ l ≤ 40) : wrap64 (d - wrap64 (Int.tdiv (wrap64 (wrap64 (d * l) + 99)) 100)) = pBaked l d := by
  have h0 := mul_range h h2
  rw [w64 (n := d * l) (by omega) (by omega), w64 (n := d * l + 99) (by omega) (by omega), Int.tdiv_eq_ediv_of_nonneg (by omega), w64 (n := (d * l + 99) / 100) (by omega) (by omega), w64 (by omega) (by omega)]
  rfl
def pBakedWeight (a b d : Int) : Int := if pLoafOk a b = true ∧ (0 ≤ d ∧ d ≤ 10000) then pBaked b d else -1
theorem baked_small {l x w : Int} (hl : 0 ≤ l ∧ l ≤ 40) (hw : w ≤ 5000) (hx : 0 ≤ x) (h : pBaked l x < w) : x < 8334 := by
  have h1 : x * l ≤ x * 40 := Int.mul_le_mul_of_nonneg_left hl.2 hx
  unfold pBaked at h
  omega
def pLeast (w l : Int) : Nat → Int → Int
  | 0, x => x
  | n + 1, x => if pBaked l x < w then pLeast w l n (x + 1) else x
theorem pLeast_props {w l : Int} (hl : 0 ≤ l ∧ l ≤ 40) (hw : w ≤ 5000) (n : Nat) : ∀ x : Int, 0 ≤ x → x ≤ 8334 → 8334 - x < n →
    x ≤ pLeast w l n x ∧ pLeast w l n x ≤ 8334 ∧ w ≤ pBaked l (pLeast w l n x) ∧ ∀ y, x ≤ y → y < pLeast w l n x → pBaked l y < w := by
  induction n with
  | zero => intro x h0 h1 h2; omega
  | succ n ih =>
    intro x h0 h1 h2
    unfold pLeast
    by_cases h : pBaked l x < w
    · have hx := baked_small hl hw h0 h
      obtain ⟨i1, i2, i3, i4⟩ := ih (x + 1) (by omega) (by omega) (by omega)
      rw [if_pos h]
      refine ⟨by omega, i2, i3, fun y hy1 hy2 => ?_⟩
      by_cases e : y = x
      · rw [e]; exact h
      · exact i4 y (by omega) hy2
    · rw [if_neg h]
      exact ⟨by omega, h1, by omega, fun y hy1 hy2 => by omega⟩
def pDoughFor (a b : Int) : Int := if pLoafOk a b = true then pLeast a b 8400 a else -1
theorem pDoughFor_props {a b : Int} (h : pLoafOk a b = true) : a ≤ pDoughFor a b ∧ pDoughFor a b ≤ 8334 ∧ a ≤ pBaked b (pDoughFor a b) ∧ ∀ y, a ≤ y → y < pDoughFor a b → pBaked b y < a := by
  have h3 := h
  simp only [pLoafOk, decide_eq_true_eq] at h3
  unfold pDoughFor
  rw [if_pos h]
  exact pLeast_props (by omega) (by omega) 8400 a (by omega) (by omega) (by omega)
def pLoavesFrom (a b d : Int) : Int := if pLoafOk a b = true ∧ (0 ≤ d ∧ d ≤ 1000000) then d / pDoughFor a b else -1
def pDfaSum : List (Int × Int) → List Int → Int
  | l :: t, c :: u => pDoughFor l.1 l.2 * c + pDfaSum t u
  | _, _ => 0
def pCountsOk (cs : List Int) : Bool := cs.all fun x => decide (0 ≤ x ∧ x ≤ 500)
def pLoavesOk (ls : List (Int × Int)) : Bool := ls.all fun l => pLoafOk l.1 l.2
theorem pDfaSum_range : ∀ (ls : List (Int × Int)) (cs : List Int), pLoavesOk ls = true → pCountsOk cs = true → 0 ≤ pDfaSum ls cs ∧ pDfaSum ls cs ≤ 4167000 * ls.length
  | [], cs, _, _ => by cases cs <;> simp [pDfaSum]
  | l :: t, [], _, _ => by simp only [pDfaSum, List.length_cons]; omega
  | l :: t, c :: u, h1, h2 => by
    simp only [pLoavesOk, List.all_cons, Bool.and_eq_true] at h1
    simp only [pCountsOk, List.all_cons, Bool.and_eq_true, decide_eq_true_eq] at h2
    have h3 := pDfaSum_range t u h1.2 h2.2
    have h4 := pDoughFor_props h1.1
    have h5 := h1.1
    simp only [pLoafOk, decide_eq_true_eq] at h5
    have h6 := mul_range (a := pDoughFor l.1 l.2) (b := c) (m := 8334) (n := 500) (by omega) h2.1
    simp only [pDfaSum, List.length_cons]
    omega
def pDoughForAll (ls : List (Int × Int)) (cs : List Int) : Int := if (ls.length ≤ 12 ∧ cs.length = ls.length) ∧ pCountsOk cs = true ∧ pLoavesOk ls = true then pDfaSum ls cs else -1

/-! Chapter 4 -/
def pLeavenOk (a b : Int) : Bool := decide ((0 ≤ a ∧ a ≤ 100000) ∧ (0 ≤ b ∧ b ≤ 1000))
def pTake (g f n k : Int) : Int × Int × Bool := if pLeavenOk g f = true ∧ (0 ≤ n ∧ n ≤ 100000) ∧ (0 ≤ k ∧ k ≤ 100000) ∧ k ≤ g - n then (g - n, f, true) else (g, f, false)
def pFeed (g f t : Int) : Int × Int × Bool := if pLeavenOk g f = true ∧ g ≠ 0 ∧ (1 ≤ t ∧ t ≤ 10) ∧ pLeavenOk (g * (t + 1)) (f + 1) = true then (g * (t + 1), f + 1, true) else (g, f, false)
/-- Feedings, at most so many. -/
def pFeedings (t need : Int) : Nat → Int → Int → Int → Int
  | 0, _, _, _ => -1
  | n + 1, g, f, c => if g < need then (if (pFeed g f t).2.2 = true then pFeedings t need n (pFeed g f t).1 (pFeed g f t).2.1 (c + 1) else -1) else c
def pFeedingsFor (g f t need : Int) : Int := if pLeavenOk g f = true ∧ (0 ≤ need ∧ need ≤ 100000) then pFeedings t need 100002 g f 0 else -1
theorem pFeed_yes {g f t : Int} (h : (pFeed g f t).2.2 = true) : pLeavenOk g f = true ∧ g ≠ 0 ∧ (1 ≤ t ∧ t ≤ 10) ∧ pLeavenOk (g * (t + 1)) (f + 1) = true ∧ pFeed g f t = (g * (t + 1), f + 1, true) := by
  unfold pFeed at h ⊢
  split at h
  · rename_i c
    exact ⟨c.1, c.2.1, c.2.2.1, c.2.2.2, by rw [if_pos c]⟩
  · cases h
theorem pFeed_grows {g f t : Int} (h : (pFeed g f t).2.2 = true) : g + 1 ≤ (pFeed g f t).1 ∧ (pFeed g f t).1 ≤ 100000 := by
  obtain ⟨h1, h2, h3, h4, e⟩ := pFeed_yes h
  simp only [pLeavenOk, decide_eq_true_eq] at h1 h4
  rw [e]
  show g + 1 ≤ g * (t + 1) ∧ g * (t + 1) ≤ 100000
  have h5 : g * 2 ≤ g * (t + 1) := Int.mul_le_mul_of_nonneg_left (by omega) (by omega)
  omega
def pLasts (t : Int) : List Int → Int → Int → Bool
  | [], _, _ => true
  | n :: r, g, f => if (pFeed g f t).2.2 = true then (if (pTake (pFeed g f t).1 (pFeed g f t).2.1 n 1).2.2 = true then pLasts t r (pTake (pFeed g f t).1 (pFeed g f t).2.1 n 1).1 (pTake (pFeed g f t).1 (pFeed g f t).2.1 n 1).2.1 else false) else false
def pLasts3 (t : Int) : List Int → Int → Int → Int
  | [], _, _ => 1
  | n :: r, g, f => if g = 0 then 0 else if (pFeed g f t).2.2 = true then (if (pTake (pFeed g f t).1 (pFeed g f t).2.1 n 1).2.2 = true then pLasts3 t r (pTake (pFeed g f t).1 (pFeed g f t).2.1 n 1).1 (pTake (pFeed g f t).1 (pFeed g f t).2.1 n 1).2.1 else 0) else 2
theorem pFeed_zero (f t : Int) : (pFeed 0 f t).2.2 = false := by unfold pFeed; rw [if_neg (fun c => c.2.1 rfl)]
theorem pLasts_iff (t : Int) : ∀ (ns : List Int) (g f : Int), pLasts t ns g f = true ↔ pLasts3 t ns g f = 1
  | [], _, _ => by simp [pLasts, pLasts3]
  | n :: r, g, f => by
    unfold pLasts pLasts3
    by_cases h0 : g = 0
    · subst h0
      rw [if_pos rfl, if_neg (by rw [pFeed_zero]; decide)]
      simp
    · rw [if_neg h0]
      by_cases h1 : (pFeed g f t).2.2 = true
      · rw [if_pos h1, if_pos h1]
        by_cases h2 : (pTake (pFeed g f t).1 (pFeed g f t).2.1 n 1).2.2 = true
        · rw [if_pos h2, if_pos h2]
          exact pLasts_iff t r _ _
        · rw [if_neg h2, if_neg h2]
          simp
      · rw [if_neg h1, if_neg h1]
        simp
theorem pLasts3_range (t : Int) : ∀ (ns : List Int) (g f : Int), 0 ≤ pLasts3 t ns g f ∧ pLasts3 t ns g f ≤ 2
  | [], _, _ => by simp [pLasts3]
  | n :: r, g, f => by
    unfold pLasts3
    have := pLasts3_range t r (pTake (pFeed g f t).1 (pFeed g f t).2.1 n 1).1 (pTake (pFeed g f t).1 (pFeed g f t).2.1 n 1).2.1
    (repeat' split) <;> omega
theorem pFeed_iff {g f t : Int} (ht : 1 ≤ t ∧ t ≤ 10) (hg : 0 ≤ g ∧ g ≤ 100000) (hf : 0 ≤ f ∧ f < 1000) : (pFeed g f t).2.2 = true ↔ g ≠ 0 ∧ g * (t + 1) ≤ 100000 := by
  have h0 := mul_range (a := g) (b := t + 1) (m := 100000) (n := 11) hg (by omega)
  unfold pFeed
  by_cases h : pLeavenOk g f = true ∧ g ≠ 0 ∧ (1 ≤ t ∧ t ≤ 10) ∧ pLeavenOk (g * (t + 1)) (f + 1) = true
  · rw [if_pos h]
    have h4 := h.2.2.2
    simp only [pLeavenOk, decide_eq_true_eq] at h4
    exact ⟨fun _ => ⟨h.2.1, h4.1.2⟩, fun _ => rfl⟩
  · rw [if_neg h]
    refine ⟨fun c => (by cases c), fun c => absurd ⟨?_, c.1, ht, ?_⟩ h⟩
    · simp only [pLeavenOk, decide_eq_true_eq]; omega
    · simp only [pLeavenOk, decide_eq_true_eq]; omega
theorem pFeed_val {g f t : Int} (h : (pFeed g f t).2.2 = true) : pFeed g f t = (g * (t + 1), f + 1, true) := (pFeed_yes h).2.2.2.2
theorem pTake_iff {g f n : Int} (hg : 0 ≤ g ∧ g ≤ 100000) (hf : 0 ≤ f ∧ f ≤ 1000) (hn : 0 ≤ n ∧ n ≤ 10000) : (pTake g f n 1).2.2 = true ↔ 1 ≤ g - n := by
  unfold pTake
  by_cases h : pLeavenOk g f = true ∧ (0 ≤ n ∧ n ≤ 100000) ∧ ((0 : Int) ≤ 1 ∧ (1 : Int) ≤ 100000) ∧ 1 ≤ g - n
  · rw [if_pos h]
    exact ⟨fun _ => h.2.2.2, fun _ => rfl⟩
  · rw [if_neg h]
    refine ⟨fun c => (by cases c), fun c => absurd ⟨?_, ?_, ?_, c⟩ h⟩
    · simp only [pLeavenOk, decide_eq_true_eq]; omega
    · omega
    · omega
theorem pTake_val {g f n k : Int} (h : (pTake g f n k).2.2 = true) : pTake g f n k = (g - n, f, true) := by
  unfold pTake at h ⊢
  split at h
  · rename_i c
    rw [if_pos c]
  · cases h
/-- More leaven lasts no less, and too much stays too much. -/
theorem pLasts3_mono {t : Int} (ht : 1 ≤ t ∧ t ≤ 10) : ∀ (ns : List Int) (g g' f : Int), (∀ n ∈ ns, 0 ≤ n ∧ n ≤ 10000) → 0 ≤ g → g ≤ g' → g' ≤ 100000 → 0 ≤ f → f + ns.length < 1000 →
    (0 < pLasts3 t ns g f → 0 < pLasts3 t ns g' f) ∧ (pLasts3 t ns g f = 2 → pLasts3 t ns g' f = 2)
  | [], g, g', f, _, _, _, _, _, _ => by simp [pLasts3]
  | n :: r, g, g', f, hns, h0, h1, h2, h3, h4 => by
    simp only [List.length_cons] at h4
    have hn := hns n (by simp)
    unfold pLasts3
    by_cases hg : g = 0
    · rw [if_pos hg]
      exact ⟨fun c => by omega, fun c => by omega⟩
    · rw [if_neg hg, if_neg (show ¬ g' = 0 by omega)]
      have i1 := pFeed_iff (g := g) (f := f) ht (by omega) (by omega)
      have i2 := pFeed_iff (g := g') (f := f) ht (by omega) (by omega)
      have hm : g * (t + 1) ≤ g' * (t + 1) := Int.mul_le_mul_of_nonneg_right h1 (by omega)
      have hp : 0 ≤ g * (t + 1) := Int.mul_nonneg h0 (by omega)
      by_cases c2 : (pFeed g' f t).2.2 = true
      · have c2' := i2.1 c2
        have c1 : (pFeed g f t).2.2 = true := i1.2 ⟨hg, by omega⟩
        rw [if_pos c1, if_pos c2, pFeed_val c1, pFeed_val c2]
        dsimp only
        have j1 := pTake_iff (g := g * (t + 1)) (f := f + 1) (n := n) (by omega) (by omega) hn
        have j2 := pTake_iff (g := g' * (t + 1)) (f := f + 1) (n := n) (by omega) (by omega) hn
        by_cases d1 : (pTake (g * (t + 1)) (f + 1) n 1).2.2 = true
        · have d2 : (pTake (g' * (t + 1)) (f + 1) n 1).2.2 = true := j2.2 (by have := j1.1 d1; omega)
          have d1' := j1.1 d1
          rw [if_pos d1, if_pos d2, pTake_val d1, pTake_val d2]
          dsimp only
          exact pLasts3_mono ht r _ _ _ (fun x hx => hns x (by simp [hx])) (by omega) (by omega) (by omega) (by omega) (by omega)
        · rw [if_neg d1]
          exact ⟨fun c => by omega, fun c => by omega⟩
      · rw [if_neg c2]
        exact ⟨fun _ => by omega, fun _ => rfl⟩
/-- The first amount that lasts. -/
def pKeepL (t : Int) (ns : List Int) : Nat → Int → Int
  | 0, _ => -1
  | n + 1, g => if g ≤ 100000 then (if pLasts t ns g 0 = true then g else pKeepL t ns n (g + 1)) else -1
theorem pKeepL_hit {t : Int} {ns : List Int} {L : Int} (hL : pLasts t ns L 0 = true) (h1 : L ≤ 100000) (n : Nat) : ∀ x : Int, x ≤ L → L - x < n → (∀ g, x ≤ g → g < L → pLasts t ns g 0 = false) → pKeepL t ns n x = L := by
  induction n with
  | zero => intro x h2 h3 h4; omega
  | succ n ih =>
    intro x h2 h3 h4
    unfold pKeepL
    rw [if_pos (by omega)]
    by_cases e : x = L
    · subst e
      rw [if_pos hL]
    · rw [if_neg (by rw [h4 x (by omega) (by omega)]; decide)]
      exact ih (x + 1) (by omega) (by omega) (fun g hg hg2 => h4 g (by omega) hg2)
theorem pKeepL_miss {t : Int} {ns : List Int} (n : Nat) : ∀ x : Int, (∀ g, x ≤ g → g ≤ 100000 → pLasts t ns g 0 = false) → pKeepL t ns n x = -1 := by
  induction n with
  | zero => intro x _; rfl
  | succ n ih =>
    intro x h
    unfold pKeepL
    by_cases c : x ≤ 100000
    · rw [if_pos c, if_neg (by rw [h x (by omega) c]; decide)]
      exact ih (x + 1) (fun g hg hg2 => h g (by omega) hg2)
    · rw [if_neg c]
def pNeedsOk (ns : List Int) : Bool := ns.all fun x => decide (0 ≤ x ∧ x ≤ 10000)
def pKeepForDays (ns : List Int) (t : Int) : Int := if ns.length ≤ 10 ∧ pNeedsOk ns = true ∧ (1 ≤ t ∧ t ≤ 10) then pKeepL t ns 100002 0 else -1
/-- A search by halves finds what the search from below finds. -/
theorem pKeep_eq {t : Int} {ns : List Int} (ht : 1 ≤ t ∧ t ≤ 10) (hl : ns.length ≤ 10) (hok : pNeedsOk ns = true) {L : Int} (h0 : 0 ≤ L ∧ L ≤ 100000) (h1 : ∀ g, 0 ≤ g → g < L → pLasts3 t ns g 0 = 0) (h2 : L = 100000 ∨ 0 < pLasts3 t ns L 0) :
    pKeepL t ns 100002 0 = if pLasts3 t ns L 0 = 1 then L else -1 := by
  have hns : ∀ n ∈ ns, 0 ≤ n ∧ n ≤ 10000 := fun n hn => by simpa using List.all_eq_true.1 hok n hn
  have no : ∀ g, pLasts3 t ns g 0 ≠ 1 → pLasts t ns g 0 = false := fun g h => by
    cases e : pLasts t ns g 0 with
    | false => rfl
    | true => exact absurd ((pLasts_iff t ns g 0).1 e) h
  by_cases c : pLasts3 t ns L 0 = 1
  · rw [if_pos c]
    exact pKeepL_hit ((pLasts_iff t ns L 0).2 c) h0.2 100002 0 h0.1 (by omega) (fun g g0 g1 => no g (by rw [h1 g g0 g1]; decide))
  · rw [if_neg c]
    refine pKeepL_miss 100002 0 fun g g0 g1 => no g fun e => ?_
    by_cases gl : g < L
    · rw [h1 g g0 gl] at e
      omega
    · have hr := pLasts3_range t ns L 0
      have e2 : pLasts3 t ns L 0 = 2 := by
        rcases h2 with h2 | h2
        · have : g = L := by omega
          subst this
          exact absurd e c
        · omega
      have := (pLasts3_mono ht ns L g 0 hns h0.1 (by omega) g1 (by omega) (by omega)).2 e2
      omega

/-! Chapter 5 -/
def pSpeed (d : Int) : Int := if ¬ (-30 ≤ d ∧ d ≤ 60) then -1 else if d < 4 ∨ 34 < d then 0 else if d < 10 then 1 else if d < 16 then 2 else if d < 22 then 4 else if d < 28 then 8 else 16
theorem pSpeed_range (d : Int) : -1 ≤ pSpeed d ∧ pSpeed d ≤ 16 := by unfold pSpeed; (repeat' split) <;> omega
def pMinutes (d p : Int) : Int := if pSpeed d ≤ 0 ∨ ¬ (0 ≤ p ∧ p ≤ 10000) then -1 else pUp p (pSpeed d)
def pCoolest (p m : Int) : Nat → Int → Int
  | 0, _ => -1
  | n + 1, d => if d ≤ 34 then (if pMinutes d p ≤ m then d else pCoolest p m n (d + 1)) else -1
def pCoolestFor (p m : Int) : Int := if (0 ≤ p ∧ p ≤ 10000) ∧ (1 ≤ m ∧ m ≤ 10000) then pCoolest p m 32 4 else -1
def pDegOk (xs : List Int) : Bool := xs.all fun x => decide (-30 ≤ x ∧ x ≤ 60)
theorem pSpeed_in {d : Int} (h : -30 ≤ d ∧ d ≤ 60) : 0 ≤ pSpeed d := by unfold pSpeed; rw [if_neg (fun c : ¬ (-30 ≤ d ∧ d ≤ 60) => c h)]; (repeat' split) <;> omega
theorem pSpeed_out {d : Int} (h : ¬ (-30 ≤ d ∧ d ≤ 60)) : pSpeed d = -1 := by unfold pSpeed; rw [if_pos h]
def pRise : List Int → Int
  | [] => 0
  | d :: t => pSpeed d + pRise t
theorem pRise_append (xs ys : List Int) : pRise (xs ++ ys) = pRise xs + pRise ys := by
  induction xs with
  | nil => simp [pRise]
  | cons d t ih => simp only [List.cons_append, pRise, ih]; omega
theorem pRise_range : ∀ xs : List Int, pDegOk xs = true → 0 ≤ pRise xs ∧ pRise xs ≤ 16 * xs.length
  | [], _ => by simp [pRise]
  | d :: t, h => by
    simp only [pDegOk, List.all_cons, Bool.and_eq_true, decide_eq_true_eq] at h
    have h1 := pSpeed_in h.1
    have h2 := pSpeed_range d
    have h3 := pRise_range t h.2
    simp only [pRise, List.length_cons]
    omega
def pRiseAfter (xs : List Int) : Int := if xs.length ≤ 1000 ∧ pDegOk xs = true then pRise xs else -1
def pReadyL (p : Int) : List Int → Int → Int → Int
  | [], _, _ => -1
  | d :: t, acc, i => if acc + pSpeed d ≥ p then i else pReadyL p t (acc + pSpeed d) (i + 1)
def pReadyAt (xs : List Int) (p : Int) : Int := if pRiseAfter xs < 0 ∨ ¬ (1 ≤ p ∧ p ≤ 10000) then -1 else pReadyL p xs 0 0

/-! Chapter 6 -/
def pStepOk (p : Int × Int) : Bool := decide ((1 ≤ p.1 ∧ p.1 ≤ 300) ∧ (0 ≤ p.2 ∧ p.2 ≤ 1000))
def pStepsOk (xs : List (Int × Int)) : Bool := xs.all pStepOk && decide (xs.length ≤ 12)
def pWhole : List (Int × Int) → Int
  | [] => 0
  | p :: t => p.1 + p.2 + pWhole t
theorem pStepOk_range {p : Int × Int} (h : pStepOk p = true) : (1 ≤ p.1 ∧ p.1 ≤ 300) ∧ (0 ≤ p.2 ∧ p.2 ≤ 1000) := by simpa [pStepOk] using h
theorem pWhole_range : ∀ xs : List (Int × Int), xs.all pStepOk = true → 0 ≤ pWhole xs ∧ pWhole xs ≤ 1300 * xs.length
  | [], _ => by simp [pWhole]
  | p :: t, h => by
    simp only [List.all_cons, Bool.and_eq_true] at h
    have h1 := pStepOk_range h.1
    have h2 := pWhole_range t h.2
    simp only [pWhole, List.length_cons]
    omega
theorem pWhole_append (xs ys : List (Int × Int)) : pWhole (xs ++ ys) = pWhole xs + pWhole ys := by
  induction xs with
  | nil => simp [pWhole]
  | cons p t ih => simp only [List.cons_append, pWhole, ih]; omega
def pWholeTime (xs : List (Int × Int)) : Int := if pStepsOk xs = true then pWhole xs else -1
def pStarts : Int → List (Int × Int) → List Int
  | _, [] => []
  | now, p :: t => now :: pStarts (now + p.1 + p.2) t
theorem pStarts_length (xs : List (Int × Int)) : ∀ now, (pStarts now xs).length = xs.length := by
  induction xs with
  | nil => intro now; rfl
  | cons p t ih => intro now; simp [pStarts, ih]
theorem pStarts_snoc (xs : List (Int × Int)) (p : Int × Int) : ∀ now, pStarts now (xs ++ [p]) = pStarts now xs ++ [now + pWhole xs] := by
  induction xs with
  | nil => intro now; simp [pStarts, pWhole]
  | cons q t ih =>
    intro now
    simp only [List.cons_append, pStarts, pWhole, ih]
    rw [show now + (q.1 + q.2 + pWhole t) = now + q.1 + q.2 + pWhole t by omega]
def pStartTimes (xs : List (Int × Int)) (ready : Int) : List Int := if pStepsOk xs = true ∧ (0 ≤ ready ∧ ready ≤ 1440) then pStarts (ready - pWhole xs) xs else []
theorem pStepsOk_split {xs : List (Int × Int)} (h : pStepsOk xs = true) : xs.all pStepOk = true ∧ xs.length ≤ 12 := by
  simpa [pStepsOk] using h
/-- The overlap of two stretches. -/
def pOver (s m t n : Int) : Int := mx 0 (mn (s + m) (t + n) - mx s t)
theorem pOver_range {s m t n : Int} (h : 0 ≤ m) : 0 ≤ pOver s m t n ∧ pOver s m t n ≤ m := by unfold pOver mx mn; (repeat' split) <;> omega
theorem over_arith {acc s m t n : Int} (h0 : 0 ≤ acc) (h1 : acc + pOver s m t n ≤ 1000000) (hs : -20000 ≤ s ∧ s ≤ 20000) (hm : 0 ≤ m ∧ m ≤ 300) (ht : -20000 ≤ t ∧ t ≤ 20000) (hn : 0 ≤ n ∧ n ≤ 300) :
    wrap64 (acc + mx 0 (wrap64 (mn (wrap64 (s + m)) (wrap64 (t + n)) - mx s t))) = acc + pOver s m t n := by
  have h2 := pOver_range (s := s) (t := t) (n := n) hm.1
  have h3 : -100000 ≤ mn (s + m) (t + n) - mx s t ∧ mn (s + m) (t + n) - mx s t ≤ 100000 := by unfold mn mx; (repeat' split) <;> omega
  rw [w64 (n := s + m) (by omega) (by omega), w64 (n := t + n) (by omega) (by omega), w64 (n := mn (s + m) (t + n) - mx s t) (by omega) (by omega)]
  exact w64 (by unfold pOver at h2; omega) (by unfold pOver at h1; omega)
def pSum1 (s m : Int) : List (Int × Int) → Int
  | [] => 0
  | q :: t => pOver s m q.1 q.2 + pSum1 s m t
def pSum2 (zb : List (Int × Int)) : List (Int × Int) → Int
  | [] => 0
  | p :: t => pSum1 p.1 p.2 zb + pSum2 zb t
theorem pSum1_range {s m : Int} (h : 0 ≤ m ∧ m ≤ 300) : ∀ zb : List (Int × Int), 0 ≤ pSum1 s m zb ∧ pSum1 s m zb ≤ 300 * zb.length
  | [] => by simp [pSum1]
  | q :: t => by
    have h1 := pOver_range (s := s) (t := q.1) (n := q.2) h.1
    have h2 := pSum1_range (s := s) h t
    simp only [pSum1, List.length_cons]
    omega
theorem pSum2_range {zb : List (Int × Int)} (hb : zb.length ≤ 12) : ∀ za : List (Int × Int), (∀ p ∈ za, 0 ≤ p.2 ∧ p.2 ≤ 300) → 0 ≤ pSum2 zb za ∧ pSum2 zb za ≤ 3600 * za.length
  | [], _ => by simp [pSum2]
  | p :: t, h => by
    have h1 := pSum1_range (s := p.1) (h p (by simp)) zb
    have h2 := pSum2_range hb t (fun q hq => h q (by simp [hq]))
    simp only [pSum2, List.length_cons]
    omega
/-- Starts and minutes side by side. -/
def pPairs (ts : List Int) (xs : List (Int × Int)) : List (Int × Int) := (ts.zip xs).map fun q => (q.1, q.2.1)
theorem pPairs_length {ts : List Int} {xs : List (Int × Int)} (h : ts.length = xs.length) : (pPairs ts xs).length = xs.length := by simp [pPairs, h]
theorem pPairs_drop {ts : List Int} {xs : List (Int × Int)} (h : ts.length = xs.length) (j : Nat) (hj : j < xs.length) : (pPairs ts xs).drop j = (ts[j], (xs[j]).1) :: (pPairs ts xs).drop (j + 1) := by
  rw [List.drop_eq_getElem_cons (by rw [pPairs_length h]; exact hj)]
  simp [pPairs]
def pClash (xs ys : List (Int × Int)) (ra rb : Int) : Int := pSum2 (pPairs (pStarts (rb - pWhole ys) ys) ys) (pPairs (pStarts (ra - pWhole xs) xs) xs)
def pWorkClash (xs ys : List (Int × Int)) (ra rb : Int) : Int := if (pStepsOk xs = true ∧ (0 ≤ ra ∧ ra ≤ 1440)) ∧ (pStepsOk ys = true ∧ (0 ≤ rb ∧ rb ≤ 1440)) then pClash xs ys ra rb else -1
/-- Where each entry of a list of starts lies. -/
theorem pStarts_range : ∀ (xs : List (Int × Int)) (now : Int), xs.all pStepOk = true → ∀ t ∈ pStarts now xs, now ≤ t ∧ t ≤ now + pWhole xs
  | [], _, _, t, ht => by simp [pStarts] at ht
  | p :: r, now, h, t, ht => by
    simp only [List.all_cons, Bool.and_eq_true] at h
    have h1 := pStepOk_range h.1
    have h2 := pWhole_range r h.2
    simp only [pStarts, List.mem_cons] at ht
    simp only [pWhole]
    rcases ht with rfl | ht
    · omega
    · have := pStarts_range r _ h.2 t ht
      omega
def pLeastShift (xs ys : List (Int × Int)) (ready : Int) : Nat → Int → Int
  | 0, _ => -1
  | k + 1, n => if n ≤ ready ∧ ready ≤ 1440 then (if pWorkClash xs ys ready (ready - n) = 0 then n else pLeastShift xs ys ready k (n + 1)) else -1
theorem pLeastShift_bad {xs ys : List (Int × Int)} {ready : Int} (h : ¬ (pStepsOk xs = true ∧ pStepsOk ys = true)) (f : Nat) : ∀ n : Int, pLeastShift xs ys ready f n = -1 := by
  induction f with
  | zero => intro n; rfl
  | succ f ih =>
    intro n
    unfold pLeastShift
    have e : pWorkClash xs ys ready (ready - n) = -1 := by
      unfold pWorkClash
      rw [if_neg (fun c => h ⟨c.1.1, c.2.1⟩)]
    rw [e, if_neg (show ¬ ((-1 : Int) = 0) by omega), ih]
    split <;> rfl

/-! Chapter 7 -/
def pBatchOk (a b : Int) : Bool := decide ((1 ≤ a ∧ a ≤ 500) ∧ (1 ≤ b ∧ b ≤ 200))
def pLoadsOf (a b r : Int) : Int := if pBatchOk a b = true ∧ (1 ≤ r ∧ r ≤ 500) then pUp a r else -1
theorem pUp_eq {a b : Int} (hb : 1 ≤ b) : pUp a b = (a - 1) / b + 1 := by
  unfold pUp
  rw [show a + b - 1 = (a - 1) + 1 * b by omega, Int.add_mul_ediv_right _ _ (by omega)]
theorem pUp_props {a b : Int} (ha : 1 ≤ a) (hb : 1 ≤ b) : 1 ≤ pUp a b ∧ pUp a b ≤ a ∧ a ≤ pUp a b * b ∧ (pUp a b - 1) * b < a := by
  have h0 : 0 ≤ (a - 1) / b := Int.ediv_nonneg (by omega) (by omega)
  have h1 : (a - 1) / b ≤ a - 1 := Int.ediv_le_self _ (by omega)
  have h2 := Int.emod_add_mul_ediv (a - 1) b
  have h3 := Int.emod_nonneg (a - 1) (show b ≠ 0 by omega)
  have h4 := Int.emod_lt_of_pos (a - 1) (show 0 < b by omega)
  rw [pUp_eq hb]
  have h5 : ((a - 1) / b + 1) * b = b * ((a - 1) / b) + b := by rw [Int.add_mul, Int.one_mul, Int.mul_comm]
  have h6 : ((a - 1) / b + 1 - 1) * b = b * ((a - 1) / b) := by rw [Int.add_sub_cancel, Int.mul_comm]
  rw [h5, h6]
  omega
theorem pUp_anti {a b c : Int} (ha : 1 ≤ a) (hb : 1 ≤ b) (h : b ≤ c) : pUp a c ≤ pUp a b := by
  rw [pUp_eq hb, pUp_eq (show 1 ≤ c by omega)]
  have h0 : 0 ≤ (a - 1) / c := Int.ediv_nonneg (by omega) (by omega)
  have h1 : (a - 1) / c * c ≤ a - 1 := Int.ediv_mul_le _ (by omega)
  have h2 : (a - 1) / c * b ≤ (a - 1) / c * c := Int.mul_le_mul_of_nonneg_left h h0
  have h3 : (a - 1) / c ≤ (a - 1) / b := (Int.le_ediv_iff_mul_le (by omega)).2 (by omega)
  omega
def pAllOk (xs : List (Int × Int)) : Bool := xs.all fun p => pBatchOk p.1 p.2
def pBatchesOk (xs : List (Int × Int)) : Bool := decide (xs.length ≤ 10) && pAllOk xs
theorem pBatchOk_range {p : Int × Int} (h : pBatchOk p.1 p.2 = true) : (1 ≤ p.1 ∧ p.1 ≤ 500) ∧ (1 ≤ p.2 ∧ p.2 ≤ 200) := by simpa [pBatchOk] using h
theorem pLoadsOf_ok {a b r : Int} (h : pBatchOk a b = true) (hr : 1 ≤ r ∧ r ≤ 500) : pLoadsOf a b r = pUp a r := by unfold pLoadsOf; rw [if_pos ⟨h, hr⟩]
def pOven (r l : Int) : List (Int × Int) → Int
  | [] => 0
  | p :: t => pUp p.1 r * (p.2 + l) + pOven r l t
theorem oven1_range {p : Int × Int} {r l : Int} (h : pBatchOk p.1 p.2 = true) (hr : 1 ≤ r ∧ r ≤ 500) (hl : 0 ≤ l ∧ l ≤ 60) : 0 ≤ pUp p.1 r * (p.2 + l) ∧ pUp p.1 r * (p.2 + l) ≤ 130000 := by
  have h1 := pBatchOk_range h
  have h2 := pUp_props (a := p.1) (b := r) (by omega) hr.1
  exact mul_range (m := 500) (n := 260) (by omega) (by omega)
theorem pOven_range {r l : Int} (hr : 1 ≤ r ∧ r ≤ 500) (hl : 0 ≤ l ∧ l ≤ 60) : ∀ xs : List (Int × Int), pAllOk xs = true → 0 ≤ pOven r l xs ∧ pOven r l xs ≤ 130000 * xs.length
  | [], _ => by simp [pOven]
  | p :: t, h => by
    simp only [pAllOk, List.all_cons, Bool.and_eq_true] at h
    have h1 := oven1_range h.1 hr hl
    have h2 := pOven_range hr hl t h.2
    simp only [pOven, List.length_cons]
    omega
theorem pOven_anti {r s l : Int} (hr : 1 ≤ r) (hrs : r ≤ s) (hl : 0 ≤ l) : ∀ xs : List (Int × Int), pAllOk xs = true → pOven s l xs ≤ pOven r l xs
  | [], _ => by simp [pOven]
  | p :: t, h => by
    simp only [pAllOk, List.all_cons, Bool.and_eq_true] at h
    have h1 := pBatchOk_range h.1
    have h2 := pUp_anti (a := p.1) (by omega) hr hrs
    have h3 : pUp p.1 s * (p.2 + l) ≤ pUp p.1 r * (p.2 + l) := Int.mul_le_mul_of_nonneg_right h2 (by omega)
    have h4 := pOven_anti hr hrs hl t h.2
    simp only [pOven]
    omega
def pOvenTime (xs : List (Int × Int)) (r l : Int) : Int := if pBatchesOk xs = true ∧ (1 ≤ r ∧ r ≤ 500) ∧ (0 ≤ l ∧ l ≤ 60) then pOven r l xs else -1
theorem pBatchesOk_split {xs : List (Int × Int)} (h : pBatchesOk xs = true) : xs.length ≤ 10 ∧ pAllOk xs = true := by
  simpa [pBatchesOk] using h
def pRoomL (xs : List (Int × Int)) (l m : Int) : Nat → Int → Int
  | 0, _ => -1
  | n + 1, r => if r ≤ 500 then (if pOvenTime xs r l ≤ m then r else pRoomL xs l m n (r + 1)) else -1
theorem pRoomL_hit {xs : List (Int × Int)} {l m L : Int} (hL : pOvenTime xs L l ≤ m) (h1 : L ≤ 500) (n : Nat) : ∀ x : Int, x ≤ L → L - x < n → (∀ g, x ≤ g → g < L → ¬ pOvenTime xs g l ≤ m) → pRoomL xs l m n x = L := by
  induction n with
  | zero => intro x h2 h3 h4; omega
  | succ n ih =>
    intro x h2 h3 h4
    unfold pRoomL
    rw [if_pos (by omega)]
    by_cases e : x = L
    · subst e
      rw [if_pos hL]
    · rw [if_neg (h4 x (by omega) (by omega))]
      exact ih (x + 1) (by omega) (by omega) (fun g hg hg2 => h4 g (by omega) hg2)
theorem pRoomL_miss {xs : List (Int × Int)} {l m : Int} (n : Nat) : ∀ x : Int, (∀ g, x ≤ g → g ≤ 500 → ¬ pOvenTime xs g l ≤ m) → pRoomL xs l m n x = -1 := by
  induction n with
  | zero => intro x _; rfl
  | succ n ih =>
    intro x h
    unfold pRoomL
    by_cases c : x ≤ 500
    · rw [if_pos c, if_neg (h x (by omega) c)]
      exact ih (x + 1) (fun g hg hg2 => h g (by omega) hg2)
    · rw [if_neg c]
def pLeastRoom (xs : List (Int × Int)) (l m : Int) : Int := if pOvenTime xs 500 l < 0 ∨ ¬ (0 ≤ m ∧ m ≤ 100000) then -1 else pRoomL xs l m 502 1
theorem pOvenTime_ok {xs : List (Int × Int)} {l : Int} (h : ¬ pOvenTime xs 500 l < 0) : pBatchesOk xs = true ∧ (0 ≤ l ∧ l ≤ 60) := by
  unfold pOvenTime at h
  split at h
  · rename_i c
    exact ⟨c.1, c.2.2⟩
  · omega
theorem pOvenTime_anti {xs : List (Int × Int)} {l r s : Int} (h : pBatchesOk xs = true ∧ (0 ≤ l ∧ l ≤ 60)) (hr : 1 ≤ r) (hrs : r ≤ s) (hs : s ≤ 500) : pOvenTime xs s l ≤ pOvenTime xs r l := by
  unfold pOvenTime
  rw [if_pos ⟨h.1, ⟨by omega, hs⟩, h.2⟩, if_pos ⟨h.1, ⟨hr, by omega⟩, h.2⟩]
  exact pOven_anti hr hrs h.2.1 xs (pBatchesOk_split h.1).2
def pEmpty (r : Int) : List (Int × Int) → Int
  | [] => 0
  | p :: t => (pUp p.1 r * r - p.1) + pEmpty r t
theorem empty1_range {p : Int × Int} {r : Int} (h : pBatchOk p.1 p.2 = true) (hr : 1 ≤ r ∧ r ≤ 500) : 0 ≤ pUp p.1 r * r - p.1 ∧ pUp p.1 r * r - p.1 ≤ 500 := by
  have h1 := pBatchOk_range h
  have h2 := pUp_props (a := p.1) (b := r) (by omega) hr.1
  have h3 : (pUp p.1 r - 1) * r = pUp p.1 r * r - r := by rw [Int.sub_mul, Int.one_mul]
  omega
def pEmptyPlaces (xs : List (Int × Int)) (r : Int) : Int := if pBatchesOk xs = true ∧ (1 ≤ r ∧ r ≤ 500) then pEmpty r xs else -1

/-! Chapter 8 -/
def pHeatCost (a b : Int) : Int := if (0 ≤ a ∧ a ≤ 350) ∧ (0 ≤ b ∧ b ≤ 350) then (if b > a then 2 * (b - a) else a - b) else -1
def pCool1 (h : Int) : Int := mx 20 (h - 1 - (h - 20) / 50)
def pCool : Nat → Int → Int
  | 0, h => h
  | n + 1, h => pCool n (pCool1 h)
def pCoolAfter (h m : Int) : Int := if (20 ≤ h ∧ h ≤ 350) ∧ (0 ≤ m ∧ m ≤ 1000) then pCool m.toNat h else -1
theorem mx_comm (a b : Int) : mx a b = mx b a := by unfold mx; (repeat' split) <;> omega
theorem cool1_range {h : Int} (r : 20 ≤ h ∧ h ≤ 350) : 20 ≤ pCool1 h ∧ pCool1 h ≤ 350 := by unfold pCool1 mx; split <;> omega
theorem cool_arith {h : Int} (r : 20 ≤ h ∧ h ≤ 350) : wrap64 (wrap64 (h - 1) - wrap64 (Int.tdiv (wrap64 (h - 20)) 50)) = h - 1 - (h - 20) / 50 := by
  rw [w64 (n := h - 1) (by omega) (by omega), w64 (n := h - 20) (by omega) (by omega), Int.tdiv_eq_ediv_of_nonneg (by omega), w64 (n := (h - 20) / 50) (by omega) (by omega), w64 (by omega) (by omega)]
def pHeatsOk (hs : List Int) : Bool := decide (hs.length ≤ 8) && hs.all fun x => decide (0 ≤ x ∧ x ≤ 350)
def pOrdOk (n : Int) : List Int → List Int → Bool
  | _, [] => true
  | pre, k :: t => decide (0 ≤ k ∧ k ≤ n - 1) && (!decide (k ∈ pre) && pOrdOk n (pre ++ [k]) t)
def pCost (hs : List Int) : Int → List Int → Int
  | _, [] => 0
  | now, k :: t => pHeatCost now (rd hs k) + pCost hs (rd hs k) t
theorem pHeatCost_range (a b : Int) : -1 ≤ pHeatCost a b ∧ pHeatCost a b ≤ 700 := by unfold pHeatCost; (repeat' split) <;> omega
theorem pCost_range (hs : List Int) : ∀ (os : List Int) (now : Int), -(os.length : Int) ≤ pCost hs now os ∧ pCost hs now os ≤ 700 * os.length
  | [], _ => by simp [pCost]
  | k :: t, now => by
    have h1 := pHeatCost_range now (rd hs k)
    have h2 := pCost_range hs t (rd hs k)
    simp only [pCost, List.length_cons]
    omega
def pOrderCost (hs os : List Int) (start : Int) : Int := if (pHeatsOk hs = true ∧ (0 ≤ start ∧ start ≤ 350)) ∧ os.length = hs.length ∧ pOrdOk hs.length [] os = true then pCost hs start os else -1
theorem pOrdOk_bad {n k : Int} {pre t : List Int} (h : ¬ (0 ≤ k ∧ k ≤ n - 1)) : pOrdOk n pre (k :: t) = false := by
  simp only [pOrdOk, decide_eq_false h, Bool.false_and]
theorem pOrdOk_dup {n k : Int} {pre t : List Int} (h : k ∈ pre) : pOrdOk n pre (k :: t) = false := by
  simp only [pOrdOk, decide_eq_true h, Bool.not_true, Bool.false_and, Bool.and_false]
theorem pOrdOk_go {n k : Int} {pre t : List Int} (h : 0 ≤ k ∧ k ≤ n - 1) (h2 : ¬ k ∈ pre) : pOrdOk n pre (k :: t) = pOrdOk n (pre ++ [k]) t := by
  simp only [pOrdOk, decide_eq_true h, decide_eq_false h2, Bool.not_false, Bool.true_and]

/-! Work that clashes: what does not depend on the program. -/
theorem pOver_comm (s m t n : Int) : pOver s m t n = pOver t n s m := by unfold pOver mx mn; (repeat' split) <;> omega
theorem pSum1_cons2 (zb : List (Int × Int)) (q : Int × Int) : ∀ za : List (Int × Int), pSum2 (q :: zb) za = pSum1 q.1 q.2 za + pSum2 zb za
  | [] => by simp [pSum2, pSum1]
  | p :: t => by
    have := pSum1_cons2 zb q t
    simp only [pSum2, pSum1, this, pOver_comm p.1 p.2 q.1 q.2]
    omega
theorem pSum2_nil : ∀ za : List (Int × Int), pSum2 [] za = 0
  | [] => rfl
  | p :: t => by simp only [pSum2, pSum1, pSum2_nil t]; omega
theorem pSum2_comm : ∀ za zb : List (Int × Int), pSum2 zb za = pSum2 za zb
  | za, [] => by rw [pSum2_nil]; rfl
  | za, q :: zb => by rw [pSum1_cons2, pSum2, pSum2_comm za zb]
theorem pWorkClash_comm (xs ys : List (Int × Int)) (ra rb : Int) : pWorkClash xs ys ra rb = pWorkClash ys xs rb ra := by
  unfold pWorkClash pClash
  by_cases h : (pStepsOk xs = true ∧ (0 ≤ ra ∧ ra ≤ 1440)) ∧ (pStepsOk ys = true ∧ (0 ≤ rb ∧ rb ≤ 1440))
  · rw [if_pos h, if_pos ⟨h.2, h.1⟩, pSum2_comm]
  · rw [if_neg h, if_neg (fun c => h ⟨c.2, c.1⟩)]
/-- The minutes of all steps. -/
def pMins : List (Int × Int) → Int
  | [] => 0
  | p :: t => p.1 + pMins t
theorem pMins_range : ∀ xs : List (Int × Int), xs.all pStepOk = true → 0 ≤ pMins xs ∧ pMins xs ≤ 300 * xs.length
  | [], _ => by simp [pMins]
  | p :: t, h => by
    simp only [List.all_cons, Bool.and_eq_true] at h
    have h1 := pStepOk_range h.1
    have h2 := pMins_range t h.2
    simp only [pMins, List.length_cons]
    omega
/-- A step's minutes meet steps that follow each other no longer than the time that is left from their begin. -/
theorem pSum1_le {s m : Int} (hm : 0 ≤ m) : ∀ (ys : List (Int × Int)) (now : Int), ys.all pStepOk = true → pSum1 s m (pPairs (pStarts now ys) ys) ≤ mx 0 (s + m - mx s now)
  | [], now, _ => by simp only [pStarts, pPairs, List.zip_nil_left, List.map_nil, pSum1]; unfold mx; (repeat' split) <;> omega
  | p :: t, now, h => by
    simp only [List.all_cons, Bool.and_eq_true] at h
    have h1 := pStepOk_range h.1
    have h2 := pSum1_le (s := s) hm t (now + p.1 + p.2) h.2
    have e : pPairs (pStarts now (p :: t)) (p :: t) = (now, p.1) :: pPairs (pStarts (now + p.1 + p.2) t) t := by simp [pPairs, pStarts]
    rw [e]
    simp only [pSum1]
    have h3 : pOver s m now p.1 + mx 0 (s + m - mx s (now + p.1 + p.2)) ≤ mx 0 (s + m - mx s now) := by unfold pOver mx mn; (repeat' split) <;> omega
    omega
theorem pSum1_le2 {s m : Int} (hm : 0 ≤ m) (ys : List (Int × Int)) (now : Int) (h : ys.all pStepOk = true) : pSum1 s m (pPairs (pStarts now ys) ys) ≤ m := by
  have := pSum1_le (s := s) hm ys now h
  have e : mx 0 (s + m - mx s now) ≤ m := by unfold mx; (repeat' split) <;> omega
  omega
theorem pSum1_mem {s m : Int} (hm : 0 ≤ m) (p : Int × Int) : ∀ zb : List (Int × Int), p ∈ zb → (∀ q ∈ zb, 0 ≤ q.2) → pOver s m p.1 p.2 ≤ pSum1 s m zb
  | [], h, _ => by simp at h
  | q :: t, h, hz => by
    have h0 : ∀ (u : List (Int × Int)), 0 ≤ pSum1 s m u := by
      intro u
      induction u with
      | nil => simp [pSum1]
      | cons a b ih => have := (pOver_range (s := s) (m := m) (t := a.1) (n := a.2) hm).1; simp only [pSum1]; omega
    have h1 := (pOver_range (s := s) (m := m) (t := q.1) (n := q.2) hm).1
    simp only [pSum1]
    rcases List.mem_cons.1 h with rfl | h
    · have := h0 t
      omega
    · have := pSum1_mem (s := s) hm p t h (fun x hx => hz x (by simp [hx]))
      omega
/-- Minutes of the entries of a list of starts. -/
def pSnd : List (Int × Int) → Int
  | [] => 0
  | p :: t => p.2 + pSnd t
theorem pSnd_pairs : ∀ (xs : List (Int × Int)) (now : Int), pSnd (pPairs (pStarts now xs) xs) = pMins xs
  | [], _ => by simp [pStarts, pPairs, pSnd, pMins]
  | p :: t, now => by
    have := pSnd_pairs t (now + p.1 + p.2)
    have e : pPairs (pStarts now (p :: t)) (p :: t) = (now, p.1) :: pPairs (pStarts (now + p.1 + p.2) t) t := by simp [pPairs, pStarts]
    rw [e]
    simp only [pSnd, pMins, this]
theorem pPairs_ok {xs : List (Int × Int)} (ts : List Int) (h : xs.all pStepOk = true) : ∀ q ∈ pPairs ts xs, 0 ≤ q.2 := by
  intro q hq
  obtain ⟨a, ha, rfl⟩ := List.mem_map.1 hq
  have := pStepOk_range (List.all_eq_true.1 h _ (List.of_mem_zip ha).2)
  dsimp only
  omega
theorem pSum2_le {ys : List (Int × Int)} (now : Int) (h : ys.all pStepOk = true) : ∀ za : List (Int × Int), (∀ q ∈ za, 0 ≤ q.2) → pSum2 (pPairs (pStarts now ys) ys) za ≤ pSnd za
  | [], _ => by simp [pSum2, pSnd]
  | p :: t, hz => by
    have h1 := pSum1_le2 (s := p.1) (hz p (by simp)) ys now h
    have h2 := pSum2_le now h t (fun q hq => hz q (by simp [hq]))
    simp only [pSum2, pSnd]
    omega
theorem pSum2_ge {zb : List (Int × Int)} (hb : ∀ q ∈ zb, 0 ≤ q.2) : ∀ za : List (Int × Int), (∀ q ∈ za, q ∈ zb) → pSnd za ≤ pSum2 zb za
  | [], _ => by simp [pSum2, pSnd]
  | p :: t, hz => by
    have hp := hb p (hz p (by simp))
    have h1 := pSum1_mem (s := p.1) hp p zb (hz p (by simp)) hb
    have h2 := pSum2_ge hb t (fun q hq => hz q (by simp [hq]))
    have e : pOver p.1 p.2 p.1 p.2 = p.2 := by unfold pOver mx mn; (repeat' split) <;> omega
    simp only [pSum2, pSnd]
    omega
theorem pClash_le {xs ys : List (Int × Int)} (ra rb : Int) (hx : xs.all pStepOk = true) (hy : ys.all pStepOk = true) : pClash xs ys ra rb ≤ pMins xs := by
  unfold pClash
  rw [← pSnd_pairs xs (ra - pWhole xs)]
  exact pSum2_le _ hy _ (pPairs_ok _ hx)
theorem pClash_self {xs : List (Int × Int)} (r : Int) (hx : xs.all pStepOk = true) : pClash xs xs r r = pMins xs := by
  have h1 := pClash_le r r hx hx
  have h2 : pMins xs ≤ pClash xs xs r r := by
    unfold pClash
    rw [← pSnd_pairs xs (r - pWhole xs)]
    exact pSum2_ge (pPairs_ok _ hx) _ (fun q hq => hq)
  omega
theorem pLeastShift_props {xs ys : List (Int × Int)} {ready : Int} (hr : 0 ≤ ready ∧ ready ≤ 1440) (f : Nat) : ∀ n : Int, 0 ≤ n → n ≤ ready + 1 → ready - n < (f : Int) - 1 → (0 < n → pWorkClash xs ys ready (ready - n + 1) ≠ 0) →
    (pLeastShift xs ys ready f n = -1 ∧ pWorkClash xs ys ready 0 ≠ 0) ∨ (0 ≤ pLeastShift xs ys ready f n ∧ pLeastShift xs ys ready f n ≤ ready ∧ pWorkClash xs ys ready (ready - pLeastShift xs ys ready f n) = 0 ∧ (0 < pLeastShift xs ys ready f n → pWorkClash xs ys ready (ready - pLeastShift xs ys ready f n + 1) ≠ 0)) := by
  induction f with
  | zero => intro n h0 h1 h2; omega
  | succ f ih =>
    intro n h0 h1 h2 h3
    by_cases h4 : n ≤ ready
    · by_cases h5 : pWorkClash xs ys ready (ready - n) = 0
      · have e : pLeastShift xs ys ready (f + 1) n = n := by unfold pLeastShift; rw [if_pos ⟨h4, hr.2⟩, if_pos h5]
        rw [e]
        exact Or.inr ⟨h0, h4, h5, h3⟩
      · have e : pLeastShift xs ys ready (f + 1) n = pLeastShift xs ys ready f (n + 1) := by
          conv => lhs; unfold pLeastShift
          rw [if_pos ⟨h4, hr.2⟩, if_neg h5]
        rw [e]
        exact ih (n + 1) (by omega) (by omega) (by omega) (fun _ => by rw [show ready - (n + 1) + 1 = ready - n by omega]; exact h5)
    · have e : pLeastShift xs ys ready (f + 1) n = -1 := by unfold pLeastShift; rw [if_neg (fun c => h4 c.1)]
      rw [e]
      refine Or.inl ⟨rfl, ?_⟩
      have h6 := h3 (by omega)
      rwa [show ready - n + 1 = 0 by omega] at h6
theorem pStarts_get : ∀ (xs : List (Int × Int)) (now : Int) (j : Nat) (h : j < (pStarts now xs).length), (pStarts now xs)[j] = now + pWhole (xs.take j)
  | [], _, _, h => by simp [pStarts] at h
  | p :: t, now, 0, _ => by simp [pStarts, pWhole]
  | p :: t, now, j + 1, h => by
    simp only [pStarts, List.getElem_cons_succ, List.take_succ_cons, pWhole]
    rw [pStarts_get t (now + p.1 + p.2) j (by simpa [pStarts] using h)]
    omega
theorem wf8 {n : Int} (h : (Lit.int .u8 n).wf = true) : 0 ≤ n ∧ n ≤ 255 := by
  simp only [Lit.wf, Bool.and_eq_true, decide_eq_true_eq] at h
  exact h

/-! Rising: when enough has risen, and the coolest degree. -/
theorem pReadyL_props {p : Int} : ∀ (xs : List Int) (acc i : Int), acc < p → (pReadyL p xs acc i = -1 ∧ acc + pRise xs < p) ∨ (∃ j : Nat, j < xs.length ∧ pReadyL p xs acc i = i + j ∧ p ≤ acc + pRise (xs.take (j + 1)) ∧ acc + pRise (xs.take j) < p)
  | [], acc, i, h => Or.inl ⟨rfl, by simp only [pRise]; omega⟩
  | d :: t, acc, i, h => by
    by_cases h1 : acc + pSpeed d ≥ p
    · refine Or.inr ⟨0, by simp, ?_, ?_, ?_⟩
      · unfold pReadyL
        rw [if_pos h1]
        simp
      · simp only [List.take_succ_cons, List.take_zero, pRise]
        omega
      · simp only [List.take_zero, pRise]
        omega
    · have e : pReadyL p (d :: t) acc i = pReadyL p t (acc + pSpeed d) (i + 1) := by
        conv => lhs; unfold pReadyL
        rw [if_neg h1]
      rw [e]
      rcases pReadyL_props (p := p) t (acc + pSpeed d) (i + 1) (by omega) with h2 | ⟨j, h2, h3, h4, h5⟩
      · exact Or.inl ⟨h2.1, by simp only [pRise]; omega⟩
      · refine Or.inr ⟨j + 1, by simp only [List.length_cons]; omega, by rw [h3]; omega, ?_, ?_⟩
        · simp only [List.take_succ_cons, pRise] at h4 ⊢
          omega
        · simp only [List.take_succ_cons, pRise] at h5 ⊢
          omega
theorem pRise_take_le {xs : List Int} (h : pDegOk xs = true) (j : Nat) : pRise (xs.take j) ≤ pRise xs := by
  have h1 := pRise_append (xs.take j) (xs.drop j)
  rw [List.take_append_drop] at h1
  have h2 := (pRise_range (xs.drop j) (all_drop h j)).1
  omega
theorem pDegOk_take {xs : List Int} (h : pDegOk xs = true) (j : Nat) : pDegOk (xs.take j) = true :=
  List.all_eq_true.2 fun x hx => List.all_eq_true.1 h x (List.mem_of_mem_take hx)
theorem pSpeed_up {t : Int} (h : 4 ≤ t ∧ t < 34) : 1 ≤ pSpeed t ∧ pSpeed t ≤ pSpeed (t + 1) := by
  refine ⟨?_, ?_⟩
  · unfold pSpeed
    (repeat' split) <;> omega
  · unfold pSpeed
    (repeat' split) <;> omega
theorem pMinutes_ok {d p : Int} (h : 1 ≤ pSpeed d) (hp : 0 ≤ p ∧ p ≤ 10000) : pMinutes d p = pUp p (pSpeed d) := by
  unfold pMinutes
  rw [if_neg (by omega)]
theorem pMinutes_range {d p : Int} (hp : 1 ≤ p ∧ p ≤ 10000) : -1 ≤ pMinutes d p ∧ pMinutes d p ≤ 10000 := by
  by_cases h : 1 ≤ pSpeed d
  · rw [pMinutes_ok h (by omega)]
    have := pUp_props (a := p) (b := pSpeed d) (by omega) h
    omega
  · unfold pMinutes
    rw [if_pos (by omega)]
    omega
theorem pMinutes_down {t p : Int} (h : 4 ≤ t ∧ t < 34) (hp : 1 ≤ p ∧ p ≤ 10000) : pMinutes (t + 1) p ≤ pMinutes t p := by
  have h1 := pSpeed_up h
  rw [pMinutes_ok (by omega) (by omega), pMinutes_ok h1.1 (by omega)]
  exact pUp_anti hp.1 h1.1 h1.2
theorem pCoolest_props {p m : Int} (n : Nat) : ∀ d : Int, 4 ≤ d → d ≤ 35 → 35 - d < n → (4 < d → m < pMinutes (d - 1) p) →
    (pCoolest p m n d = -1 ∧ m < pMinutes 34 p) ∨ ((4 ≤ pCoolest p m n d ∧ pCoolest p m n d ≤ 34) ∧ pMinutes (pCoolest p m n d) p ≤ m ∧ (4 < pCoolest p m n d → m < pMinutes (pCoolest p m n d - 1) p)) := by
  induction n with
  | zero => intro d h0 h1 h2; omega
  | succ n ih =>
    intro d h0 h1 h2 h3
    by_cases h4 : d ≤ 34
    · by_cases h5 : pMinutes d p ≤ m
      · have e : pCoolest p m (n + 1) d = d := by unfold pCoolest; rw [if_pos h4, if_pos h5]
        rw [e]
        exact Or.inr ⟨⟨h0, h4⟩, h5, h3⟩
      · have e : pCoolest p m (n + 1) d = pCoolest p m n (d + 1) := by
          conv => lhs; unfold pCoolest
          rw [if_pos h4, if_neg h5]
        rw [e]
        exact ih (d + 1) (by omega) (by omega) (by omega) (fun _ => by rw [show d + 1 - 1 = d by omega]; omega)
    · have e : pCoolest p m (n + 1) d = -1 := by unfold pCoolest; rw [if_neg h4]
      have h6 := h3 (by omega)
      rw [show d - 1 = 34 by omega] at h6
      exact Or.inl ⟨e, h6⟩

end Go.Proofs.Ytamdbkilpllfoaa.Plain
