/- Plain laws on whole numbers and lists, with no program in sight; no condition. -/
import Derived.Test.YtholgngbblgpfaaWWords
import Derived.Test.YtholgngbblgpfaaWMore
import Derived.Test.YtholgngbblgpfaaWTab
set_option linter.unusedVariables false
set_option linter.unusedSimpArgs false
namespace Go.Proofs.Ytholgngbblgpfaa.Plain
open Go.RowKit Go.Proofs.YtholgngbblgpfaaW.PrintWords Go.Proofs.YtholgngbblgpfaaW.PrintLast Go.Proofs.YtholgngbblgpfaaW.PrintMore
/-! Plain lemmas: numbers, rounds. -/
theorem ev_at {α : Type} {g : Nat → Option α} {r : α} (c : Nat) (h : ∀ k, g (k + c) = some r) : Ev g r :=
  ⟨c, fun k hk => by
    obtain ⟨d, rfl⟩ := Nat.exists_eq_add_of_le hk
    rw [Nat.add_comm]
    exact h d⟩
theorem ev_const {α : Type} {g : Option α} {r : α} (h : g = some r) : Ev (fun _ => g) r := ⟨0, fun _ _ => h⟩
theorem ev_eq {α : Type} {g : Nat → Option α} {r r' : α} (h : Ev g r) (e : r = r') : Ev g r' := e ▸ h
theorem w64 {n : Int} (h0 : -9223372036854775808 ≤ n) (h1 : n ≤ 9223372036854775807) : wrap64 n = n := by unfold wrap64; omega
theorem wf64 {n : Int} (h : (Lit.int .i64 n).wf = true) : -9223372036854775808 ≤ n ∧ n ≤ 9223372036854775807 := by
  simp only [Lit.wf, Bool.and_eq_true, decide_eq_true_eq] at h
  exact h

/-! Chapter 1 -/
def pClamp (n a b : Int) : Int := if b < a then a else if n < a then a else if n > b then b else n

/-! Chapter 2 -/
def pDoughOk (a b c : Int) : Bool := decide ((300 ≤ a ∧ a ≤ 1200) ∧ (0 ≤ b ∧ b ≤ 50) ∧ (0 ≤ c ∧ c ≤ 500))
def pWholeParts (a b c : Int) : Int := if pDoughOk a b c = true then 1000 + a + b + c else -1
theorem wholeParts_arith {a b c : Int} (h : pDoughOk a b c = true) : wrap64 (wrap64 (wrap64 (1000 + a) + b) + c) = 1000 + a + b + c := by
  simp only [pDoughOk, decide_eq_true_eq] at h
  rw [w64 (n := 1000 + a) (by omega) (by omega), w64 (n := 1000 + a + b) (by omega) (by omega), w64 (by omega) (by omega)]
def pPartOf (a b : Int) : Int := if (0 ≤ a ∧ a ≤ 1000000) ∧ (0 ≤ b ∧ b ≤ 2000) then (a * b + 500) / 1000 else -1
theorem mul_range {a b m n : Int} (h : 0 ≤ a ∧ a ≤ m) (h2 : 0 ≤ b ∧ b ≤ n) : 0 ≤ a * b ∧ a * b ≤ m * n :=
  ⟨Int.mul_nonneg h.1 h2.1, Int.mul_le_mul h.2 h2.2 h2.1 (by omega)⟩
theorem partOf_arith {a b : Int} (h : 0 ≤ a ∧ a ≤ 1000000) (h2 : 0 ≤ b ∧ b ≤ 2000) : wrap64 (Int.tdiv (wrap64 (wrap64 (a * b) + 500)) 1000) = (a * b + 500) / 1000 := by
  have h0 := mul_range h h2
  rw [w64 (n := a * b) (by omega) (by omega), w64 (n := a * b + 500) (by omega) (by omega), Int.tdiv_eq_ediv_of_nonneg (by omega), w64 (by omega) (by omega)]
def pUp (a b : Int) : Int := (a + b - 1) / b
theorem up_arith {a b : Int} (h : 0 ≤ a ∧ a ≤ 1000000000) (h2 : 1 ≤ b ∧ b ≤ 1000000) : wrap64 (Int.tdiv (wrap64 (wrap64 (a + b) - 1)) b) = pUp a b := by
  have h3 : (a + b - 1) / b ≤ a + b - 1 := Int.ediv_le_self _ (by omega)
  have h4 : 0 ≤ (a + b - 1) / b := Int.ediv_nonneg (by omega) (by omega)
  rw [w64 (n := a + b) (by omega) (by omega), w64 (n := a + b - 1) (by omega) (by omega), Int.tdiv_eq_ediv_of_nonneg (by omega), w64 (by omega) (by omega)]
  rfl
def pFlourFor (a b c w : Int) : Int := if pDoughOk a b c = true ∧ (0 ≤ w ∧ w ≤ 1000000) then pUp (1000 * w) (1000 + a + b + c) else -1

/-! Chapter 3 -/
def pLoafOk (a b : Int) : Bool := decide ((10 ≤ a ∧ a ≤ 5000) ∧ (0 ≤ b ∧ b ≤ 40))
def pBaked (l d : Int) : Int := d - (d * l + 99) / 100
theorem baked_arith {l d : Int} (h : 0 ≤ d ∧ d ≤ 1000000) (h2 : 0 ≤ l ∧ l ≤ 40) : wrap64 (d - wrap64 (Int.tdiv (wrap64 (wrap64 (d * l) + 99)) 100)) = pBaked l d := by
  have h0 := mul_range h h2
  rw [w64 (n := d * l) (by omega) (by omega), w64 (n := d * l + 99) (by omega) (by omega), Int.tdiv_eq_ediv_of_nonneg (by omega), w64 (n := (d * l + 99) / 100) (by omega) (by omega), w64 (by omega) (by omega)]
  rfl
def pBakedWeight (a b d : Int) : Int := if pLoafOk a b = true ∧ (0 ≤ d ∧ d ≤ 10000) then pBaked b d else -1

/-! Chapter 4 -/
def pLeavenOk (a b : Int) : Bool := decide ((0 ≤ a ∧ a ≤ 100000) ∧ (0 ≤ b ∧ b ≤ 1000))
def pTake (g f n k : Int) : Int × Int × Bool := if pLeavenOk g f = true ∧ (0 ≤ n ∧ n ≤ 100000) ∧ (0 ≤ k ∧ k ≤ 100000) ∧ k ≤ g - n then (g - n, f, true) else (g, f, false)
def pFeed (g f t : Int) : Int × Int × Bool := if pLeavenOk g f = true ∧ g ≠ 0 ∧ (1 ≤ t ∧ t ≤ 10) ∧ pLeavenOk (g * (t + 1)) (f + 1) = true then (g * (t + 1), f + 1, true) else (g, f, false)

/-! Chapter 7 -/
def pBatchOk (a b : Int) : Bool := decide ((1 ≤ a ∧ a ≤ 500) ∧ (1 ≤ b ∧ b ≤ 200))
def pLoadsOf (a b r : Int) : Int := if pBatchOk a b = true ∧ (1 ≤ r ∧ r ≤ 500) then pUp a r else -1

/-! Chapter 8 -/
def pHeatCost (a b : Int) : Int := if (0 ≤ a ∧ a ≤ 350) ∧ (0 ≤ b ∧ b ≤ 350) then (if b > a then 2 * (b - a) else a - b) else -1
def pCool1 (h : Int) : Int := mx 20 (h - 1 - (h - 20) / 50)
def pCool : Nat → Int → Int
  | 0, h => h
  | n + 1, h => pCool n (pCool1 h)
def pCoolAfter (h m : Int) : Int := if (20 ≤ h ∧ h ≤ 350) ∧ (0 ≤ m ∧ m ≤ 1000) then pCool m.toNat h else -1
theorem mx_comm (a b : Int) : mx a b = mx b a := by unfold mx; (repeat' split) <;> omega
theorem cool1_range {h : Int} (r : 20 ≤ h ∧ h ≤ 350) : 20 ≤ pCool1 h ∧ pCool1 h ≤ 350 := by unfold pCool1 mx; split <;> omega
theorem cool_arith {h : Int} (r : 20 ≤ h ∧ h ≤ 350) : wrap64 (wrap64 (h - 1) - wrap64 (Int.tdiv (wrap64 (h - 20)) 50)) = h - 1 - (h - 20) / 50 := by
  rw [w64 (n := h - 1) (by omega) (by omega), w64 (n := h - 20) (by omega) (by omega), Int.tdiv_eq_ediv_of_nonneg (by omega), w64 (n := (h - 20) / 50) (by omega) (by omega), w64 (by omega) (by omega)]

end Go.Proofs.Ytholgngbblgpfaa.Plain
