/- What is proved: plain laws on the rows of batches that JoinSame makes; no condition beyond what each says. -/
import Derived.Test.YtjkpdpggnapmlaaHandTwo
import Derived.Test.YtjkpdpggnapmlaaHandPlain
import Derived.Laws.AppendOwn
import Derived.OneCell
import Derived.Sort.LotA
set_option linter.unusedVariables false
set_option linter.unusedSimpArgs false
namespace Go.Proofs.Ytjkpdpggnapmlaa.Hand
open Go.RowKit Go.Lib Go.Sort Go.Shelf Go.Proofs.YtjkpdpggnapmlaaW.PrintWords

/-- The cells of a row of batches. -/
def flat (xs : List (Int × Int)) : List Value := xs.flatMap encB
theorem flat_length (xs : List (Int × Int)) : (flat xs).length = xs.length * 2 := by
  induction xs with
  | nil => rfl
  | cons a t ih => simp only [flat, List.flatMap_cons, List.length_append] at ih ⊢; rw [ih]; simp [encB]; omega
theorem flat_append (xs ys : List (Int × Int)) : flat (xs ++ ys) = flat xs ++ flat ys := by simp [flat]
theorem flat_get0 : ∀ (xs : List (Int × Int)) (i : Nat) (p : Int × Int), xs[i]? = some p → (flat xs)[i * 2]? = some (.int .i64 p.1)
  | [], i, p, h => by simp at h
  | a :: t, 0, p, h => by obtain rfl := Option.some.inj h; rfl
  | a :: t, i + 1, p, h => by
    have := flat_get0 t i p (by simpa using h)
    rw [show (i + 1) * 2 = i * 2 + 1 + 1 by omega]
    simpa [flat, encB] using this
theorem flat_get1 : ∀ (xs : List (Int × Int)) (i : Nat) (p : Int × Int), xs[i]? = some p → (flat xs)[i * 2 + 1]? = some (.int .i64 p.2)
  | [], i, p, h => by simp at h
  | a :: t, 0, p, h => by obtain rfl := Option.some.inj h; rfl
  | a :: t, i + 1, p, h => by
    have := flat_get1 t i p (by simpa using h)
    rw [show (i + 1) * 2 + 1 = i * 2 + 1 + 1 + 1 by omega]
    simpa [flat, encB] using this
theorem flat_set : ∀ (xs : List (Int × Int)) (i : Nat) (p : Int × Int) (z : Int), xs[i]? = some p → (flat xs).set (i * 2) (.int .i64 z) = flat (xs.set i (z, p.2))
  | [], i, p, z, h => by simp at h
  | a :: t, 0, p, z, h => by obtain rfl := Option.some.inj h; rfl
  | a :: t, i + 1, p, z, h => by
    have := flat_set t i p z (by simpa using h)
    rw [show (i + 1) * 2 = i * 2 + 1 + 1 by omega]
    simpa [flat, encB] using this
theorem flat_seg : ∀ (xs : List (Int × Int)) (j : Nat) (p : Int × Int), xs[j]? = some p → ((flat xs).drop (j * 2)).take 2 = [.int .i64 p.1, .int .i64 p.2]
  | [], j, p, h => by simp at h
  | a :: t, 0, p, h => by obtain rfl := Option.some.inj h; rfl
  | a :: t, j + 1, p, h => by
    have := flat_seg t j p (by simpa using h)
    rw [show (j + 1) * 2 = j * 2 + 1 + 1 by omega]
    simpa [flat, encB] using this
/-- Which place in the row has these minutes. -/
theorem addB_at (b : Int × Int) : ∀ (out : List (Int × Int)) (i : Nat), (∃ p, out[i]? = some p ∧ p.2 = b.2) → (∀ j p, j < i → out[j]? = some p → p.2 ≠ b.2) → ∃ p, out[i]? = some p ∧ addB out b = out.set i (p.1 + b.1, p.2)
  | [], i, ⟨p, h, _⟩, _ => by simp at h
  | a :: t, 0, ⟨p, h, e⟩, _ => by
    obtain rfl := Option.some.inj h
    exact ⟨a, rfl, by simp only [addB]; rw [if_pos e]; rfl⟩
  | a :: t, i + 1, ⟨p, h, e⟩, hn => by
    obtain ⟨q, hq, hs⟩ := addB_at b t i ⟨p, by simpa using h, e⟩ (fun j p hj hp => hn (j + 1) p (by omega) (by simpa using hp))
    exact ⟨q, by simpa using hq, by simp only [addB]; rw [if_neg (hn 0 a (by omega) rfl), hs]; rfl⟩
theorem addB_new (b : Int × Int) : ∀ (out : List (Int × Int)), (∀ p ∈ out, p.2 ≠ b.2) → addB out b = out ++ [b]
  | [], _ => rfl
  | a :: t, h => by
    simp only [addB]
    rw [if_neg (h a (by simp)), addB_new b t (fun p hp => h p (by simp [hp]))]
    rfl
/-- What IndexFunc answers: the first place with these minutes, or -1. -/
theorem idx_cases (m : Int) (out : List (Int × Int)) : (Lib.idxBy (fun _ y => y.2 == m) out ((0 : Int), (0 : Int)) = -1 ∧ ∀ p ∈ out, p.2 ≠ m) ∨
    ∃ i : Nat, i < out.length ∧ Lib.idxBy (fun _ y => y.2 == m) out ((0 : Int), (0 : Int)) = i ∧ (∃ p, out[i]? = some p ∧ p.2 = m) ∧ (∀ j p, j < i → out[j]? = some p → p.2 ≠ m) := by
  have gen : ∀ (l : List (Int × Int)) (s : Nat), (Lib.idxByFrom (fun _ y => y.2 == m) ((0 : Int), (0 : Int)) l s = -1 ∧ ∀ p ∈ l, p.2 ≠ m) ∨
      ∃ i : Nat, i < l.length ∧ Lib.idxByFrom (fun _ y => y.2 == m) ((0 : Int), (0 : Int)) l s = ((s + i : Nat) : Int) ∧ (∃ p, l[i]? = some p ∧ p.2 = m) ∧ (∀ j p, j < i → l[j]? = some p → p.2 ≠ m) := by
    intro l
    induction l with
    | nil => intro s; exact Or.inl ⟨rfl, fun p hp => by simp at hp⟩
    | cons a t ih =>
      intro s
      by_cases h : a.2 = m
      · exact Or.inr ⟨0, by simp, by simp [Lib.idxByFrom, h], ⟨a, rfl, h⟩, fun j p hj => by omega⟩
      · have hb : (a.2 == m) = false := beq_eq_false_iff_ne.mpr h
        rcases ih (s + 1) with ⟨h1, h2⟩ | ⟨i, h1, h2, ⟨p, h3, h4⟩, h5⟩
        · refine Or.inl ⟨by simpa [Lib.idxByFrom, hb] using h1, fun p hp => ?_⟩
          rcases List.mem_cons.1 hp with rfl | hp
          · exact h
          · exact h2 p hp
        · refine Or.inr ⟨i + 1, by simp; omega, ?_, ⟨p, by simpa using h3, h4⟩, fun j q hj hq => ?_⟩
          · simp only [Lib.idxByFrom, hb]
            rw [if_neg (by simp), h2]
            omega
          · cases j with
            | zero => obtain rfl := Option.some.inj hq; exact h
            | succ j => exact h5 j q (by omega) (by simpa using hq)
  rcases gen out 0 with h | ⟨i, h1, h2, h3, h4⟩
  · exact Or.inl h
  · exact Or.inr ⟨i, h1, by rw [Lib.idxBy, h2]; omega, h3, h4⟩
end Go.Proofs.Ytjkpdpggnapmlaa.Hand
