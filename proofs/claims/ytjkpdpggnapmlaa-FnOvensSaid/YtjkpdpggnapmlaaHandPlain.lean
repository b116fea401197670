/- What is proved: plain laws on joining batches of the same minutes and on lists that rise; no condition beyond what each says. -/
import Derived.Test.YtjkpdpggnapmlaaWMore
set_option linter.unusedVariables false
set_option linter.unusedSimpArgs false
namespace Go.Proofs.Ytjkpdpggnapmlaa.Hand
open Go.RowKit Go.Proofs.YtjkpdpggnapmlaaW.PrintWords Go.Proofs.YtjkpdpggnapmlaaW.PrintMore
/-- The loaves at these minutes. -/
def sumM (m : Int) : List (Int × Int) → Int
  | [] => 0
  | p :: t => (if p.2 = m then p.1 else 0) + sumM m t
def addB : List (Int × Int) → Int × Int → List (Int × Int)
  | [], b => [b]
  | p :: t, b => if p.2 = b.2 then (p.1 + b.1, p.2) :: t else p :: addB t b
def mergeB (xs : List (Int × Int)) : List (Int × Int) := xs.foldl addB []
theorem sumM_addB (m : Int) (b : Int × Int) : ∀ out, sumM m (addB out b) = sumM m out + (if b.2 = m then b.1 else 0)
  | [] => by simp [addB, sumM]
  | p :: t => by
    simp only [addB]
    by_cases h : p.2 = b.2
    · rw [if_pos h]
      simp only [sumM, h]
      split <;> omega
    · rw [if_neg h]
      simp only [sumM, sumM_addB m b t]
      omega
theorem sumM_append (m : Int) (ys : List (Int × Int)) : ∀ xs, sumM m (xs ++ ys) = sumM m xs + sumM m ys
  | [] => by simp [sumM]
  | p :: t => by simp only [List.cons_append, sumM, sumM_append m ys t]; omega
theorem sumM_fold (m : Int) : ∀ (xs out : List (Int × Int)), sumM m (xs.foldl addB out) = sumM m out + sumM m xs
  | [], out => by simp [sumM]
  | x :: t, out => by
    rw [List.foldl_cons, sumM_fold m t, sumM_addB]
    simp only [sumM]
    omega
theorem mem_keys_addB (m : Int) (b : Int × Int) : ∀ out, (m ∈ (addB out b).map Prod.snd) ↔ (m ∈ out.map Prod.snd ∨ m = b.2)
  | [] => by simp [addB]
  | p :: t => by
    simp only [addB]
    by_cases h : p.2 = b.2
    · rw [if_pos h]
      simp only [List.map_cons, List.mem_cons]
      constructor
      · intro c; exact Or.inl c
      · rintro (c | c)
        · exact c
        · exact Or.inl (c.trans h.symm)
    · rw [if_neg h]
      simp only [List.map_cons, List.mem_cons, mem_keys_addB m b t]
      constructor
      · rintro (c | c | c)
        · exact Or.inl (Or.inl c)
        · exact Or.inl (Or.inr c)
        · exact Or.inr c
      · rintro ((c | c) | c)
        · exact Or.inl c
        · exact Or.inr (Or.inl c)
        · exact Or.inr (Or.inr c)
theorem nodup_addB (b : Int × Int) : ∀ out, (out.map Prod.snd).Nodup → ((addB out b).map Prod.snd).Nodup
  | [], _ => by simp [addB]
  | p :: t, h => by
    simp only [List.map_cons, List.nodup_cons] at h
    simp only [addB]
    by_cases c : p.2 = b.2
    · rw [if_pos c]
      simp only [List.map_cons, List.nodup_cons]
      exact h
    · rw [if_neg c]
      simp only [List.map_cons, List.nodup_cons]
      refine ⟨fun k => ?_, nodup_addB b t h.2⟩
      rcases (mem_keys_addB p.2 b t).1 k with k | k
      · exact h.1 k
      · exact c k
theorem nodup_fold : ∀ (xs out : List (Int × Int)), (out.map Prod.snd).Nodup → ((xs.foldl addB out).map Prod.snd).Nodup
  | [], _, h => h
  | x :: t, out, h => nodup_fold t _ (nodup_addB x out h)
theorem keys_fold (m : Int) : ∀ (xs out : List (Int × Int)), (m ∈ (xs.foldl addB out).map Prod.snd) ↔ (m ∈ out.map Prod.snd ∨ m ∈ xs.map Prod.snd)
  | [], out => by simp
  | x :: t, out => by
    rw [List.foldl_cons, keys_fold m t, mem_keys_addB]
    simp only [List.map_cons, List.mem_cons]
    constructor
    · rintro ((c | c) | c)
      · exact Or.inl c
      · exact Or.inr (Or.inl c)
      · exact Or.inr (Or.inr c)
    · rintro (c | c | c)
      · exact Or.inl (Or.inl c)
      · exact Or.inl (Or.inr c)
      · exact Or.inr c
theorem sum_of_mem : ∀ (out : List (Int × Int)) (p : Int × Int), (out.map Prod.snd).Nodup → p ∈ out → sumM p.2 out = p.1
  | [], _, _, h => by simp at h
  | q :: t, p, hn, h => by
    simp only [List.map_cons, List.nodup_cons] at hn
    have zero : ∀ (l : List (Int × Int)) (m : Int), m ∉ l.map Prod.snd → sumM m l = 0 := by
      intro l m
      induction l with
      | nil => intro _; rfl
      | cons a r ih =>
        intro hm
        simp only [List.map_cons, List.mem_cons, not_or] at hm
        simp only [sumM]
        rw [if_neg (fun e => hm.1 e.symm), ih hm.2]
        rfl
    simp only [sumM]
    rcases List.mem_cons.1 h with rfl | h
    · rw [if_pos rfl, zero t _ hn.1]
      omega
    · have hk : p.2 ∈ t.map Prod.snd := List.mem_map_of_mem h
      rw [if_neg (fun e : q.2 = p.2 => hn.1 (by rw [e]; exact hk)), sum_of_mem t p hn.2 h]
      omega
/-- Each entry of the joined list tells the loaves at its minutes; no minutes stand twice; and they are those of the list. -/
theorem mergeB_props (xs : List (Int × Int)) : ((mergeB xs).map Prod.snd).Nodup ∧ (∀ p ∈ mergeB xs, p.1 = sumM p.2 xs) ∧ (∀ m, m ∈ (mergeB xs).map Prod.snd ↔ m ∈ xs.map Prod.snd) := by
  have h1 := nodup_fold xs [] (by simp)
  refine ⟨h1, fun p hp => ?_, fun m => ?_⟩
  · have h2 := sum_of_mem _ p h1 hp
    rw [sumM_fold] at h2
    simp only [sumM] at h2
    omega
  · have := keys_fold m xs []
    simpa [mergeB] using this
/-- Two lists that rise strictly and have the same members are one. -/
theorem rising_eq : ∀ (xs ys : List (Int × Int)), xs.Pairwise (fun a b => a.2 < b.2) → ys.Pairwise (fun a b => a.2 < b.2) → (∀ p, p ∈ xs ↔ p ∈ ys) → xs = ys
  | [], [], _, _, _ => rfl
  | [], y :: t, _, _, h => by have := (h y).2 (by simp); simp at this
  | x :: t, [], _, _, h => by have := (h x).1 (by simp); simp at this
  | x :: s, y :: t, hx, hy, h => by
    rw [List.pairwise_cons] at hx hy
    have e : x = y := by
      rcases List.mem_cons.1 ((h x).1 (by simp)) with e | e
      · exact e
      · rcases List.mem_cons.1 ((h y).2 (by simp)) with e2 | e2
        · exact e2.symm
        · have a := hx.1 y e2
          have b := hy.1 x e
          omega
    subst e
    congr 1
    refine rising_eq s t hx.2 hy.2 fun p => ?_
    have hp := h p
    simp only [List.mem_cons] at hp
    constructor
    · intro k
      rcases hp.1 (Or.inr k) with e | e
      · subst e
        exact absurd (hx.1 _ k) (by omega)
      · exact e
    · intro k
      rcases hp.2 (Or.inr k) with e | e
      · subst e
        exact absurd (hy.1 _ k) (by omega)
      · exact e
def pJoinFrom (xs : List (Int × Int)) : Nat → Int → List (Int × Int)
  | 0, _ => []
  | d + 1, m => if sumM m xs > 0 then (mn 500 (sumM m xs), m) :: pJoinFrom xs d (m + 1) else pJoinFrom xs d (m + 1)
theorem mem_joinFrom (xs : List (Int × Int)) (p : Int × Int) (d : Nat) : ∀ m : Int, p ∈ pJoinFrom xs d m ↔ (m ≤ p.2 ∧ p.2 < m + d) ∧ sumM p.2 xs > 0 ∧ p.1 = mn 500 (sumM p.2 xs) := by
  induction d with
  | zero => intro m; simp only [pJoinFrom, List.not_mem_nil, false_iff]; omega
  | succ d ih =>
    intro m
    obtain ⟨a, b⟩ := p
    simp only [pJoinFrom]
    by_cases h : sumM m xs > 0
    · rw [if_pos h, List.mem_cons, ih (m + 1)]
      dsimp only
      constructor
      · rintro (e | ⟨h1, h2, h3⟩)
        · injection e with e1 e2
          subst e1 e2
          exact ⟨by omega, h, rfl⟩
        · exact ⟨by omega, h2, h3⟩
      · rintro ⟨h1, h2, h3⟩
        by_cases e : b = m
        · subst e
          exact Or.inl (by rw [h3])
        · exact Or.inr ⟨by omega, h2, h3⟩
    · rw [if_neg h, ih (m + 1)]
      dsimp only
      constructor
      · rintro ⟨h1, h2, h3⟩
        exact ⟨by omega, h2, h3⟩
      · rintro ⟨h1, h2, h3⟩
        by_cases e : b = m
        · subst e
          exact absurd h2 h
        · exact ⟨by omega, h2, h3⟩
theorem rising_joinFrom (xs : List (Int × Int)) (d : Nat) : ∀ m : Int, (pJoinFrom xs d m).Pairwise (fun a b => a.2 < b.2) := by
  induction d with
  | zero => intro m; simp [pJoinFrom]
  | succ d ih =>
    intro m
    simp only [pJoinFrom]
    split
    · rw [List.pairwise_cons]
      refine ⟨fun p hp => ?_, ih (m + 1)⟩
      have := (mem_joinFrom xs p d (m + 1)).1 hp
      dsimp only
      omega
    · exact ih (m + 1)
theorem joinFrom_length (xs : List (Int × Int)) (d : Nat) : ∀ m : Int, (pJoinFrom xs d m).length ≤ d := by
  induction d with
  | zero => intro m; simp [pJoinFrom]
  | succ d ih =>
    intro m
    simp only [pJoinFrom]
    have := ih (m + 1)
    split
    · simp only [List.length_cons]
      omega
    · omega

def capB (p : Int × Int) : Int × Int := (if p.1 ≤ 500 then p.1 else 500, p.2)
theorem sumM_pos : ∀ (xs : List (Int × Int)) (m : Int), (∀ p ∈ xs, 1 ≤ p.1) → (0 ≤ sumM m xs ∧ (m ∈ xs.map Prod.snd ↔ sumM m xs > 0))
  | [], m, _ => ⟨by simp [sumM], by simp [sumM]⟩
  | p :: t, m, h => by
    obtain ⟨h1, h2⟩ := sumM_pos t m (fun q hq => h q (by simp [hq]))
    have h3 := h p (by simp)
    simp only [sumM, List.map_cons, List.mem_cons]
    by_cases e : p.2 = m
    · rw [if_pos e]
      exact ⟨by omega, fun _ => by omega, fun _ => Or.inl e.symm⟩
    · rw [if_neg e]
      refine ⟨by omega, fun k => ?_, fun k => Or.inr (h2.2 (by omega))⟩
      rcases k with k | k
      · exact absurd k.symm e
      · have := h2.1 k
        omega
theorem strict_of_sorted : ∀ (ys : List (Int × Int)), ys.Pairwise (fun a b => a.2 ≤ b.2) → (ys.map Prod.snd).Nodup → ys.Pairwise (fun a b => a.2 < b.2)
  | [], _, _ => by simp
  | y :: t, h, hn => by
    rw [List.pairwise_cons] at h ⊢
    simp only [List.map_cons, List.nodup_cons] at hn
    refine ⟨fun b hb => ?_, strict_of_sorted t h.2 hn.2⟩
    have h1 := h.1 b hb
    have h2 : y.2 ≠ b.2 := fun e => hn.1 (by rw [e]; exact List.mem_map_of_mem hb)
    omega
/-- The row, held to 500 and sorted by its minutes, is the list that the reference makes. -/
theorem joined_eq (zs ys : List (Int × Int)) (hz : ∀ p ∈ zs, (1 ≤ p.1 ∧ p.1 ≤ 500) ∧ (1 ≤ p.2 ∧ p.2 ≤ 200)) (hp : ys.Perm ((mergeB zs).map capB)) (hs : ys.Pairwise (fun a b => a.2 ≤ b.2)) : ys = pJoinFrom zs 200 1 := by
  obtain ⟨h1, h2, h3⟩ := mergeB_props zs
  have hk : (ys.map Prod.snd).Perm ((mergeB zs).map Prod.snd) := by
    have := hp.map Prod.snd
    rw [List.map_map] at this
    exact this
  refine rising_eq _ _ (strict_of_sorted ys hs (hk.nodup_iff.2 h1)) (rising_joinFrom zs 200 1) fun p => ?_
  rw [hp.mem_iff, mem_joinFrom, List.mem_map]
  have hpos : ∀ q ∈ zs, 1 ≤ q.1 := fun q hq => (hz q hq).1.1
  constructor
  · rintro ⟨q, hq, rfl⟩
    have e1 := h2 q hq
    have e2 : q.2 ∈ zs.map Prod.snd := (h3 q.2).1 (List.mem_map_of_mem hq)
    have e3 := (sumM_pos zs q.2 hpos).2.1 e2
    obtain ⟨r, hr, hr2⟩ := List.mem_map.1 e2
    have e4 := hz r hr
    rw [hr2] at e4
    refine ⟨by simp only [capB]; omega, e3, ?_⟩
    simp only [capB]
    rw [← e1]
    unfold mn
    omega
  · rintro ⟨a1, a2, a3⟩
    have e2 := (sumM_pos zs p.2 hpos).2.2 a2
    obtain ⟨q, hq, hq2⟩ := List.mem_map.1 ((h3 p.2).2 e2)
    refine ⟨q, hq, ?_⟩
    have e1 := h2 q hq
    rw [hq2] at e1
    obtain ⟨a, b⟩ := p
    simp only [capB]
    dsimp only at a3 e1 hq2
    rw [hq2, e1, a3]
    unfold mn
    congr 1
    omega
end Go.Proofs.Ytjkpdpggnapmlaa.Hand
