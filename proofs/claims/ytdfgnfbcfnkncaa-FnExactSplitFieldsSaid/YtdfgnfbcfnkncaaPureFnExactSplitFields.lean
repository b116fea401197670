/- What is proved: read as plain functions on numbers and lists, the law FnExactSplitFields answers true at every input of its kinds; no condition is added. -/
import Derived.Test.YtdfgnfbcfnkncaaPFnExactSplitFieldsx2
import Derived.Test.YtdfgnfbcfnkncaaPlain
set_option linter.unusedVariables false
set_option linter.unusedSimpArgs false
set_option maxRecDepth 20000
namespace Go.Proofs.Ytdfgnfbcfnkncaa.Pure
open Go.RowKit Go.Proofs.Ytdfgnfbcfnkncaa.PFnExactSplitFields Go.Proofs.YtdfgnfbcfnkncaaW.PrintWords Go.Proofs.YtdfgnfbcfnkncaaW.PrintLast Go.Proofs.YtdfgnfbcfnkncaaW.PrintMore Go.Proofs.Ytdfgnfbcfnkncaa.Plain
def isBlank (c : Nat) : Bool := c == 32
def okByte (a : ByteArray) (j : Nat) : Prop := 32 ≤ bt a (j : Int) ∧ bt a (j : Int) ≤ 126
def exts (a : ByteArray) (l : List (Nat × Nat)) : List ByteArray := l.map fun x => a.extract x.1 x.2
def fin24 (l : List ByteArray) : List ByteArray × Bool := if (l.length : Int) > 24 then ([], false) else (l, true)
open Classical in
noncomputable def pSplit (a : ByteArray) : List ByteArray × Bool := if (a.size : Int) > 600 then ([], false) else if ∀ j, j < a.size → okByte a j then fin24 (Lib.goFieldsP (fun c => c == 32) a) else ([], false)
theorem decode_ok (a : ByteArray) (pos : Nat) (h : pos < a.size) (ho : okByte a pos) : Utf8.decode a pos = ((bt a (pos : Int)).toNat, 1) := by
  have e : bt a (pos : Int) = (((a[pos]'h).toNat : Nat) : Int) := by
    unfold bt
    rw [dif_pos (by omega)]
    simp
  have h2 := ho.2
  rw [e] at h2
  rw [decode_ascii a pos h (by omega), e]
  simp
theorem pSplit_length (a : ByteArray) : (pSplit a).1.length ≤ 24 := by
  unfold pSplit fin24
  split
  · simp
  · split
    · split
      · simp
      · dsimp only
        omega
    · simp
theorem spec_Split_bad (a : ByteArray) (hs : a.size ≤ 600) (d : Nat) : ∀ (pos : Nat) (begin : Int) (out : List ByteArray), pos + d = a.size → (∃ j, pos ≤ j ∧ j < a.size ∧ ¬ okByte a j) → 0 ≤ begin → begin ≤ pos → out.length ≤ pos → Ev (fun k => spec_SplitFields.l0 k a out begin pos) ([], false) := by
  induction d with
  | zero => intro pos begin out hj hx; obtain ⟨j, h1, h2, _⟩ := hx; omega
  | succ d ih =>
    intro pos begin out hj hx h0 h1 ho
    refine ev_succ ?_
    simp only [spec_SplitFields.l0]
    refine ev_ifp (by omega) (ev_ifp (by omega) (ev_ifp (by omega) ?_))
    by_cases hp : okByte a pos
    · obtain ⟨j, j1, j2, j3⟩ := hx
      have hx' : ∃ j, pos + 1 ≤ j ∧ j < a.size ∧ ¬ okByte a j := ⟨j, Nat.lt_of_le_of_ne j1 (fun e => j3 (e ▸ hp)), j2, j3⟩
      have hp1 := hp.1
      have hp2 := hp.2
      refine ev_ifn (by omega) ?_
      rw [decide_eq_false (show ¬ bt a (pos : Int) > 126 by omega)]
      refine ev_succ ?_
      simp only [spec_SplitFields.j1]
      refine ev_ifn (by decide) (ev_ifp (by omega) (ev_ifp (by omega) (ev_succ ?_)))
      simp only [spec_SplitFields.j2]
      rw [wnext (n := a.size) (by omega) (by omega)]
      by_cases h32 : (bt a (pos : Int) != 32) = true
      · exact ev_ifp h32 (ih (pos + 1) begin out (by omega) hx' h0 (by omega) (by omega))
      · refine ev_ifn h32 ?_
        by_cases hb : begin < (pos : Int)
        · exact ev_ifp hb (ev_ifp (by omega) (ev_ifp (by omega) (ev_ifp (by omega) (ev_ifp (by omega) (ih (pos + 1) _ _ (by omega) hx' (by omega) (by omega) (by simp; omega))))))
        · exact ev_ifn hb (ih (pos + 1) _ _ (by omega) hx' (by omega) (by omega) (by omega))
    · have hbad : Ev (fun k => spec_SplitFields.j1 k a out begin pos true) ([], false) := by
        refine ev_succ ?_
        simp only [spec_SplitFields.j1]
        exact ev_ifp trivial (Ev.now _)
      by_cases h2 : bt a (pos : Int) < 32
      · exact ev_ifp h2 hbad
      · refine ev_ifn h2 ?_
        have h3 : bt a (pos : Int) > 126 := by
          rcases Int.lt_or_le 126 (bt a (pos : Int)) with h | h
          · exact h
          · exact absurd ⟨by omega, h⟩ hp
        rw [decide_eq_true h3]
        exact hbad
theorem spec_Split_good (a : ByteArray) (hs : a.size ≤ 600) (hok : ∀ j, j < a.size → okByte a j) (d : Nat) : ∀ (pos begin : Nat) (st : Option Nat) (acc : List (Nat × Nat)), pos + d = a.size → (st = none ∧ begin = pos) ∨ (st = some begin ∧ begin < pos) → acc.length ≤ pos →
    Ev (fun k => spec_SplitFields.l0 k a (exts a acc) begin pos) (fin24 (exts a (Lib.closeSpans a (Lib.spansFromP (fun c => c == 32) a d pos st acc)))) := by
  have fin : ∀ (out : List ByteArray) (b : Int), Ev (fun k => spec_SplitFields.l0 k a out b ((a.size + 1 : Nat) : Int)) (fin24 out) := by
    intro out b
    refine ev_succ ?_
    simp only [spec_SplitFields.l0]
    refine ev_ifn (by omega) ?_
    unfold fin24
    by_cases h : (out.length : Int) > 24
    · exact ev_ifp h (ev_const (by rw [if_pos h]))
    · exact ev_ifn h (ev_const (by rw [if_neg h]))
  have lx : ∀ l, (exts a l).length = l.length := fun l => by simp [exts]
  have ap : ∀ l p, exts a (l ++ [p]) = exts a l ++ [a.extract p.1 p.2] := fun l p => by simp [exts]
  induction d with
  | zero =>
    intro pos begin st acc hj hst ho
    obtain rfl : pos = a.size := by omega
    refine ev_succ ?_
    simp only [spec_SplitFields.l0]
    refine ev_ifp (by omega) (ev_ifn (by omega) (ev_succ ?_))
    simp only [spec_SplitFields.j1]
    refine ev_ifn (by decide) (ev_ifn (by omega) (ev_succ ?_))
    simp only [spec_SplitFields.j2]
    rw [w64 (n := (a.size : Int) + 1) (by omega) (by omega), show (a.size : Int) + 1 = ((a.size + 1 : Nat) : Int) by omega]
    refine ev_ifn (by decide) ?_
    simp only [Lib.spansFromP]
    rcases hst with ⟨rfl, hb⟩ | ⟨rfl, hb⟩
    · simp only [Lib.closeSpans]
      exact ev_ifn (by omega) (fin _ _)
    · simp only [Lib.closeSpans]
      rw [ap]
      refine ev_ifp (by omega) (ev_ifp (by omega) (ev_ifp (by omega) (ev_ifp (by omega) (ev_ifp (by rw [lx]; omega) ?_))))
      rw [Int.toNat_natCast, Int.toNat_natCast]
      exact fin _ _
  | succ d ih =>
    intro pos begin st acc hj hst ho
    have hp := hok pos (by omega)
    have hp1 := hp.1
    have hp2 := hp.2
    have hdec := decode_ok a pos (by omega) hp
    refine ev_succ ?_
    simp only [spec_SplitFields.l0]
    refine ev_ifp (by omega) (ev_ifp (by omega) (ev_ifp (by omega) (ev_ifn (by omega) ?_)))
    rw [decide_eq_false (show ¬ bt a (pos : Int) > 126 by omega)]
    refine ev_succ ?_
    simp only [spec_SplitFields.j1]
    refine ev_ifn (by decide) (ev_ifp (by omega) (ev_ifp (by omega) (ev_succ ?_)))
    simp only [spec_SplitFields.j2]
    rw [wnext (n := a.size) (by omega) (by omega)]
    unfold Lib.spansFromP
    rw [if_pos (show pos < a.size by omega), hdec]
    simp only
    by_cases h32 : bt a (pos : Int) = 32
    · rw [h32, if_pos (show ((32 : Int).toNat == 32) = true by decide)]
      refine ev_ifn (by decide) ?_
      rcases hst with ⟨rfl, hb⟩ | ⟨rfl, hb⟩
      · exact ev_ifn (by omega) (ih (pos + 1) (pos + 1) none acc (by omega) (Or.inl ⟨rfl, rfl⟩) (by omega))
      · refine ev_ifp (by omega) (ev_ifp (by omega) (ev_ifp (by omega) (ev_ifp (by omega) (ev_ifp (by rw [lx]; omega) ?_))))
        rw [Int.toNat_natCast, Int.toNat_natCast, ← ap acc (begin, pos)]
        exact ih (pos + 1) (pos + 1) none _ (by omega) (Or.inl ⟨rfl, rfl⟩) (by simp; omega)
    · rw [if_neg (show ¬ (((bt a (pos : Int)).toNat == 32) = true) by simp only [beq_iff_eq]; omega)]
      refine ev_ifp (by simpa using h32) ?_
      rcases hst with ⟨rfl, hb⟩ | ⟨rfl, hb⟩
      · subst hb
        exact ih (begin + 1) begin (some begin) acc (by omega) (Or.inr ⟨rfl, by omega⟩) (by omega)
      · exact ih (pos + 1) begin (some begin) acc (by omega) (Or.inr ⟨rfl, by omega⟩) (by omega)
theorem spec_SplitFields_ev (a : ByteArray) : Ev (fun k => spec_SplitFields.f k a) (pSplit a) := by
  unfold spec_SplitFields.f pSplit
  simp only [Option.bind_some]
  by_cases h : (a.size : Int) > 600
  · exact ev_ifp h (ev_const (by rw [if_pos h]))
  · rw [if_neg h]
    refine ev_ifn h ?_
    by_cases hok : ∀ j, j < a.size → okByte a j
    · rw [if_pos hok]
      exact spec_Split_good a (by omega) hok a.size 0 0 none [] (by omega) (Or.inl ⟨rfl, rfl⟩) (by simp)
    · rw [if_neg hok]
      have hx : ∃ j, 0 ≤ j ∧ j < a.size ∧ ¬ okByte a j := by
        apply Classical.byContradiction
        intro c
        exact hok fun j hj => Classical.byContradiction fun c2 => c ⟨j, Nat.zero_le _, hj, c2⟩
      exact spec_Split_bad a (by omega) a.size 0 0 [] (by omega) hx (by omega) (by omega) (by simp)
theorem impl_SplitFields_l0 (a : ByteArray) (hs : a.size ≤ 600) (d : Nat) : ∀ (pos : Nat), pos + d = a.size → Ev (fun k => impl_SplitFields.l0 k a (a.size : Int) pos) (open Classical in if ∀ j, pos ≤ j → j < a.size → okByte a j then fin24 (Lib.goFieldsP (fun c => c == 32) a) else ([], false)) := by
  induction d with
  | zero =>
    intro pos hj
    refine ev_succ ?_
    simp only [impl_SplitFields.l0]
    refine ev_ifn (by omega) ?_
    rw [if_pos (fun j h1 h2 => by omega)]
    unfold strings_FieldsFunc.f fin24
    rw [if_pos (by omega)]
    simp only [Option.bind_some]
    by_cases h : ((Lib.goFieldsP (fun c => c == 32) a).length : Int) > 24
    · exact ev_ifp h (ev_const (by rw [if_pos h]))
    · exact ev_ifn h (ev_const (by rw [if_neg h]))
  | succ d ih =>
    intro pos hj
    refine ev_succ ?_
    simp only [impl_SplitFields.l0]
    rw [wnext (n := a.size) (by omega) (by omega)]
    refine ev_ifp (by omega) (ev_ifp (by omega) (ev_ifp (by omega) ?_))
    by_cases hp : okByte a pos
    · refine ev_ifn (by have := hp.1; omega) (ev_ifn (by have := hp.2; omega) (ev_eq (ih (pos + 1) (by omega)) ?_))
      by_cases hq : ∀ j, pos + 1 ≤ j → j < a.size → okByte a j
      · rw [if_pos hq, if_pos (fun j h1 h2 => (Nat.eq_or_lt_of_le h1).elim (fun e => e ▸ hp) (fun h => hq j h h2))]
      · rw [if_neg hq, if_neg (fun c => hq fun j h1 h2 => c j (by omega) h2)]
    · rw [if_neg (fun c => hp (c pos (Nat.le_refl _) (by omega)))]
      by_cases h2 : bt a (pos : Int) < 32
      · exact ev_ifp h2 (Ev.now _)
      · have h3 : bt a (pos : Int) > 126 := by
          rcases Int.lt_or_le 126 (bt a (pos : Int)) with h | h
          · exact h
          · exact absurd ⟨by omega, h⟩ hp
        exact ev_ifn h2 (ev_ifp h3 (Ev.now _))
theorem impl_SplitFields_ev (a : ByteArray) : Ev (fun k => impl_SplitFields.f k a) (pSplit a) := by
  unfold impl_SplitFields.f pSplit
  by_cases h : (a.size : Int) > 600
  · exact ev_ifp h (ev_const (by rw [if_pos h]))
  · rw [if_neg h]
    refine ev_ifn h (ev_eq (impl_SplitFields_l0 a (by omega) a.size 0 (by omega)) ?_)
    by_cases hok : ∀ j, j < a.size → okByte a j
    · rw [if_pos (fun j _ hj => hok j hj), if_pos hok]
    · rw [if_neg (fun c => hok fun j hj => c j (Nat.zero_le _) hj), if_neg hok]
theorem rdOf_at (xs : List ByteArray) (j : Nat) (t : ByteArray) (h : xs[j]? = some t) : rdOf ByteArray.empty xs (j : Int) = t := by
  simp [rdOf, List.getD_eq_getElem?_getD, h]
theorem laws_eqStringS_l0 (xs : List ByteArray) (hn : xs.length ≤ 4611686018427387904) (d : Nat) : ∀ j : Nat, j + d = xs.length → Ev (fun k => laws_eqStringS.l0 k xs xs j) true := by
  induction d with
  | zero =>
    intro j hj
    refine ev_succ ?_
    simp only [laws_eqStringS.l0]
    exact ev_ifn (by omega) (Ev.now _)
  | succ d ih =>
    intro j hj
    refine ev_succ ?_
    simp only [laws_eqStringS.l0]
    rw [wnext (n := xs.length) (by omega) hn]
    exact ev_ifp (by omega) (ev_ifp (by omega) (ev_ifp (by omega) (ev_ifp trivial (ih (j + 1) (by omega)))))
theorem laws_eqStringS_ev (xs : List ByteArray) (hn : xs.length ≤ 4611686018427387904) : Ev (fun k => laws_eqStringS.f k xs xs) true := by
  unfold laws_eqStringS.f
  exact ev_ifp rfl (laws_eqStringS_l0 xs hn xs.length 0 (by omega))
theorem markText_l0 (d : Nat) : ∀ (n : Int) (s : ByteArray), 0 ≤ n → n ≤ d → n ≤ 1000 → s.size + d ≤ 2000 → ∃ t, Ev (fun k => laws_markText.l0 k n s) t := by
  have out : ∀ (s : ByteArray), s.size ≤ 2000 → ∃ t, Ev (fun k => laws_markText.l0 k 0 s) t := by
    intro s hs
    refine ⟨(⟨#[109]⟩ : ByteArray) ++ s, ev_succ ?_⟩
    simp only [laws_markText.l0]
    exact ev_ifn (by omega) (ev_ifp (by omega) (Ev.now _))
  induction d with
  | zero =>
    intro n s h0 h1 _ h2
    obtain rfl : n = 0 := by omega
    exact out s (by omega)
  | succ d ih =>
    intro n s h0 h1 h1' h2
    by_cases h3 : n = 0
    · subst h3
      exact out s (by omega)
    · have hs1 : (strOfNums [(wrap64 (48 + Int.tmod n 10)) % 256]).size = 1 := by simp [strOfNums, ByteArray.size]
      obtain ⟨t, ht⟩ := ih (n / 10) (strOfNums [(wrap64 (48 + Int.tmod n 10)) % 256] ++ s) (by omega) (by omega) (by omega) (by rw [ByteArray.size_append]; omega)
      refine ⟨t, ev_succ ?_⟩
      simp only [laws_markText.l0, Option.bind_some]
      rw [Int.tdiv_eq_ediv_of_nonneg h0, w64 (n := n / 10) (by omega) (by omega)]
      exact ev_ifp (by omega) (ev_ifp (by omega) ht)
theorem markText_ex (n : Int) (h : 1 ≤ n ∧ n ≤ 1000) : ∃ t, Ev (fun k => laws_markText.f k n) t := by
  obtain ⟨t, ht⟩ := markText_l0 1000 n (⟨#[]⟩ : ByteArray) (by omega) (by omega) (by omega) (by simp [ByteArray.size])
  refine ⟨t, ?_⟩
  unfold laws_markText.f
  exact ev_ifn (by omega) ht
open Classical in
/-- The text of a mark. -/
noncomputable def mtxt (n : Int) : ByteArray := if h : ∃ t, Ev (fun k => laws_markText.f k n) t then Classical.choose h else (⟨#[]⟩ : ByteArray)
theorem mtxt_ev (n : Int) (h : 1 ≤ n ∧ n ≤ 1000) : Ev (fun k => laws_markText.f k n) (mtxt n) := by
  unfold mtxt
  rw [dif_pos (markText_ex n h)]
  exact Classical.choose_spec (markText_ex n h)
noncomputable def mFrom (m : Int) : Nat → List ByteArray
  | 0 => []
  | n + 1 => mtxt m :: mFrom (m + 1) n
theorem mFrom_length (n : Nat) : ∀ m, (mFrom m n).length = n := by
  induction n with
  | zero => intro m; rfl
  | succ n ih => intro m; simp [mFrom, ih]
theorem laws_markStringS_l0 (d : Nat) : ∀ (j : Nat) (xs : List ByteArray) (m : Int), xs.length ≤ 4611686018427387904 → 1 ≤ m → m + d ≤ 1000 → j + d = xs.length → Ev (fun k => laws_markStringS.l0 k xs m j) (m + d, xs.take j ++ mFrom m d) := by
  induction d with
  | zero =>
    intro j xs m hn hm hm2 hj
    refine ev_succ ?_
    simp only [laws_markStringS.l0]
    refine ev_ifn (by omega) (ev_const ?_)
    rw [List.take_of_length_le (by omega)]
    simp [mFrom]
  | succ d ih =>
    intro j xs m hn hm hm2 hj
    refine ev_succ ?_
    simp only [laws_markStringS.l0]
    rw [wnext (n := xs.length) (by omega) hn, w64 (n := m + 1) (by omega) (by omega), Int.toNat_natCast]
    refine ev_ifp (by omega) (Ev.bind (mtxt_ev m (by omega)) (ev_ifp (by omega) (ev_eq (ih (j + 1) (xs.set j (mtxt m)) (m + 1) (by simpa using hn) (by omega) (by omega) (by simp; omega)) ?_)))
    rw [take_set_succ xs j (mtxt m) (by omega)]
    simp only [mFrom, List.append_assoc, List.singleton_append, Prod.mk.injEq, and_true]
    omega
theorem laws_markStringS_ev (xs : List ByteArray) (hn : xs.length ≤ 900) : Ev (fun k => laws_markStringS.f k xs 1) (1 + (xs.length : Int), mFrom 1 xs.length) := by
  unfold laws_markStringS.f
  exact ev_eq (laws_markStringS_l0 xs.length 0 xs 1 (by omega) (by omega) (by omega) (by omega)) (by simp)
theorem laws_heldStringS_l0 (d : Nat) : ∀ (j : Nat) (xs : List ByteArray) (m : Int), xs.length ≤ 4611686018427387904 → 1 ≤ m → m + d ≤ 1000 → j + d = xs.length → xs.drop j = mFrom m d → Ev (fun k => laws_heldStringS.l0 k xs m j) (m + d) := by
  induction d with
  | zero =>
    intro j xs m hn hm hm2 hj hx
    refine ev_succ ?_
    simp only [laws_heldStringS.l0]
    exact ev_ifn (by omega) (ev_const (by simp))
  | succ d ih =>
    intro j xs m hn hm hm2 hj hx
    rw [List.drop_eq_getElem_cons (show j < xs.length by omega)] at hx
    simp only [mFrom, List.cons.injEq] at hx
    refine ev_succ ?_
    simp only [laws_heldStringS.l0]
    rw [rdOf_at xs j (mtxt m) (by rw [List.getElem?_eq_getElem (show j < xs.length by omega), hx.1]), wnext (n := xs.length) (by omega) hn, w64 (n := m + 1) (by omega) (by omega)]
    exact ev_ifp (by omega) (ev_ifp (by omega) (Ev.bind (mtxt_ev m (by omega)) (ev_ifp rfl (ev_eq (ih (j + 1) xs (m + 1) hn (by omega) (by omega) (by omega) hx.2) (by omega)))))
theorem laws_heldStringS_ev (n : Nat) (hn : n ≤ 900) : Ev (fun k => laws_heldStringS.f k (mFrom 1 n) 1) (1 + (n : Int)) := by
  unfold laws_heldStringS.f
  exact laws_heldStringS_l0 n 0 (mFrom 1 n) 1 (by rw [mFrom_length]; omega) (by omega) (by omega) (by rw [mFrom_length]; omega) rfl
theorem FnExactSplitFields : laws_FnExactSplitFields.Pure := by
  intro a _
  refine Ev.rounds (g := fun k => laws_FnExactSplitFields.f k a) ?_
  unfold laws_FnExactSplitFields.f
  by_cases h : (a.size : Int) > 1048576
  · exact ev_ifp h (Ev.now _)
  · have hl := pSplit_length a
    refine ev_ifn h (Ev.bind (spec_SplitFields_ev a) (Ev.bind (impl_SplitFields_ev a) (Ev.bind (laws_eqStringS_ev _ (by omega)) (ev_ifp rfl (ev_succ ?_)))))
    rw [show ((pSplit a).2 != (pSplit a).2) = false by simp]
    simp only [laws_FnExactSplitFields.j0]
    refine ev_ifn (by decide) (Ev.bind (laws_markStringS_ev _ (by omega)) (Ev.bind (laws_heldStringS_ev _ (by omega)) (ev_ifn (by omega) (ev_ifp rfl (Ev.bind (impl_SplitFields_ev a) (Ev.bind (laws_eqStringS_ev _ (by omega)) (ev_ifp rfl ?_)))))))
    rw [show ((pSplit a).2 != (pSplit a).2) = false by simp]
    refine ev_succ ?_
    simp only [laws_FnExactSplitFields.j1]
    exact ev_ifn (by decide) (Ev.bind (laws_heldStringS_ev _ (by omega)) (ev_ifn (by omega) (ev_ifp rfl (Ev.now _))))
end Go.Proofs.Ytdfgnfbcfnkncaa.Pure
