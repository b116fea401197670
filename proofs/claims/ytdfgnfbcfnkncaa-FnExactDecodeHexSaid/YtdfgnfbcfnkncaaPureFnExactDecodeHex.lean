/- What is proved: read as plain functions on numbers and lists, the law FnExactDecodeHex answers true at every input of its kinds; no condition is added. -/
import Derived.Test.YtdfgnfbcfnkncaaPFnExactDecodeHexx1
import Derived.Test.YtdfgnfbcfnkncaaPlain
set_option linter.unusedVariables false
set_option linter.unusedSimpArgs false
set_option maxRecDepth 20000
namespace Go.Proofs.Ytdfgnfbcfnkncaa.Pure
open Go.RowKit Go.Proofs.Ytdfgnfbcfnkncaa.PFnExactDecodeHex Go.Proofs.YtdfgnfbcfnkncaaW.PrintWords Go.Proofs.YtdfgnfbcfnkncaaW.PrintLast Go.Proofs.YtdfgnfbcfnkncaaW.PrintMore Go.Proofs.Ytdfgnfbcfnkncaa.Plain
def pVal (x : Int) : Int := if 48 ≤ x ∧ x ≤ 57 then x - 48 else if 97 ≤ x ∧ x ≤ 102 then x - 87 else -1
theorem pVal_range (x : Int) : -1 ≤ pVal x ∧ pVal x ≤ 15 := by unfold pVal; (repeat' split) <;> omega
/-- The bytes that so many pairs of figures tell. -/
def pDec (a : ByteArray) : Nat → Nat → List Int → Option (List Int)
  | 0, _, acc => some acc
  | d + 1, j, acc => if pVal (bt a (j : Int)) < 0 then none else if pVal (bt a ((j + 1 : Nat) : Int)) < 0 then none else pDec a d (j + 2) (acc ++ [(16 * pVal (bt a (j : Int)) + pVal (bt a ((j + 1 : Nat) : Int))) % 256])
theorem pDec_length (a : ByteArray) (d : Nat) : ∀ (j : Nat) (acc out : List Int), pDec a d j acc = some out → out.length = acc.length + d := by
  induction d with
  | zero => intro j acc out h; simp only [pDec, Option.some.injEq] at h; rw [← h]; rfl
  | succ d ih =>
    intro j acc out h
    unfold pDec at h
    split at h
    · cases h
    · split at h
      · cases h
      · have := ih _ _ _ h
        rw [this, List.length_append]
        simp only [List.length_cons, List.length_nil]
        omega
theorem strOfNums_len (xs : List Int) : (strOfNums xs).size = xs.length := by simp [strOfNums, ByteArray.size]
def pDecoded (o : Option (List Int)) (b : Bool) : ByteArray × Bool := match o with
  | none => ((⟨#[]⟩ : ByteArray), false)
  | some out => (strOfNums out, b)
theorem spec_l01Value_ev {x : Int} (h : 0 ≤ x ∧ x ≤ 255) : Ev (fun k => spec_l01Value.f k x) (pVal x) := ev_at 1 fun k => by
  unfold spec_l01Value.f pVal
  simp only [spec_l01Value.j0]
  rw [w64 (n := x) (by omega) (by omega), w64 (n := x - 48) (by omega) (by omega), w64 (n := x - 97) (by omega) (by omega), w64 (n := x - 97 + 10) (by omega) (by omega)]
  by_cases h1 : x ≥ 48
  · by_cases h2 : x ≤ 57
    · rw [if_pos h1, decide_eq_true h2, if_pos rfl, if_pos ⟨h1, h2⟩]
    · rw [if_pos h1, decide_eq_false h2, if_neg (by decide), if_neg (fun c : 48 ≤ x ∧ x ≤ 57 => h2 c.2)]
      by_cases h3 : x ≥ 97
      · by_cases h4 : x ≤ 102
        · rw [if_pos h3, if_pos h4, if_pos ⟨h3, h4⟩]
          congr 1
          omega
        · rw [if_pos h3, if_neg h4, if_neg (fun c : 97 ≤ x ∧ x ≤ 102 => h4 c.2)]
      · rw [if_neg h3, if_neg (fun c : 97 ≤ x ∧ x ≤ 102 => h3 c.1)]
  · rw [if_neg h1, if_neg (by decide), if_neg (show ¬ x ≥ 97 by omega), if_neg (fun c : 48 ≤ x ∧ x ≤ 57 => h1 c.1), if_neg (fun c : 97 ≤ x ∧ x ≤ 102 => by omega)]
theorem spec_DecodeHex_l0 (a : ByteArray) (hn : a.size ≤ 40000) (d : Nat) : ∀ (j : Nat) (acc : List Int), j + 2 * d = a.size → acc.length ≤ j → Ev (fun k => spec_DecodeHex.l0 k a acc j) (pDecoded (pDec a d j acc) true) := by
  induction d with
  | zero =>
    intro j acc hj hl
    refine ev_succ ?_
    simp only [spec_DecodeHex.l0]
    exact ev_ifn (by omega) (Ev.now _)
  | succ d ih =>
    intro j acc hj hl
    have hb := bt_range a (j : Int)
    have hb2 := bt_range a ((j + 1 : Nat) : Int)
    have v1 := pVal_range (bt a (j : Int))
    have v2 := pVal_range (bt a ((j + 1 : Nat) : Int))
    refine ev_succ ?_
    simp only [spec_DecodeHex.l0]
    rw [wnext (n := a.size) (by omega) (by omega), w64 (n := (j : Int) + 2) (by omega) (by omega), show (j : Int) + 2 = ((j + 2 : Nat) : Int) by omega]
    unfold pDec
    refine ev_ifp (by omega) (ev_ifp (by omega) (Ev.bind (spec_l01Value_ev hb) (ev_ifp (by omega) (ev_ifp (by omega) (Ev.bind (spec_l01Value_ev hb2) ?_)))))
    by_cases h1 : pVal (bt a (j : Int)) < 0
    · rw [if_pos h1]
      exact ev_ifp h1 (Ev.now _)
    · rw [if_neg h1]
      refine ev_ifn h1 ?_
      by_cases h2 : pVal (bt a ((j + 1 : Nat) : Int)) < 0
      · rw [if_pos h2]
        exact ev_ifp h2 (Ev.now _)
      · rw [if_neg h2, w64 (n := 16 * pVal (bt a (j : Int))) (by omega) (by omega), w64 (n := 16 * pVal (bt a (j : Int)) + pVal (bt a ((j + 1 : Nat) : Int))) (by omega) (by omega)]
        exact ev_ifn h2 (ev_ifp (by omega) (ih (j + 2) _ (by omega) (by simp; omega)))
theorem spec_DecodeHex_ev (a : ByteArray) : Ev (fun k => spec_DecodeHex.f k a) (if a.size ≤ 40000 ∧ a.size % 2 = 0 then pDecoded (pDec a (a.size / 2) 0 []) true else ((⟨#[]⟩ : ByteArray), false)) := by
  unfold spec_DecodeHex.f
  by_cases h : (a.size : Int) > 40000
  · rw [if_neg (by omega)]
    refine ev_ifp h (ev_succ ?_)
    simp only [spec_DecodeHex.j0]
    exact ev_ifp trivial (Ev.now _)
  · refine ev_ifn h (ev_succ ?_)
    simp only [spec_DecodeHex.j0]
    by_cases h2 : a.size % 2 = 0
    · rw [if_pos ⟨by omega, h2⟩]
      refine ev_ifn (by simp; omega) (spec_DecodeHex_l0 a (by omega) (a.size / 2) 0 [] (by omega) (by simp))
    · rw [if_neg (fun c => h2 c.2)]
      exact ev_ifp (by simp; omega) (Ev.now _)
theorem hexIndex {x : Int} (h : 0 ≤ x ∧ x ≤ 255) : strings_IndexByte.f (⟨#[48, 49, 50, 51, 52, 53, 54, 55, 56, 57, 97, 98, 99, 100, 101, 102]⟩ : ByteArray) x = some (pVal x) := by
  obtain ⟨n, rfl⟩ := Int.eq_ofNat_of_zero_le h.1
  have hn : n < 256 := by omega
  have : ∀ i : Fin 256, Lib.indexByte [48, 49, 50, 51, 52, 53, 54, 55, 56, 57, 97, 98, 99, 100, 101, 102] (i.val).toUInt8 = pVal ((i.val : Nat) : Int) := by decide +kernel
  unfold strings_IndexByte.f
  exact congrArg some (this ⟨n, hn⟩)
theorem impl_fromHex_l0 (a : ByteArray) (hn : a.size ≤ 1048576) (d : Nat) : ∀ (j : Nat) (acc : List Int), j + 2 * d = a.size ∨ j + 2 * d + 1 = a.size → acc.length ≤ j → Ev (fun k => impl_fromHex.l0 k a acc j) (pDecoded (pDec a d j acc) (((a.size : Int) % 2) == 0)) := by
  induction d with
  | zero =>
    intro j acc hj hl
    refine ev_succ ?_
    simp only [impl_fromHex.l0]
    rw [w64 (n := (j : Int) + 1) (by omega) (by omega)]
    exact ev_ifn (by omega) (Ev.now _)
  | succ d ih =>
    intro j acc hj hl
    have hb := bt_range a (j : Int)
    have hb2 := bt_range a ((j + 1 : Nat) : Int)
    have v1 := pVal_range (bt a (j : Int))
    have v2 := pVal_range (bt a ((j + 1 : Nat) : Int))
    refine ev_succ ?_
    simp only [impl_fromHex.l0]
    rw [wnext (n := a.size) (by omega) (by omega), w64 (n := (j : Int) + 2) (by omega) (by omega), show (j : Int) + 2 = ((j + 2 : Nat) : Int) by omega, hexIndex hb, hexIndex hb2]
    simp only [Option.bind_some]
    unfold pDec
    refine ev_ifp (by omega) (ev_ifp (by omega) (ev_ifp (by omega) (ev_ifp (by omega) ?_)))
    by_cases h1 : pVal (bt a (j : Int)) < 0
    · rw [if_pos h1]
      exact ev_ifp h1 (Ev.now _)
    · rw [if_neg h1]
      refine ev_ifn h1 ?_
      by_cases h2 : pVal (bt a ((j + 1 : Nat) : Int)) < 0
      · rw [if_pos h2]
        exact ev_ifp h2 (Ev.now _)
      · rw [if_neg h2, w64 (n := 16 * pVal (bt a (j : Int))) (by omega) (by omega), w64 (n := 16 * pVal (bt a (j : Int)) + pVal (bt a ((j + 1 : Nat) : Int))) (by omega) (by omega)]
        exact ev_ifn h2 (ev_ifp (by omega) (ih (j + 2) _ (by omega) (by simp; omega)))
theorem impl_fromHex_ev (a : ByteArray) (hn : a.size ≤ 1048576) : Ev (fun k => impl_fromHex.f k a) (pDecoded (pDec a (a.size / 2) 0 []) (((a.size : Int) % 2) == 0)) := by
  unfold impl_fromHex.f
  exact impl_fromHex_l0 a hn (a.size / 2) 0 [] (by omega) (by simp)
theorem impl_DecodeHex_ev (a : ByteArray) (hn : a.size ≤ 1048576) : Ev (fun k => impl_DecodeHex.f k a) (if a.size ≤ 40000 ∧ a.size % 2 = 0 then pDecoded (pDec a (a.size / 2) 0 []) true else ((⟨#[]⟩ : ByteArray), false)) := by
  unfold impl_DecodeHex.f
  refine Ev.bind (impl_fromHex_ev a hn) ?_
  cases hp : pDec a (a.size / 2) 0 [] with
  | none =>
    simp only [pDecoded]
    refine ev_ifn (by decide) (ev_const ?_)
    split <;> rfl
  | some out =>
    have hl := pDec_length a _ _ _ _ hp
    simp only [List.length_nil] at hl
    have hs := strOfNums_len out
    simp only [pDecoded]
    by_cases h2 : a.size % 2 = 0
    · refine ev_ifp (by simp; omega) ?_
      by_cases h : a.size ≤ 40000
      · rw [if_pos ⟨h, h2⟩]
        exact ev_ifn (by omega) (Ev.now _)
      · rw [if_neg (fun c => h c.1)]
        exact ev_ifp (by omega) (Ev.now _)
    · rw [if_neg (fun c => h2 c.2)]
      exact ev_ifn (by simp; omega) (Ev.now _)
theorem FnExactDecodeHex : laws_FnExactDecodeHex.Pure := by
  intro a _
  refine Ev.rounds (g := fun k => laws_FnExactDecodeHex.f k a) ?_
  unfold laws_FnExactDecodeHex.f
  by_cases h : (a.size : Int) > 1048576
  · exact ev_ifp h (Ev.now _)
  · exact ev_ifn h (Ev.bind (spec_DecodeHex_ev a) (Ev.bind (impl_DecodeHex_ev a (by omega)) (ev_ifp rfl (ev_ifn (by simp) (Ev.now _)))))
end Go.Proofs.Ytdfgnfbcfnkncaa.Pure
