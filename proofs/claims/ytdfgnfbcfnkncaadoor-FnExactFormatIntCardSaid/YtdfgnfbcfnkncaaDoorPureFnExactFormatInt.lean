/- What is proved: read as plain functions on numbers and lists, the law FnExactFormatInt answers true at every input of its kinds; no condition is added. -/
import Derived.Test.YtdfgnfbcfnkncaaDoorPFnExactFormatIntx1
import Derived.Test.YtdfgnfbcfnkncaaDoorPlain
set_option linter.unusedVariables false
set_option linter.unusedSimpArgs false
set_option maxRecDepth 20000
namespace Go.Proofs.YtdfgnfbcfnkncaaDoor.Pure
open Go.RowKit Go.Proofs.YtdfgnfbcfnkncaaDoor.PFnExactFormatInt Go.Proofs.YtdfgnfbcfnkncaaDoorW.PrintWords Go.Proofs.YtdfgnfbcfnkncaaDoorW.PrintLast Go.Proofs.YtdfgnfbcfnkncaaDoorW.PrintMore Go.Proofs.YtdfgnfbcfnkncaaDoor.Plain
theorem impl_FormatInt_eq {n : Int} (h : -9223372036854775808 ≤ n ∧ n ≤ 9223372036854775807) : impl_FormatInt.f n = some (⟨(Lib.itoa n).toArray⟩ : ByteArray) := by
  unfold impl_FormatInt.f
  rw [if_pos h]
def pHexD (v : Int) : Int := if v < 10 then 48 + v else 87 + v
/-- Two figures for each byte from here on. -/
def pHex (a : ByteArray) : Nat → Nat → List Int
  | 0, _ => []
  | d + 1, j => pHexD (bt a (j : Int) / 16) :: pHexD (bt a (j : Int) % 16) :: pHex a d (j + 1)
theorem pHex_length (a : ByteArray) (d : Nat) : ∀ j, (pHex a d j).length = 2 * d := by
  induction d with
  | zero => intro j; rfl
  | succ d ih => intro j; simp only [pHex, List.length_cons, ih]; omega
theorem tab_hex {v : Int} (h : 0 ≤ v ∧ v < 16) : bt (⟨#[48, 49, 50, 51, 52, 53, 54, 55, 56, 57, 97, 98, 99, 100, 101, 102]⟩ : ByteArray) v = pHexD v := by
  obtain ⟨n, rfl⟩ := Int.eq_ofNat_of_zero_le h.1
  have hn : n < 16 := by omega
  have : ∀ i : Fin 16, bt (⟨#[48, 49, 50, 51, 52, 53, 54, 55, 56, 57, 97, 98, 99, 100, 101, 102]⟩ : ByteArray) ((i.val : Nat) : Int) = pHexD ((i.val : Nat) : Int) := by decide
  exact this ⟨n, hn⟩
theorem spec_l01Figure_eq {v : Int} (h : 0 ≤ v ∧ v < 16) : spec_l01Figure.f v = some (pHexD v) := by
  unfold spec_l01Figure.f pHexD
  by_cases h1 : v < 10
  · rw [if_pos h1, if_pos h1, w64 (by omega) (by omega)]
    congr 1
    omega
  · rw [if_neg h1, if_neg h1, w64 (n := 97 + v) (by omega) (by omega), w64 (n := 97 + v - 10) (by omega) (by omega)]
    congr 1
    omega
theorem tdiv_abs (n : Int) : (Int.tdiv n 10).natAbs = n.natAbs / 10 ∧ (Int.tmod n 10).natAbs = n.natAbs % 10 := by
  rcases Int.le_total 0 n with h | h
  · rw [Int.tdiv_eq_ediv_of_nonneg h, Int.tmod_eq_emod_of_nonneg h]
    omega
  · obtain ⟨m, rfl⟩ : ∃ m, n = -m := ⟨-n, by omega⟩
    rw [Int.neg_tdiv, Int.neg_tmod, Int.tdiv_eq_ediv_of_nonneg (by omega), Int.tmod_eq_emod_of_nonneg (by omega)]
    omega
theorem bytes_append (a b : List UInt8) : ((⟨a.toArray⟩ : ByteArray) ++ (⟨b.toArray⟩ : ByteArray)) = (⟨(a ++ b).toArray⟩ : ByteArray) := by
  apply ByteArray.ext
  simp
theorem strOfNums_fig (u : Nat) (h : u < 10) : strOfNums [pHexD (u : Int)] = (⟨[UInt8.ofNat (48 + u)].toArray⟩ : ByteArray) := by
  unfold strOfNums pHexD
  rw [if_pos (by omega)]
  simp only [List.map_cons, List.map_nil]
  rw [show ((48 : Int) + (u : Int)).toNat = 48 + u by omega]
def pDigs (u : Nat) : List UInt8 := if u = 0 then [] else Lib.decDigits u
theorem pDigs_step {u : Nat} (h : u ≠ 0) (l : List UInt8) : pDigs (u / 10) ++ (UInt8.ofNat (48 + u % 10) :: l) = pDigs u ++ l := by
  unfold pDigs
  rw [if_neg h, Lib.decDigits.eq_def u]
  by_cases h1 : u < 10
  · rw [dif_pos h1, if_pos (by omega), show u % 10 = u by omega]
    simp
  · rw [dif_neg h1, if_neg (by omega)]
    simp
theorem spec_FormatInt_l0 (b : Bool) (d : Nat) : ∀ (n : Int) (l : List UInt8), n.natAbs < 10 ^ d → -9223372036854775808 ≤ n ∧ n ≤ 9223372036854775807 → l.length + d ≤ 30 →
    Ev (fun k => spec_FormatInt.l0 k n b (⟨l.toArray⟩ : ByteArray)) (⟨((if b = true then [45] else []) ++ (pDigs n.natAbs ++ l)).toArray⟩ : ByteArray) := by
  have base : ∀ (l : List UInt8), l.length ≤ 30 → Ev (fun k => spec_FormatInt.l0 k 0 b (⟨l.toArray⟩ : ByteArray)) (⟨((if b = true then [45] else []) ++ (pDigs (0 : Int).natAbs ++ l)).toArray⟩ : ByteArray) := by
    intro l hl
    refine ev_succ ?_
    simp only [spec_FormatInt.l0]
    refine ev_ifp trivial ?_
    cases b with
    | true =>
      have hs : (⟨l.toArray⟩ : ByteArray).size = l.length := rfl
      refine ev_ifp rfl (ev_ifp (by omega) (ev_const ?_))
      exact congrArg some (bytes_append [45] l)
    | false => exact ev_ifn (by decide) (ev_const rfl)
  induction d with
  | zero =>
    intro n l h1 h2 h3
    obtain rfl : n = 0 := by simp at h1; exact h1
    exact base l (by omega)
  | succ d ih =>
    intro n l h1 h2 h3
    by_cases h0 : n = 0
    · subst h0
      exact base l (by omega)
    · obtain ⟨a1, a2⟩ := tdiv_abs n
      have h4 : (Int.tdiv n 10).natAbs < 10 ^ d := by
        rw [a1]
        rw [Nat.pow_succ] at h1
        omega
      have hu : n.natAbs % 10 < 10 := Nat.mod_lt _ (by omega)
      have hs : (⟨l.toArray⟩ : ByteArray).size = l.length := rfl
      have hs1 : (⟨[UInt8.ofNat (48 + n.natAbs % 10)].toArray⟩ : ByteArray).size = 1 := rfl
      have hgo := ih (Int.tdiv n 10) (UInt8.ofNat (48 + n.natAbs % 10) :: l) h4 (by omega) (by simp only [List.length_cons]; omega)
      rw [a1, pDigs_step (by omega)] at hgo
      have fig : ∀ v : Int, 0 ≤ v → v.natAbs = n.natAbs % 10 → spec_l01Figure.f v = some (pHexD ((n.natAbs % 10 : Nat) : Int)) := by
        intro v hv hv2
        rw [show v = ((n.natAbs % 10 : Nat) : Int) by omega]
        exact spec_l01Figure_eq (by omega)
      refine ev_succ ?_
      simp only [spec_FormatInt.l0]
      refine ev_ifn h0 ?_
      by_cases h5 : Int.tmod n 10 < 0
      · refine ev_ifp h5 ?_
        rw [w64 (n := -(Int.tmod n 10)) (by omega) (by omega), fig (-(Int.tmod n 10)) (by omega) (by omega), w64 (n := Int.tdiv n 10) (by omega) (by omega)]
        simp only [Option.bind_some]
        rw [strOfNums_fig _ hu, bytes_append]
        exact ev_ifp (by omega) hgo
      · refine ev_ifn h5 ?_
        rw [fig (Int.tmod n 10) (by omega) a2, w64 (n := Int.tdiv n 10) (by omega) (by omega)]
        simp only [Option.bind_some]
        rw [strOfNums_fig _ hu, bytes_append]
        exact ev_ifp (by omega) hgo
theorem spec_FormatInt_ev {n : Int} (h : -9223372036854775808 ≤ n ∧ n ≤ 9223372036854775807) : Ev (fun k => spec_FormatInt.f k n) (⟨(Lib.itoa n).toArray⟩ : ByteArray) := by
  unfold spec_FormatInt.f
  by_cases h0 : n = 0
  · subst h0
    refine ev_ifp rfl (ev_const ?_)
    have e : Lib.itoa 0 = [48] := by
      unfold Lib.itoa
      rw [if_neg (by omega), Lib.decDigits.eq_def, dif_pos (by decide)]
      rfl
    rw [e]
  · refine ev_ifn h0 (ev_eq (spec_FormatInt_l0 (decide (n < 0)) 20 n [] (by omega) h (by simp)) ?_)
    unfold Lib.itoa pDigs
    rw [if_neg (show ¬ n.natAbs = 0 by omega)]
    by_cases h1 : n < 0
    · rw [decide_eq_true h1, if_pos rfl, if_pos h1]
      simp
    · rw [decide_eq_false h1, if_neg (by decide), if_neg h1, show n.natAbs = n.toNat by omega]
      simp
theorem FnExactFormatInt : laws_FnExactFormatInt.Pure := by
  intro n hn
  refine Ev.rounds (g := fun k => laws_FnExactFormatInt.f k n) ?_
  unfold laws_FnExactFormatInt.f
  refine Ev.bind (spec_FormatInt_ev (wf64 hn)) ?_
  rw [impl_FormatInt_eq (wf64 hn)]
  exact ev_const (by simp only [Option.bind_some]; rw [if_pos trivial])
end Go.Proofs.YtdfgnfbcfnkncaaDoor.Pure
