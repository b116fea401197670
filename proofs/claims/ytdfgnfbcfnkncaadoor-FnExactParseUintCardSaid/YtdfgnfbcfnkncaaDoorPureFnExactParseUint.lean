/- What is proved: read as plain functions on numbers and lists, the law FnExactParseUint answers true at every input of its kinds; no condition is added. -/
import Derived.Test.YtdfgnfbcfnkncaaDoorPFnExactParseUintx3
import Derived.Test.YtdfgnfbcfnkncaaDoorPlain
set_option linter.unusedVariables false
set_option linter.unusedSimpArgs false
set_option maxRecDepth 20000
namespace Go.Proofs.YtdfgnfbcfnkncaaDoor.Pure
open Go.RowKit Go.Proofs.YtdfgnfbcfnkncaaDoor.PFnExactParseUint Go.Proofs.YtdfgnfbcfnkncaaDoorW.PrintWords Go.Proofs.YtdfgnfbcfnkncaaDoorW.PrintLast Go.Proofs.YtdfgnfbcfnkncaaDoorW.PrintMore Go.Proofs.YtdfgnfbcfnkncaaDoor.Plain
def pHexD (v : Int) : Int := if v < 10 then 48 + v else 87 + v
/-- Two figures for each byte from here on. -/
def pHex (a : ByteArray) : Nat → Nat → List Int
  | 0, _ => []
  | d + 1, j => pHexD (bt a (j : Int) / 16) :: pHexD (bt a (j : Int) % 16) :: pHex a d (j + 1)
theorem pHex_length (a : ByteArray) (d : Nat) : ∀ j, (pHex a d j).length = 2 * d := by
  induction d with
  | zero => intro j; rfl
  | succ d ih => intro j; simp only [pHex, List.length_cons, ih]; omega
theorem tab_hex {v : Int} (h : 0 ≤ v ∧ v < 16) : bt (⟨#[48, 49, 50, 51, 52, 53, 54, 55, 56, 57, 97, 98, 99, 100, 101, 102]⟩ : ByteArray) v = pHexD v := by
  obtain ⟨n, rfl⟩ := Int.eq_ofNat_of_zero_le h.1
  have hn : n < 16 := by omega
  have : ∀ i : Fin 16, bt (⟨#[48, 49, 50, 51, 52, 53, 54, 55, 56, 57, 97, 98, 99, 100, 101, 102]⟩ : ByteArray) ((i.val : Nat) : Int) = pHexD ((i.val : Nat) : Int) := by decide
  exact this ⟨n, hn⟩
theorem spec_l01Figure_eq {v : Int} (h : 0 ≤ v ∧ v < 16) : spec_l01Figure.f v = some (pHexD v) := by
  unfold spec_l01Figure.f pHexD
  by_cases h1 : v < 10
  · rw [if_pos h1, if_pos h1, w64 (by omega) (by omega)]
    congr 1
    omega
  · rw [if_neg h1, if_neg h1, w64 (n := 97 + v) (by omega) (by omega), w64 (n := 97 + v - 10) (by omega) (by omega)]
    congr 1
    omega
theorem tdiv_abs (n : Int) : (Int.tdiv n 10).natAbs = n.natAbs / 10 ∧ (Int.tmod n 10).natAbs = n.natAbs % 10 := by
  rcases Int.le_total 0 n with h | h
  · rw [Int.tdiv_eq_ediv_of_nonneg h, Int.tmod_eq_emod_of_nonneg h]
    omega
  · obtain ⟨m, rfl⟩ : ∃ m, n = -m := ⟨-n, by omega⟩
    rw [Int.neg_tdiv, Int.neg_tmod, Int.tdiv_eq_ediv_of_nonneg (by omega), Int.tmod_eq_emod_of_nonneg (by omega)]
    omega
theorem bytes_append (a b : List UInt8) : ((⟨a.toArray⟩ : ByteArray) ++ (⟨b.toArray⟩ : ByteArray)) = (⟨(a ++ b).toArray⟩ : ByteArray) := by
  apply ByteArray.ext
  simp
theorem strOfNums_fig (u : Nat) (h : u < 10) : strOfNums [pHexD (u : Int)] = (⟨[UInt8.ofNat (48 + u)].toArray⟩ : ByteArray) := by
  unfold strOfNums pHexD
  rw [if_pos (by omega)]
  simp only [List.map_cons, List.map_nil]
  rw [show ((48 : Int) + (u : Int)).toNat = 48 + u by omega]
def pDigs (u : Nat) : List UInt8 := if u = 0 then [] else Lib.decDigits u
theorem pDigs_step {u : Nat} (h : u ≠ 0) (l : List UInt8) : pDigs (u / 10) ++ (UInt8.ofNat (48 + u % 10) :: l) = pDigs u ++ l := by
  unfold pDigs
  rw [if_neg h, Lib.decDigits.eq_def u]
  by_cases h1 : u < 10
  · rw [dif_pos h1, if_pos (by omega), show u % 10 = u by omega]
    simp
  · rw [dif_neg h1, if_neg (by omega)]
    simp
theorem spec_FormatInt_l0 (b : Bool) (d : Nat) : ∀ (n : Int) (l : List UInt8), n.natAbs < 10 ^ d → -9223372036854775808 ≤ n ∧ n ≤ 9223372036854775807 → l.length + d ≤ 30 →
    Ev (fun k => spec_FormatInt.l0 k n b (⟨l.toArray⟩ : ByteArray)) (⟨((if b = true then [45] else []) ++ (pDigs n.natAbs ++ l)).toArray⟩ : ByteArray) := by
  have base : ∀ (l : List UInt8), l.length ≤ 30 → Ev (fun k => spec_FormatInt.l0 k 0 b (⟨l.toArray⟩ : ByteArray)) (⟨((if b = true then [45] else []) ++ (pDigs (0 : Int).natAbs ++ l)).toArray⟩ : ByteArray) := by
    intro l hl
    refine ev_succ ?_
    simp only [spec_FormatInt.l0]
    refine ev_ifp trivial ?_
    cases b with
    | true =>
      have hs : (⟨l.toArray⟩ : ByteArray).size = l.length := rfl
      refine ev_ifp rfl (ev_ifp (by omega) (ev_const ?_))
      exact congrArg some (bytes_append [45] l)
    | false => exact ev_ifn (by decide) (ev_const rfl)
  induction d with
  | zero =>
    intro n l h1 h2 h3
    obtain rfl : n = 0 := by simp at h1; exact h1
    exact base l (by omega)
  | succ d ih =>
    intro n l h1 h2 h3
    by_cases h0 : n = 0
    · subst h0
      exact base l (by omega)
    · obtain ⟨a1, a2⟩ := tdiv_abs n
      have h4 : (Int.tdiv n 10).natAbs < 10 ^ d := by
        rw [a1]
        rw [Nat.pow_succ] at h1
        omega
      have hu : n.natAbs % 10 < 10 := Nat.mod_lt _ (by omega)
      have hs : (⟨l.toArray⟩ : ByteArray).size = l.length := rfl
      have hs1 : (⟨[UInt8.ofNat (48 + n.natAbs % 10)].toArray⟩ : ByteArray).size = 1 := rfl
      have hgo := ih (Int.tdiv n 10) (UInt8.ofNat (48 + n.natAbs % 10) :: l) h4 (by omega) (by simp only [List.length_cons]; omega)
      rw [a1, pDigs_step (by omega)] at hgo
      have fig : ∀ v : Int, 0 ≤ v → v.natAbs = n.natAbs % 10 → spec_l01Figure.f v = some (pHexD ((n.natAbs % 10 : Nat) : Int)) := by
        intro v hv hv2
        rw [show v = ((n.natAbs % 10 : Nat) : Int) by omega]
        exact spec_l01Figure_eq (by omega)
      refine ev_succ ?_
      simp only [spec_FormatInt.l0]
      refine ev_ifn h0 ?_
      by_cases h5 : Int.tmod n 10 < 0
      · refine ev_ifp h5 ?_
        rw [w64 (n := -(Int.tmod n 10)) (by omega) (by omega), fig (-(Int.tmod n 10)) (by omega) (by omega), w64 (n := Int.tdiv n 10) (by omega) (by omega)]
        simp only [Option.bind_some]
        rw [strOfNums_fig _ hu, bytes_append]
        exact ev_ifp (by omega) hgo
      · refine ev_ifn h5 ?_
        rw [fig (Int.tmod n 10) (by omega) a2, w64 (n := Int.tdiv n 10) (by omega) (by omega)]
        simp only [Option.bind_some]
        rw [strOfNums_fig _ hu, bytes_append]
        exact ev_ifp (by omega) hgo
theorem spec_FormatInt_ev {n : Int} (h : -9223372036854775808 ≤ n ∧ n ≤ 9223372036854775807) : Ev (fun k => spec_FormatInt.f k n) (⟨(Lib.itoa n).toArray⟩ : ByteArray) := by
  unfold spec_FormatInt.f
  by_cases h0 : n = 0
  · subst h0
    refine ev_ifp rfl (ev_const ?_)
    have e : Lib.itoa 0 = [48] := by
      unfold Lib.itoa
      rw [if_neg (by omega), Lib.decDigits.eq_def, dif_pos (by decide)]
      rfl
    rw [e]
  · refine ev_ifn h0 (ev_eq (spec_FormatInt_l0 (decide (n < 0)) 20 n [] (by omega) h (by simp)) ?_)
    unfold Lib.itoa pDigs
    rw [if_neg (show ¬ n.natAbs = 0 by omega)]
    by_cases h1 : n < 0
    · rw [decide_eq_true h1, if_pos rfl, if_pos h1]
      simp
    · rw [decide_eq_false h1, if_neg (by decide), if_neg h1, show n.natAbs = n.toNat by omega]
      simp
open Classical in
def pNum (acc : Nat) : List UInt8 → Option Nat
  | [] => some acc
  | c :: r => if 48 ≤ c.toNat ∧ c.toNat ≤ 57 then pNum (acc * 10 + (c.toNat - 48)) r else none
theorem pNum_append (m : List UInt8) : ∀ (l : List UInt8) (acc : Nat), pNum acc (l ++ m) = (pNum acc l).bind fun a => pNum a m
  | [], acc => rfl
  | c :: r, acc => by
    simp only [List.cons_append, pNum]
    split
    · exact pNum_append m r _
    · rfl
theorem digit_toNat {d : Nat} (h : d < 10) : (UInt8.ofNat (48 + d)).toNat = 48 + d := by
  rw [UInt8.toNat_ofNat']
  omega
theorem pNum_decDigits (u : Nat) : pNum 0 (Lib.decDigits u) = some u := by
  induction u using Nat.strongRecOn with
  | _ u ih =>
    rw [Lib.decDigits.eq_def]
    by_cases h : u < 10
    · rw [dif_pos h]
      simp only [pNum]
      rw [digit_toNat h, if_pos (by omega)]
      congr 1
      omega
    · rw [dif_neg h, pNum_append, ih (u / 10) (by omega)]
      simp only [Option.bind_some, pNum]
      rw [digit_toNat (Nat.mod_lt _ (by omega)), if_pos (by omega)]
      congr 1
      omega
theorem pNum_ge : ∀ (l : List UInt8) (acc n : Nat), pNum acc l = some n → acc ≤ n
  | [], acc, n, h => by simp only [pNum, Option.some.injEq] at h; omega
  | c :: r, acc, n, h => by
    simp only [pNum] at h
    split at h
    · have := pNum_ge r _ n h
      omega
    · cases h
theorem parse_of_pNum : ∀ (l : List UInt8) (acc n : Nat), pNum acc l = some n → n < 1000000000000000000 → Lib.parseUint10 acc l = .ok n
  | [], acc, n, h, _ => by simp only [pNum, Option.some.injEq] at h; rw [h]; rfl
  | c :: r, acc, n, h, hn => by
    simp only [pNum] at h
    split at h
    · rename_i hd
      have h1 := pNum_ge r _ n h
      unfold Lib.parseUint10
      rw [if_pos hd, if_neg (by omega), if_neg (by omega)]
      exact parse_of_pNum r _ n h hn
    · cases h
theorem decDigits_len (k : Nat) : ∀ u : Nat, u < 10 ^ (k + 1) → (Lib.decDigits u).length ≤ k + 1 := by
  induction k with
  | zero =>
    intro u h
    rw [Lib.decDigits.eq_def, dif_pos (by simpa using h)]
    simp
  | succ k ih =>
    intro u h
    rw [Lib.decDigits.eq_def]
    by_cases h1 : u < 10
    · rw [dif_pos h1]
      simp
    · rw [dif_neg h1, List.length_append]
      have := ih (u / 10) (by rw [Nat.pow_succ] at h; omega)
      simp only [List.length_cons, List.length_nil]
      omega
theorem decDigits_head (u : Nat) : ∃ c r, Lib.decDigits u = c :: r ∧ 48 ≤ c.toNat ∧ c.toNat ≤ 57 := by
  induction u using Nat.strongRecOn with
  | _ u ih =>
    rw [Lib.decDigits.eq_def]
    by_cases h : u < 10
    · rw [dif_pos h]
      exact ⟨_, _, rfl, by rw [digit_toNat h]; omega, by rw [digit_toNat h]; omega⟩
    · rw [dif_neg h]
      obtain ⟨c, r, e, h1, h2⟩ := ih (u / 10) (by omega)
      rw [e]
      exact ⟨c, r ++ [UInt8.ofNat (48 + u % 10)], rfl, h1, h2⟩
theorem itoa_nat (u : Nat) : Lib.itoa (u : Int) = Lib.decDigits u := by
  unfold Lib.itoa
  rw [if_neg (by omega)]
  rfl
theorem atoiAll_decDigits {u : Nat} (h : u ≤ 1000000000) : Lib.atoiAll (Lib.decDigits u) = .ok (u : Int) := by
  have hp := parse_of_pNum _ _ _ (pNum_decDigits u) (by omega)
  obtain ⟨c, r, e, h1, h2⟩ := decDigits_head u
  rw [e] at hp ⊢
  have hm : Lib.parseMag (c :: r) = .ok u := by
    unfold Lib.parseMag
    rw [if_neg (by simp)]
    exact hp
  simp only [Lib.atoiAll]
  rw [if_neg (show ¬ (c.toNat = 43 ∨ c.toNat = 45) by omega), hm]
  simp only
  rw [if_neg (show ¬ (¬ c.toNat = 45 ∧ 9223372036854775808 ≤ u) by omega), if_neg (show ¬ (c.toNat = 45 ∧ 9223372036854775808 < u) by omega), if_neg (show ¬ c.toNat = 45 by omega)]
theorem pParse_yes {u : Nat} (h : u ≤ 1000000000) : YtdfgnfbcfnkncaaDoor.Hand.pParse (Lib.decDigits u) = ((u : Int), true) := by
  unfold YtdfgnfbcfnkncaaDoor.Hand.pParse
  rw [atoiAll_decDigits h]
  exact if_pos ⟨itoa_nat u, by omega, by omega⟩
theorem pParse_no {l : List UInt8} (h : ∀ u : Nat, u ≤ 1000000000 → Lib.decDigits u ≠ l) : YtdfgnfbcfnkncaaDoor.Hand.pParse l = (0, false) := by
  unfold YtdfgnfbcfnkncaaDoor.Hand.pParse
  split
  · rename_i v hv
    refine if_neg fun c => ?_
    obtain ⟨u, rfl⟩ := Int.eq_ofNat_of_zero_le c.2.1
    exact h u (by omega) (by rw [← itoa_nat]; exact c.1)
  · rfl
/-- The number that the text tells, if it is one's decimal text. -/
theorem num_or_none (l : List UInt8) : (∃ u : Nat, u ≤ 1000000000 ∧ Lib.decDigits u = l) ∨ (∀ u : Nat, u ≤ 1000000000 → Lib.decDigits u ≠ l) := by
  by_cases h : ∃ u : Nat, u ≤ 1000000000 ∧ Lib.decDigits u = l
  · exact Or.inl h
  · exact Or.inr fun u h1 h2 => h ⟨u, h1, h2⟩
theorem bt_get (a : ByteArray) (j : Nat) (h : j < a.size) : bt a (j : Int) = (((a.data.toList[j]'(by rw [Array.length_toList]; exact h)).toNat : Nat) : Int) := by
  unfold bt
  rw [dif_pos (by omega)]
  simp only [Int.toNat_natCast]
  rfl
def pSpec (l : List UInt8) (o : Option Nat) : Int × Bool := match o with
  | none => (0, false)
  | some n => if n ≤ 1000000000 ∧ Lib.decDigits n = l then ((n : Int), true) else (0, false)
theorem spec_ParseUint_l0 (a : ByteArray) (ha : a.size ≤ 10) (d : Nat) : ∀ (j n : Nat), j + d = a.size → n < 10 ^ j → Ev (fun k => spec_ParseUint.l0 k a n j) (pSpec a.data.toList (pNum n (a.data.toList.drop j))) := by
  have hl : a.data.toList.length = a.size := Array.length_toList
  induction d with
  | zero =>
    intro j n hj hn
    have hp : (10 : Nat) ^ j ≤ 10 ^ 10 := Nat.pow_le_pow_right (by omega) (by omega)
    rw [List.drop_of_length_le (by omega)]
    simp only [pNum, pSpec]
    refine ev_succ ?_
    simp only [spec_ParseUint.l0]
    refine ev_ifn (by omega) ?_
    by_cases h1 : (n : Int) > 1000000000
    · rw [if_neg (by omega)]
      exact ev_ifp h1 (Ev.now _)
    · refine ev_ifn h1 (Ev.bind (spec_FormatInt_ev (n := (n : Int)) (by omega)) ?_)
      rw [itoa_nat, ByteArray.toList_eq, ByteArray.toList_eq]
      by_cases h2 : Lib.decDigits n = a.data.toList
      · exact ev_ifp (by simpa using h2) (ev_const (by rw [if_pos (show n ≤ 1000000000 ∧ Lib.decDigits n = a.data.toList from ⟨by omega, h2⟩)]))
      · exact ev_ifn (by simpa using h2) (ev_const (by rw [if_neg (fun c : n ≤ 1000000000 ∧ Lib.decDigits n = a.data.toList => h2 c.2)]))
  | succ d ih =>
    intro j n hj hn
    have hp : (10 : Nat) ^ j ≤ 10 ^ 10 := Nat.pow_le_pow_right (by omega) (by omega)
    have hb := bt_range a (j : Int)
    have hg := bt_get a j (by omega)
    rw [List.drop_eq_getElem_cons (show j < a.data.toList.length by omega)]
    simp only [pNum]
    generalize (a.data.toList[j]'(by omega)).toNat = c at hg ⊢
    refine ev_succ ?_
    simp only [spec_ParseUint.l0]
    rw [hg] at hb ⊢
    rw [w64 (n := 10 * (n : Int)) (by omega) (by omega), w64 (n := (c : Int)) (by omega) (by omega), w64 (n := 10 * (n : Int) + (c : Int)) (by omega) (by omega), w64 (n := 10 * (n : Int) + (c : Int) - 48) (by omega) (by omega), wnext (n := a.size) (by omega) (by omega)]
    refine ev_ifp (by omega) (ev_ifp (by omega) ?_)
    by_cases h1 : (c : Int) < 48
    · rw [if_neg (by omega)]
      exact ev_ifp h1 (Ev.now _)
    · refine ev_ifn h1 ?_
      by_cases h2 : (c : Int) > 57
      · rw [if_neg (by omega)]
        exact ev_ifp h2 (Ev.now _)
      · rw [if_pos (by omega), show 10 * (n : Int) + (c : Int) - 48 = ((n * 10 + (c - 48) : Nat) : Int) by omega]
        exact ev_ifn h2 (ih (j + 1) _ (by omega) (by rw [Nat.pow_succ]; omega))
theorem spec_ParseUint_ev (a : ByteArray) : Ev (fun k => spec_ParseUint.f k a) (YtdfgnfbcfnkncaaDoor.Hand.pParse a.data.toList) := by
  have hl : a.data.toList.length = a.size := Array.length_toList
  unfold spec_ParseUint.f
  by_cases h : (a.size : Int) > 10
  · refine ev_ifp h (ev_const ?_)
    rw [pParse_no]
    intro u hu e
    have := decDigits_len 9 u (by omega)
    rw [e] at this
    omega
  · refine ev_ifn h (ev_eq (spec_ParseUint_l0 a (by omega) a.size 0 0 (by omega) (by simp)) ?_)
    rw [List.drop_zero]
    rcases num_or_none a.data.toList with ⟨u, hu, e⟩ | hno
    · rw [← e, pNum_decDigits, pParse_yes hu]
      exact if_pos ⟨hu, rfl⟩
    · rw [pParse_no hno]
      cases hq : pNum 0 a.data.toList with
      | none => rfl
      | some n => exact if_neg fun c => hno n c.1 c.2
theorem impl_ParseUint_eq {a : ByteArray} (h : a.size ≤ 281474976710656) : impl_ParseUint.f a = some (YtdfgnfbcfnkncaaDoor.Hand.pParse a.data.toList) := by
  unfold impl_ParseUint.f
  rw [if_pos h]
theorem FnExactParseUint : laws_FnExactParseUint.Pure := by
  intro a _
  refine Ev.rounds (g := fun k => laws_FnExactParseUint.f k a) ?_
  unfold laws_FnExactParseUint.f
  by_cases h : (a.size : Int) > 1048576
  · exact ev_ifp h (Ev.now _)
  · refine ev_ifn h (Ev.bind (spec_ParseUint_ev a) ?_)
    rw [impl_ParseUint_eq (by omega)]
    simp only [Option.bind_some]
    exact ev_ifp trivial (ev_ifn (by simp) (Ev.now _))
end Go.Proofs.YtdfgnfbcfnkncaaDoor.Pure
