/- What is proved: read as plain functions on numbers and lists, the law FnNumbers answers true at every input of its kinds; no condition is added. -/
import Derived.Test.YtdfgnfbcfnkncaaDoorPFnNumbersx3
import Derived.Test.YtdfgnfbcfnkncaaDoorPlain
set_option linter.unusedVariables false
set_option linter.unusedSimpArgs false
set_option maxRecDepth 20000
namespace Go.Proofs.YtdfgnfbcfnkncaaDoor.Pure
open Go.RowKit Go.Proofs.YtdfgnfbcfnkncaaDoor.PFnNumbers Go.Proofs.YtdfgnfbcfnkncaaDoorW.PrintWords Go.Proofs.YtdfgnfbcfnkncaaDoorW.PrintLast Go.Proofs.YtdfgnfbcfnkncaaDoorW.PrintMore Go.Proofs.YtdfgnfbcfnkncaaDoor.Plain
theorem laws_big_eq (xs : List Int) : laws_big.f xs = some (decide ((xs.length : Int) > 1048576)) := rfl
theorem impl_FormatInt_eq {n : Int} (h : -9223372036854775808 ≤ n ∧ n ≤ 9223372036854775807) : impl_FormatInt.f n = some (⟨(Lib.itoa n).toArray⟩ : ByteArray) := by
  unfold impl_FormatInt.f
  rw [if_pos h]
open Classical in
def pNum (acc : Nat) : List UInt8 → Option Nat
  | [] => some acc
  | c :: r => if 48 ≤ c.toNat ∧ c.toNat ≤ 57 then pNum (acc * 10 + (c.toNat - 48)) r else none
theorem pNum_append (m : List UInt8) : ∀ (l : List UInt8) (acc : Nat), pNum acc (l ++ m) = (pNum acc l).bind fun a => pNum a m
  | [], acc => rfl
  | c :: r, acc => by
    simp only [List.cons_append, pNum]
    split
    · exact pNum_append m r _
    · rfl
theorem digit_toNat {d : Nat} (h : d < 10) : (UInt8.ofNat (48 + d)).toNat = 48 + d := by
  rw [UInt8.toNat_ofNat']
  omega
theorem pNum_decDigits (u : Nat) : pNum 0 (Lib.decDigits u) = some u := by
  induction u using Nat.strongRecOn with
  | _ u ih =>
    rw [Lib.decDigits.eq_def]
    by_cases h : u < 10
    · rw [dif_pos h]
      simp only [pNum]
      rw [digit_toNat h, if_pos (by omega)]
      congr 1
      omega
    · rw [dif_neg h, pNum_append, ih (u / 10) (by omega)]
      simp only [Option.bind_some, pNum]
      rw [digit_toNat (Nat.mod_lt _ (by omega)), if_pos (by omega)]
      congr 1
      omega
theorem pNum_ge : ∀ (l : List UInt8) (acc n : Nat), pNum acc l = some n → acc ≤ n
  | [], acc, n, h => by simp only [pNum, Option.some.injEq] at h; omega
  | c :: r, acc, n, h => by
    simp only [pNum] at h
    split at h
    · have := pNum_ge r _ n h
      omega
    · cases h
theorem parse_of_pNum : ∀ (l : List UInt8) (acc n : Nat), pNum acc l = some n → n < 1000000000000000000 → Lib.parseUint10 acc l = .ok n
  | [], acc, n, h, _ => by simp only [pNum, Option.some.injEq] at h; rw [h]; rfl
  | c :: r, acc, n, h, hn => by
    simp only [pNum] at h
    split at h
    · rename_i hd
      have h1 := pNum_ge r _ n h
      unfold Lib.parseUint10
      rw [if_pos hd, if_neg (by omega), if_neg (by omega)]
      exact parse_of_pNum r _ n h hn
    · cases h
theorem decDigits_len (k : Nat) : ∀ u : Nat, u < 10 ^ (k + 1) → (Lib.decDigits u).length ≤ k + 1 := by
  induction k with
  | zero =>
    intro u h
    rw [Lib.decDigits.eq_def, dif_pos (by simpa using h)]
    simp
  | succ k ih =>
    intro u h
    rw [Lib.decDigits.eq_def]
    by_cases h1 : u < 10
    · rw [dif_pos h1]
      simp
    · rw [dif_neg h1, List.length_append]
      have := ih (u / 10) (by rw [Nat.pow_succ] at h; omega)
      simp only [List.length_cons, List.length_nil]
      omega
theorem decDigits_head (u : Nat) : ∃ c r, Lib.decDigits u = c :: r ∧ 48 ≤ c.toNat ∧ c.toNat ≤ 57 := by
  induction u using Nat.strongRecOn with
  | _ u ih =>
    rw [Lib.decDigits.eq_def]
    by_cases h : u < 10
    · rw [dif_pos h]
      exact ⟨_, _, rfl, by rw [digit_toNat h]; omega, by rw [digit_toNat h]; omega⟩
    · rw [dif_neg h]
      obtain ⟨c, r, e, h1, h2⟩ := ih (u / 10) (by omega)
      rw [e]
      exact ⟨c, r ++ [UInt8.ofNat (48 + u % 10)], rfl, h1, h2⟩
theorem itoa_nat (u : Nat) : Lib.itoa (u : Int) = Lib.decDigits u := by
  unfold Lib.itoa
  rw [if_neg (by omega)]
  rfl
theorem atoiAll_decDigits {u : Nat} (h : u ≤ 1000000000) : Lib.atoiAll (Lib.decDigits u) = .ok (u : Int) := by
  have hp := parse_of_pNum _ _ _ (pNum_decDigits u) (by omega)
  obtain ⟨c, r, e, h1, h2⟩ := decDigits_head u
  rw [e] at hp ⊢
  have hm : Lib.parseMag (c :: r) = .ok u := by
    unfold Lib.parseMag
    rw [if_neg (by simp)]
    exact hp
  simp only [Lib.atoiAll]
  rw [if_neg (show ¬ (c.toNat = 43 ∨ c.toNat = 45) by omega), hm]
  simp only
  rw [if_neg (show ¬ (¬ c.toNat = 45 ∧ 9223372036854775808 ≤ u) by omega), if_neg (show ¬ (c.toNat = 45 ∧ 9223372036854775808 < u) by omega), if_neg (show ¬ c.toNat = 45 by omega)]
theorem pParse_yes {u : Nat} (h : u ≤ 1000000000) : YtdfgnfbcfnkncaaDoor.Hand.pParse (Lib.decDigits u) = ((u : Int), true) := by
  unfold YtdfgnfbcfnkncaaDoor.Hand.pParse
  rw [atoiAll_decDigits h]
  exact if_pos ⟨itoa_nat u, by omega, by omega⟩
theorem pParse_no {l : List UInt8} (h : ∀ u : Nat, u ≤ 1000000000 → Lib.decDigits u ≠ l) : YtdfgnfbcfnkncaaDoor.Hand.pParse l = (0, false) := by
  unfold YtdfgnfbcfnkncaaDoor.Hand.pParse
  split
  · rename_i v hv
    refine if_neg fun c => ?_
    obtain ⟨u, rfl⟩ := Int.eq_ofNat_of_zero_le c.2.1
    exact h u (by omega) (by rw [← itoa_nat]; exact c.1)
  · rfl
/-- The number that the text tells, if it is one's decimal text. -/
theorem num_or_none (l : List UInt8) : (∃ u : Nat, u ≤ 1000000000 ∧ Lib.decDigits u = l) ∨ (∀ u : Nat, u ≤ 1000000000 → Lib.decDigits u ≠ l) := by
  by_cases h : ∃ u : Nat, u ≤ 1000000000 ∧ Lib.decDigits u = l
  · exact Or.inl h
  · exact Or.inr fun u h1 h2 => h ⟨u, h1, h2⟩
theorem bt_get (a : ByteArray) (j : Nat) (h : j < a.size) : bt a (j : Int) = (((a.data.toList[j]'(by rw [Array.length_toList]; exact h)).toNat : Nat) : Int) := by
  unfold bt
  rw [dif_pos (by omega)]
  simp only [Int.toNat_natCast]
  rfl
theorem impl_ParseUint_eq {a : ByteArray} (h : a.size ≤ 281474976710656) : impl_ParseUint.f a = some (YtdfgnfbcfnkncaaDoor.Hand.pParse a.data.toList) := by
  unfold impl_ParseUint.f
  rw [if_pos h]
theorem spec_l01New_l0 (xs : List Int) (hn : xs.length ≤ 4611686018427387904) (d : Nat) : ∀ (j : Nat) (h : Int), j + d = xs.length → ∃ h', Ev (fun k => spec_l01New.l0 k xs h j) (xs, 0, h') := by
  induction d with
  | zero =>
    intro j h hj
    refine ⟨h, ev_at 1 fun k => ?_⟩
    simp only [spec_l01New.l0]
    rw [if_neg (by omega)]
  | succ d ih =>
    intro j h hj
    by_cases h4 : (j : Int) < 4000
    · obtain ⟨h', he⟩ := ih (j + 1) (Go.bits .and .i64 (wrap64 ((wrap64 ((wrap64 (h * 131)) + (wrap64 (rd xs j)))) + 7)) 1073741823) (by omega)
      refine ⟨h', Ev.step (f := fun k => spec_l01New.l0 k xs (Go.bits .and .i64 (wrap64 ((wrap64 ((wrap64 (h * 131)) + (wrap64 (rd xs j)))) + 7)) 1073741823) ((j + 1 : Nat) : Int)) (fun k => ?_) he⟩
      simp only [spec_l01New.l0]
      rw [if_pos (by omega), if_pos h4, if_pos (by omega), wnext (n := xs.length) (by omega) hn]
    · refine ⟨h, ev_at 1 fun k => ?_⟩
      simp only [spec_l01New.l0]
      rw [if_pos (by omega), if_neg h4]
theorem spec_l01New_ev (xs : List Int) (hn : xs.length ≤ 4611686018427387904) : ∃ h, Ev (fun k => spec_l01New.f k xs) (xs, 0, h) := by
  unfold spec_l01New.f
  exact spec_l01New_l0 xs hn xs.length 0 _ (by omega)
theorem spec_l01Byte_some (b : List Int) (i h : Int) (hb : b.length ≤ 4611686018427387904) (hi : 0 ≤ i) : ∃ x i' h', spec_l01Byte.f b i h = some (x, i', h') ∧ (0 ≤ x ∧ x ≤ 255) ∧ 0 ≤ i' := by
  unfold spec_l01Byte.f
  by_cases h1 : i < b.length
  · rw [if_pos h1, if_pos hi, w64 (n := i + 1) (by omega) (by omega)]
    exact ⟨_, _, _, rfl, and255 _, by omega⟩
  · rw [if_neg h1]
    exact ⟨_, _, _, rfl, and255 _, hi⟩
theorem spec_l01Below_some (b : List Int) (i h n : Int) (hb : b.length ≤ 4611686018427387904) (hi : 0 ≤ i) : ∃ r i' h', spec_l01Below.f b i h n = some (r, i', h') ∧ 0 ≤ r ∧ (1 ≤ n → r < n) ∧ 0 ≤ i' := by
  unfold spec_l01Below.f
  by_cases h1 : n ≤ 0
  · rw [if_pos h1]
    exact ⟨_, _, _, rfl, by omega, by omega, hi⟩
  · rw [if_neg h1]
    obtain ⟨x, i1, h1', e1, p1, q1⟩ := spec_l01Byte_some b i h hb hi
    by_cases h2 : n ≤ 256
    · rw [if_pos h2, e1]
      simp only [Option.bind_some]
      rw [if_neg (show ¬ n = 0 by omega)]
      have := tmod_range p1.1 (show 1 ≤ n by omega)
      exact ⟨_, _, _, rfl, this.1, fun _ => this.2, q1⟩
    · rw [if_neg h2, e1]
      simp only [Option.bind_some]
      obtain ⟨y, i2, h2', e2, p2, q2⟩ := spec_l01Byte_some b i1 h1' hb q1
      rw [e2]
      simp only [Option.bind_some]
      obtain ⟨z, i3, h3', e3, p3, q3⟩ := spec_l01Byte_some b i2 h2' hb q2
      rw [e3]
      simp only [Option.bind_some]
      obtain ⟨v, i4, h4', e4, p4, q4⟩ := spec_l01Byte_some b i3 h3' hb q3
      rw [e4]
      simp only [Option.bind_some]
      rw [if_neg (show ¬ n = 0 by omega)]
      have h0 : 0 ≤ wrap64 (wrap64 (wrap64 (wrap64 (x * 16777216) + wrap64 (y * 65536)) + wrap64 (z * 256)) + v) := by
        rw [w64 (n := x * 16777216) (by omega) (by omega), w64 (n := y * 65536) (by omega) (by omega), w64 (n := z * 256) (by omega) (by omega), w64 (n := x * 16777216 + y * 65536) (by omega) (by omega), w64 (n := x * 16777216 + y * 65536 + z * 256) (by omega) (by omega), w64 (by omega) (by omega)]
        omega
      have := tmod_range h0 (show 1 ≤ n by omega)
      exact ⟨_, _, _, rfl, this.1, fun _ => this.2, q4⟩
theorem spec_l01Once_some (b : List Int) (i h n : Int) (hb : b.length ≤ 4611686018427387904) (hi : 0 ≤ i) : ∃ r i' h', spec_l01Once.f b i h n = some (r, i', h') ∧ 0 ≤ i' := by
  unfold spec_l01Once.f
  obtain ⟨r, i1, h1, e1, _, _, q1⟩ := spec_l01Below_some b i h n hb hi
  rw [e1]
  simp only [Option.bind_some]
  exact ⟨_, _, _, rfl, q1⟩
theorem spec_l01PickInt_some (b : List Int) (i h : Int) (l : List Int) (hb : b.length ≤ 4611686018427387904) (hi : 0 ≤ i) (hl : 1 ≤ l.length) : ∃ r i' h', spec_l01PickInt.f b i h l = some (r, i', h') ∧ 0 ≤ i' := by
  unfold spec_l01PickInt.f
  obtain ⟨r, i1, h1, e1, p1, p2, q1⟩ := spec_l01Below_some b i h l.length hb hi
  rw [e1]
  simp only [Option.bind_some]
  rw [if_pos p1, if_pos (p2 (by omega))]
  exact ⟨_, _, _, rfl, q1⟩
theorem spec_l01Number_some (b : List Int) (i h : Int) (hb : b.length ≤ 4611686018427387904) (hi : 0 ≤ i) : ∃ r i' h', spec_l01Number.f b i h = some (r, i', h') ∧ 0 ≤ i' := by
  unfold spec_l01Number.f
  obtain ⟨r, i1, h1, e1, p1, p2, q1⟩ := spec_l01Below_some b i h 4 hb hi
  rw [e1]
  simp only [Option.bind_some]
  by_cases c0 : r = 0
  · rw [if_pos c0]
    obtain ⟨r2, i2, h2, e2, q2⟩ := spec_l01PickInt_some b i1 h1 ([(-1), 0, 127, 128, 16383, 16384, 1000000000, 1000000001, 9223372036854775807, (-9223372036854775808)] : List Int) hb q1 (by simp)
    rw [e2]
    exact ⟨_, _, _, rfl, q2⟩
  · rw [if_neg c0]
    by_cases c1 : r = 1
    · rw [if_pos c1]
      obtain ⟨r2, i2, h2, e2, _, _, q2⟩ := spec_l01Below_some b i1 h1 1000000000 hb q1
      rw [e2]
      exact ⟨_, _, _, rfl, q2⟩
    · rw [if_neg c1]
      obtain ⟨r2, i2, h2, e2, _, _, q2⟩ := spec_l01Below_some b i1 h1 400 hb q1
      rw [e2]
      exact ⟨_, _, _, rfl, q2⟩
theorem spec_l01PickInt_mem (b : List Int) (i h : Int) (l : List Int) (hb : b.length ≤ 4611686018427387904) (hi : 0 ≤ i) (hl : 1 ≤ l.length) : ∃ r i' h', spec_l01PickInt.f b i h l = some (r, i', h') ∧ 0 ≤ i' ∧ r ∈ l := by
  unfold spec_l01PickInt.f
  obtain ⟨r, i1, h1, e1, p1, p2, q1⟩ := spec_l01Below_some b i h l.length hb hi
  have p3 := p2 (by omega)
  rw [e1]
  simp only [Option.bind_some]
  rw [if_pos p1, if_pos p3]
  obtain ⟨j, rfl⟩ := Int.eq_ofNat_of_zero_le p1
  refine ⟨_, _, _, rfl, q1, ?_⟩
  rw [rd_nat l j (by omega)]
  exact List.getElem_mem _
theorem spec_l01Number_range (b : List Int) (i h : Int) (hb : b.length ≤ 4611686018427387904) (hi : 0 ≤ i) : ∃ r i' h', spec_l01Number.f b i h = some (r, i', h') ∧ 0 ≤ i' ∧ (-9223372036854775808 ≤ r ∧ r ≤ 9223372036854775807) := by
  unfold spec_l01Number.f
  obtain ⟨r, i1, h1, e1, p1, p2, q1⟩ := spec_l01Below_some b i h 4 hb hi
  rw [e1]
  simp only [Option.bind_some]
  by_cases c0 : r = 0
  · rw [if_pos c0]
    obtain ⟨r2, i2, h2, e2, q2, m2⟩ := spec_l01PickInt_mem b i1 h1 ([(-1), 0, 127, 128, 16383, 16384, 1000000000, 1000000001, 9223372036854775807, (-9223372036854775808)] : List Int) hb q1 (by simp)
    rw [e2]
    refine ⟨_, _, _, rfl, q2, ?_⟩
    simp only [List.mem_cons, List.not_mem_nil, or_false] at m2
    omega
  · rw [if_neg c0]
    by_cases c1 : r = 1
    · rw [if_pos c1]
      obtain ⟨r2, i2, h2, e2, a2, b2, q2⟩ := spec_l01Below_some b i1 h1 1000000000 hb q1
      have := b2 (by omega)
      rw [e2]
      exact ⟨_, _, _, rfl, q2, by omega⟩
    · rw [if_neg c1]
      obtain ⟨r2, i2, h2, e2, a2, b2, q2⟩ := spec_l01Below_some b i1 h1 400 hb q1
      have := b2 (by omega)
      rw [e2]
      exact ⟨_, _, _, rfl, q2, by omega⟩
theorem spec_DrawFormatInt_ev (xs : List Int) (hb : xs.length ≤ 4611686018427387904) : ∃ n, Ev (fun k => spec_DrawFormatInt.f k xs) n ∧ -9223372036854775808 ≤ n ∧ n ≤ 9223372036854775807 := by
  obtain ⟨h, hN⟩ := spec_l01New_ev xs hb
  unfold spec_DrawFormatInt.f
  obtain ⟨o, i1, h1, e1, q1⟩ := spec_l01Once_some xs 0 h 3 hb (by omega)
  cases o with
  | true =>
    obtain ⟨x, i2, h2, e2, p2, p2', q2⟩ := spec_l01Below_some xs i1 h1 1000000 hb q1
    obtain ⟨y, i3, h3, e3, p3, p3', q3⟩ := spec_l01Below_some xs i2 h2 2000000 hb q2
    refine ⟨wrap64 (x * wrap64 (y - 1000000)), Ev.bind hN (ev_const ?_), by unfold wrap64; omega, by unfold wrap64; omega⟩
    simp only [e1, e2, e3, Option.bind_some, if_true]
  | false =>
    obtain ⟨n, i2, h2, e2, q2, r2⟩ := spec_l01Number_range xs i1 h1 hb q1
    refine ⟨n, Ev.bind hN (ev_const ?_), r2⟩
    simp only [e1, e2, Option.bind_some, Bool.false_eq_true, if_false]
theorem itoa_ne (n : Int) : Lib.itoa n ≠ [] := by
  unfold Lib.itoa
  split
  · simp
  · obtain ⟨c, r, e, _⟩ := decDigits_head n.toNat
    rw [e]
    simp
theorem itoa_size (n : Int) (h : -9223372036854775808 ≤ n ∧ n ≤ 9223372036854775807) : (Lib.itoa n).length ≤ 21 := by
  unfold Lib.itoa
  split
  · have := decDigits_len 19 n.natAbs (by omega)
    simp only [List.length_cons]
    omega
  · have := decDigits_len 19 n.toNat (by omega)
    omega
theorem pParse_itoa {n : Int} (h : 0 ≤ n ∧ n ≤ 1000000000) : YtdfgnfbcfnkncaaDoor.Hand.pParse (Lib.itoa n) = (n, true) := by
  obtain ⟨u, rfl⟩ := Int.eq_ofNat_of_zero_le h.1
  rw [itoa_nat]
  exact pParse_yes (by omega)
theorem pParse_itoa_no {n : Int} (h : ¬ (0 ≤ n ∧ n ≤ 1000000000)) : YtdfgnfbcfnkncaaDoor.Hand.pParse (Lib.itoa n) = (0, false) := by
  refine pParse_no fun u hu e => ?_
  by_cases h0 : n < 0
  · obtain ⟨c, r, e2, h1, h2⟩ := decDigits_head u
    unfold Lib.itoa at e
    rw [if_pos h0, e2] at e
    injection e with e3 _
    rw [e3] at h1
    exact absurd h1 (by decide)
  · obtain ⟨v, rfl⟩ := Int.eq_ofNat_of_zero_le (show 0 ≤ n by omega)
    rw [itoa_nat] at e
    have h1 := pNum_decDigits u
    rw [e, pNum_decDigits] at h1
    obtain rfl := Option.some.inj h1
    exact h ⟨by omega, by omega⟩
theorem FnNumbers : laws_FnNumbers.Pure := by
  intro l0 hm _ hx
  refine Ev.rounds (g := fun k => laws_FnNumbers.f k l0) ?_
  unfold laws_FnNumbers.f
  simp only [laws_big_eq, Option.bind_some]
  by_cases h : (l0.length : Int) > 1048576
  · simp only [decide_eq_true h, if_true]
    exact Ev.now _
  · simp only [decide_eq_false h, Bool.false_eq_true, if_false]
    obtain ⟨n, hd, hr⟩ := spec_DrawFormatInt_ev l0 (by omega)
    refine Ev.bind hd ?_
    have hz : (⟨(Lib.itoa n).toArray⟩ : ByteArray).size = (Lib.itoa n).length := rfl
    have hz2 := itoa_size n hr
    rw [impl_FormatInt_eq hr]
    simp only [Option.bind_some]
    rw [impl_ParseUint_eq (by omega)]
    simp only [Option.bind_some, ByteArray.toList_eq]
    have hne := itoa_ne n
    by_cases h1 : n ≥ 0
    · refine ev_ifp h1 (ev_ifn hne ?_)
      by_cases h2 : n ≤ 1000000000
      · rw [pParse_itoa ⟨h1, h2⟩, decide_eq_true h2]
        exact ev_ifp rfl (ev_ifp h2 (ev_const (by simp)))
      · rw [pParse_itoa_no (fun c => h2 c.2), decide_eq_false h2]
        exact ev_ifp rfl (ev_ifn h2 (Ev.now _))
    · rw [pParse_itoa_no (fun c => h1 c.1)]
      exact ev_ifn h1 (ev_ifn hne (ev_ifp rfl (Ev.now _)))
end Go.Proofs.YtdfgnfbcfnkncaaDoor.Pure
