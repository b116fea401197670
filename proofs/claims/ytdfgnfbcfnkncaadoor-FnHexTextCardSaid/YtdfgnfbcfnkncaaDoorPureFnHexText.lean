/- What is proved: read as plain functions on numbers and lists, the law FnHexText answers true at every input of its kinds; no condition is added. -/
import Derived.Test.YtdfgnfbcfnkncaaDoorPFnHexTextx3
import Derived.Test.YtdfgnfbcfnkncaaDoorPlain
set_option linter.unusedVariables false
set_option linter.unusedSimpArgs false
set_option maxRecDepth 20000
namespace Go.Proofs.YtdfgnfbcfnkncaaDoor.Pure
open Go.RowKit Go.Proofs.YtdfgnfbcfnkncaaDoor.PFnHexText Go.Proofs.YtdfgnfbcfnkncaaDoorW.PrintWords Go.Proofs.YtdfgnfbcfnkncaaDoorW.PrintLast Go.Proofs.YtdfgnfbcfnkncaaDoorW.PrintMore Go.Proofs.YtdfgnfbcfnkncaaDoor.Plain
theorem laws_big_eq (xs : List Int) : laws_big.f xs = some (decide ((xs.length : Int) > 1048576)) := rfl
theorem spec_l01New_l0 (xs : List Int) (hn : xs.length ≤ 4611686018427387904) (d : Nat) : ∀ (j : Nat) (h : Int), j + d = xs.length → ∃ h', Ev (fun k => spec_l01New.l0 k xs h j) (xs, 0, h') := by
  induction d with
  | zero =>
    intro j h hj
    refine ⟨h, ev_at 1 fun k => ?_⟩
    simp only [spec_l01New.l0]
    rw [if_neg (by omega)]
  | succ d ih =>
    intro j h hj
    by_cases h4 : (j : Int) < 4000
    · obtain ⟨h', he⟩ := ih (j + 1) (Go.bits .and .i64 (wrap64 ((wrap64 ((wrap64 (h * 131)) + (wrap64 (rd xs j)))) + 7)) 1073741823) (by omega)
      refine ⟨h', Ev.step (f := fun k => spec_l01New.l0 k xs (Go.bits .and .i64 (wrap64 ((wrap64 ((wrap64 (h * 131)) + (wrap64 (rd xs j)))) + 7)) 1073741823) ((j + 1 : Nat) : Int)) (fun k => ?_) he⟩
      simp only [spec_l01New.l0]
      rw [if_pos (by omega), if_pos h4, if_pos (by omega), wnext (n := xs.length) (by omega) hn]
    · refine ⟨h, ev_at 1 fun k => ?_⟩
      simp only [spec_l01New.l0]
      rw [if_pos (by omega), if_neg h4]
theorem spec_l01New_ev (xs : List Int) (hn : xs.length ≤ 4611686018427387904) : ∃ h, Ev (fun k => spec_l01New.f k xs) (xs, 0, h) := by
  unfold spec_l01New.f
  exact spec_l01New_l0 xs hn xs.length 0 _ (by omega)
theorem spec_l01Byte_some (b : List Int) (i h : Int) (hb : b.length ≤ 4611686018427387904) (hi : 0 ≤ i) : ∃ x i' h', spec_l01Byte.f b i h = some (x, i', h') ∧ (0 ≤ x ∧ x ≤ 255) ∧ 0 ≤ i' := by
  unfold spec_l01Byte.f
  by_cases h1 : i < b.length
  · rw [if_pos h1, if_pos hi, w64 (n := i + 1) (by omega) (by omega)]
    exact ⟨_, _, _, rfl, and255 _, by omega⟩
  · rw [if_neg h1]
    exact ⟨_, _, _, rfl, and255 _, hi⟩
theorem spec_l01Below_some (b : List Int) (i h n : Int) (hb : b.length ≤ 4611686018427387904) (hi : 0 ≤ i) : ∃ r i' h', spec_l01Below.f b i h n = some (r, i', h') ∧ 0 ≤ r ∧ (1 ≤ n → r < n) ∧ 0 ≤ i' := by
  unfold spec_l01Below.f
  by_cases h1 : n ≤ 0
  · rw [if_pos h1]
    exact ⟨_, _, _, rfl, by omega, by omega, hi⟩
  · rw [if_neg h1]
    obtain ⟨x, i1, h1', e1, p1, q1⟩ := spec_l01Byte_some b i h hb hi
    by_cases h2 : n ≤ 256
    · rw [if_pos h2, e1]
      simp only [Option.bind_some]
      rw [if_neg (show ¬ n = 0 by omega)]
      have := tmod_range p1.1 (show 1 ≤ n by omega)
      exact ⟨_, _, _, rfl, this.1, fun _ => this.2, q1⟩
    · rw [if_neg h2, e1]
      simp only [Option.bind_some]
      obtain ⟨y, i2, h2', e2, p2, q2⟩ := spec_l01Byte_some b i1 h1' hb q1
      rw [e2]
      simp only [Option.bind_some]
      obtain ⟨z, i3, h3', e3, p3, q3⟩ := spec_l01Byte_some b i2 h2' hb q2
      rw [e3]
      simp only [Option.bind_some]
      obtain ⟨v, i4, h4', e4, p4, q4⟩ := spec_l01Byte_some b i3 h3' hb q3
      rw [e4]
      simp only [Option.bind_some]
      rw [if_neg (show ¬ n = 0 by omega)]
      have h0 : 0 ≤ wrap64 (wrap64 (wrap64 (wrap64 (x * 16777216) + wrap64 (y * 65536)) + wrap64 (z * 256)) + v) := by
        rw [w64 (n := x * 16777216) (by omega) (by omega), w64 (n := y * 65536) (by omega) (by omega), w64 (n := z * 256) (by omega) (by omega), w64 (n := x * 16777216 + y * 65536) (by omega) (by omega), w64 (n := x * 16777216 + y * 65536 + z * 256) (by omega) (by omega), w64 (by omega) (by omega)]
        omega
      have := tmod_range h0 (show 1 ≤ n by omega)
      exact ⟨_, _, _, rfl, this.1, fun _ => this.2, q4⟩
theorem spec_l01Once_some (b : List Int) (i h n : Int) (hb : b.length ≤ 4611686018427387904) (hi : 0 ≤ i) : ∃ r i' h', spec_l01Once.f b i h n = some (r, i', h') ∧ 0 ≤ i' := by
  unfold spec_l01Once.f
  obtain ⟨r, i1, h1, e1, _, _, q1⟩ := spec_l01Below_some b i h n hb hi
  rw [e1]
  simp only [Option.bind_some]
  exact ⟨_, _, _, rfl, q1⟩
theorem spec_l01Long_l0 (n : Nat) (v : Int) (hn : n ≤ 1048576) (d : Nat) : ∀ (j : Nat) (out : List Int), j + d = n → out.length = n → ∃ ys, Ev (fun k => spec_l01Long.l0 k n v out j) (strOfNums ys) ∧ ys.length = n := by
  induction d with
  | zero =>
    intro j out hj ho
    refine ⟨out, ev_succ ?_, ho⟩
    simp only [spec_l01Long.l0]
    exact ev_ifn (by omega) (Ev.now _)
  | succ d ih =>
    intro j out hj ho
    obtain ⟨ys, hE, hl⟩ := ih (j + 1) (out.set j v) (by omega) (by simp [ho])
    refine ⟨ys, ev_succ ?_, hl⟩
    simp only [spec_l01Long.l0]
    rw [wnext (n := n) (by omega) (by omega), Int.toNat_natCast]
    exact ev_ifp (by omega) (ev_ifp (by omega) (ev_ifp (by omega) hE))
theorem spec_l01Long_ev (n : Nat) (v : Int) (hn : n ≤ 1048576) : ∃ ys, Ev (fun k => spec_l01Long.f k n v) (strOfNums ys) ∧ ys.length = n := by
  unfold spec_l01Long.f
  obtain ⟨ys, hE, hl⟩ := spec_l01Long_l0 n v hn n 0 (List.replicate n 0) (by omega) (by simp)
  refine ⟨ys, ev_ifp (by omega) (ev_ifp (by omega) ?_), hl⟩
  rw [Int.toNat_natCast]
  exact hE
theorem spec_l01Text_l0 (b : List Int) (hb : b.length ≤ 4611686018427387904) (n : Nat) (hn : n ≤ 5000) (d : Nat) : ∀ (j : Nat) (out : List Int) (i h : Int), j + d = n → 0 ≤ i → out.length = j → (∀ x ∈ out, 0 ≤ x ∧ x ≤ 255) → ∃ ys i' h', Ev (fun k => spec_l01Text.l0 k n out j b i h) (strOfNums ys, i', h') ∧ 0 ≤ i' ∧ ys.length = n ∧ (∀ x ∈ ys, 0 ≤ x ∧ x ≤ 255) := by
  induction d with
  | zero =>
    intro j out i h hj hi ho hx
    refine ⟨out, i, h, ev_succ ?_, hi, by omega, hx⟩
    simp only [spec_l01Text.l0]
    exact ev_ifn (by omega) (Ev.now _)
  | succ d ih =>
    intro j out i h hj hi ho hx
    obtain ⟨x, i1, h1, e1, p1, q1⟩ := spec_l01Byte_some b i h hb hi
    obtain ⟨ys, i', h', hE, r1, r2, r3⟩ := ih (j + 1) (out ++ [x % 256]) i1 h1 (by omega) q1 (by simp [ho]) (by
      intro y hy
      rcases List.mem_append.1 hy with hy | hy
      · exact hx y hy
      · simp only [List.mem_singleton] at hy
        omega)
    refine ⟨ys, i', h', ev_succ ?_, r1, r2, r3⟩
    simp only [spec_l01Text.l0, e1, Option.bind_some]
    rw [wnext (n := n) (by omega) (by omega)]
    exact ev_ifp (by omega) (ev_ifp (by omega) hE)
theorem spec_l01Text_ev (b : List Int) (i h a : Int) (hb : b.length ≤ 4611686018427387904) (hi : 0 ≤ i) (ha : 0 ≤ a) : ∃ ys i' h', Ev (fun k => spec_l01Text.f k b i h a) (strOfNums ys, i', h') ∧ 0 ≤ i' ∧ ys.length ≤ 5000 := by
  unfold spec_l01Text.f
  by_cases h1 : a > 5000
  · obtain ⟨ys, i', h', hE, r1, r2, _⟩ := spec_l01Text_l0 b hb 5000 (by omega) 5000 0 [] i h (by omega) hi rfl (by simp)
    refine ⟨ys, i', h', ev_ifp h1 (ev_succ ?_), r1, by omega⟩
    simp only [spec_l01Text.j0]
    exact hE
  · obtain ⟨n, rfl⟩ := Int.eq_ofNat_of_zero_le ha
    obtain ⟨ys, i', h', hE, r1, r2, _⟩ := spec_l01Text_l0 b hb n (by omega) n 0 [] i h (by omega) hi rfl (by simp)
    refine ⟨ys, i', h', ev_ifn h1 (ev_succ ?_), r1, by omega⟩
    simp only [spec_l01Text.j0]
    exact hE
theorem spec_DrawEncodeHex_ev (xs : List Int) (hb : xs.length ≤ 4611686018427387904) : ∃ ys, Ev (fun k => spec_DrawEncodeHex.f k xs) (strOfNums ys) ∧ ys.length ≤ 1048576 := by
  obtain ⟨h, hN⟩ := spec_l01New_ev xs hb
  unfold spec_DrawEncodeHex.f
  obtain ⟨o, i1, h1, e1, q1⟩ := spec_l01Once_some xs 0 h 60 hb (by omega)
  cases o with
  | true =>
    obtain ⟨r, i2, h2, e2, p2, p2', q2⟩ := spec_l01Below_some xs i1 h1 2 hb q1
    have p2'' := p2' (by omega)
    obtain ⟨q, hq⟩ : ∃ q : Nat, (20000 : Int) + r = (q : Int) := ⟨(20000 + r).toNat, by omega⟩
    have hq2 : q ≤ 1048576 := by omega
    obtain ⟨ys, hE, hl⟩ := spec_l01Long_ev q 200 hq2
    refine ⟨ys, Ev.bind hN ?_, by omega⟩
    simp only [e1, e2, Option.bind_some, if_true]
    rw [w64 (n := 20000 + r) (by omega) (by omega), hq]
    exact Ev.bind hE (Ev.now _)
  | false =>
    obtain ⟨r, i2, h2, e2, p2, p2', q2⟩ := spec_l01Below_some xs i1 h1 30 hb q1
    obtain ⟨ys, i3, h3, hE, r1, r2⟩ := spec_l01Text_ev xs i2 h2 r hb q2 p2
    refine ⟨ys, Ev.bind hN ?_, by omega⟩
    simp only [e1, e2, Option.bind_some, Bool.false_eq_true, if_false]
    exact Ev.bind hE (Ev.now _)
def pHexD (v : Int) : Int := if v < 10 then 48 + v else 87 + v
/-- Two figures for each byte from here on. -/
def pHex (a : ByteArray) : Nat → Nat → List Int
  | 0, _ => []
  | d + 1, j => pHexD (bt a (j : Int) / 16) :: pHexD (bt a (j : Int) % 16) :: pHex a d (j + 1)
theorem pHex_length (a : ByteArray) (d : Nat) : ∀ j, (pHex a d j).length = 2 * d := by
  induction d with
  | zero => intro j; rfl
  | succ d ih => intro j; simp only [pHex, List.length_cons, ih]; omega
theorem tab_hex {v : Int} (h : 0 ≤ v ∧ v < 16) : bt (⟨#[48, 49, 50, 51, 52, 53, 54, 55, 56, 57, 97, 98, 99, 100, 101, 102]⟩ : ByteArray) v = pHexD v := by
  obtain ⟨n, rfl⟩ := Int.eq_ofNat_of_zero_le h.1
  have hn : n < 16 := by omega
  have : ∀ i : Fin 16, bt (⟨#[48, 49, 50, 51, 52, 53, 54, 55, 56, 57, 97, 98, 99, 100, 101, 102]⟩ : ByteArray) ((i.val : Nat) : Int) = pHexD ((i.val : Nat) : Int) := by decide
  exact this ⟨n, hn⟩
theorem impl_inHex_l0 (a : ByteArray) (hn : a.size ≤ 20000) (d : Nat) : ∀ (j : Nat) (acc : List Int), j + d = a.size → acc.length = 2 * j → Ev (fun k => impl_inHex.l0 k a acc (a.size : Int) j) (strOfNums (acc ++ pHex a d j)) := by
  induction d with
  | zero =>
    intro j acc hj hl
    refine ev_succ ?_
    simp only [impl_inHex.l0]
    exact ev_ifn (by omega) (ev_const (by simp [pHex]))
  | succ d ih =>
    intro j acc hj hl
    have hb := bt_range a (j : Int)
    refine ev_succ ?_
    simp only [impl_inHex.l0]
    rw [Go.u8_and15 _ hb.1 (by omega), tab_hex (v := bt a (j : Int) / 16) (by omega), tab_hex (v := bt a (j : Int) % 16) (by omega), wnext (n := a.size) (by omega) (by omega)]
    simp only [Option.bind_some, List.length_cons, List.length_nil]
    refine ev_ifp (by omega) (ev_ifp (by omega) (ev_ifp (by omega) (ev_ifp (by omega) (ev_ifp (by omega) (ev_ifp (by omega) (ev_ifp (by omega) (ev_ifp (by omega) (ev_eq (ih (j + 1) _ (by omega) (by simp; omega)) ?_))))))))
    simp only [pHex, List.append_assoc, List.cons_append, List.nil_append]
theorem impl_inHex_ev (a : ByteArray) (hn : a.size ≤ 20000) : Ev (fun k => impl_inHex.f k a) (strOfNums (pHex a a.size 0)) := by
  unfold impl_inHex.f
  exact ev_eq (impl_inHex_l0 a hn a.size 0 [] (by omega) rfl) (by simp)
theorem impl_EncodeHex_ev (a : ByteArray) : Ev (fun k => impl_EncodeHex.f k a) (if (a.size : Int) > 20000 then ((⟨#[]⟩ : ByteArray), false) else (strOfNums (pHex a a.size 0), true)) := by
  unfold impl_EncodeHex.f
  by_cases h : (a.size : Int) > 20000
  · rw [if_pos h]
    exact ev_ifp h (Ev.now _)
  · rw [if_neg h]
    exact ev_ifn h (Ev.bind (impl_inHex_ev a (by omega)) (Ev.now _))
theorem impl_FormatInt_eq {n : Int} (h : -9223372036854775808 ≤ n ∧ n ≤ 9223372036854775807) : impl_FormatInt.f n = some (⟨(Lib.itoa n).toArray⟩ : ByteArray) := by
  unfold impl_FormatInt.f
  rw [if_pos h]
def pVal (x : Int) : Int := if 48 ≤ x ∧ x ≤ 57 then x - 48 else if 97 ≤ x ∧ x ≤ 102 then x - 87 else -1
theorem pVal_range (x : Int) : -1 ≤ pVal x ∧ pVal x ≤ 15 := by unfold pVal; (repeat' split) <;> omega
/-- The bytes that so many pairs of figures tell. -/
def pDec (a : ByteArray) : Nat → Nat → List Int → Option (List Int)
  | 0, _, acc => some acc
  | d + 1, j, acc => if pVal (bt a (j : Int)) < 0 then none else if pVal (bt a ((j + 1 : Nat) : Int)) < 0 then none else pDec a d (j + 2) (acc ++ [(16 * pVal (bt a (j : Int)) + pVal (bt a ((j + 1 : Nat) : Int))) % 256])
theorem pDec_length (a : ByteArray) (d : Nat) : ∀ (j : Nat) (acc out : List Int), pDec a d j acc = some out → out.length = acc.length + d := by
  induction d with
  | zero => intro j acc out h; simp only [pDec, Option.some.injEq] at h; rw [← h]; rfl
  | succ d ih =>
    intro j acc out h
    unfold pDec at h
    split at h
    · cases h
    · split at h
      · cases h
      · have := ih _ _ _ h
        rw [this, List.length_append]
        simp only [List.length_cons, List.length_nil]
        omega
theorem strOfNums_len (xs : List Int) : (strOfNums xs).size = xs.length := by simp [strOfNums, ByteArray.size]
def pDecoded (o : Option (List Int)) (b : Bool) : ByteArray × Bool := match o with
  | none => ((⟨#[]⟩ : ByteArray), false)
  | some out => (strOfNums out, b)
theorem hexIndex {x : Int} (h : 0 ≤ x ∧ x ≤ 255) : strings_IndexByte.f (⟨#[48, 49, 50, 51, 52, 53, 54, 55, 56, 57, 97, 98, 99, 100, 101, 102]⟩ : ByteArray) x = some (pVal x) := by
  obtain ⟨n, rfl⟩ := Int.eq_ofNat_of_zero_le h.1
  have hn : n < 256 := by omega
  have : ∀ i : Fin 256, Lib.indexByte [48, 49, 50, 51, 52, 53, 54, 55, 56, 57, 97, 98, 99, 100, 101, 102] (i.val).toUInt8 = pVal ((i.val : Nat) : Int) := by decide +kernel
  unfold strings_IndexByte.f
  exact congrArg some (this ⟨n, hn⟩)
theorem impl_fromHex_l0 (a : ByteArray) (hn : a.size ≤ 1048576) (d : Nat) : ∀ (j : Nat) (acc : List Int), j + 2 * d = a.size ∨ j + 2 * d + 1 = a.size → acc.length ≤ j → Ev (fun k => impl_fromHex.l0 k a acc j) (pDecoded (pDec a d j acc) (((a.size : Int) % 2) == 0)) := by
  induction d with
  | zero =>
    intro j acc hj hl
    refine ev_succ ?_
    simp only [impl_fromHex.l0]
    rw [w64 (n := (j : Int) + 1) (by omega) (by omega)]
    exact ev_ifn (by omega) (Ev.now _)
  | succ d ih =>
    intro j acc hj hl
    have hb := bt_range a (j : Int)
    have hb2 := bt_range a ((j + 1 : Nat) : Int)
    have v1 := pVal_range (bt a (j : Int))
    have v2 := pVal_range (bt a ((j + 1 : Nat) : Int))
    refine ev_succ ?_
    simp only [impl_fromHex.l0]
    rw [wnext (n := a.size) (by omega) (by omega), w64 (n := (j : Int) + 2) (by omega) (by omega), show (j : Int) + 2 = ((j + 2 : Nat) : Int) by omega, hexIndex hb, hexIndex hb2]
    simp only [Option.bind_some]
    unfold pDec
    refine ev_ifp (by omega) (ev_ifp (by omega) (ev_ifp (by omega) (ev_ifp (by omega) ?_)))
    by_cases h1 : pVal (bt a (j : Int)) < 0
    · rw [if_pos h1]
      exact ev_ifp h1 (Ev.now _)
    · rw [if_neg h1]
      refine ev_ifn h1 ?_
      by_cases h2 : pVal (bt a ((j + 1 : Nat) : Int)) < 0
      · rw [if_pos h2]
        exact ev_ifp h2 (Ev.now _)
      · rw [if_neg h2, w64 (n := 16 * pVal (bt a (j : Int))) (by omega) (by omega), w64 (n := 16 * pVal (bt a (j : Int)) + pVal (bt a ((j + 1 : Nat) : Int))) (by omega) (by omega)]
        exact ev_ifn h2 (ev_ifp (by omega) (ih (j + 2) _ (by omega) (by simp; omega)))
theorem impl_fromHex_ev (a : ByteArray) (hn : a.size ≤ 1048576) : Ev (fun k => impl_fromHex.f k a) (pDecoded (pDec a (a.size / 2) 0 []) (((a.size : Int) % 2) == 0)) := by
  unfold impl_fromHex.f
  exact impl_fromHex_l0 a hn (a.size / 2) 0 [] (by omega) (by simp)
theorem impl_DecodeHex_ev (a : ByteArray) (hn : a.size ≤ 1048576) : Ev (fun k => impl_DecodeHex.f k a) (if a.size ≤ 40000 ∧ a.size % 2 = 0 then pDecoded (pDec a (a.size / 2) 0 []) true else ((⟨#[]⟩ : ByteArray), false)) := by
  unfold impl_DecodeHex.f
  refine Ev.bind (impl_fromHex_ev a hn) ?_
  cases hp : pDec a (a.size / 2) 0 [] with
  | none =>
    simp only [pDecoded]
    refine ev_ifn (by decide) (ev_const ?_)
    split <;> rfl
  | some out =>
    have hl := pDec_length a _ _ _ _ hp
    simp only [List.length_nil] at hl
    have hs := strOfNums_len out
    simp only [pDecoded]
    by_cases h2 : a.size % 2 = 0
    · refine ev_ifp (by simp; omega) ?_
      by_cases h : a.size ≤ 40000
      · rw [if_pos ⟨h, h2⟩]
        exact ev_ifn (by omega) (Ev.now _)
      · rw [if_neg (fun c => h c.1)]
        exact ev_ifp (by omega) (Ev.now _)
    · rw [if_neg (fun c => h2 c.2)]
      exact ev_ifn (by simp; omega) (Ev.now _)
theorem bt_str (L : List Int) (k : Nat) (h : k < L.length) (hr : 0 ≤ L[k] ∧ L[k] ≤ 255) : bt (strOfNums L) (k : Int) = L[k] := by
  have hs := strOfNums_len L
  unfold bt
  rw [dif_pos (by omega)]
  have e : (strOfNums L)[((k : Int)).toNat]'(by omega) = UInt8.ofNat (L[k]).toNat := by
    simp only [strOfNums, Int.toNat_natCast]
    show ((List.map (fun n => UInt8.ofNat n.toNat) L).toArray)[k]'(by simp; exact h) = _
    simp
  rw [e, UInt8.toNat_ofNat']
  omega
theorem pVal_hexD {v : Int} (h : 0 ≤ v ∧ v < 16) : pVal (pHexD v) = v := by
  unfold pVal pHexD
  (repeat' split) <;> omega
theorem pHexD_range {v : Int} (h : 0 ≤ v ∧ v < 16) : 0 ≤ pHexD v ∧ pHexD v ≤ 255 := by
  unfold pHexD
  split <;> omega
def sBytes (s : ByteArray) : Nat → Nat → List Int
  | 0, _ => []
  | d + 1, i => bt s (i : Int) :: sBytes s d (i + 1)
theorem dec_hex (s : ByteArray) (d : Nat) : ∀ (i : Nat) (P acc : List Int), pDec (strOfNums (P ++ pHex s d i)) d P.length acc = some (acc ++ sBytes s d i) := by
  induction d with
  | zero => intro i P acc; simp [pDec, sBytes]
  | succ d ih =>
    intro i P acc
    have hb := bt_range s (i : Int)
    have r1 := pHexD_range (v := bt s (i : Int) / 16) (by omega)
    have r2 := pHexD_range (v := bt s (i : Int) % 16) (by omega)
    have hpl : (P ++ pHex s (d + 1) i).length = P.length + 2 * (d + 1) := by rw [List.length_append, pHex_length]
    have g1 : ∀ (a b : Int) (r : List Int) (h : P.length < (P ++ a :: b :: r).length), (P ++ a :: b :: r)[P.length] = a := by
      intro a b r h
      rw [List.getElem_append_right (Nat.le_refl _)]
      simp
    have g2 : ∀ (a b : Int) (r : List Int) (h : P.length + 1 < (P ++ a :: b :: r).length), (P ++ a :: b :: r)[P.length + 1] = b := by
      intro a b r h
      rw [List.getElem_append_right (by omega)]
      simp
    have b1 : bt (strOfNums (P ++ pHex s (d + 1) i)) (P.length : Int) = pHexD (bt s (i : Int) / 16) := by
      have e := g1 (pHexD (bt s (i : Int) / 16)) (pHexD (bt s (i : Int) % 16)) (pHex s d (i + 1)) (by have := hpl; simp only [pHex] at this; omega)
      have hq := bt_str (P ++ pHex s (d + 1) i) P.length (by omega) (by simp only [pHex]; rw [e]; exact r1)
      rw [hq]
      exact e
    have b2 : bt (strOfNums (P ++ pHex s (d + 1) i)) ((P.length + 1 : Nat) : Int) = pHexD (bt s (i : Int) % 16) := by
      have e := g2 (pHexD (bt s (i : Int) / 16)) (pHexD (bt s (i : Int) % 16)) (pHex s d (i + 1)) (by have := hpl; simp only [pHex] at this; omega)
      have hq := bt_str (P ++ pHex s (d + 1) i) (P.length + 1) (by omega) (by simp only [pHex]; rw [e]; exact r2)
      rw [hq]
      exact e
    unfold pDec
    rw [b1, b2, pVal_hexD (by omega), pVal_hexD (by omega), if_neg (by omega), if_neg (by omega)]
    have hl : P ++ pHex s (d + 1) i = (P ++ [pHexD (bt s (i : Int) / 16), pHexD (bt s (i : Int) % 16)]) ++ pHex s d (i + 1) := by simp [pHex]
    have hP : P.length + 2 = (P ++ [pHexD (bt s (i : Int) / 16), pHexD (bt s (i : Int) % 16)]).length := by simp
    rw [hl, hP, ih (i + 1)]
    simp only [sBytes, List.append_assoc, List.singleton_append]
    rw [show (16 * (bt s (i : Int) / 16) + bt s (i : Int) % 16) % 256 = bt s (i : Int) by omega]
theorem sBytes_map (s : ByteArray) (d : Nat) : ∀ i : Nat, i + d = s.size → (sBytes s d i).map (fun n => UInt8.ofNat n.toNat) = s.data.toList.drop i := by
  induction d with
  | zero =>
    intro i h
    have : s.data.toList.length = s.size := Array.length_toList
    rw [List.drop_of_length_le (by omega)]
    rfl
  | succ d ih =>
    intro i h
    have hl : s.data.toList.length = s.size := Array.length_toList
    simp only [sBytes, List.map_cons]
    rw [ih (i + 1) (by omega), List.drop_eq_getElem_cons (show i < s.data.toList.length by omega)]
    congr 1
    unfold bt
    rw [dif_pos (by omega)]
    simp only [Int.toNat_natCast, UInt8.ofNat_toNat]
    rfl
theorem strOf_sBytes (s : ByteArray) : strOfNums (sBytes s s.size 0) = s := by
  apply ByteArray.ext
  unfold strOfNums
  rw [sBytes_map s s.size 0 (by omega)]
  simp
theorem FnHexText : laws_FnHexText.Pure := by
  intro l0 hm _ hx
  refine Ev.rounds (g := fun k => laws_FnHexText.f k l0) ?_
  unfold laws_FnHexText.f
  simp only [laws_big_eq, Option.bind_some]
  by_cases h : (l0.length : Int) > 1048576
  · simp only [decide_eq_true h, if_true]
    exact Ev.now _
  · simp only [decide_eq_false h, Bool.false_eq_true, if_false]
    obtain ⟨ys, hd, hys⟩ := spec_DrawEncodeHex_ev l0 (by omega)
    have hs : (strOfNums ys).size ≤ 1048576 := by rw [strOfNums_len]; exact hys
    generalize strOfNums ys = s at hd hs
    refine Ev.bind hd (Ev.bind (impl_EncodeHex_ev s) ?_)
    by_cases h2 : (s.size : Int) > 20000
    · rw [if_pos h2]
      refine ev_ifp h2 (ev_ifn (by decide) (ev_ifp (by rw [ByteArray.toList_eq]) (ev_const ?_)))
      rw [impl_FormatInt_eq (by omega)]
      have e : Lib.itoa 10 = [49, 48] := by
        unfold Lib.itoa
        rw [if_neg (by omega), Lib.decDigits.eq_def, dif_neg (by decide), Lib.decDigits.eq_def, dif_pos (by decide)]
        rfl
      simp only [Option.bind_some, e, ByteArray.toList_eq]
      rfl
    · rw [if_neg h2]
      have hl : (strOfNums (pHex s s.size 0)).size = 2 * s.size := by rw [strOfNums_len, pHex_length]
      have hdec := dec_hex s s.size 0 [] []
      simp only [List.nil_append, List.length_nil] at hdec
      have hd2 := impl_DecodeHex_ev (strOfNums (pHex s s.size 0)) (by rw [hl]; omega)
      rw [if_pos (show (strOfNums (pHex s s.size 0)).size ≤ 40000 ∧ (strOfNums (pHex s s.size 0)).size % 2 = 0 by omega), hl, show 2 * s.size / 2 = s.size by omega, hdec] at hd2
      simp only [pDecoded, strOf_sBytes] at hd2
      refine ev_ifn h2 (Ev.bind hd2 (ev_ifp rfl (ev_ifp rfl (ev_ifp rfl (ev_const ?_)))))
      rw [hl]
      rw [w64 (n := 2 * (s.size : Int)) (by omega) (by omega), show ((2 * s.size : Nat) : Int) = 2 * (s.size : Int) by omega]
      simp
end Go.Proofs.YtdfgnfbcfnkncaaDoor.Pure
