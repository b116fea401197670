/- What is proved: read as plain functions on numbers and lists, the law FnFieldsAgain answers true at every input of its kinds; no condition is added. -/
import Derived.Test.YtdfgnfbcfnkncaaDoorPFnFieldsAgainx3
import Derived.Test.YtdfgnfbcfnkncaaDoorPlain
set_option linter.unusedVariables false
set_option linter.unusedSimpArgs false
set_option maxRecDepth 20000
namespace Go.Proofs.YtdfgnfbcfnkncaaDoor.Pure
open Go.RowKit Go.Proofs.YtdfgnfbcfnkncaaDoor.PFnFieldsAgain Go.Proofs.YtdfgnfbcfnkncaaDoorW.PrintWords Go.Proofs.YtdfgnfbcfnkncaaDoorW.PrintLast Go.Proofs.YtdfgnfbcfnkncaaDoorW.PrintMore Go.Proofs.YtdfgnfbcfnkncaaDoor.Plain
theorem laws_big_eq (xs : List Int) : laws_big.f xs = some (decide ((xs.length : Int) > 1048576)) := rfl
theorem impl_FormatInt_eq {n : Int} (h : -9223372036854775808 ≤ n ∧ n ≤ 9223372036854775807) : impl_FormatInt.f n = some (⟨(Lib.itoa n).toArray⟩ : ByteArray) := by
  unfold impl_FormatInt.f
  rw [if_pos h]
theorem spec_l01New_l0 (xs : List Int) (hn : xs.length ≤ 4611686018427387904) (d : Nat) : ∀ (j : Nat) (h : Int), j + d = xs.length → ∃ h', Ev (fun k => spec_l01New.l0 k xs h j) (xs, 0, h') := by
  induction d with
  | zero =>
    intro j h hj
    refine ⟨h, ev_at 1 fun k => ?_⟩
    simp only [spec_l01New.l0]
    rw [if_neg (by omega)]
  | succ d ih =>
    intro j h hj
    by_cases h4 : (j : Int) < 4000
    · obtain ⟨h', he⟩ := ih (j + 1) (Go.bits .and .i64 (wrap64 ((wrap64 ((wrap64 (h * 131)) + (wrap64 (rd xs j)))) + 7)) 1073741823) (by omega)
      refine ⟨h', Ev.step (f := fun k => spec_l01New.l0 k xs (Go.bits .and .i64 (wrap64 ((wrap64 ((wrap64 (h * 131)) + (wrap64 (rd xs j)))) + 7)) 1073741823) ((j + 1 : Nat) : Int)) (fun k => ?_) he⟩
      simp only [spec_l01New.l0]
      rw [if_pos (by omega), if_pos h4, if_pos (by omega), wnext (n := xs.length) (by omega) hn]
    · refine ⟨h, ev_at 1 fun k => ?_⟩
      simp only [spec_l01New.l0]
      rw [if_pos (by omega), if_neg h4]
theorem spec_l01New_ev (xs : List Int) (hn : xs.length ≤ 4611686018427387904) : ∃ h, Ev (fun k => spec_l01New.f k xs) (xs, 0, h) := by
  unfold spec_l01New.f
  exact spec_l01New_l0 xs hn xs.length 0 _ (by omega)
theorem spec_l01Byte_some (b : List Int) (i h : Int) (hb : b.length ≤ 4611686018427387904) (hi : 0 ≤ i) : ∃ x i' h', spec_l01Byte.f b i h = some (x, i', h') ∧ (0 ≤ x ∧ x ≤ 255) ∧ 0 ≤ i' := by
  unfold spec_l01Byte.f
  by_cases h1 : i < b.length
  · rw [if_pos h1, if_pos hi, w64 (n := i + 1) (by omega) (by omega)]
    exact ⟨_, _, _, rfl, and255 _, by omega⟩
  · rw [if_neg h1]
    exact ⟨_, _, _, rfl, and255 _, hi⟩
theorem spec_l01Below_some (b : List Int) (i h n : Int) (hb : b.length ≤ 4611686018427387904) (hi : 0 ≤ i) : ∃ r i' h', spec_l01Below.f b i h n = some (r, i', h') ∧ 0 ≤ r ∧ (1 ≤ n → r < n) ∧ 0 ≤ i' := by
  unfold spec_l01Below.f
  by_cases h1 : n ≤ 0
  · rw [if_pos h1]
    exact ⟨_, _, _, rfl, by omega, by omega, hi⟩
  · rw [if_neg h1]
    obtain ⟨x, i1, h1', e1, p1, q1⟩ := spec_l01Byte_some b i h hb hi
    by_cases h2 : n ≤ 256
    · rw [if_pos h2, e1]
      simp only [Option.bind_some]
      rw [if_neg (show ¬ n = 0 by omega)]
      have := tmod_range p1.1 (show 1 ≤ n by omega)
      exact ⟨_, _, _, rfl, this.1, fun _ => this.2, q1⟩
    · rw [if_neg h2, e1]
      simp only [Option.bind_some]
      obtain ⟨y, i2, h2', e2, p2, q2⟩ := spec_l01Byte_some b i1 h1' hb q1
      rw [e2]
      simp only [Option.bind_some]
      obtain ⟨z, i3, h3', e3, p3, q3⟩ := spec_l01Byte_some b i2 h2' hb q2
      rw [e3]
      simp only [Option.bind_some]
      obtain ⟨v, i4, h4', e4, p4, q4⟩ := spec_l01Byte_some b i3 h3' hb q3
      rw [e4]
      simp only [Option.bind_some]
      rw [if_neg (show ¬ n = 0 by omega)]
      have h0 : 0 ≤ wrap64 (wrap64 (wrap64 (wrap64 (x * 16777216) + wrap64 (y * 65536)) + wrap64 (z * 256)) + v) := by
        rw [w64 (n := x * 16777216) (by omega) (by omega), w64 (n := y * 65536) (by omega) (by omega), w64 (n := z * 256) (by omega) (by omega), w64 (n := x * 16777216 + y * 65536) (by omega) (by omega), w64 (n := x * 16777216 + y * 65536 + z * 256) (by omega) (by omega), w64 (by omega) (by omega)]
        omega
      have := tmod_range h0 (show 1 ≤ n by omega)
      exact ⟨_, _, _, rfl, this.1, fun _ => this.2, q4⟩
theorem spec_l01Once_some (b : List Int) (i h n : Int) (hb : b.length ≤ 4611686018427387904) (hi : 0 ≤ i) : ∃ r i' h', spec_l01Once.f b i h n = some (r, i', h') ∧ 0 ≤ i' := by
  unfold spec_l01Once.f
  obtain ⟨r, i1, h1, e1, _, _, q1⟩ := spec_l01Below_some b i h n hb hi
  rw [e1]
  simp only [Option.bind_some]
  exact ⟨_, _, _, rfl, q1⟩
theorem spec_l01Long_l0 (n : Nat) (v : Int) (hn : n ≤ 1048576) (d : Nat) : ∀ (j : Nat) (out : List Int), j + d = n → out.length = n → ∃ ys, Ev (fun k => spec_l01Long.l0 k n v out j) (strOfNums ys) ∧ ys.length = n := by
  induction d with
  | zero =>
    intro j out hj ho
    refine ⟨out, ev_succ ?_, ho⟩
    simp only [spec_l01Long.l0]
    exact ev_ifn (by omega) (Ev.now _)
  | succ d ih =>
    intro j out hj ho
    obtain ⟨ys, hE, hl⟩ := ih (j + 1) (out.set j v) (by omega) (by simp [ho])
    refine ⟨ys, ev_succ ?_, hl⟩
    simp only [spec_l01Long.l0]
    rw [wnext (n := n) (by omega) (by omega), Int.toNat_natCast]
    exact ev_ifp (by omega) (ev_ifp (by omega) (ev_ifp (by omega) hE))
theorem spec_l01Long_ev (n : Nat) (v : Int) (hn : n ≤ 1048576) : ∃ ys, Ev (fun k => spec_l01Long.f k n v) (strOfNums ys) ∧ ys.length = n := by
  unfold spec_l01Long.f
  obtain ⟨ys, hE, hl⟩ := spec_l01Long_l0 n v hn n 0 (List.replicate n 0) (by omega) (by simp)
  refine ⟨ys, ev_ifp (by omega) (ev_ifp (by omega) ?_), hl⟩
  rw [Int.toNat_natCast]
  exact hE
theorem spec_l01Pick_mem (b : List Int) (i h : Int) (l : List ByteArray) (hb : b.length ≤ 4611686018427387904) (hi : 0 ≤ i) (hl : 1 ≤ l.length) : ∃ r i' h', spec_l01Pick.f b i h l = some (r, i', h') ∧ 0 ≤ i' ∧ r ∈ l := by
  unfold spec_l01Pick.f
  obtain ⟨r, i1, h1, e1, p1, p2, q1⟩ := spec_l01Below_some b i h l.length hb hi
  have p3 := p2 (by omega)
  rw [e1]
  simp only [Option.bind_some]
  rw [if_pos p1, if_pos p3]
  obtain ⟨j, rfl⟩ := Int.eq_ofNat_of_zero_le p1
  refine ⟨_, _, _, rfl, q1, ?_⟩
  have hj : j < l.length := by omega
  have e : rdOf ByteArray.empty l (j : Int) = l[j] := by simp [rdOf, List.getD_eq_getElem?_getD, List.getElem?_eq_getElem hj]
  rw [e]
  exact List.getElem_mem _
def pVal (x : Int) : Int := if 48 ≤ x ∧ x ≤ 57 then x - 48 else if 97 ≤ x ∧ x ≤ 102 then x - 87 else -1
theorem pVal_range (x : Int) : -1 ≤ pVal x ∧ pVal x ≤ 15 := by unfold pVal; (repeat' split) <;> omega
/-- The bytes that so many pairs of figures tell. -/
def pDec (a : ByteArray) : Nat → Nat → List Int → Option (List Int)
  | 0, _, acc => some acc
  | d + 1, j, acc => if pVal (bt a (j : Int)) < 0 then none else if pVal (bt a ((j + 1 : Nat) : Int)) < 0 then none else pDec a d (j + 2) (acc ++ [(16 * pVal (bt a (j : Int)) + pVal (bt a ((j + 1 : Nat) : Int))) % 256])
theorem pDec_length (a : ByteArray) (d : Nat) : ∀ (j : Nat) (acc out : List Int), pDec a d j acc = some out → out.length = acc.length + d := by
  induction d with
  | zero => intro j acc out h; simp only [pDec, Option.some.injEq] at h; rw [← h]; rfl
  | succ d ih =>
    intro j acc out h
    unfold pDec at h
    split at h
    · cases h
    · split at h
      · cases h
      · have := ih _ _ _ h
        rw [this, List.length_append]
        simp only [List.length_cons, List.length_nil]
        omega
theorem strOfNums_len (xs : List Int) : (strOfNums xs).size = xs.length := by simp [strOfNums, ByteArray.size]
def pDecoded (o : Option (List Int)) (b : Bool) : ByteArray × Bool := match o with
  | none => ((⟨#[]⟩ : ByteArray), false)
  | some out => (strOfNums out, b)
theorem draw_l1 (b : List Int) (hb : b.length ≤ 4611686018427387904) (n i : Nat) (B : Nat) (hB : B ≤ 100000)
    (cont : ∀ (s : ByteArray) (c h : Int), s.size ≤ B + 10 → 0 ≤ c → ∃ t, Ev (fun k => spec_DrawSplitFields.l0 k n s ((i + 1 : Nat) : Int) b c h) t) (hi : i ≤ 100) (d : Nat) :
    ∀ (x : Nat) (s : ByteArray) (c h : Int), x + d = 5 → s.size ≤ B + x → 0 ≤ c → ∃ t, Ev (fun k => spec_DrawSplitFields.l1 k n s i x b c h) t := by
  induction d with
  | zero =>
    intro x s c h hx hs hc
    obtain ⟨r, c1, h1, e1, p1, p1', q1⟩ := spec_l01Below_some b c h 5 hb hc
    have p2 := p1' (by omega)
    obtain ⟨t, ht⟩ := cont s c1 h1 (by omega) q1
    refine ⟨t, ev_succ ?_⟩
    simp only [spec_DrawSplitFields.l1, e1, Option.bind_some]
    rw [w64 (n := (i : Int) + 1) (by omega) (by omega), show (i : Int) + 1 = ((i + 1 : Nat) : Int) by omega]
    exact ev_ifn (by omega) ht
  | succ d ih =>
    intro x s c h hx hs hc
    obtain ⟨r, c1, h1, e1, p1, p1', q1⟩ := spec_l01Below_some b c h 5 hb hc
    by_cases hr : (x : Int) ≤ r
    · obtain ⟨y, c2, h2, e2, p2, p2', q2⟩ := spec_l01Below_some b c1 h1 94 hb q1
      have hz : (strOfNums [(wrap64 (33 + y)) % 256]).size = 1 := by simp [strOfNums, ByteArray.size]
      obtain ⟨t, ht⟩ := ih (x + 1) (s ++ strOfNums [(wrap64 (33 + y)) % 256]) c2 h2 (by omega) (by rw [ByteArray.size_append]; omega) q2
      refine ⟨t, ev_succ ?_⟩
      simp only [spec_DrawSplitFields.l1, e1, e2, Option.bind_some]
      rw [w64 (n := (x : Int) + 1) (by omega) (by omega), show (x : Int) + 1 = ((x + 1 : Nat) : Int) by omega]
      exact ev_ifp hr (ev_ifp (by omega) ht)
    · obtain ⟨t, ht⟩ := cont s c1 h1 (by omega) q1
      refine ⟨t, ev_succ ?_⟩
      simp only [spec_DrawSplitFields.l1, e1, Option.bind_some]
      rw [w64 (n := (i : Int) + 1) (by omega) (by omega), show (i : Int) + 1 = ((i + 1 : Nat) : Int) by omega]
      exact ev_ifn hr ht
theorem draw_j2 (b : List Int) (hb : b.length ≤ 4611686018427387904) (n i : Nat) (hi : i ≤ 100)
    (cont : ∀ (s : ByteArray) (c h : Int), s.size ≤ 100 * (i + 1) → 0 ≤ c → ∃ t, Ev (fun k => spec_DrawSplitFields.l0 k n s ((i + 1 : Nat) : Int) b c h) t) (o : Bool) (s : ByteArray) (c h : Int) (hs : s.size ≤ 100 * i) (hc : 0 ≤ c) :
    ∃ t, Ev (fun k => spec_DrawSplitFields.j2 k n s i o b c h) t := by
  have j3 : ∀ (s : ByteArray) (c h : Int), s.size ≤ 100 * i + 20 → 0 ≤ c → ∃ t, Ev (fun k => spec_DrawSplitFields.j3 k n s i b c h) t := by
    intro s c h hs hc
    obtain ⟨t, ht⟩ := draw_l1 b hb n i (100 * i + 20) (by omega) (fun s c h h1 h2 => cont s c h (by omega) h2) hi 5 0 s c h (by omega) (by omega) hc
    refine ⟨t, ev_succ ?_⟩
    simp only [spec_DrawSplitFields.j3]
    exact ht
  cases o with
  | false =>
    obtain ⟨t, ht⟩ := j3 s c h (by omega) hc
    refine ⟨t, ev_succ ?_⟩
    simp only [spec_DrawSplitFields.j2]
    exact ev_ifn (by decide) ht
  | true =>
    obtain ⟨x, c1, h1, e1, p1, p1', q1⟩ := spec_l01Below_some b c h 2 hb hc
    obtain ⟨y, c2, h2, e2, p2, p2', q2⟩ := spec_l01Below_some b c1 h1 3 hb q1
    have x1 := p1' (by omega)
    have y1 := p2' (by omega)
    have hxy := mul_range (a := x) (b := y) (m := 1) (n := 2) (by omega) (by omega)
    obtain ⟨q, hq⟩ : ∃ q : Nat, 1 + x * y = (q : Int) := ⟨(1 + x * y).toNat, by omega⟩
    obtain ⟨ys, hE, hl⟩ := spec_l01Long_ev q 32 (by omega)
    have hz : (strOfNums ys).size = q := by rw [strOfNums_len, hl]
    obtain ⟨t, ht⟩ := j3 (s ++ strOfNums ys) c2 h2 (by rw [ByteArray.size_append]; omega) q2
    refine ⟨t, ev_succ ?_⟩
    simp only [spec_DrawSplitFields.j2, e1, e2, Option.bind_some]
    rw [w64 (n := x * y) (by omega) (by omega), w64 (n := 1 + x * y) (by omega) (by omega), hq]
    exact ev_ifp trivial (Ev.bind hE (ev_ifp (by omega) ht))
theorem draw_l0 (b : List Int) (hb : b.length ≤ 4611686018427387904) (n : Nat) (hn : n ≤ 30) (d : Nat) : ∀ (i : Nat) (s : ByteArray) (c h : Int), i + d = n → s.size ≤ 100 * i → 0 ≤ c → ∃ t, Ev (fun k => spec_DrawSplitFields.l0 k n s i b c h) t := by
  induction d with
  | zero =>
    intro i s c h hi hs hc
    obtain ⟨r, c1, h1, e1, p1, p1', q1⟩ := spec_l01Below_some b c h 12 hb hc
    by_cases r0 : r = 0
    · obtain ⟨x, c2, h2, e2, q2, m2⟩ := spec_l01Pick_mem b c1 h1 ([(⟨#[32]⟩ : ByteArray), (⟨#[32, 32]⟩ : ByteArray), (⟨#[9]⟩ : ByteArray), (⟨#[10]⟩ : ByteArray), (⟨#[127]⟩ : ByteArray), (⟨#[233]⟩ : ByteArray)] : List ByteArray) hb q1 (by simp)
      have hx : x.size ≤ 2 := by
        simp only [List.mem_cons, List.not_mem_nil, or_false] at m2
        rcases m2 with rfl | rfl | rfl | rfl | rfl | rfl <;> decide
      refine ⟨s ++ x, ev_succ ?_⟩
      simp only [spec_DrawSplitFields.l0, e1, e2, Option.bind_some]
      exact ev_ifn (by omega) (ev_ifp r0 (ev_ifp (by omega) (Ev.now _)))
    · by_cases r1 : r = 1
      · by_cases hs6 : (s.size : Int) < 600
        · obtain ⟨x, c2, h2, e2, p2, p2', q2⟩ := spec_l01Below_some b c1 h1 2 hb q1
          have x1 := p2' (by omega)
          obtain ⟨q, hq⟩ : ∃ q : Nat, 600 - (s.size : Int) + x = (q : Int) := ⟨(600 - (s.size : Int) + x).toNat, by omega⟩
          obtain ⟨ys, hE, hl⟩ := spec_l01Long_ev q 32 (by omega)
          have hz : (strOfNums ys).size = q := by rw [strOfNums_len, hl]
          refine ⟨s ++ strOfNums ys, ev_succ ?_⟩
          simp only [spec_DrawSplitFields.l0, e1, e2, Option.bind_some]
          rw [w64 (n := 600 - (s.size : Int)) (by omega) (by omega), w64 (n := 600 - (s.size : Int) + x) (by omega) (by omega), hq]
          exact ev_ifn (by omega) (ev_ifn r0 (ev_ifp r1 (ev_ifp hs6 (Ev.bind hE (ev_ifp (by omega) (Ev.now _))))))
        · refine ⟨s, ev_succ ?_⟩
          simp only [spec_DrawSplitFields.l0, e1, Option.bind_some]
          exact ev_ifn (by omega) (ev_ifn r0 (ev_ifp r1 (ev_ifn hs6 (Ev.now _))))
      · refine ⟨s, ev_succ ?_⟩
        simp only [spec_DrawSplitFields.l0, e1, Option.bind_some]
        exact ev_ifn (by omega) (ev_ifn r0 (ev_ifn r1 (Ev.now _)))
  | succ d ih =>
    intro i s c h hi hs hc
    by_cases h0 : (i : Int) > 0
    · obtain ⟨t, ht⟩ := draw_j2 b hb n i (by omega) (fun s c h h1 h2 => ih (i + 1) s c h (by omega) h1 h2) true s c h hs hc
      refine ⟨t, ev_succ ?_⟩
      simp only [spec_DrawSplitFields.l0]
      exact ev_ifp (by omega) (ev_ifp h0 ht)
    · obtain ⟨o, c1, h1, e1, q1⟩ := spec_l01Once_some b c h 5 hb hc
      obtain ⟨t, ht⟩ := draw_j2 b hb n i (by omega) (fun s c h h1 h2 => ih (i + 1) s c h (by omega) h1 h2) o s c1 h1 hs q1
      refine ⟨t, ev_succ ?_⟩
      simp only [spec_DrawSplitFields.l0, e1, Option.bind_some]
      exact ev_ifp (by omega) (ev_ifn h0 ht)
theorem spec_DrawSplitFields_ev (xs : List Int) (hb : xs.length ≤ 4611686018427387904) : ∃ t, Ev (fun k => spec_DrawSplitFields.f k xs) t := by
  obtain ⟨h, hN⟩ := spec_l01New_ev xs hb
  unfold spec_DrawSplitFields.f
  obtain ⟨n, i1, h1, e1, p1, p1', q1⟩ := spec_l01Below_some xs 0 h 9 hb (by omega)
  obtain ⟨o, i2, h2, e2, q2⟩ := spec_l01Once_some xs i1 h1 15 hb q1
  have n1 := p1' (by omega)
  have hz : (⟨#[]⟩ : ByteArray).size = 0 := rfl
  cases o with
  | true =>
    obtain ⟨r, i3, h3, e3, p3, p3', q3⟩ := spec_l01Below_some xs i2 h2 2 hb q2
    have r1 := p3' (by omega)
    obtain ⟨q, hq⟩ : ∃ q : Nat, 24 + r = (q : Int) := ⟨(24 + r).toNat, by omega⟩
    obtain ⟨t, ht⟩ := draw_l0 xs hb q (by omega) q 0 (⟨#[]⟩ : ByteArray) i3 h3 (by omega) (by omega) q3
    refine ⟨t, Ev.bind hN ?_⟩
    simp only [e1, e2, e3, Option.bind_some, if_true]
    rw [w64 (n := 24 + r) (by omega) (by omega), hq]
    refine ev_succ ?_
    simp only [spec_DrawSplitFields.j0]
    exact ht
  | false =>
    obtain ⟨q, hq⟩ := Int.eq_ofNat_of_zero_le p1
    obtain ⟨t, ht⟩ := draw_l0 xs hb q (by omega) q 0 (⟨#[]⟩ : ByteArray) i2 h2 (by omega) (by omega) q2
    refine ⟨t, Ev.bind hN ?_⟩
    simp only [e1, e2, Option.bind_some, Bool.false_eq_true, if_false]
    rw [hq]
    refine ev_succ ?_
    simp only [spec_DrawSplitFields.j0]
    exact ht
def isBlank (c : Nat) : Bool := c == 32
def okByte (a : ByteArray) (j : Nat) : Prop := 32 ≤ bt a (j : Int) ∧ bt a (j : Int) ≤ 126
def exts (a : ByteArray) (l : List (Nat × Nat)) : List ByteArray := l.map fun x => a.extract x.1 x.2
def fin24 (l : List ByteArray) : List ByteArray × Bool := if (l.length : Int) > 24 then ([], false) else (l, true)
open Classical in
noncomputable def pSplit (a : ByteArray) : List ByteArray × Bool := if (a.size : Int) > 600 then ([], false) else if ∀ j, j < a.size → okByte a j then fin24 (Lib.goFieldsP (fun c => c == 32) a) else ([], false)
theorem decode_ok (a : ByteArray) (pos : Nat) (h : pos < a.size) (ho : okByte a pos) : Utf8.decode a pos = ((bt a (pos : Int)).toNat, 1) := by
  have e : bt a (pos : Int) = (((a[pos]'h).toNat : Nat) : Int) := by
    unfold bt
    rw [dif_pos (by omega)]
    simp
  have h2 := ho.2
  rw [e] at h2
  rw [decode_ascii a pos h (by omega), e]
  simp
theorem pSplit_length (a : ByteArray) : (pSplit a).1.length ≤ 24 := by
  unfold pSplit fin24
  split
  · simp
  · split
    · split
      · simp
      · dsimp only
        omega
    · simp
theorem impl_SplitFields_l0 (a : ByteArray) (hs : a.size ≤ 600) (d : Nat) : ∀ (pos : Nat), pos + d = a.size → Ev (fun k => impl_SplitFields.l0 k a (a.size : Int) pos) (open Classical in if ∀ j, pos ≤ j → j < a.size → okByte a j then fin24 (Lib.goFieldsP (fun c => c == 32) a) else ([], false)) := by
  induction d with
  | zero =>
    intro pos hj
    refine ev_succ ?_
    simp only [impl_SplitFields.l0]
    refine ev_ifn (by omega) ?_
    rw [if_pos (fun j h1 h2 => by omega)]
    unfold strings_FieldsFunc.f fin24
    rw [if_pos (by omega)]
    simp only [Option.bind_some]
    by_cases h : ((Lib.goFieldsP (fun c => c == 32) a).length : Int) > 24
    · exact ev_ifp h (ev_const (by rw [if_pos h]))
    · exact ev_ifn h (ev_const (by rw [if_neg h]))
  | succ d ih =>
    intro pos hj
    refine ev_succ ?_
    simp only [impl_SplitFields.l0]
    rw [wnext (n := a.size) (by omega) (by omega)]
    refine ev_ifp (by omega) (ev_ifp (by omega) (ev_ifp (by omega) ?_))
    by_cases hp : okByte a pos
    · refine ev_ifn (by have := hp.1; omega) (ev_ifn (by have := hp.2; omega) (ev_eq (ih (pos + 1) (by omega)) ?_))
      by_cases hq : ∀ j, pos + 1 ≤ j → j < a.size → okByte a j
      · rw [if_pos hq, if_pos (fun j h1 h2 => (Nat.eq_or_lt_of_le h1).elim (fun e => e ▸ hp) (fun h => hq j h h2))]
      · rw [if_neg hq, if_neg (fun c => hq fun j h1 h2 => c j (by omega) h2)]
    · rw [if_neg (fun c => hp (c pos (Nat.le_refl _) (by omega)))]
      by_cases h2 : bt a (pos : Int) < 32
      · exact ev_ifp h2 (Ev.now _)
      · have h3 : bt a (pos : Int) > 126 := by
          rcases Int.lt_or_le 126 (bt a (pos : Int)) with h | h
          · exact h
          · exact absurd ⟨by omega, h⟩ hp
        exact ev_ifn h2 (ev_ifp h3 (Ev.now _))
theorem impl_SplitFields_ev (a : ByteArray) : Ev (fun k => impl_SplitFields.f k a) (pSplit a) := by
  unfold impl_SplitFields.f pSplit
  by_cases h : (a.size : Int) > 600
  · exact ev_ifp h (ev_const (by rw [if_pos h]))
  · rw [if_neg h]
    refine ev_ifn h (ev_eq (impl_SplitFields_l0 a (by omega) a.size 0 (by omega)) ?_)
    by_cases hok : ∀ j, j < a.size → okByte a j
    · rw [if_pos (fun j _ hj => hok j hj), if_pos hok]
    · rw [if_neg (fun c => hok fun j hj => c j (Nat.zero_le _) hj), if_neg hok]
theorem spec_Split_bad (a : ByteArray) (hs : a.size ≤ 600) (d : Nat) : ∀ (pos : Nat) (begin : Int) (out : List ByteArray), pos + d = a.size → (∃ j, pos ≤ j ∧ j < a.size ∧ ¬ okByte a j) → 0 ≤ begin → begin ≤ pos → out.length ≤ pos → Ev (fun k => spec_SplitFields.l0 k a out begin pos) ([], false) := by
  induction d with
  | zero => intro pos begin out hj hx; obtain ⟨j, h1, h2, _⟩ := hx; omega
  | succ d ih =>
    intro pos begin out hj hx h0 h1 ho
    refine ev_succ ?_
    simp only [spec_SplitFields.l0]
    refine ev_ifp (by omega) (ev_ifp (by omega) (ev_ifp (by omega) ?_))
    by_cases hp : okByte a pos
    · obtain ⟨j, j1, j2, j3⟩ := hx
      have hx' : ∃ j, pos + 1 ≤ j ∧ j < a.size ∧ ¬ okByte a j := ⟨j, Nat.lt_of_le_of_ne j1 (fun e => j3 (e ▸ hp)), j2, j3⟩
      have hp1 := hp.1
      have hp2 := hp.2
      refine ev_ifn (by omega) ?_
      rw [decide_eq_false (show ¬ bt a (pos : Int) > 126 by omega)]
      refine ev_succ ?_
      simp only [spec_SplitFields.j1]
      refine ev_ifn (by decide) (ev_ifp (by omega) (ev_ifp (by omega) (ev_succ ?_)))
      simp only [spec_SplitFields.j2]
      rw [wnext (n := a.size) (by omega) (by omega)]
      by_cases h32 : (bt a (pos : Int) != 32) = true
      · exact ev_ifp h32 (ih (pos + 1) begin out (by omega) hx' h0 (by omega) (by omega))
      · refine ev_ifn h32 ?_
        by_cases hb : begin < (pos : Int)
        · exact ev_ifp hb (ev_ifp (by omega) (ev_ifp (by omega) (ev_ifp (by omega) (ev_ifp (by omega) (ih (pos + 1) _ _ (by omega) hx' (by omega) (by omega) (by simp; omega))))))
        · exact ev_ifn hb (ih (pos + 1) _ _ (by omega) hx' (by omega) (by omega) (by omega))
    · have hbad : Ev (fun k => spec_SplitFields.j1 k a out begin pos true) ([], false) := by
        refine ev_succ ?_
        simp only [spec_SplitFields.j1]
        exact ev_ifp trivial (Ev.now _)
      by_cases h2 : bt a (pos : Int) < 32
      · exact ev_ifp h2 hbad
      · refine ev_ifn h2 ?_
        have h3 : bt a (pos : Int) > 126 := by
          rcases Int.lt_or_le 126 (bt a (pos : Int)) with h | h
          · exact h
          · exact absurd ⟨by omega, h⟩ hp
        rw [decide_eq_true h3]
        exact hbad
theorem spec_Split_good (a : ByteArray) (hs : a.size ≤ 600) (hok : ∀ j, j < a.size → okByte a j) (d : Nat) : ∀ (pos begin : Nat) (st : Option Nat) (acc : List (Nat × Nat)), pos + d = a.size → (st = none ∧ begin = pos) ∨ (st = some begin ∧ begin < pos) → acc.length ≤ pos →
    Ev (fun k => spec_SplitFields.l0 k a (exts a acc) begin pos) (fin24 (exts a (Lib.closeSpans a (Lib.spansFromP (fun c => c == 32) a d pos st acc)))) := by
  have fin : ∀ (out : List ByteArray) (b : Int), Ev (fun k => spec_SplitFields.l0 k a out b ((a.size + 1 : Nat) : Int)) (fin24 out) := by
    intro out b
    refine ev_succ ?_
    simp only [spec_SplitFields.l0]
    refine ev_ifn (by omega) ?_
    unfold fin24
    by_cases h : (out.length : Int) > 24
    · exact ev_ifp h (ev_const (by rw [if_pos h]))
    · exact ev_ifn h (ev_const (by rw [if_neg h]))
  have lx : ∀ l, (exts a l).length = l.length := fun l => by simp [exts]
  have ap : ∀ l p, exts a (l ++ [p]) = exts a l ++ [a.extract p.1 p.2] := fun l p => by simp [exts]
  induction d with
  | zero =>
    intro pos begin st acc hj hst ho
    obtain rfl : pos = a.size := by omega
    refine ev_succ ?_
    simp only [spec_SplitFields.l0]
    refine ev_ifp (by omega) (ev_ifn (by omega) (ev_succ ?_))
    simp only [spec_SplitFields.j1]
    refine ev_ifn (by decide) (ev_ifn (by omega) (ev_succ ?_))
    simp only [spec_SplitFields.j2]
    rw [w64 (n := (a.size : Int) + 1) (by omega) (by omega), show (a.size : Int) + 1 = ((a.size + 1 : Nat) : Int) by omega]
    refine ev_ifn (by decide) ?_
    simp only [Lib.spansFromP]
    rcases hst with ⟨rfl, hb⟩ | ⟨rfl, hb⟩
    · simp only [Lib.closeSpans]
      exact ev_ifn (by omega) (fin _ _)
    · simp only [Lib.closeSpans]
      rw [ap]
      refine ev_ifp (by omega) (ev_ifp (by omega) (ev_ifp (by omega) (ev_ifp (by omega) (ev_ifp (by rw [lx]; omega) ?_))))
      rw [Int.toNat_natCast, Int.toNat_natCast]
      exact fin _ _
  | succ d ih =>
    intro pos begin st acc hj hst ho
    have hp := hok pos (by omega)
    have hp1 := hp.1
    have hp2 := hp.2
    have hdec := decode_ok a pos (by omega) hp
    refine ev_succ ?_
    simp only [spec_SplitFields.l0]
    refine ev_ifp (by omega) (ev_ifp (by omega) (ev_ifp (by omega) (ev_ifn (by omega) ?_)))
    rw [decide_eq_false (show ¬ bt a (pos : Int) > 126 by omega)]
    refine ev_succ ?_
    simp only [spec_SplitFields.j1]
    refine ev_ifn (by decide) (ev_ifp (by omega) (ev_ifp (by omega) (ev_succ ?_)))
    simp only [spec_SplitFields.j2]
    rw [wnext (n := a.size) (by omega) (by omega)]
    unfold Lib.spansFromP
    rw [if_pos (show pos < a.size by omega), hdec]
    simp only
    by_cases h32 : bt a (pos : Int) = 32
    · rw [h32, if_pos (show ((32 : Int).toNat == 32) = true by decide)]
      refine ev_ifn (by decide) ?_
      rcases hst with ⟨rfl, hb⟩ | ⟨rfl, hb⟩
      · exact ev_ifn (by omega) (ih (pos + 1) (pos + 1) none acc (by omega) (Or.inl ⟨rfl, rfl⟩) (by omega))
      · refine ev_ifp (by omega) (ev_ifp (by omega) (ev_ifp (by omega) (ev_ifp (by omega) (ev_ifp (by rw [lx]; omega) ?_))))
        rw [Int.toNat_natCast, Int.toNat_natCast, ← ap acc (begin, pos)]
        exact ih (pos + 1) (pos + 1) none _ (by omega) (Or.inl ⟨rfl, rfl⟩) (by simp; omega)
    · rw [if_neg (show ¬ (((bt a (pos : Int)).toNat == 32) = true) by simp only [beq_iff_eq]; omega)]
      refine ev_ifp (by simpa using h32) ?_
      rcases hst with ⟨rfl, hb⟩ | ⟨rfl, hb⟩
      · subst hb
        exact ih (begin + 1) begin (some begin) acc (by omega) (Or.inr ⟨rfl, by omega⟩) (by omega)
      · exact ih (pos + 1) begin (some begin) acc (by omega) (Or.inr ⟨rfl, by omega⟩) (by omega)
theorem spec_SplitFields_ev (a : ByteArray) : Ev (fun k => spec_SplitFields.f k a) (pSplit a) := by
  unfold spec_SplitFields.f pSplit
  simp only [Option.bind_some]
  by_cases h : (a.size : Int) > 600
  · exact ev_ifp h (ev_const (by rw [if_pos h]))
  · rw [if_neg h]
    refine ev_ifn h ?_
    by_cases hok : ∀ j, j < a.size → okByte a j
    · rw [if_pos hok]
      exact spec_Split_good a (by omega) hok a.size 0 0 none [] (by omega) (Or.inl ⟨rfl, rfl⟩) (by simp)
    · rw [if_neg hok]
      have hx : ∃ j, 0 ≤ j ∧ j < a.size ∧ ¬ okByte a j := by
        apply Classical.byContradiction
        intro c
        exact hok fun j hj => Classical.byContradiction fun c2 => c ⟨j, Nat.zero_le _, hj, c2⟩
      exact spec_Split_bad a (by omega) a.size 0 0 [] (by omega) hx (by omega) (by omega) (by simp)
theorem rdOf_at2 (xs : List ByteArray) (j : Nat) (t : ByteArray) (h : xs[j]? = some t) : rdOf ByteArray.empty xs (j : Int) = t := by
  simp [rdOf, List.getD_eq_getElem?_getD, h]
theorem laws_sameTexts_l0 (xs : List ByteArray) (hn : xs.length ≤ 4611686018427387904) (d : Nat) : ∀ j : Nat, j + d = xs.length → Ev (fun k => laws_sameTexts.l0 k xs xs j) true := by
  induction d with
  | zero =>
    intro j hj
    refine ev_succ ?_
    simp only [laws_sameTexts.l0]
    exact ev_ifn (by omega) (Ev.now _)
  | succ d ih =>
    intro j hj
    refine ev_succ ?_
    simp only [laws_sameTexts.l0]
    rw [wnext (n := xs.length) (by omega) hn]
    exact ev_ifp (by omega) (ev_ifp (by omega) (ev_ifp (by omega) (ev_ifp trivial (ih (j + 1) (by omega)))))
theorem laws_sameTexts_ev (xs : List ByteArray) (hn : xs.length ≤ 4611686018427387904) : Ev (fun k => laws_sameTexts.f k xs xs) true := by
  unfold laws_sameTexts.f
  exact ev_ifp rfl (laws_sameTexts_l0 xs hn xs.length 0 (by omega))
/-- Fields, letter by letter. -/
def flds : List UInt8 → List UInt8 → List (List UInt8)
  | [], cur => if cur = [] then [] else [cur]
  | c :: r, cur => if c.toNat = 32 then (if cur = [] then flds r [] else cur :: flds r []) else flds r (cur ++ [c])
def toBA (l : List UInt8) : ByteArray := ⟨l.toArray⟩
theorem flds_good : ∀ (l cur : List UInt8), (∀ c ∈ cur, c.toNat ≠ 32) → ∀ g ∈ flds l cur, g ≠ [] ∧ (∀ c ∈ g, c.toNat ≠ 32) ∧ (∀ c ∈ g, c ∈ cur ∨ c ∈ l) ∧ g.length ≤ cur.length + l.length
  | [], cur, hc, g, hg => by
    unfold flds at hg
    split at hg
    · simp at hg
    · rename_i h
      obtain rfl := List.mem_singleton.1 hg
      exact ⟨h, hc, fun c hc => Or.inl hc, by simp⟩
  | c :: r, cur, hc, g, hg => by
    unfold flds at hg
    split at hg
    · split at hg
      · obtain ⟨h1, h2, h3, h4⟩ := flds_good r [] (by simp) g hg
        refine ⟨h1, h2, fun x hx => ?_, by simp only [List.length_nil, List.length_cons] at h4 ⊢; omega⟩
        rcases h3 x hx with h | h
        · simp at h
        · exact Or.inr (List.mem_cons_of_mem _ h)
      · rcases List.mem_cons.1 hg with rfl | hg
        · rename_i h
          exact ⟨h, hc, fun x hx => Or.inl hx, by simp only [List.length_cons]; omega⟩
        · obtain ⟨h1, h2, h3, h4⟩ := flds_good r [] (by simp) g hg
          refine ⟨h1, h2, fun x hx => ?_, by simp only [List.length_nil, List.length_cons] at h4 ⊢; omega⟩
          rcases h3 x hx with h | h
          · simp at h
          · exact Or.inr (List.mem_cons_of_mem _ h)
    · rename_i h32
      obtain ⟨h1, h2, h3, h4⟩ := flds_good r (cur ++ [c]) (by
        intro x hx
        rcases List.mem_append.1 hx with h | h
        · exact hc x h
        · obtain rfl := List.mem_singleton.1 h
          exact h32) g hg
      refine ⟨h1, h2, fun x hx => ?_, by simp only [List.length_append, List.length_cons, List.length_nil] at h4 ⊢; omega⟩
      rcases h3 x hx with h | h
      · rcases List.mem_append.1 h with h | h
        · exact Or.inl h
        · obtain rfl := List.mem_singleton.1 h
          exact Or.inr (by simp)
      · exact Or.inr (List.mem_cons_of_mem _ h)
theorem flds_run (r : List UInt8) : ∀ (f cur : List UInt8), (∀ c ∈ f, c.toNat ≠ 32) → flds (f ++ r) cur = flds r (cur ++ f)
  | [], cur, _ => by simp
  | c :: t, cur, h => by
    simp only [List.cons_append, flds]
    rw [if_neg (h c (by simp)), flds_run r t (cur ++ [c]) (fun x hx => h x (by simp [hx]))]
    simp
def joined : List (List UInt8) → List UInt8
  | [] => []
  | f :: t => f ++ (32 :: joined t)
theorem flds_joined : ∀ fs : List (List UInt8), (∀ f ∈ fs, f ≠ [] ∧ ∀ c ∈ f, c.toNat ≠ 32) → flds (joined fs) [] = fs
  | [], _ => by simp [joined, flds]
  | f :: t, h => by
    have h1 := h f (by simp)
    simp only [joined]
    rw [flds_run _ f [] h1.2]
    simp only [List.nil_append, flds]
    rw [if_pos (by decide), if_neg h1.1, flds_joined t (fun g hg => h g (by simp [hg]))]
theorem okByte_iff (a : ByteArray) (h : ∀ c ∈ a.data.toList, 32 ≤ c.toNat ∧ c.toNat ≤ 126) : ∀ j, j < a.size → okByte a j := by
  intro j hj
  have hl : a.data.toList.length = a.size := Array.length_toList
  have := h _ (List.getElem_mem (show j < a.data.toList.length by omega))
  have e : bt a (j : Int) = (((a.data.toList[j]'(by omega)).toNat : Nat) : Int) := by
    unfold bt
    rw [dif_pos (by omega)]
    simp only [Int.toNat_natCast]
    rfl
  unfold okByte
  rw [e]
  omega
theorem okByte_mem (a : ByteArray) (h : ∀ j, j < a.size → okByte a j) : ∀ c ∈ a.data.toList, 32 ≤ c.toNat ∧ c.toNat ≤ 126 := by
  intro c hc
  have hl : a.data.toList.length = a.size := Array.length_toList
  obtain ⟨j, hj, rfl⟩ := List.getElem_of_mem hc
  have := h j (by omega)
  have e : bt a (j : Int) = (((a.data.toList[j]'hj).toNat : Nat) : Int) := by
    unfold bt
    rw [dif_pos (by omega)]
    simp only [Int.toNat_natCast]
    rfl
  unfold okByte at this
  rw [e] at this
  omega
theorem ext_toBA (a : ByteArray) (x y : Nat) : a.extract x y = toBA ((a.data.toList.drop x).take (y - x)) := by
  apply ByteArray.ext
  unfold toBA
  apply Array.toList_inj.1
  rw [ByteArray.data_extract]
  simp
theorem spans_flds (a : ByteArray) (hok : ∀ j, j < a.size → okByte a j) (d : Nat) : ∀ (pos begin : Nat) (st : Option Nat) (acc : List (Nat × Nat)), pos + d = a.size → (st = none ∧ begin = pos) ∨ (st = some begin ∧ begin < pos) →
    exts a (Lib.closeSpans a (Lib.spansFromP (fun c => c == 32) a d pos st acc)) = exts a acc ++ (flds (a.data.toList.drop pos) ((a.data.toList.drop begin).take (pos - begin))).map toBA := by
  have hl : a.data.toList.length = a.size := Array.length_toList
  have ap : ∀ l p, exts a (l ++ [p]) = exts a l ++ [a.extract p.1 p.2] := fun l p => by simp [exts]
  induction d with
  | zero =>
    intro pos begin st acc hj hst
    simp only [Lib.spansFromP]
    rw [List.drop_of_length_le (show a.data.toList.length ≤ pos by omega)]
    simp only [flds]
    rcases hst with ⟨rfl, hb⟩ | ⟨rfl, hb⟩
    · subst hb
      simp [Lib.closeSpans]
    · have hne : (a.data.toList.drop begin).take (pos - begin) ≠ [] := by
        intro e
        have := congrArg List.length e
        simp only [List.length_take, List.length_drop, List.length_nil] at this
        omega
      rw [if_neg hne]
      simp only [Lib.closeSpans, List.map_cons, List.map_nil]
      rw [ap, ext_toBA, show a.size = pos by omega]
  | succ d ih =>
    intro pos begin st acc hj hst
    have hp := hok pos (by omega)
    have hdec := decode_ok a pos (by omega) hp
    have hg := List.drop_eq_getElem_cons (show pos < a.data.toList.length by omega)
    have hbt : bt a (pos : Int) = (((a.data.toList[pos]'(by omega)).toNat : Nat) : Int) := by
      unfold bt
      rw [dif_pos (by omega)]
      simp only [Int.toNat_natCast]
      rfl
    rw [hg]
    unfold Lib.spansFromP
    rw [if_pos (show pos < a.size by omega), hdec, hbt]
    simp only [Int.toNat_natCast, flds]
    by_cases h32 : (a.data.toList[pos]'(by omega)).toNat = 32
    · rw [h32, if_pos (show ((32 : Nat) == 32) = true by decide), if_pos rfl]
      rcases hst with ⟨rfl, hb⟩ | ⟨rfl, hb⟩
      · subst hb
        simp only [Nat.sub_self, List.take_zero, if_true]
        have := ih (begin + 1) (begin + 1) none acc (by omega) (Or.inl ⟨rfl, rfl⟩)
        simpa using this
      · have hne : (a.data.toList.drop begin).take (pos - begin) ≠ [] := by
          intro e
          have := congrArg List.length e
          simp only [List.length_take, List.length_drop, List.length_nil] at this
          omega
        rw [if_neg hne]
        have := ih (pos + 1) (pos + 1) none (acc ++ [(begin, pos)]) (by omega) (Or.inl ⟨rfl, rfl⟩)
        simp only [ap, ext_toBA, Nat.sub_self, List.take_zero, List.append_assoc, List.singleton_append] at this
        simp only [List.map_cons]
        exact this
    · rw [if_neg (show ¬ (((a.data.toList[pos]'(by omega)).toNat == 32) = true) by simpa using h32), if_neg h32]
      have step : ∀ b : Nat, b ≤ pos → (a.data.toList.drop b).take (pos - b) ++ [a.data.toList[pos]'(by omega)] = (a.data.toList.drop b).take (pos + 1 - b) := by
        intro b hb
        rw [show pos + 1 - b = (pos - b) + 1 by omega, List.take_succ_eq_append_getElem (by rw [List.length_drop]; omega)]
        congr 2
        rw [List.getElem_drop]
        congr 1
        omega
      rcases hst with ⟨rfl, hb⟩ | ⟨rfl, hb⟩
      · subst hb
        rw [step begin (Nat.le_refl _)]
        exact ih (begin + 1) begin (some begin) acc (by omega) (Or.inr ⟨rfl, by omega⟩)
      · rw [step begin (by omega)]
        exact ih (pos + 1) begin (some begin) acc (by omega) (Or.inr ⟨rfl, by omega⟩)
theorem goFields_flds (a : ByteArray) (hok : ∀ j, j < a.size → okByte a j) : Lib.goFieldsP (fun c => c == 32) a = (flds a.data.toList []).map toBA := by
  have := spans_flds a hok a.size 0 0 none [] (by omega) (Or.inl ⟨rfl, rfl⟩)
  simp only [List.drop_zero, Nat.sub_self, List.take_zero] at this
  exact this
theorem toBA_size (l : List UInt8) : (toBA l).size = l.length := rfl
theorem toBA_append (l m : List UInt8) : toBA l ++ toBA m = toBA (l ++ m) := by
  apply ByteArray.ext
  simp [toBA]
theorem toBA_list (l : List UInt8) : (toBA l).data.toList = l := rfl
theorem joined_append (x y : List (List UInt8)) : joined (x ++ y) = joined x ++ joined y := by
  induction x with
  | nil => simp [joined]
  | cons f t ih => simp [joined, ih]
theorem joined_len (b : Nat) : ∀ fs : List (List UInt8), (∀ f ∈ fs, f.length ≤ b) → (joined fs).length ≤ (b + 1) * fs.length
  | [], _ => by simp [joined]
  | f :: t, h => by
    have h1 := h f (by simp)
    have h2 := joined_len b t (fun g hg => h g (by simp [hg]))
    simp only [joined, List.length_append, List.length_cons, Nat.mul_add]
    omega
theorem joined_ok (fs : List (List UInt8)) (h : ∀ f ∈ fs, ∀ c ∈ f, 32 ≤ c.toNat ∧ c.toNat ≤ 126) : ∀ c ∈ joined fs, 32 ≤ c.toNat ∧ c.toNat ≤ 126 := by
  induction fs with
  | nil => intro c hc; simp [joined] at hc
  | cons f t ih =>
    intro c hc
    simp only [joined] at hc
    rcases List.mem_append.1 hc with hc | hc
    · exact h f (by simp) c hc
    · rcases List.mem_cons.1 hc with rfl | hc
      · decide
      · exact ih (fun g hg => h g (by simp [hg])) c hc
theorem again_l0 (fs : List (List UInt8)) (hn : fs.length ≤ 24) (hlen : ∀ f ∈ fs, f.length ≤ 600) (hgood : ∀ f ∈ fs, f ≠ [] ∧ (∀ c ∈ f, c.toNat ≠ 32) ∧ ∀ c ∈ f, 32 ≤ c.toNat ∧ c.toNat ≤ 126) (d : Nat) : ∀ (j : Nat), j + d = fs.length →
    Ev (fun k => laws_FnFieldsAgain.l0 k (fs.map toBA) true (toBA (joined (fs.take j))) j) true := by
  induction d with
  | zero =>
    intro j hj
    refine ev_succ ?_
    simp only [laws_FnFieldsAgain.l0]
    rw [List.take_of_length_le (by omega)]
    refine ev_ifn (by simp; omega) (Ev.bind (impl_SplitFields_ev _) (ev_ifp trivial ?_))
    by_cases h6 : ((toBA (joined fs)).size : Int) > 600
    · exact ev_ifp h6 (Ev.now _)
    · have hok : ∀ j, j < (toBA (joined fs)).size → okByte (toBA (joined fs)) j := okByte_iff _ (joined_ok fs (fun f hf => (hgood f hf).2.2))
      have e : pSplit (toBA (joined fs)) = (fs.map toBA, true) := by
        unfold pSplit
        rw [if_neg h6, if_pos hok, goFields_flds _ hok, toBA_list, flds_joined fs (fun f hf => ⟨(hgood f hf).1, (hgood f hf).2.1⟩)]
        unfold fin24
        rw [if_neg (by simp; omega)]
      rw [e]
      exact ev_ifn h6 (ev_ifp rfl (Ev.bind (laws_sameTexts_ev _ (by simp; omega)) (Ev.now _)))
  | succ d ih =>
    intro j hj
    have hjl : j < fs.length := by omega
    have hl1 := hlen _ (List.getElem_mem hjl)
    have hb := joined_len 600 (fs.take j) (fun f hf => hlen f (List.mem_of_mem_take hf))
    have hb2 : (fs.take j).length ≤ 24 := by rw [List.length_take]; omega
    have hb3 : (600 + 1) * (fs.take j).length ≤ (600 + 1) * 24 := Nat.mul_le_mul_left _ hb2
    have e : rdOf ByteArray.empty (fs.map toBA) (j : Int) = toBA (fs[j]'hjl) := rdOf_at2 _ _ _ (by simp [List.getElem?_eq_getElem hjl])
    have s1 := toBA_size (joined (fs.take j))
    have s2 := toBA_size (fs[j]'hjl)
    refine ev_succ ?_
    simp only [laws_FnFieldsAgain.l0]
    rw [e, wnext (n := fs.length) hjl (by omega)]
    refine ev_ifp (by simp; omega) (ev_ifp (by omega) (ev_ifp (by omega) (ev_ifp (by rw [ByteArray.size_append]; omega) ?_)))
    have e2 : toBA (joined (fs.take j)) ++ toBA (fs[j]'hjl) ++ (⟨#[32]⟩ : ByteArray) = toBA (joined (fs.take (j + 1))) := by
      rw [show (⟨#[32]⟩ : ByteArray) = toBA [32] from rfl, toBA_append, toBA_append, List.take_succ_eq_append_getElem hjl, joined_append]
      simp [joined]
    rw [e2]
    exact ih (j + 1) (by omega)
theorem itoa_neg3 : Lib.itoa (-3) = [45, 51] := by
  unfold Lib.itoa
  rw [if_pos (by omega), Lib.decDigits.eq_def, dif_pos (by decide)]
  rfl
theorem FnFieldsAgain : laws_FnFieldsAgain.Pure := by
  intro l0 hm _ hx
  refine Ev.rounds (g := fun k => laws_FnFieldsAgain.f k l0) ?_
  unfold laws_FnFieldsAgain.f
  simp only [laws_big_eq, Option.bind_some]
  by_cases h : (l0.length : Int) > 1048576
  · simp only [decide_eq_true h, if_true]
    exact Ev.now _
  · simp only [decide_eq_false h, Bool.false_eq_true, if_false]
    obtain ⟨a, hd⟩ := spec_DrawSplitFields_ev l0 (by omega)
    refine Ev.bind hd (Ev.bind (impl_SplitFields_ev a) (Ev.bind (spec_SplitFields_ev a) ?_))
    have bad : pSplit a = ([], false) ∨ ((a.size : Int) ≤ 600 ∧ (∀ j, j < a.size → okByte a j) ∧ ((Lib.goFieldsP (fun c => c == 32) a).length : Int) ≤ 24 ∧ pSplit a = (Lib.goFieldsP (fun c => c == 32) a, true)) := by
      unfold pSplit fin24
      by_cases h6 : (a.size : Int) > 600
      · rw [if_pos h6]
        exact Or.inl rfl
      · rw [if_neg h6]
        by_cases hok : ∀ j, j < a.size → okByte a j
        · rw [if_pos hok]
          by_cases h24 : ((Lib.goFieldsP (fun c => c == 32) a).length : Int) > 24
          · rw [if_pos h24]
            exact Or.inl rfl
          · rw [if_neg h24]
            exact Or.inr ⟨by omega, hok, by omega, rfl⟩
        · rw [if_neg hok]
          exact Or.inl rfl
    rcases bad with e | ⟨h6, hok, h24, e⟩
    · rw [e]
      refine ev_ifn (by decide) (ev_ifn (by decide) (ev_ifp (by decide) (ev_const ?_)))
      rw [impl_FormatInt_eq (by omega)]
      simp only [Option.bind_some, itoa_neg3, ByteArray.toList_eq]
      rfl
    · rw [e, goFields_flds a hok]
      rw [goFields_flds a hok, List.length_map] at h24
      have hl : a.data.toList.length = a.size := Array.length_toList
      have hm2 := okByte_mem a hok
      have hg := flds_good a.data.toList [] (by simp)
      refine ev_ifp rfl ?_
      have := again_l0 (flds a.data.toList []) (by omega) (fun f hf => by have := (hg f hf).2.2.2; simp only [List.length_nil] at this; omega) (fun f hf => ⟨(hg f hf).1, (hg f hf).2.1, fun c hc => by
        rcases (hg f hf).2.2.1 c hc with h | h
        · simp at h
        · exact hm2 c h⟩) (flds a.data.toList []).length 0 (by omega)
      simpa [joined, toBA] using this
end Go.Proofs.YtdfgnfbcfnkncaaDoor.Pure
