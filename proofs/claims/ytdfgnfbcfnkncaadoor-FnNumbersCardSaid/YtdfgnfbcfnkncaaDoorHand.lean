/- What is proved: impl.FormatInt and impl.ParseUint, over the library's contracts for strconv.Itoa and strconv.Atoi, in a world that holds the table of powers of ten and the two sentinels; no other condition than a string of at most 2^48 bytes. -/
import Derived.Test.YtdfgnfbcfnkncaaDoorProg
import Derived.Test.YtdfgnfbcfnkncaaDoorWWords
import Derived.Test.YtdfgnfbcfnkncaaDoorShelfTwo
import Derived.Lib.SmallJoins
import Derived.Lib.AppendIntMem
import Derived.Lib.AtoiErrMem
import Derived.Lib.AtoiAllCases
import Derived.Lib.Walk
import Derived.WalkKit
import Derived.Below
set_option linter.unusedVariables false
set_option linter.unusedSimpArgs false
namespace Go.Proofs.YtdfgnfbcfnkncaaDoor.Hand
open Go.RowKit Go.Proofs.YtdfgnfbcfnkncaaDoorW.PrintWords

/-- What the listed variables hold, as far as the walks read them. -/
def Held (w : World) : Prop := Lib.TabIs Tryd.prog w "internal/strconv.uint64pow10" .u64 Lib.pow10Tab ∧ (∃ tp p, w.var? Tryd.prog "strconv.ErrSyntax" = some #[.iface tp p]) ∧ (∃ tp p, w.var? Tryd.prog "strconv.ErrRange" = some #[.iface tp p])
theorem held_stays {w w' : World} (h : Held w) (hb : Below w.heap.size w w') : Held w' := by
  obtain ⟨h1, ⟨tp, p, h2⟩, ⟨tq, q, h3⟩⟩ := h
  exact ⟨Go.Joins.tab_stays (show Tryd.prog.globalNamed "internal/strconv.uint64pow10" = some 2 by kernel_rfl) h1 hb (Nat.le_refl _), ⟨tp, p, Go.Joins.var_stays (show Tryd.prog.globalNamed "strconv.ErrSyntax" = some 0 by kernel_rfl) h2 hb (Nat.le_refl _)⟩, ⟨tq, q, Go.Joins.var_stays (show Tryd.prog.globalNamed "strconv.ErrRange" = some 1 by kernel_rfl) h3 hb (Nat.le_refl _)⟩⟩

theorem in_calls (x lo hi : Int) (w : World) : Calls Tryd.prog 31 #[.int .i64 x, .int .i64 lo, .int .i64 hi] w fun e w' => e = .returned (.bool (decide (lo ≤ x ∧ x ≤ hi))) ∧ ∃ q, w' = w.drewN q := by
  by_cases h1 : lo ≤ x
  · by_cases h2 : x ≤ hi
    · have b1 : decide (lo ≤ x) = true := decide_eq_true h1
      have b2 : decide (x ≤ hi) = true := decide_eq_true h2
      rw [decide_eq_true (And.intro h1 h2)]
      go_enter Tryd.func31, Tryd.ntmps31
      go_wp2
      go_ret
      exact ⟨rfl, 0, rfl⟩
    · have b1 : decide (lo ≤ x) = true := decide_eq_true h1
      have b2 : decide (x ≤ hi) = false := decide_eq_false h2
      rw [decide_eq_false (fun c : lo ≤ x ∧ x ≤ hi => h2 c.2)]
      go_enter Tryd.func31, Tryd.ntmps31
      go_wp2
      go_ret
      exact ⟨rfl, 0, rfl⟩
  · have b1 : decide (lo ≤ x) = false := decide_eq_false h1
    rw [decide_eq_false (fun c : lo ≤ x ∧ x ≤ hi => h1 c.1)]
    go_enter Tryd.func31, Tryd.ntmps31
    go_wp2
    go_ret
    exact ⟨rfl, 0, rfl⟩

theorem formatInt_calls (n : Int) (h : -9223372036854775808 ≤ n ∧ n ≤ 9223372036854775807) (w : World) (hh : Held w) :
    Calls Tryd.prog 11 #[.int .i64 n] w fun e w' => e = .returned (.string ⟨(Lib.itoa n).toArray⟩) ∧ Below w.heap.size w w' := by
  have htab := hh.1
  go_enter Tryd.func11, Tryd.ntmps11
  go_wp2_with (go_at_call 27; refine (Tryd.strconv_Itoa _ h.1 h.2 _ htab).mono ?_; rintro e w' ⟨rfl, k, os, rfl⟩)
  go_ret
  exact ⟨rfl, Lib.below_grow _ _ (Nat.le_refl _) k os⟩

def pParse (l : List UInt8) : Int × Bool := match Lib.atoiAll l with
  | .ok v => if Lib.itoa v = l ∧ (0 ≤ v ∧ v ≤ 1000000000) then (v, true) else (0, false)
  | _ => (0, false)

theorem parse_calls (s : ByteArray) (hs : s.size ≤ 281474976710656) (w : World) (hh : Held w) :
    Calls Tryd.prog 15 #[.string s] w fun e w' => e = .returned (.tuple #[.int .i64 (pParse s.data.toList).1, .bool (pParse s.data.toList).2]) ∧ Below w.heap.size w w' := by
  obtain ⟨_, ⟨tp, p, hsyn⟩, ⟨tq, q, hran⟩⟩ := id hh
  cases h : Lib.atoiAll s.data.toList with
  | «syntax» =>
    have e0 : pParse s.data.toList = (0, false) := by unfold pParse; rw [h]
    rw [e0]
    go_enter Tryd.func15, Tryd.ntmps15
    go_wp2_with (first | (go_at_call 30; refine (Tryd.strconv_Atoi_syntax_var s hs h tp p w hsyn).mono ?_; rintro e w' ⟨N, rfl, hN, hN2, hb⟩))
    go_ret2
    exact ⟨rfl, hb⟩
  | range =>
    have e0 : pParse s.data.toList = (0, false) := by unfold pParse; rw [h]
    rw [e0]
    go_enter Tryd.func15, Tryd.ntmps15
    go_wp2_with (first | (go_at_call 30; refine (Tryd.strconv_Atoi_range_var s hs h tq q w hran).mono ?_; rintro e w' ⟨N, rfl, hN, hN2, hb⟩))
    go_ret2
    exact ⟨rfl, hb⟩
  | ok v =>
    have hv := Lib.atoiAll_bounds h
    have at_ : Calls Tryd.prog 30 #[.string s] w (fun e w' => e = .returned (.tuple #[.int .i64 v, .nilIface]) ∧ Below w.heap.size w w') := (Tryd.strconv_Atoi_ok s (by omega) v h w).mono (by
      rintro e w' ⟨h1, h2⟩
      refine ⟨h1, ?_⟩
      rcases h2 with rfl | ⟨t, rfl⟩
      · exact Below.refl _ _
      · exact Lib.bytesWorld_below _ _ _)
    have hin := fun W => in_calls v 0 1000000000 W
    by_cases h1 : Lib.itoa v = s.data.toList
    · have e4 : Lib.itoa v = s.toList := by rw [ByteArray.toList_eq]; exact h1
      have e3 : (Lib.itoa v == s.toList) = true := beq_iff_eq.mpr e4
      have e5 := eq_true e4
      have e1 : ((⟨(Lib.itoa v).toArray⟩ : ByteArray).toList == s.toList) = true := by rw [ByteArray.toList_eq, ByteArray.toList_eq, ← h1]; simp
      have e2 : ((⟨(Lib.itoa v).toArray⟩ : ByteArray).toList != s.toList) = false := by rw [bne, e1]; rfl
      by_cases h2 : 0 ≤ v ∧ v ≤ 1000000000
      · rw [decide_eq_true h2] at hin
        have e0 : pParse s.data.toList = (v, true) := by unfold pParse; rw [h]; exact if_pos ⟨h1, h2⟩
        rw [e0]
        clear h h1 h2 e0
        go_enter Tryd.func15, Tryd.ntmps15
        go_wp2_with (first | (go_at_call 30; refine at_.mono ?_; rintro e w1 ⟨rfl, hb1⟩) | (go_at_call 11; refine (formatInt_calls v hv _ (held_stays hh (by repeat (first | exact hb1 | apply below_drew1 | apply pw_below_drewN)))).mono ?_; rintro e w2 ⟨rfl, hb2⟩; replace hb2 := below_step (by repeat (first | exact hb1 | apply below_drew1 | apply pw_below_drewN)) hb2) | (go_at_call 31; refine (hin _).mono ?_; rintro e w3 ⟨rfl, q3, rfl⟩))
        go_ret2
        exact ⟨rfl, by repeat (first | exact hb2 | apply below_drew1 | apply pw_below_drewN)⟩
      · rw [decide_eq_false h2] at hin
        have e0 : pParse s.data.toList = (0, false) := by unfold pParse; rw [h]; exact if_neg (fun c => h2 c.2)
        rw [e0]
        clear h h1 h2 e0
        go_enter Tryd.func15, Tryd.ntmps15
        go_wp2_with (first | (go_at_call 30; refine at_.mono ?_; rintro e w1 ⟨rfl, hb1⟩) | (go_at_call 11; refine (formatInt_calls v hv _ (held_stays hh (by repeat (first | exact hb1 | apply below_drew1 | apply pw_below_drewN)))).mono ?_; rintro e w2 ⟨rfl, hb2⟩; replace hb2 := below_step (by repeat (first | exact hb1 | apply below_drew1 | apply pw_below_drewN)) hb2) | (go_at_call 31; refine (hin _).mono ?_; rintro e w3 ⟨rfl, q3, rfl⟩))
        go_ret2
        exact ⟨rfl, by repeat (first | exact hb2 | apply below_drew1 | apply pw_below_drewN)⟩
    · have e4 : ¬ Lib.itoa v = s.toList := by rw [ByteArray.toList_eq]; exact h1
      have e3 : (Lib.itoa v == s.toList) = false := beq_eq_false_iff_ne.mpr e4
      have e5 := eq_false e4
      have e1 : ((⟨(Lib.itoa v).toArray⟩ : ByteArray).toList == s.toList) = false := by rw [ByteArray.toList_eq, ByteArray.toList_eq]; simpa using h1
      have e2 : ((⟨(Lib.itoa v).toArray⟩ : ByteArray).toList != s.toList) = true := by rw [bne, e1]; rfl
      have e0 : pParse s.data.toList = (0, false) := by unfold pParse; rw [h]; exact if_neg (fun c => h1 c.1)
      rw [e0]
      clear h h1 e0
      go_enter Tryd.func15, Tryd.ntmps15
      go_wp2_with (first | (go_at_call 30; refine at_.mono ?_; rintro e w1 ⟨rfl, hb1⟩) | (go_at_call 11; refine (formatInt_calls v hv _ (held_stays hh (by repeat (first | exact hb1 | apply below_drew1 | apply pw_below_drewN)))).mono ?_; rintro e w2 ⟨rfl, hb2⟩; replace hb2 := below_step (by repeat (first | exact hb1 | apply below_drew1 | apply pw_below_drewN)) hb2) | (go_at_call 31; refine (hin _).mono ?_; rintro e w3 ⟨rfl, q3, rfl⟩))
      go_ret2
      exact ⟨rfl, by repeat (first | exact hb2 | apply below_drew1 | apply pw_below_drewN)⟩
end Go.Proofs.YtdfgnfbcfnkncaaDoor.Hand
