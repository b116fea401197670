/- What is proved: impl.allIn answers whether all numbers of a list lie in a range, through the library's IndexFunc and ContainsFunc and the closure that holds the two bounds; no condition beyond the slice's reading. -/
import Derived.Test.YtamdbkilpllfoaaProg
import Derived.Test.YtamdbkilpllfoaaWWords
import Derived.Shelf.Abstract
import Derived.Lib.SlBy
import Derived.Lib.Walk
import Derived.WalkKit
import Derived.Deep.LoopGhost
import Derived.Deep.Draws
import Derived.Below
set_option linter.unusedVariables false
set_option linter.unusedSimpArgs false
namespace Go.Proofs.Ytamdbkilpllfoaa.Hand
open Go.RowKit Go.Lib Go.Proofs.YtamdbkilpllfoaaW.PrintWords

theorem in_calls (x lo hi : Int) (w : World) : Calls Try.prog 52 #[.int .i64 x, .int .i64 lo, .int .i64 hi] w fun e w' => e = .returned (.bool (decide (lo ≤ x ∧ x ≤ hi))) ∧ ∃ q, w' = w.drewN q := by
  by_cases h1 : lo ≤ x
  · by_cases h2 : x ≤ hi
    · have b1 : decide (lo ≤ x) = true := decide_eq_true h1
      have b2 : decide (x ≤ hi) = true := decide_eq_true h2
      rw [decide_eq_true (And.intro h1 h2)]
      go_enter Try.func52, Try.ntmps52
      go_wp2
      go_ret
      exact ⟨rfl, 0, rfl⟩
    · have b1 : decide (lo ≤ x) = true := decide_eq_true h1
      have b2 : decide (x ≤ hi) = false := decide_eq_false h2
      rw [decide_eq_false (fun c : lo ≤ x ∧ x ≤ hi => h2 c.2)]
      go_enter Try.func52, Try.ntmps52
      go_wp2
      go_ret
      exact ⟨rfl, 0, rfl⟩
  · have b1 : decide (lo ≤ x) = false := decide_eq_false h1
    rw [decide_eq_false (fun c : lo ≤ x ∧ x ≤ hi => h1 c.1)]
    go_enter Try.func52, Try.ntmps52
    go_wp2
    go_ret
    exact ⟨rfl, 0, rfl⟩

theorem closure_calls (x lo hi : Int) (B0 B1 : Nat) (W : World) (h0 : W.cell? ⟨B0, 0, none⟩ = some (.int .i64 lo)) (h1 : W.cell? ⟨B1, 0, none⟩ = some (.int .i64 hi)) :
    Calls Try.prog 75 #[.int .i64 x, .pointer (some ⟨B0, 0, none⟩), .pointer (some ⟨B1, 0, none⟩)] W fun e w' => e = .returned (.bool (!decide (lo ≤ x ∧ x ≤ hi))) ∧ ∃ q, w' = W.drewN q := by
  have hc := in_calls x lo hi
  generalize decide (lo ≤ x ∧ x ≤ hi) = b at hc ⊢
  go_enter Try.func75, Try.ntmps75
  go_wp2_with (go_at_call 52; refine (hc _).mono ?_; rintro e w' ⟨rfl, q, rfl⟩)
  go_ret
  exact ⟨rfl, q, rfl⟩

set_option maxHeartbeats 2000000 in
theorem indexFunc_calls (p : Int → Bool) (g : Nat) (lb : Array Value) (eg : ∀ args w, (callFunc g args).run Try.prog w = .ok (.enter g args) w) (a : Addr) (n c : Nat) (zs : List Int) (w : World)
    (hp : ∀ (x : Int) (q : Nat), Calls Try.prog g (#[.int .i64 x] ++ lb) (w.drewN q) fun e w' => e = .returned (.bool (p x)) ∧ ∃ q', w' = (w.drewN q).drewN q') (hz : n ≤ zs.length) (hbig : n ≤ 9223372036854775807) (hc : ∀ j, j < zs.length → w.cell? (a.add j) = some (.int .i64 zs[j]!)) :
    Calls Try.prog 82 #[.slice (some a) n c, .func (.func g) #[] lb] w fun e w' => e = .returned (.int .i64 (Lib.idxBy (fun _ y => p y) (zs.take n) (0 : Int))) ∧ ∃ q, w' = w.drewN q := by
  have hpAt := hp
  clear hp
  go_enter Try.func82, Try.ntmps82
  go_wp2
  go_loopg [5, 8] n (fun gg _ s8 wr => ∃ kk q : Nat, kk ≤ n ∧ n - kk ≤ gg ∧ s8 = .int .i64 kk ∧ wr = w.drewN q ∧ Aside (∀ j, j < kk → p zs[j]! = false))
  case atStart => exact ⟨0, 0, Nat.zero_le _, by omega, rfl, rfl, fun j hj => absurd hj (Nat.not_lt_zero _)⟩
  case round =>
    obtain ⟨kk, q, hkk, hg, rfl, rfl, A⟩ := hrel
    by_cases hlt : kk < n
    · have hltz : (kk : Int) < (n : Int) := by omega
      have hcell : w.cell? (a.add kk) = some (.int .i64 zs[kk]!) := hc kk (by omega)
      clear hc
      generalize hy : zs[kk]! = y at hcell
      have B : Aside (zs[kk]! = y) := hy
      clear hy
      have hcall := hpAt y
      cases hq : p y with
      | true =>
        rw [hq] at hcall
        go_wp2_with (go_at_fn g; refine (hcall _).mono ?_; rintro e w' ⟨rfl, q', rfl⟩)
        go_ret
        refine ⟨?_, _, rfl⟩
        rw [Lib.idxBy_hit (fun _ y => p y) zs n kk (0 : Int) hlt hz (by show p zs[kk]! = true; rw [B.out]; exact hq) A.out]
        rfl
      | false =>
        rw [hq] at hcall
        go_wp2_with (go_at_fn g; refine (hcall _).mono ?_; rintro e w' ⟨rfl, q', rfl⟩)
        go_roundg (n - (kk + 1))
        case measure => omega
        case rel =>
          refine ⟨kk + 1, _, by omega, by omega, by go_num, rfl, (show Aside _ from fun j hj => ?_)⟩
          by_cases e : j = kk
          · subst e
            rw [B.out]; exact hq
          · exact A.out j (by omega)
    · have hltz : ¬ (kk : Int) < (n : Int) := by omega
      have : kk = n := by omega
      subst this
      go_wp2
      go_ret
      refine ⟨?_, q, rfl⟩
      rw [Lib.idxBy_miss (fun _ y => p y) zs kk (0 : Int) A.out]
      rfl
set_option maxHeartbeats 1000000 in
theorem indexFunc_empty (A : Option Addr) (c : Nat) (fv : Value) (w : World) :
    Calls Try.prog 82 #[.slice A 0 c, fv] w fun e w' => e = .returned (.int .i64 (-1)) ∧ w' = w := by
  go_enter Try.func82, Try.ntmps82
  go_wp2
  go_loopg [5, 8] 0 (fun _ _ s8 wr => s8 = .int .i64 0 ∧ wr = w)
  case atStart => exact ⟨rfl, rfl⟩
  case round =>
    obtain ⟨rfl, rfl⟩ := hrel
    go_wp2
    go_ret
    exact ⟨rfl, rfl⟩

set_option maxHeartbeats 1000000 in
theorem containsFunc_calls (p : Int → Bool) (g : Nat) (lb : Array Value) (eg : ∀ args w, (callFunc g args).run Try.prog w = .ok (.enter g args) w) (A : Option Addr) (n c : Nat) (zs : List Int) (w : World)
    (hp : ∀ (x : Int) (q : Nat), Calls Try.prog g (#[.int .i64 x] ++ lb) (w.drewN q) fun e w' => e = .returned (.bool (p x)) ∧ ∃ q', w' = (w.drewN q).drewN q') (hr : Kd.C (Kd.int .i64) w A n zs) :
    Calls Try.prog 74 #[.slice A n c, .func (.func g) #[] lb] w fun e w' => e = .returned (.bool (zs.any p)) ∧ ∃ q, w' = w.drewN q := by
  obtain ⟨hl, hm, hcell⟩ := hr
  cases n with
  | zero =>
    have hz : zs = [] := List.length_eq_zero_iff.1 hl
    subst hz
    go_enter Try.func74, Try.ntmps74
    go_wp2_with (go_at_call 82; refine (indexFunc_empty A c _ _).mono ?_; rintro e w' ⟨rfl, rfl⟩)
    go_ret
    exact ⟨rfl, 0, rfl⟩
  | succ n =>
    obtain ⟨ad, rfl, hat⟩ := hcell (by omega)
    have hcells : ∀ j, j < zs.length → w.cell? (ad.add j) = some (.int .i64 zs[j]!) := by
      intro j hj
      obtain ⟨cs, hcs, hK, hu⟩ := hat j zs[j] (List.getElem?_eq_getElem hj)
      have hK' : cs = [.int .i64 zs[j]] := hK
      subst hK'
      have := hu 0 _ rfl
      rw [show j * (Kd.int .i64).sz + 0 = j from by show j * 1 + 0 = j; omega] at this
      rw [this]
      simp [hj]
    have hi := indexFunc_calls p g lb eg ad (n + 1) c zs w hp (by omega) (by omega) hcells
    have e1 : zs.take (n + 1) = zs := List.take_of_length_le (by omega)
    rw [e1] at hi
    have e2 : zs.any p = decide (0 ≤ Lib.idxBy (fun _ y => p y) zs (0 : Int)) := (Lib.idxBy_nonneg_iff (fun _ y => p y) zs (0 : Int)).symm
    rw [e2]
    clear hat hcells hcell hp e1 e2
    generalize Lib.idxBy (fun _ y => p y) zs (0 : Int) = r at hi ⊢
    go_enter Try.func74, Try.ntmps74
    go_wp2_with (go_at_call 82; refine hi.mono ?_; rintro e w' ⟨rfl, q, rfl⟩)
    go_ret
    exact ⟨rfl, q, rfl⟩

set_option maxHeartbeats 1000000 in
theorem allIn_calls (A : Option Addr) (n c : Nat) (zs : List Int) (lo hi : Int) (w : World) (hr : Kd.C (Kd.int .i64) w A n zs) :
    Calls Try.prog 50 #[.slice A n c, .int .i64 lo, .int .i64 hi] w fun e w' => e = .returned (.bool (zs.all fun x => decide (lo ≤ x ∧ x ≤ hi))) ∧ Below w.heap.size w w' := by
  have eg : ∀ args w, (callFunc 75 args).run Try.prog w = .ok (.enter 75 args) w := enters_of Try.func75 (by kernel_rfl) rfl
  have hb : Below w.heap.size w ((w.alloc (.cells #[.int .i64 lo] 3)).alloc (.cells #[.int .i64 hi] 3)) := ((Below.refl _ _).alloc (Nat.le_refl _) _).alloc (by simp) _
  have hcon := containsFunc_calls (fun x => !decide (lo ≤ x ∧ x ≤ hi)) 75 #[.pointer (some ⟨w.heap.size, 0, none⟩), .pointer (some ⟨w.heap.size + 1, 0, none⟩)] eg A n c zs ((w.alloc (.cells #[.int .i64 lo] 3)).alloc (.cells #[.int .i64 hi] 3)) (fun x q => closure_calls x lo hi w.heap.size (w.heap.size + 1) _ (by simp) (by simp)) (Kd.C_below hr hb)
  have e : (zs.all fun x => decide (lo ≤ x ∧ x ≤ hi)) = !(zs.any fun x => !decide (lo ≤ x ∧ x ≤ hi)) := List.all_eq_not_any_not
  rw [e]
  clear e hr eg
  generalize (zs.any fun x => !decide (lo ≤ x ∧ x ≤ hi)) = r at hcon ⊢
  go_enter Try.func50, Try.ntmps50
  go_wp2_with (go_at_call 74; refine hcon.mono ?_; rintro e w' ⟨rfl, q, rfl⟩)
  go_ret
  exact ⟨rfl, pw_below_drewN hb q⟩
end Go.Proofs.Ytamdbkilpllfoaa.Hand
