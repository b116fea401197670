/- What is proved: impl.BatchesOk answers whether there are at most ten batches, all in their form, through the library's IndexFunc and ContainsFunc and a closure; no condition beyond the slice's reading. -/
import Derived.Test.YtjkpdpggnapmlaaProg
import Derived.Test.YtjkpdpggnapmlaaWWords
import Derived.Shelf.Abstract
import Derived.Lib.SlBy
import Derived.Lib.Walk
import Derived.Lib.Hide
import Derived.WalkKit
import Derived.Deep.LoopGhost
import Derived.Deep.Draws
import Derived.Below
import Derived.BigQuiet
set_option linter.unusedVariables false
set_option linter.unusedSimpArgs false
namespace Go.Proofs.Ytjkpdpggnapmlaa.Hand
open Go.RowKit Go.Lib Go.Proofs.YtjkpdpggnapmlaaW.PrintWords

/-- A slice of pairs of whole numbers, as it lies. -/
def Pairs (w : World) (A : Option Addr) (zs : List (Int × Int)) : Prop :=
  zs.length ≤ 9223372036854775807 ∧ (0 < zs.length → ∃ ad, A = some ad ∧ ∀ i p, zs[i]? = some p → w.cell? (ad.add (i * 2)) = some (.int .i64 p.1) ∧ w.cell? ⟨(ad.add (i * 2)).block, (ad.add (i * 2)).off + 1, none⟩ = some (.int .i64 p.2))
theorem Pairs.below {w W : World} {A : Option Addr} {zs : List (Int × Int)} (h : Pairs w A zs) (hb : Below w.heap.size w W) : Pairs W A zs :=
  ⟨h.1, fun hz => by
    obtain ⟨ad, e, hc⟩ := h.2 hz
    refine ⟨ad, e, fun i p hp => ?_⟩
    obtain ⟨c0, c1⟩ := hc i p hp
    exact ⟨pw_cell_below hb c0, pw_cell_below hb c1⟩⟩

theorem in_calls (x lo hi : Int) (w : World) : Calls Try.prog 36 #[.int .i64 x, .int .i64 lo, .int .i64 hi] w fun e w' => e = .returned (.bool (decide (lo ≤ x ∧ x ≤ hi))) ∧ ∃ q, w' = w.drewN q := by
  by_cases h1 : lo ≤ x
  · by_cases h2 : x ≤ hi
    · have b1 : decide (lo ≤ x) = true := decide_eq_true h1
      have b2 : decide (x ≤ hi) = true := decide_eq_true h2
      rw [decide_eq_true (And.intro h1 h2)]
      go_enter Try.func36, Try.ntmps36
      go_wp2
      go_ret
      exact ⟨rfl, 0, rfl⟩
    · have b1 : decide (lo ≤ x) = true := decide_eq_true h1
      have b2 : decide (x ≤ hi) = false := decide_eq_false h2
      rw [decide_eq_false (fun c : lo ≤ x ∧ x ≤ hi => h2 c.2)]
      go_enter Try.func36, Try.ntmps36
      go_wp2
      go_ret
      exact ⟨rfl, 0, rfl⟩
  · have b1 : decide (lo ≤ x) = false := decide_eq_false h1
    rw [decide_eq_false (fun c : lo ≤ x ∧ x ≤ hi => h1 c.1)]
    go_enter Try.func36, Try.ntmps36
    go_wp2
    go_ret
    exact ⟨rfl, 0, rfl⟩

def okB (p : Int × Int) : Bool := decide ((1 ≤ p.1 ∧ p.1 ≤ 500) ∧ (1 ≤ p.2 ∧ p.2 ≤ 200))

theorem batchOk_calls (p : Int × Int) (w : World) : Calls Try.prog 32 #[.agg #[.int .i64 p.1, .int .i64 p.2]] w fun e w' => e = .returned (.bool (okB p)) ∧ Below w.heap.size w w' := by
  obtain ⟨a, b⟩ := p
  show Calls Try.prog 32 #[.agg #[.int .i64 a, .int .i64 b]] w fun e w' => e = .returned (.bool (okB (a, b))) ∧ Below w.heap.size w w'
  have h1 := in_calls a 1 500
  have h2 := in_calls b 1 200
  have hb : Below w.heap.size w (w.alloc (.cells #[.int .i64 a, .int .i64 b] 39)) := (Below.refl _ _).alloc (Nat.le_refl _) _
  by_cases c1 : 1 ≤ a ∧ a ≤ 500
  · by_cases c2 : 1 ≤ b ∧ b ≤ 200
    · rw [decide_eq_true c1] at h1
      rw [decide_eq_true c2] at h2
      rw [show okB (a, b) = true from decide_eq_true ⟨c1, c2⟩]
      clear c1 c2
      go_enter Try.func32, Try.ntmps32
      go_wp2_with (first | ((with_reducible refine (h1 _).mono ?_); rintro e w' ⟨rfl, q, rfl⟩) | ((with_reducible refine (h2 _).mono ?_); rintro e w' ⟨rfl, q2, rfl⟩))
      go_ret
      exact ⟨rfl, pw_below_drewN hb _⟩
    · rw [decide_eq_true c1] at h1
      rw [decide_eq_false c2] at h2
      rw [show okB (a, b) = false from decide_eq_false (fun c => c2 c.2)]
      clear c1 c2
      go_enter Try.func32, Try.ntmps32
      go_wp2_with (first | ((with_reducible refine (h1 _).mono ?_); rintro e w' ⟨rfl, q, rfl⟩) | ((with_reducible refine (h2 _).mono ?_); rintro e w' ⟨rfl, q2, rfl⟩))
      go_ret
      exact ⟨rfl, pw_below_drewN hb _⟩
  · rw [decide_eq_false c1] at h1
    rw [show okB (a, b) = false from decide_eq_false (fun c => c1 c.1)]
    clear c1
    go_enter Try.func32, Try.ntmps32
    go_wp2_with (first | ((with_reducible refine (h1 _).mono ?_); rintro e w' ⟨rfl, q, rfl⟩))
    go_ret
    exact ⟨rfl, pw_below_drewN hb _⟩

theorem closure_calls (p : Int × Int) (w0 W : World) (hW : Below w0.heap.size w0 W) : Calls Try.prog 31 (#[.agg #[.int .i64 p.1, .int .i64 p.2]] ++ #[]) W fun e w' => e = .returned (.bool (!okB p)) ∧ Below w0.heap.size w0 w' := by
  show Calls Try.prog 31 #[.agg #[.int .i64 p.1, .int .i64 p.2]] W fun e w' => e = .returned (.bool (!okB p)) ∧ Below w0.heap.size w0 w'
  have hc := batchOk_calls p
  have hb : Below w0.heap.size w0 (W.alloc (.cells #[.int .i64 p.1, .int .i64 p.2] 39)) := hW.alloc hW.size _
  generalize okB p = b at hc ⊢
  obtain ⟨x, y⟩ := p
  dsimp only at hc hb ⊢
  go_enter Try.func31, Try.ntmps31
  go_wp2_with (go_at_call 32; refine (hc _).mono ?_; rintro e w' ⟨rfl, hb2⟩)
  go_ret
  exact ⟨rfl, below_then hb hb.size hb2⟩

set_option maxHeartbeats 2000000 in
theorem indexFunc_calls (p : Int × Int → Bool) (g : Nat) (lb : Array Value) (eg : ∀ args w, (callFunc g args).run Try.prog w = .ok (.enter g args) w) (A : Option Addr) (c : Nat) (zs : List (Int × Int)) (w : World)
    (hp : ∀ (x : Int × Int) (W : World), Below w.heap.size w W → Calls Try.prog g (#[.agg #[.int .i64 x.1, .int .i64 x.2]] ++ lb) W fun e w' => e = .returned (.bool (p x)) ∧ Below w.heap.size w w') (hr : Pairs w A zs) :
    Calls Try.prog 40 #[.slice A zs.length c, .func (.func g) #[] lb] w fun e w' => e = .returned (.int .i64 (Lib.idxBy (fun _ y => p y) zs ((0 : Int), (0 : Int)))) ∧ Below w.heap.size w w' := by
  have HR : Aside (Pairs w A zs) := hr
  clear hr
  have hbig : zs.length ≤ 9223372036854775807 := HR.out.1
  have hp1 : ∀ (j : Nat) (hj : j < zs.length), zs[j]! = zs[j] := fun j hj => getElem!_pos zs j hj
  go_enter Try.func40, Try.ntmps40
  go_wp2
  go_loopg [5, 8] zs.length (fun gg _ s8 wr => ∃ kk : Nat, kk ≤ zs.length ∧ zs.length - kk ≤ gg ∧ s8 = .int .i64 kk ∧ Aside (Below w.heap.size w wr) ∧ Aside (∀ j, j < kk → p zs[j]! = false))
  case atStart => exact ⟨0, Nat.zero_le _, by omega, rfl, Below.refl _ w, fun j hj => absurd hj (Nat.not_lt_zero _)⟩
  case round =>
    obtain ⟨kk, hkk, hg, rfl, BW, A2⟩ := hrel
    by_cases hlt : kk < zs.length
    · have hltz : (kk : Int) < (zs.length : Int) := by omega
      obtain ⟨ad, rfl, hcells⟩ := HR.out.2 (by omega)
      have hy0 := hcells kk zs[kk] (List.getElem?_eq_getElem hlt)
      have c0 := pw_cell_below BW.out hy0.1
      have c1 := pw_cell_below BW.out hy0.2
      have hcall := hp zs[kk] wr BW.out
      clear hcells hy0
      generalize hy : zs[kk] = y at c0 c1 hcall
      have B : Aside (zs[kk]! = y) := (hp1 kk hlt).trans hy
      clear hy hp1
      obtain ⟨y0, y1⟩ := y
      dsimp only at c0 c1 hcall
      cases hq : p (y0, y1) with
      | true =>
        rw [hq] at hcall
        go_wp2_with (go_at_fn g; refine hcall.mono ?_; rintro e w' ⟨rfl, hb'⟩)
        go_ret
        refine ⟨?_, hb'⟩
        have := Lib.idxBy_hit (fun _ y => p y) zs zs.length kk ((0 : Int), (0 : Int)) hlt (Nat.le_refl _) (by show p zs[kk]! = true; rw [B.out]; exact hq) A2.out
        rw [List.take_length] at this
        rw [this]
        rfl
      | false =>
        rw [hq] at hcall
        go_wp2_with (go_at_fn g; refine hcall.mono ?_; rintro e w' ⟨rfl, hb'⟩)
        go_roundg (zs.length - (kk + 1))
        case measure => omega
        case rel =>
          refine ⟨kk + 1, by omega, by omega, by go_num, hb', (show Aside _ from fun j hj => ?_)⟩
          by_cases e : j = kk
          · subst e
            rw [B.out]; exact hq
          · exact A2.out j (by omega)
    · have hltz : ¬ (kk : Int) < (zs.length : Int) := by omega
      obtain rfl : kk = zs.length := by omega
      clear hp1
      go_wp2
      go_ret
      refine ⟨?_, BW.out⟩
      have := Lib.idxBy_miss (fun _ y => p y) zs zs.length ((0 : Int), (0 : Int)) A2.out
      rw [List.take_length] at this
      rw [this]
      rfl
set_option maxHeartbeats 1000000 in
theorem containsFunc_calls (p : Int × Int → Bool) (g : Nat) (lb : Array Value) (eg : ∀ args w, (callFunc g args).run Try.prog w = .ok (.enter g args) w) (A : Option Addr) (c : Nat) (zs : List (Int × Int)) (w : World)
    (hp : ∀ (x : Int × Int) (W : World), Below w.heap.size w W → Calls Try.prog g (#[.agg #[.int .i64 x.1, .int .i64 x.2]] ++ lb) W fun e w' => e = .returned (.bool (p x)) ∧ Below w.heap.size w w') (hr : Pairs w A zs) :
    Calls Try.prog 30 #[.slice A zs.length c, .func (.func g) #[] lb] w fun e w' => e = .returned (.bool (zs.any p)) ∧ Below w.heap.size w w' := by
  have hi := indexFunc_calls p g lb eg A c zs w hp hr
  have e2 : zs.any p = decide (0 ≤ Lib.idxBy (fun _ y => p y) zs ((0 : Int), (0 : Int))) := (Lib.idxBy_nonneg_iff (fun _ y => p y) zs ((0 : Int), (0 : Int))).symm
  rw [e2]
  clear hp hr e2
  generalize Lib.idxBy (fun _ y => p y) zs ((0 : Int), (0 : Int)) = r at hi ⊢
  go_enter Try.func30, Try.ntmps30
  go_wp2_with (go_at_call 40; refine hi.mono ?_; rintro e w' ⟨rfl, hb⟩)
  go_ret
  exact ⟨rfl, hb⟩

set_option maxHeartbeats 1000000 in
theorem batchesOk_calls (A : Option Addr) (c : Nat) (zs : List (Int × Int)) (w : World) (hr : Pairs w A zs) :
    Calls Try.prog 12 #[.slice A zs.length c] w fun e w' => e = .returned (.bool (decide (zs.length ≤ 10) && zs.all okB)) ∧ Below w.heap.size w w' := by
  have eg : ∀ args w, (callFunc 31 args).run Try.prog w = .ok (.enter 31 args) w := enters_of Try.func31 (by kernel_rfl) rfl
  have hcon := containsFunc_calls (fun x => !okB x) 31 #[] eg A c zs w (fun x W hW => closure_calls x w W hW) hr
  have hbig := hr.1
  have e : zs.all okB = !(zs.any fun x => !okB x) := List.all_eq_not_any_not
  rw [e]
  clear e hr eg
  generalize (zs.any fun x => !okB x) = r at hcon ⊢
  by_cases h : zs.length ≤ 10
  · have h1 : decide ((zs.length : Int) ≤ 10) = true := decide_eq_true (by omega)
    rw [decide_eq_true h, Bool.true_and]
    clear h
    go_enter Try.func12, Try.ntmps12
    go_wp2_with (go_at_call 30; refine hcon.mono ?_; rintro e w' ⟨rfl, hb⟩)
    go_ret
    exact ⟨rfl, hb⟩
  · have h1 : decide ((zs.length : Int) ≤ 10) = false := decide_eq_false (by omega)
    rw [decide_eq_false h, Bool.false_and]
    clear h
    go_enter Try.func12, Try.ntmps12
    go_wp2_with (go_at_call 30; refine hcon.mono ?_; rintro e w' ⟨rfl, hb⟩)
    go_ret
    exact ⟨rfl, Below.refl _ _⟩
end Go.Proofs.Ytjkpdpggnapmlaa.Hand
