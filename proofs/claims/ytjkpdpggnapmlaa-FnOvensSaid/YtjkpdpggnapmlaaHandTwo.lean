/- What is proved: the closure of impl.JoinSame's sort answers the difference of the minutes, and slices.SortFunc over it sorts a row of at most 12 batches by insertion; no other condition. -/
import Derived.Test.YtjkpdpggnapmlaaProg
import Derived.Test.YtjkpdpggnapmlaaWWords
import Derived.Test.YtjkpdpggnapmlaaShelf
import Derived.Test.YtjkpdpggnapmlaaHand
import Derived.Lib.Walk
import Derived.WalkKit
import Derived.Below
set_option linter.unusedVariables false
set_option linter.unusedSimpArgs false
namespace Go.Proofs.Ytjkpdpggnapmlaa.Hand
open Go.RowKit Go.Lib Go.Sort Go.Shelf Go.Proofs.YtjkpdpggnapmlaaW.PrintWords

def encB (x : Int × Int) : List Value := [.int .i64 x.1, .int .i64 x.2]
def cmpB (x y : Int × Int) : Int := wrap64 (x.2 - y.2)

set_option maxHeartbeats 1000000 in
theorem cmpB_calls (x y : Int × Int) (W : World) : Calls Try.prog 43 #[.agg #[.int .i64 x.1, .int .i64 x.2], .agg #[.int .i64 y.1, .int .i64 y.2]] W fun e w' => e = .returned (.int .i64 (cmpB x y)) ∧ ∃ q os', w' = grow (W.drewN q) os' := by
  unfold cmpB
  go_enter Try.func43, Try.ntmps43
  go_wp2
  go_ret
  exact ⟨rfl, 0, _, by rw [alloc_eq_grow, alloc_eq_grow, grow_grow]; rfl⟩
theorem cmpB_lays (blk off size : Nat) (w : World) : CmpLays Try.prog 43 #[] encB 2 cmpB blk off size w :=
  fun _ _ _ _ x y => cmpB_calls x y _
theorem bitsLen_calls (n : Nat) (W : World) (h : n ≤ 12) : Calls Try.prog 46 #[.int .u64 n] W fun e w' => (∃ l : Int, e = .returned (.int .i64 l)) ∧ w' = W :=
  (Any.bits_Len Try.bitsLen2 n W (by omega) (by omega)).mono fun _ _ ⟨he, hw⟩ => ⟨⟨_, he⟩, hw⟩
theorem sort_calls (blk off cap : Nat) (d : Array (Int × Int)) (w : World) (hH : HoldsK encB 2 w blk off d) (hblk : blk < w.heap.size) (h12 : d.size ≤ 12) :
    Calls Try.prog 42 #[.slice (some ⟨blk, off, none⟩) d.size cap, .func (.func 43) #[] #[]] w fun e w' => e = .returned (.tuple #[]) ∧ ∃ n os, w' = sortWorldK encB 2 w blk off n (Sort.insertionSort (ltOf cmpB) d 0 d.size) os :=
  AnyQ.slices_SortFunc_small Try.sortBatch 2 Try.isAgg39 Try.sizeOf39 encB (fun _ => rfl) (fun x v hv => by simp [encB] at hv; rcases hv with rfl | rfl <;> rfl) cmpB 43 #[] blk off cap d w (enters_of Try.func43 (by kernel_rfl) rfl) (cmpB_lays blk off d.size w) hH hblk h12 bitsLen_calls
/-- The closure that JoinSame hands to IndexFunc: are the minutes those of the batch that it holds. -/
theorem same_calls (x : Int × Int) (m : Int) (g : Nat) (w0 W : World) (hW : Below w0.heap.size w0 W) (hc : W.cell? ⟨g, 1, none⟩ = some (.int .i64 m)) (hg : g < W.heap.size) :
    Calls Try.prog 41 (#[.agg #[.int .i64 x.1, .int .i64 x.2]] ++ #[.pointer (some ⟨g, 0, none⟩)]) W fun e w' => e = .returned (.bool (x.2 == m)) ∧ Below w0.heap.size w0 w' := by
  show Calls Try.prog 41 #[.agg #[.int .i64 x.1, .int .i64 x.2], .pointer (some ⟨g, 0, none⟩)] W fun e w' => e = .returned (.bool (x.2 == m)) ∧ Below w0.heap.size w0 w'
  obtain ⟨a, b⟩ := x
  have hb : Below w0.heap.size w0 (W.alloc (.cells #[.int .i64 a, .int .i64 b] 39)) := hW.alloc hW.size _
  have hc2 : (W.alloc (.cells #[.int .i64 a, .int .i64 b] 39)).cell? ⟨g, 1, none⟩ = some (.int .i64 m) := pw_cell_below ((Below.refl W.heap.size W).alloc (Nat.le_refl _) _) hc
  dsimp only at hb hc2 ⊢
  by_cases h : b = m
  · subst h
    have h1 : (b == b) = true := beq_iff_eq.mpr rfl
    have h2 : decide (b = b) = true := decide_eq_true rfl
    rw [h1]
    go_enter Try.func41, Try.ntmps41
    go_wp2
    go_ret
    exact ⟨rfl, by repeat (first | exact hb | apply below_drew1 | apply pw_below_drewN)⟩
  · have h1 : (b == m) = false := beq_eq_false_iff_ne.mpr h
    have h2 : decide (b = m) = false := decide_eq_false h
    rw [h1]
    go_enter Try.func41, Try.ntmps41
    go_wp2
    go_ret
    exact ⟨rfl, by repeat (first | exact hb | apply below_drew1 | apply pw_below_drewN)⟩
/-- Where the batches are not valid, JoinSame hands back nil. -/
theorem join_nil (A : Option Addr) (c : Nat) (zs : List (Int × Int)) (w : World) (hr : Pairs w A zs) (h : (decide (zs.length ≤ 10) && zs.all okB) = false) :
    Calls Try.prog 24 #[.slice A zs.length c] w fun e w' => e = .returned (.slice none 0 0) ∧ Below w.heap.size w w' := by
  have hb := batchesOk_calls A c zs w hr
  rw [h] at hb
  clear h hr
  go_enter Try.func24, Try.ntmps24
  go_wp2_with (first | (go_at_call 12; refine hb.mono ?_; rintro e w1 ⟨rfl, hb1⟩))
  go_ret
  exact ⟨rfl, by repeat (first | exact hb1 | apply below_drew1 | apply pw_below_drewN)⟩
end Go.Proofs.Ytjkpdpggnapmlaa.Hand
