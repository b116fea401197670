/-
  No cell of these rows narrows 'for every input' (looked for: loops, veiled, ifaces, maps, wideKeys, modest, calm, conditions, laid).
  DERIVED. THE GIVEN ROWS OF THIS SEAT. 6 by the template 'for every input the law returns true; each argument reads behind the call as it read before'; 0 by the template 'total and deterministic' (their statements: YtjkpdpggnapmlaaTotals.lean).
  GIVEN WITH THE SEED: the statements are not yours to turn. If you find one false, say at which input.
  Laid BY PROGRAM, IN A SANDBOX (cutbox-rows.mjs): the forced cells as the released guide's own fill.sh prints them over the translation bbd1b793db1b32c5… (all of the seat's roots in one cut). By AI agents, Wed Nov 11 2026. No macro, syntax, notation, axiom, sorry.
-/
import Derived.Test.YtjkpdpggnapmlaaChecked
import GoSem.Claim
import GoSem.ClaimJoined
import GoSem.ClaimMapViews
import Derived.JoinedTies
import Derived.KernelRfl
namespace Go.Proofs.Ytjkpdpggnapmlaa
/- THE CELL 'sum', in the pinned program and in every row, IS THE sha256 OF THE DUMP (.gsa) THAT YtjkpdpggnapmlaaProg.lean LOADS. Nothing in Lean hashes anything: it is a label: what it is worth is what the hold of that sum in a sandbox is worth. -/
noncomputable def Try.pinned : Pinned := { name := "ytjkpdpggnapmlaa", sum := "bbd1b793db1b32c5fb9bc80f4f889c746b0cf3fae53f30c2a59f8fc73b0ec1bd", checked := Try.checked }
namespace Rows
def none {H : Type} : Left H := { results := [], args := [] }

/-- 'laws.FnExactBatchesOk': WHATEVER THE INPUT: true; the input reads as it did. -/
def fnExactBatchesOkSpec : ChangeSpec := { name := "fnExactBatchesOk", fn := fun _ => fun
  | [d] => { results := [.lit (.bool true)], args := [d] }
  | _ => none }
def fnExactBatchesOkRow : OpenClaim := { program := "ytjkpdpggnapmlaa", sum := "bbd1b793db1b32c5fb9bc80f4f889c746b0cf3fae53f30c2a59f8fc73b0ec1bd", func := "loop.example/g03310/laws.FnExactBatchesOk", spec := "fnExactBatchesOk", unfollowed := true, recurses := true, apart := false }
def FnExactBatchesOkSaid : Prop := fnExactBatchesOkRow.holds Try.pinned (OpenSpec.ofChange fnExactBatchesOkSpec)

/-- ITS FALSE NEIGHBOUR: 'it returns false'. Refute it at one input. -/
def fnExactBatchesOkWrong : ChangeSpec := { name := "fnExactBatchesOk", fn := fun _ => fun
  | [d] => { results := [.lit (.bool false)], args := [d] }
  | _ => none }
def FnExactBatchesOkWrongFalsely : Prop := fnExactBatchesOkRow.holds Try.pinned (OpenSpec.ofChange fnExactBatchesOkWrong)

/-- 'laws.FnExactOvenTime': WHATEVER THE INPUT: true; the input reads as it did. -/
def fnExactOvenTimeSpec : ChangeSpec := { name := "fnExactOvenTime", fn := fun _ => fun
  | [d1, d2, d3] => { results := [.lit (.bool true)], args := [d1, d2, d3] }
  | _ => none }
def fnExactOvenTimeRow : OpenClaim := { program := "ytjkpdpggnapmlaa", sum := "bbd1b793db1b32c5fb9bc80f4f889c746b0cf3fae53f30c2a59f8fc73b0ec1bd", func := "loop.example/g03310/laws.FnExactOvenTime", spec := "fnExactOvenTime", unfollowed := true, recurses := true, apart := false }
def FnExactOvenTimeSaid : Prop := fnExactOvenTimeRow.holds Try.pinned (OpenSpec.ofChange fnExactOvenTimeSpec)

/-- ITS FALSE NEIGHBOUR: 'it returns false'. Refute it at one input. -/
def fnExactOvenTimeWrong : ChangeSpec := { name := "fnExactOvenTime", fn := fun _ => fun
  | [d1, d2, d3] => { results := [.lit (.bool false)], args := [d1, d2, d3] }
  | _ => none }
def FnExactOvenTimeWrongFalsely : Prop := fnExactOvenTimeRow.holds Try.pinned (OpenSpec.ofChange fnExactOvenTimeWrong)

/-- 'laws.FnExactLeastRoom': WHATEVER THE INPUT: true; the input reads as it did. -/
def fnExactLeastRoomSpec : ChangeSpec := { name := "fnExactLeastRoom", fn := fun _ => fun
  | [d1, d2, d3] => { results := [.lit (.bool true)], args := [d1, d2, d3] }
  | _ => none }
def fnExactLeastRoomRow : OpenClaim := { program := "ytjkpdpggnapmlaa", sum := "bbd1b793db1b32c5fb9bc80f4f889c746b0cf3fae53f30c2a59f8fc73b0ec1bd", func := "loop.example/g03310/laws.FnExactLeastRoom", spec := "fnExactLeastRoom", unfollowed := true, recurses := true, apart := false }
def FnExactLeastRoomSaid : Prop := fnExactLeastRoomRow.holds Try.pinned (OpenSpec.ofChange fnExactLeastRoomSpec)

/-- ITS FALSE NEIGHBOUR: 'it returns false'. Refute it at one input. -/
def fnExactLeastRoomWrong : ChangeSpec := { name := "fnExactLeastRoom", fn := fun _ => fun
  | [d1, d2, d3] => { results := [.lit (.bool false)], args := [d1, d2, d3] }
  | _ => none }
def FnExactLeastRoomWrongFalsely : Prop := fnExactLeastRoomRow.holds Try.pinned (OpenSpec.ofChange fnExactLeastRoomWrong)

/-- 'laws.FnExactEmptyPlaces': WHATEVER THE INPUT: true; the input reads as it did. -/
def fnExactEmptyPlacesSpec : ChangeSpec := { name := "fnExactEmptyPlaces", fn := fun _ => fun
  | [d1, d2] => { results := [.lit (.bool true)], args := [d1, d2] }
  | _ => none }
def fnExactEmptyPlacesRow : OpenClaim := { program := "ytjkpdpggnapmlaa", sum := "bbd1b793db1b32c5fb9bc80f4f889c746b0cf3fae53f30c2a59f8fc73b0ec1bd", func := "loop.example/g03310/laws.FnExactEmptyPlaces", spec := "fnExactEmptyPlaces", unfollowed := true, recurses := true, apart := false }
def FnExactEmptyPlacesSaid : Prop := fnExactEmptyPlacesRow.holds Try.pinned (OpenSpec.ofChange fnExactEmptyPlacesSpec)

/-- ITS FALSE NEIGHBOUR: 'it returns false'. Refute it at one input. -/
def fnExactEmptyPlacesWrong : ChangeSpec := { name := "fnExactEmptyPlaces", fn := fun _ => fun
  | [d1, d2] => { results := [.lit (.bool false)], args := [d1, d2] }
  | _ => none }
def FnExactEmptyPlacesWrongFalsely : Prop := fnExactEmptyPlacesRow.holds Try.pinned (OpenSpec.ofChange fnExactEmptyPlacesWrong)

/-- 'laws.FnOvens': WHATEVER THE INPUT: true; the input reads as it did. -/
def fnOvensSpec : ChangeSpec := { name := "fnOvens", fn := fun _ => fun
  | [d] => { results := [.lit (.bool true)], args := [d] }
  | _ => none }
def fnOvensRow : OpenClaim := { program := "ytjkpdpggnapmlaa", sum := "bbd1b793db1b32c5fb9bc80f4f889c746b0cf3fae53f30c2a59f8fc73b0ec1bd", func := "loop.example/g03310/laws.FnOvens", spec := "fnOvens", unfollowed := true, recurses := true, apart := false }
def FnOvensSaid : Prop := fnOvensRow.holds Try.pinned (OpenSpec.ofChange fnOvensSpec)

/-- ITS FALSE NEIGHBOUR: 'it returns false'. Refute it at one input. -/
def fnOvensWrong : ChangeSpec := { name := "fnOvens", fn := fun _ => fun
  | [d] => { results := [.lit (.bool false)], args := [d] }
  | _ => none }
def FnOvensWrongFalsely : Prop := fnOvensRow.holds Try.pinned (OpenSpec.ofChange fnOvensWrong)

/-- 'laws.FnExactJoinSame': WHATEVER THE INPUT: true; the input reads as it did. -/
def fnExactJoinSameSpec : ChangeSpec := { name := "fnExactJoinSame", fn := fun _ => fun
  | [d] => { results := [.lit (.bool true)], args := [d] }
  | _ => none }
def fnExactJoinSameRow : OpenClaim := { program := "ytjkpdpggnapmlaa", sum := "bbd1b793db1b32c5fb9bc80f4f889c746b0cf3fae53f30c2a59f8fc73b0ec1bd", func := "loop.example/g03310/laws.FnExactJoinSame", spec := "fnExactJoinSame", unfollowed := true, recurses := true, apart := false }
def FnExactJoinSameSaid : Prop := fnExactJoinSameRow.holds Try.pinned (OpenSpec.ofChange fnExactJoinSameSpec)

/-- ITS FALSE NEIGHBOUR: 'it returns false'. Refute it at one input. -/
def fnExactJoinSameWrong : ChangeSpec := { name := "fnExactJoinSame", fn := fun _ => fun
  | [d] => { results := [.lit (.bool false)], args := [d] }
  | _ => none }
def FnExactJoinSameWrongFalsely : Prop := fnExactJoinSameRow.holds Try.pinned (OpenSpec.ofChange fnExactJoinSameWrong)

/- THE SECOND FORM. 'bulk': how many values and letters a reading holds, each counted each time it is reached (what is shared counts as often as it is met; a slice's spare places count too). A statement '..UptoSaid' is the law's where the arguments, and the package variables that the reading takes, are together of bulk at most 1048576: NARROWER than '..Said'. Prove '..Said' where nothing that the law and all that it calls make is longer than what came in: it says more and counts as full. Else prove '..UptoSaid'. A law counts once. -/
mutual
def uptoBulk {H : Type} : DataW H → Nat
  | .lit (.string bytes) => bytes.length + 1
  | .lit _ => 1
  | .nil => 1
  | .ptr d => uptoBulk d + 1
  | .slice elems spare => uptoBulkAll elems + uptoBulkAll spare + 1
  | .agg parts => uptoBulkAll parts + 1
  | .iface _ d => uptoBulk d + 1
  | .map entries => uptoBulkEntries entries + 1
  | .held _ => 1
def uptoBulkAll {H : Type} : List (DataW H) → Nat
  | [] => 0
  | d :: r => uptoBulk d + uptoBulkAll r
def uptoBulkEntries {H : Type} : List (Lit × DataW H) → Nat
  | [] => 0
  | x :: r => uptoBulkEntry x + uptoBulkEntries r
def uptoBulkEntry {H : Type} : Lit × DataW H → Nat
  | (.string bytes, d) => bytes.length + uptoBulk d + 1
  | (_, d) => uptoBulk d + 1
 end
def uptoSmall : (H : Type) → List (DataW H) → Bool := fun _ ds => decide (uptoBulkAll ds ≤ 1048576)
def OpenSpec.upto (s : _root_.Go.ChangeSpec) : _root_.Go.OpenSpec := { _root_.Go.OpenSpec.ofChange s with cond := some uptoSmall }

/-- 'laws.FnExactBatchesOk', WHERE WHAT IT READS IS OF BULK AT MOST 1048576: true; the input reads as it did. -/
def fnExactBatchesOkUptoRow : OpenClaim := { program := "ytjkpdpggnapmlaa", sum := "bbd1b793db1b32c5fb9bc80f4f889c746b0cf3fae53f30c2a59f8fc73b0ec1bd", func := "loop.example/g03310/laws.FnExactBatchesOk", spec := "fnExactBatchesOk", unfollowed := true, recurses := true, apart := false, narrowed := true }
def FnExactBatchesOkUptoSaid : Prop := fnExactBatchesOkUptoRow.holds Try.pinned (OpenSpec.upto fnExactBatchesOkSpec)

/-- 'laws.FnExactOvenTime', WHERE WHAT IT READS IS OF BULK AT MOST 1048576: true; the input reads as it did. -/
def fnExactOvenTimeUptoRow : OpenClaim := { program := "ytjkpdpggnapmlaa", sum := "bbd1b793db1b32c5fb9bc80f4f889c746b0cf3fae53f30c2a59f8fc73b0ec1bd", func := "loop.example/g03310/laws.FnExactOvenTime", spec := "fnExactOvenTime", unfollowed := true, recurses := true, apart := false, narrowed := true }
def FnExactOvenTimeUptoSaid : Prop := fnExactOvenTimeUptoRow.holds Try.pinned (OpenSpec.upto fnExactOvenTimeSpec)

/-- 'laws.FnExactLeastRoom', WHERE WHAT IT READS IS OF BULK AT MOST 1048576: true; the input reads as it did. -/
def fnExactLeastRoomUptoRow : OpenClaim := { program := "ytjkpdpggnapmlaa", sum := "bbd1b793db1b32c5fb9bc80f4f889c746b0cf3fae53f30c2a59f8fc73b0ec1bd", func := "loop.example/g03310/laws.FnExactLeastRoom", spec := "fnExactLeastRoom", unfollowed := true, recurses := true, apart := false, narrowed := true }
def FnExactLeastRoomUptoSaid : Prop := fnExactLeastRoomUptoRow.holds Try.pinned (OpenSpec.upto fnExactLeastRoomSpec)

/-- 'laws.FnExactEmptyPlaces', WHERE WHAT IT READS IS OF BULK AT MOST 1048576: true; the input reads as it did. -/
def fnExactEmptyPlacesUptoRow : OpenClaim := { program := "ytjkpdpggnapmlaa", sum := "bbd1b793db1b32c5fb9bc80f4f889c746b0cf3fae53f30c2a59f8fc73b0ec1bd", func := "loop.example/g03310/laws.FnExactEmptyPlaces", spec := "fnExactEmptyPlaces", unfollowed := true, recurses := true, apart := false, narrowed := true }
def FnExactEmptyPlacesUptoSaid : Prop := fnExactEmptyPlacesUptoRow.holds Try.pinned (OpenSpec.upto fnExactEmptyPlacesSpec)

/-- 'laws.FnOvens', WHERE WHAT IT READS IS OF BULK AT MOST 1048576: true; the input reads as it did. -/
def fnOvensUptoRow : OpenClaim := { program := "ytjkpdpggnapmlaa", sum := "bbd1b793db1b32c5fb9bc80f4f889c746b0cf3fae53f30c2a59f8fc73b0ec1bd", func := "loop.example/g03310/laws.FnOvens", spec := "fnOvens", unfollowed := true, recurses := true, apart := false, narrowed := true }
def FnOvensUptoSaid : Prop := fnOvensUptoRow.holds Try.pinned (OpenSpec.upto fnOvensSpec)

/-- 'laws.FnExactJoinSame', WHERE WHAT IT READS IS OF BULK AT MOST 1048576: true; the input reads as it did. -/
def fnExactJoinSameUptoRow : OpenClaim := { program := "ytjkpdpggnapmlaa", sum := "bbd1b793db1b32c5fb9bc80f4f889c746b0cf3fae53f30c2a59f8fc73b0ec1bd", func := "loop.example/g03310/laws.FnExactJoinSame", spec := "fnExactJoinSame", unfollowed := true, recurses := true, apart := false, narrowed := true }
def FnExactJoinSameUptoSaid : Prop := fnExactJoinSameUptoRow.holds Try.pinned (OpenSpec.upto fnExactJoinSameSpec)

end Rows
end Go.Proofs.Ytjkpdpggnapmlaa
