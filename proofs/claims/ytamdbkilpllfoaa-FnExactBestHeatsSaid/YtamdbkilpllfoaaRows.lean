/-
  No cell of these rows narrows 'for every input' (looked for: loops, veiled, ifaces, maps, wideKeys, modest, calm, conditions, laid).
  DERIVED. THE GIVEN ROWS OF THIS SEAT. 9 by the template 'for every input the law returns true; each argument reads behind the call as it read before'; 0 by the template 'total and deterministic' (their statements: YtamdbkilpllfoaaTotals.lean).
  GIVEN WITH THE SEED: the statements are not yours to turn. If you find one false, say at which input.
  Laid BY PROGRAM, IN A SANDBOX (cutbox-rows.mjs): the forced cells as the released guide's own fill.sh prints them over the translation 5a88903850925fdb… (all of the seat's roots in one cut). By AI agents, Wed Nov 11 2026. No macro, syntax, notation, axiom, sorry.
-/
import Derived.Test.YtamdbkilpllfoaaChecked
import GoSem.Claim
import GoSem.ClaimJoined
import GoSem.ClaimMapViews
import Derived.JoinedTies
import Derived.KernelRfl
namespace Go.Proofs.Ytamdbkilpllfoaa
/- THE CELL 'sum', in the pinned program and in every row, IS THE sha256 OF THE DUMP (.gsa) THAT YtamdbkilpllfoaaProg.lean LOADS. Nothing in Lean hashes anything: it is a label: what it is worth is what the hold of that sum in a sandbox is worth. -/
noncomputable def Try.pinned : Pinned := { name := "ytamdbkilpllfoaa", sum := "5a88903850925fdb980d0fe6f370ba9a1b7e39523a6cdd898a827d818f76a6ce", checked := Try.checked }
namespace Rows
def none {H : Type} : Left H := { results := [], args := [] }

/-- 'laws.FnExactRiseAfter': WHATEVER THE INPUT: true; the input reads as it did. -/
def fnExactRiseAfterSpec : ChangeSpec := { name := "fnExactRiseAfter", fn := fun _ => fun
  | [d] => { results := [.lit (.bool true)], args := [d] }
  | _ => none }
def fnExactRiseAfterRow : OpenClaim := { program := "ytamdbkilpllfoaa", sum := "5a88903850925fdb980d0fe6f370ba9a1b7e39523a6cdd898a827d818f76a6ce", func := "loop.example/g03310/laws.FnExactRiseAfter", spec := "fnExactRiseAfter", unfollowed := true, recurses := true, apart := false }
def FnExactRiseAfterSaid : Prop := fnExactRiseAfterRow.holds Try.pinned (OpenSpec.ofChange fnExactRiseAfterSpec)

/-- ITS FALSE NEIGHBOUR: 'it returns false'. Refute it at one input. -/
def fnExactRiseAfterWrong : ChangeSpec := { name := "fnExactRiseAfter", fn := fun _ => fun
  | [d] => { results := [.lit (.bool false)], args := [d] }
  | _ => none }
def FnExactRiseAfterWrongFalsely : Prop := fnExactRiseAfterRow.holds Try.pinned (OpenSpec.ofChange fnExactRiseAfterWrong)

/-- 'laws.FnExactReadyAt': WHATEVER THE INPUT: true; the input reads as it did. -/
def fnExactReadyAtSpec : ChangeSpec := { name := "fnExactReadyAt", fn := fun _ => fun
  | [d1, d2] => { results := [.lit (.bool true)], args := [d1, d2] }
  | _ => none }
def fnExactReadyAtRow : OpenClaim := { program := "ytamdbkilpllfoaa", sum := "5a88903850925fdb980d0fe6f370ba9a1b7e39523a6cdd898a827d818f76a6ce", func := "loop.example/g03310/laws.FnExactReadyAt", spec := "fnExactReadyAt", unfollowed := true, recurses := true, apart := false }
def FnExactReadyAtSaid : Prop := fnExactReadyAtRow.holds Try.pinned (OpenSpec.ofChange fnExactReadyAtSpec)

/-- ITS FALSE NEIGHBOUR: 'it returns false'. Refute it at one input. -/
def fnExactReadyAtWrong : ChangeSpec := { name := "fnExactReadyAt", fn := fun _ => fun
  | [d1, d2] => { results := [.lit (.bool false)], args := [d1, d2] }
  | _ => none }
def FnExactReadyAtWrongFalsely : Prop := fnExactReadyAtRow.holds Try.pinned (OpenSpec.ofChange fnExactReadyAtWrong)

/-- 'laws.FnRises': WHATEVER THE INPUT: true; the input reads as it did. -/
def fnRisesSpec : ChangeSpec := { name := "fnRises", fn := fun _ => fun
  | [d] => { results := [.lit (.bool true)], args := [d] }
  | _ => none }
def fnRisesRow : OpenClaim := { program := "ytamdbkilpllfoaa", sum := "5a88903850925fdb980d0fe6f370ba9a1b7e39523a6cdd898a827d818f76a6ce", func := "loop.example/g03310/laws.FnRises", spec := "fnRises", unfollowed := true, recurses := true, apart := false }
def FnRisesSaid : Prop := fnRisesRow.holds Try.pinned (OpenSpec.ofChange fnRisesSpec)

/-- ITS FALSE NEIGHBOUR: 'it returns false'. Refute it at one input. -/
def fnRisesWrong : ChangeSpec := { name := "fnRises", fn := fun _ => fun
  | [d] => { results := [.lit (.bool false)], args := [d] }
  | _ => none }
def FnRisesWrongFalsely : Prop := fnRisesRow.holds Try.pinned (OpenSpec.ofChange fnRisesWrong)

/-- 'laws.FnPortions': WHATEVER THE INPUT: true; the input reads as it did. -/
def fnPortionsSpec : ChangeSpec := { name := "fnPortions", fn := fun _ => fun
  | [d] => { results := [.lit (.bool true)], args := [d] }
  | _ => none }
def fnPortionsRow : OpenClaim := { program := "ytamdbkilpllfoaa", sum := "5a88903850925fdb980d0fe6f370ba9a1b7e39523a6cdd898a827d818f76a6ce", func := "loop.example/g03310/laws.FnPortions", spec := "fnPortions", unfollowed := true, recurses := true, apart := false }
def FnPortionsSaid : Prop := fnPortionsRow.holds Try.pinned (OpenSpec.ofChange fnPortionsSpec)

/-- ITS FALSE NEIGHBOUR: 'it returns false'. Refute it at one input. -/
def fnPortionsWrong : ChangeSpec := { name := "fnPortions", fn := fun _ => fun
  | [d] => { results := [.lit (.bool false)], args := [d] }
  | _ => none }
def FnPortionsWrongFalsely : Prop := fnPortionsRow.holds Try.pinned (OpenSpec.ofChange fnPortionsWrong)

/-- 'laws.FnExactDoughForAll': WHATEVER THE INPUT: true; the input reads as it did. -/
def fnExactDoughForAllSpec : ChangeSpec := { name := "fnExactDoughForAll", fn := fun _ => fun
  | [d1, d2] => { results := [.lit (.bool true)], args := [d1, d2] }
  | _ => none }
def fnExactDoughForAllRow : OpenClaim := { program := "ytamdbkilpllfoaa", sum := "5a88903850925fdb980d0fe6f370ba9a1b7e39523a6cdd898a827d818f76a6ce", func := "loop.example/g03310/laws.FnExactDoughForAll", spec := "fnExactDoughForAll", unfollowed := true, recurses := true, apart := false }
def FnExactDoughForAllSaid : Prop := fnExactDoughForAllRow.holds Try.pinned (OpenSpec.ofChange fnExactDoughForAllSpec)

/-- ITS FALSE NEIGHBOUR: 'it returns false'. Refute it at one input. -/
def fnExactDoughForAllWrong : ChangeSpec := { name := "fnExactDoughForAll", fn := fun _ => fun
  | [d1, d2] => { results := [.lit (.bool false)], args := [d1, d2] }
  | _ => none }
def FnExactDoughForAllWrongFalsely : Prop := fnExactDoughForAllRow.holds Try.pinned (OpenSpec.ofChange fnExactDoughForAllWrong)

/-- 'laws.FnLeavens': WHATEVER THE INPUT: true; the input reads as it did. -/
def fnLeavensSpec : ChangeSpec := { name := "fnLeavens", fn := fun _ => fun
  | [d] => { results := [.lit (.bool true)], args := [d] }
  | _ => none }
def fnLeavensRow : OpenClaim := { program := "ytamdbkilpllfoaa", sum := "5a88903850925fdb980d0fe6f370ba9a1b7e39523a6cdd898a827d818f76a6ce", func := "loop.example/g03310/laws.FnLeavens", spec := "fnLeavens", unfollowed := true, recurses := true, apart := false }
def FnLeavensSaid : Prop := fnLeavensRow.holds Try.pinned (OpenSpec.ofChange fnLeavensSpec)

/-- ITS FALSE NEIGHBOUR: 'it returns false'. Refute it at one input. -/
def fnLeavensWrong : ChangeSpec := { name := "fnLeavens", fn := fun _ => fun
  | [d] => { results := [.lit (.bool false)], args := [d] }
  | _ => none }
def FnLeavensWrongFalsely : Prop := fnLeavensRow.holds Try.pinned (OpenSpec.ofChange fnLeavensWrong)

/-- 'laws.FnExactKeepForDays': WHATEVER THE INPUT: true; the input reads as it did. -/
def fnExactKeepForDaysSpec : ChangeSpec := { name := "fnExactKeepForDays", fn := fun _ => fun
  | [d1, d2] => { results := [.lit (.bool true)], args := [d1, d2] }
  | _ => none }
def fnExactKeepForDaysRow : OpenClaim := { program := "ytamdbkilpllfoaa", sum := "5a88903850925fdb980d0fe6f370ba9a1b7e39523a6cdd898a827d818f76a6ce", func := "loop.example/g03310/laws.FnExactKeepForDays", spec := "fnExactKeepForDays", unfollowed := true, recurses := true, apart := false }
def FnExactKeepForDaysSaid : Prop := fnExactKeepForDaysRow.holds Try.pinned (OpenSpec.ofChange fnExactKeepForDaysSpec)

/-- ITS FALSE NEIGHBOUR: 'it returns false'. Refute it at one input. -/
def fnExactKeepForDaysWrong : ChangeSpec := { name := "fnExactKeepForDays", fn := fun _ => fun
  | [d1, d2] => { results := [.lit (.bool false)], args := [d1, d2] }
  | _ => none }
def FnExactKeepForDaysWrongFalsely : Prop := fnExactKeepForDaysRow.holds Try.pinned (OpenSpec.ofChange fnExactKeepForDaysWrong)

/-- 'laws.FnExactOrderCost': WHATEVER THE INPUT: true; the input reads as it did. -/
def fnExactOrderCostSpec : ChangeSpec := { name := "fnExactOrderCost", fn := fun _ => fun
  | [d1, d2, d3] => { results := [.lit (.bool true)], args := [d1, d2, d3] }
  | _ => none }
def fnExactOrderCostRow : OpenClaim := { program := "ytamdbkilpllfoaa", sum := "5a88903850925fdb980d0fe6f370ba9a1b7e39523a6cdd898a827d818f76a6ce", func := "loop.example/g03310/laws.FnExactOrderCost", spec := "fnExactOrderCost", unfollowed := true, recurses := true, apart := false }
def FnExactOrderCostSaid : Prop := fnExactOrderCostRow.holds Try.pinned (OpenSpec.ofChange fnExactOrderCostSpec)

/-- ITS FALSE NEIGHBOUR: 'it returns false'. Refute it at one input. -/
def fnExactOrderCostWrong : ChangeSpec := { name := "fnExactOrderCost", fn := fun _ => fun
  | [d1, d2, d3] => { results := [.lit (.bool false)], args := [d1, d2, d3] }
  | _ => none }
def FnExactOrderCostWrongFalsely : Prop := fnExactOrderCostRow.holds Try.pinned (OpenSpec.ofChange fnExactOrderCostWrong)

/-- 'laws.FnExactBestHeats': WHATEVER THE INPUT: true; the input reads as it did. -/
def fnExactBestHeatsSpec : ChangeSpec := { name := "fnExactBestHeats", fn := fun _ => fun
  | [d1, d2] => { results := [.lit (.bool true)], args := [d1, d2] }
  | _ => none }
def fnExactBestHeatsRow : OpenClaim := { program := "ytamdbkilpllfoaa", sum := "5a88903850925fdb980d0fe6f370ba9a1b7e39523a6cdd898a827d818f76a6ce", func := "loop.example/g03310/laws.FnExactBestHeats", spec := "fnExactBestHeats", unfollowed := true, recurses := true, apart := false }
def FnExactBestHeatsSaid : Prop := fnExactBestHeatsRow.holds Try.pinned (OpenSpec.ofChange fnExactBestHeatsSpec)

/-- ITS FALSE NEIGHBOUR: 'it returns false'. Refute it at one input. -/
def fnExactBestHeatsWrong : ChangeSpec := { name := "fnExactBestHeats", fn := fun _ => fun
  | [d1, d2] => { results := [.lit (.bool false)], args := [d1, d2] }
  | _ => none }
def FnExactBestHeatsWrongFalsely : Prop := fnExactBestHeatsRow.holds Try.pinned (OpenSpec.ofChange fnExactBestHeatsWrong)

/- THE SECOND FORM. 'bulk': how many values and letters a reading holds, each counted each time it is reached (what is shared counts as often as it is met; a slice's spare places count too). A statement '..UptoSaid' is the law's where the arguments, and the package variables that the reading takes, are together of bulk at most 1048576: NARROWER than '..Said'. Prove '..Said' where nothing that the law and all that it calls make is longer than what came in: it says more and counts as full. Else prove '..UptoSaid'. A law counts once. -/
mutual
def uptoBulk {H : Type} : DataW H → Nat
  | .lit (.string bytes) => bytes.length + 1
  | .lit _ => 1
  | .nil => 1
  | .ptr d => uptoBulk d + 1
  | .slice elems spare => uptoBulkAll elems + uptoBulkAll spare + 1
  | .agg parts => uptoBulkAll parts + 1
  | .iface _ d => uptoBulk d + 1
  | .map entries => uptoBulkEntries entries + 1
  | .held _ => 1
def uptoBulkAll {H : Type} : List (DataW H) → Nat
  | [] => 0
  | d :: r => uptoBulk d + uptoBulkAll r
def uptoBulkEntries {H : Type} : List (Lit × DataW H) → Nat
  | [] => 0
  | x :: r => uptoBulkEntry x + uptoBulkEntries r
def uptoBulkEntry {H : Type} : Lit × DataW H → Nat
  | (.string bytes, d) => bytes.length + uptoBulk d + 1
  | (_, d) => uptoBulk d + 1
 end
def uptoSmall : (H : Type) → List (DataW H) → Bool := fun _ ds => decide (uptoBulkAll ds ≤ 1048576)
def OpenSpec.upto (s : _root_.Go.ChangeSpec) : _root_.Go.OpenSpec := { _root_.Go.OpenSpec.ofChange s with cond := some uptoSmall }

/-- 'laws.FnExactRiseAfter', WHERE WHAT IT READS IS OF BULK AT MOST 1048576: true; the input reads as it did. -/
def fnExactRiseAfterUptoRow : OpenClaim := { program := "ytamdbkilpllfoaa", sum := "5a88903850925fdb980d0fe6f370ba9a1b7e39523a6cdd898a827d818f76a6ce", func := "loop.example/g03310/laws.FnExactRiseAfter", spec := "fnExactRiseAfter", unfollowed := true, recurses := true, apart := false, narrowed := true }
def FnExactRiseAfterUptoSaid : Prop := fnExactRiseAfterUptoRow.holds Try.pinned (OpenSpec.upto fnExactRiseAfterSpec)

/-- 'laws.FnExactReadyAt', WHERE WHAT IT READS IS OF BULK AT MOST 1048576: true; the input reads as it did. -/
def fnExactReadyAtUptoRow : OpenClaim := { program := "ytamdbkilpllfoaa", sum := "5a88903850925fdb980d0fe6f370ba9a1b7e39523a6cdd898a827d818f76a6ce", func := "loop.example/g03310/laws.FnExactReadyAt", spec := "fnExactReadyAt", unfollowed := true, recurses := true, apart := false, narrowed := true }
def FnExactReadyAtUptoSaid : Prop := fnExactReadyAtUptoRow.holds Try.pinned (OpenSpec.upto fnExactReadyAtSpec)

/-- 'laws.FnRises', WHERE WHAT IT READS IS OF BULK AT MOST 1048576: true; the input reads as it did. -/
def fnRisesUptoRow : OpenClaim := { program := "ytamdbkilpllfoaa", sum := "5a88903850925fdb980d0fe6f370ba9a1b7e39523a6cdd898a827d818f76a6ce", func := "loop.example/g03310/laws.FnRises", spec := "fnRises", unfollowed := true, recurses := true, apart := false, narrowed := true }
def FnRisesUptoSaid : Prop := fnRisesUptoRow.holds Try.pinned (OpenSpec.upto fnRisesSpec)

/-- 'laws.FnPortions', WHERE WHAT IT READS IS OF BULK AT MOST 1048576: true; the input reads as it did. -/
def fnPortionsUptoRow : OpenClaim := { program := "ytamdbkilpllfoaa", sum := "5a88903850925fdb980d0fe6f370ba9a1b7e39523a6cdd898a827d818f76a6ce", func := "loop.example/g03310/laws.FnPortions", spec := "fnPortions", unfollowed := true, recurses := true, apart := false, narrowed := true }
def FnPortionsUptoSaid : Prop := fnPortionsUptoRow.holds Try.pinned (OpenSpec.upto fnPortionsSpec)

/-- 'laws.FnExactDoughForAll', WHERE WHAT IT READS IS OF BULK AT MOST 1048576: true; the input reads as it did. -/
def fnExactDoughForAllUptoRow : OpenClaim := { program := "ytamdbkilpllfoaa", sum := "5a88903850925fdb980d0fe6f370ba9a1b7e39523a6cdd898a827d818f76a6ce", func := "loop.example/g03310/laws.FnExactDoughForAll", spec := "fnExactDoughForAll", unfollowed := true, recurses := true, apart := false, narrowed := true }
def FnExactDoughForAllUptoSaid : Prop := fnExactDoughForAllUptoRow.holds Try.pinned (OpenSpec.upto fnExactDoughForAllSpec)

/-- 'laws.FnLeavens', WHERE WHAT IT READS IS OF BULK AT MOST 1048576: true; the input reads as it did. -/
def fnLeavensUptoRow : OpenClaim := { program := "ytamdbkilpllfoaa", sum := "5a88903850925fdb980d0fe6f370ba9a1b7e39523a6cdd898a827d818f76a6ce", func := "loop.example/g03310/laws.FnLeavens", spec := "fnLeavens", unfollowed := true, recurses := true, apart := false, narrowed := true }
def FnLeavensUptoSaid : Prop := fnLeavensUptoRow.holds Try.pinned (OpenSpec.upto fnLeavensSpec)

/-- 'laws.FnExactKeepForDays', WHERE WHAT IT READS IS OF BULK AT MOST 1048576: true; the input reads as it did. -/
def fnExactKeepForDaysUptoRow : OpenClaim := { program := "ytamdbkilpllfoaa", sum := "5a88903850925fdb980d0fe6f370ba9a1b7e39523a6cdd898a827d818f76a6ce", func := "loop.example/g03310/laws.FnExactKeepForDays", spec := "fnExactKeepForDays", unfollowed := true, recurses := true, apart := false, narrowed := true }
def FnExactKeepForDaysUptoSaid : Prop := fnExactKeepForDaysUptoRow.holds Try.pinned (OpenSpec.upto fnExactKeepForDaysSpec)

/-- 'laws.FnExactOrderCost', WHERE WHAT IT READS IS OF BULK AT MOST 1048576: true; the input reads as it did. -/
def fnExactOrderCostUptoRow : OpenClaim := { program := "ytamdbkilpllfoaa", sum := "5a88903850925fdb980d0fe6f370ba9a1b7e39523a6cdd898a827d818f76a6ce", func := "loop.example/g03310/laws.FnExactOrderCost", spec := "fnExactOrderCost", unfollowed := true, recurses := true, apart := false, narrowed := true }
def FnExactOrderCostUptoSaid : Prop := fnExactOrderCostUptoRow.holds Try.pinned (OpenSpec.upto fnExactOrderCostSpec)

/-- 'laws.FnExactBestHeats', WHERE WHAT IT READS IS OF BULK AT MOST 1048576: true; the input reads as it did. -/
def fnExactBestHeatsUptoRow : OpenClaim := { program := "ytamdbkilpllfoaa", sum := "5a88903850925fdb980d0fe6f370ba9a1b7e39523a6cdd898a827d818f76a6ce", func := "loop.example/g03310/laws.FnExactBestHeats", spec := "fnExactBestHeats", unfollowed := true, recurses := true, apart := false, narrowed := true }
def FnExactBestHeatsUptoSaid : Prop := fnExactBestHeatsUptoRow.holds Try.pinned (OpenSpec.upto fnExactBestHeatsSpec)

end Rows
end Go.Proofs.Ytamdbkilpllfoaa
