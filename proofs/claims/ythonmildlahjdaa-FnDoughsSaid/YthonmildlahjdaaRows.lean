/-
  No cell of these rows narrows 'for every input' (looked for: loops, veiled, ifaces, maps, wideKeys, modest, calm, conditions, laid).
  DERIVED. THE GIVEN ROWS OF THIS SEAT. 7 by the template 'for every input the law returns true; each argument reads behind the call as it read before'; 0 by the template 'total and deterministic' (their statements: YthonmildlahjdaaTotals.lean).
  GIVEN WITH THE SEED: the statements are not yours to turn. If you find one false, say at which input.
  Laid BY PROGRAM, IN A SANDBOX (cutbox-rows.mjs): the forced cells as the released guide's own fill.sh prints them over the translation 961d0cb8fb7b9653… (all of the seat's roots in one cut). By AI agents, Wed Nov 11 2026. No macro, syntax, notation, axiom, sorry.
-/
import Derived.Test.YthonmildlahjdaaChecked
import GoSem.Claim
import GoSem.ClaimJoined
import GoSem.ClaimMapViews
import Derived.JoinedTies
import Derived.KernelRfl
namespace Go.Proofs.Ythonmildlahjdaa
/- THE CELL 'sum', in the pinned program and in every row, IS THE sha256 OF THE DUMP (.gsa) THAT YthonmildlahjdaaProg.lean LOADS. Nothing in Lean hashes anything: it is a label: what it is worth is what the hold of that sum in a sandbox is worth. -/
noncomputable def Try.pinned : Pinned := { name := "ythonmildlahjdaa", sum := "961d0cb8fb7b965300dca0735a1714fd4e38426f501b671e19d542955bc37abd", checked := Try.checked }
namespace Rows
def none {H : Type} : Left H := { results := [], args := [] }

/-- 'laws.FnExactCoolestFor': WHATEVER THE INPUT: true; the input reads as it did. -/
def fnExactCoolestForSpec : ChangeSpec := { name := "fnExactCoolestFor", fn := fun _ => fun
  | [d1, d2] => { results := [.lit (.bool true)], args := [d1, d2] }
  | _ => none }
def fnExactCoolestForRow : OpenClaim := { program := "ythonmildlahjdaa", sum := "961d0cb8fb7b965300dca0735a1714fd4e38426f501b671e19d542955bc37abd", func := "loop.example/g03310/laws.FnExactCoolestFor", spec := "fnExactCoolestFor", apart := false }
def FnExactCoolestForSaid : Prop := fnExactCoolestForRow.holds Try.pinned (OpenSpec.ofChange fnExactCoolestForSpec)

/-- ITS FALSE NEIGHBOUR: 'it returns false'. Refute it at one input. -/
def fnExactCoolestForWrong : ChangeSpec := { name := "fnExactCoolestFor", fn := fun _ => fun
  | [d1, d2] => { results := [.lit (.bool false)], args := [d1, d2] }
  | _ => none }
def FnExactCoolestForWrongFalsely : Prop := fnExactCoolestForRow.holds Try.pinned (OpenSpec.ofChange fnExactCoolestForWrong)

/-- 'laws.FnExactWholeTime': WHATEVER THE INPUT: true; the input reads as it did. -/
def fnExactWholeTimeSpec : ChangeSpec := { name := "fnExactWholeTime", fn := fun _ => fun
  | [d] => { results := [.lit (.bool true)], args := [d] }
  | _ => none }
def fnExactWholeTimeRow : OpenClaim := { program := "ythonmildlahjdaa", sum := "961d0cb8fb7b965300dca0735a1714fd4e38426f501b671e19d542955bc37abd", func := "loop.example/g03310/laws.FnExactWholeTime", spec := "fnExactWholeTime", apart := false }
def FnExactWholeTimeSaid : Prop := fnExactWholeTimeRow.holds Try.pinned (OpenSpec.ofChange fnExactWholeTimeSpec)

/-- ITS FALSE NEIGHBOUR: 'it returns false'. Refute it at one input. -/
def fnExactWholeTimeWrong : ChangeSpec := { name := "fnExactWholeTime", fn := fun _ => fun
  | [d] => { results := [.lit (.bool false)], args := [d] }
  | _ => none }
def FnExactWholeTimeWrongFalsely : Prop := fnExactWholeTimeRow.holds Try.pinned (OpenSpec.ofChange fnExactWholeTimeWrong)

/-- 'laws.FnBackwards': WHATEVER THE INPUT: true; the input reads as it did. -/
def fnBackwardsSpec : ChangeSpec := { name := "fnBackwards", fn := fun _ => fun
  | [d] => { results := [.lit (.bool true)], args := [d] }
  | _ => none }
def fnBackwardsRow : OpenClaim := { program := "ythonmildlahjdaa", sum := "961d0cb8fb7b965300dca0735a1714fd4e38426f501b671e19d542955bc37abd", func := "loop.example/g03310/laws.FnBackwards", spec := "fnBackwards", apart := false }
def FnBackwardsSaid : Prop := fnBackwardsRow.holds Try.pinned (OpenSpec.ofChange fnBackwardsSpec)

/-- ITS FALSE NEIGHBOUR: 'it returns false'. Refute it at one input. -/
def fnBackwardsWrong : ChangeSpec := { name := "fnBackwards", fn := fun _ => fun
  | [d] => { results := [.lit (.bool false)], args := [d] }
  | _ => none }
def FnBackwardsWrongFalsely : Prop := fnBackwardsRow.holds Try.pinned (OpenSpec.ofChange fnBackwardsWrong)

/-- 'laws.FnDoughs': WHATEVER THE INPUT: true; the input reads as it did. -/
def fnDoughsSpec : ChangeSpec := { name := "fnDoughs", fn := fun _ => fun
  | [d] => { results := [.lit (.bool true)], args := [d] }
  | _ => none }
def fnDoughsRow : OpenClaim := { program := "ythonmildlahjdaa", sum := "961d0cb8fb7b965300dca0735a1714fd4e38426f501b671e19d542955bc37abd", func := "loop.example/g03310/laws.FnDoughs", spec := "fnDoughs", apart := false }
def FnDoughsSaid : Prop := fnDoughsRow.holds Try.pinned (OpenSpec.ofChange fnDoughsSpec)

/-- ITS FALSE NEIGHBOUR: 'it returns false'. Refute it at one input. -/
def fnDoughsWrong : ChangeSpec := { name := "fnDoughs", fn := fun _ => fun
  | [d] => { results := [.lit (.bool false)], args := [d] }
  | _ => none }
def FnDoughsWrongFalsely : Prop := fnDoughsRow.holds Try.pinned (OpenSpec.ofChange fnDoughsWrong)

/-- 'laws.FnExactWorkClash': WHATEVER THE INPUT: true; the input reads as it did. -/
def fnExactWorkClashSpec : ChangeSpec := { name := "fnExactWorkClash", fn := fun _ => fun
  | [d1, d2, d3, d4] => { results := [.lit (.bool true)], args := [d1, d2, d3, d4] }
  | _ => none }
def fnExactWorkClashRow : OpenClaim := { program := "ythonmildlahjdaa", sum := "961d0cb8fb7b965300dca0735a1714fd4e38426f501b671e19d542955bc37abd", func := "loop.example/g03310/laws.FnExactWorkClash", spec := "fnExactWorkClash", apart := false }
def FnExactWorkClashSaid : Prop := fnExactWorkClashRow.holds Try.pinned (OpenSpec.ofChange fnExactWorkClashSpec)

/-- ITS FALSE NEIGHBOUR: 'it returns false'. Refute it at one input. -/
def fnExactWorkClashWrong : ChangeSpec := { name := "fnExactWorkClash", fn := fun _ => fun
  | [d1, d2, d3, d4] => { results := [.lit (.bool false)], args := [d1, d2, d3, d4] }
  | _ => none }
def FnExactWorkClashWrongFalsely : Prop := fnExactWorkClashRow.holds Try.pinned (OpenSpec.ofChange fnExactWorkClashWrong)

/-- 'laws.FnExactStartTimes': WHATEVER THE INPUT: true; the input reads as it did. -/
def fnExactStartTimesSpec : ChangeSpec := { name := "fnExactStartTimes", fn := fun _ => fun
  | [d1, d2] => { results := [.lit (.bool true)], args := [d1, d2] }
  | _ => none }
def fnExactStartTimesRow : OpenClaim := { program := "ythonmildlahjdaa", sum := "961d0cb8fb7b965300dca0735a1714fd4e38426f501b671e19d542955bc37abd", func := "loop.example/g03310/laws.FnExactStartTimes", spec := "fnExactStartTimes", apart := false }
def FnExactStartTimesSaid : Prop := fnExactStartTimesRow.holds Try.pinned (OpenSpec.ofChange fnExactStartTimesSpec)

/-- ITS FALSE NEIGHBOUR: 'it returns false'. Refute it at one input. -/
def fnExactStartTimesWrong : ChangeSpec := { name := "fnExactStartTimes", fn := fun _ => fun
  | [d1, d2] => { results := [.lit (.bool false)], args := [d1, d2] }
  | _ => none }
def FnExactStartTimesWrongFalsely : Prop := fnExactStartTimesRow.holds Try.pinned (OpenSpec.ofChange fnExactStartTimesWrong)

/-- 'laws.FnExactLeastShift': WHATEVER THE INPUT: true; the input reads as it did. -/
def fnExactLeastShiftSpec : ChangeSpec := { name := "fnExactLeastShift", fn := fun _ => fun
  | [d1, d2, d3] => { results := [.lit (.bool true)], args := [d1, d2, d3] }
  | _ => none }
def fnExactLeastShiftRow : OpenClaim := { program := "ythonmildlahjdaa", sum := "961d0cb8fb7b965300dca0735a1714fd4e38426f501b671e19d542955bc37abd", func := "loop.example/g03310/laws.FnExactLeastShift", spec := "fnExactLeastShift", apart := false }
def FnExactLeastShiftSaid : Prop := fnExactLeastShiftRow.holds Try.pinned (OpenSpec.ofChange fnExactLeastShiftSpec)

/-- ITS FALSE NEIGHBOUR: 'it returns false'. Refute it at one input. -/
def fnExactLeastShiftWrong : ChangeSpec := { name := "fnExactLeastShift", fn := fun _ => fun
  | [d1, d2, d3] => { results := [.lit (.bool false)], args := [d1, d2, d3] }
  | _ => none }
def FnExactLeastShiftWrongFalsely : Prop := fnExactLeastShiftRow.holds Try.pinned (OpenSpec.ofChange fnExactLeastShiftWrong)

/- THE SECOND FORM. 'bulk': how many values and letters a reading holds, each counted each time it is reached (what is shared counts as often as it is met; a slice's spare places count too). A statement '..UptoSaid' is the law's where the arguments, and the package variables that the reading takes, are together of bulk at most 1048576: NARROWER than '..Said'. Prove '..Said' where nothing that the law and all that it calls make is longer than what came in: it says more and counts as full. Else prove '..UptoSaid'. A law counts once. -/
mutual
def uptoBulk {H : Type} : DataW H → Nat
  | .lit (.string bytes) => bytes.length + 1
  | .lit _ => 1
  | .nil => 1
  | .ptr d => uptoBulk d + 1
  | .slice elems spare => uptoBulkAll elems + uptoBulkAll spare + 1
  | .agg parts => uptoBulkAll parts + 1
  | .iface _ d => uptoBulk d + 1
  | .map entries => uptoBulkEntries entries + 1
  | .held _ => 1
def uptoBulkAll {H : Type} : List (DataW H) → Nat
  | [] => 0
  | d :: r => uptoBulk d + uptoBulkAll r
def uptoBulkEntries {H : Type} : List (Lit × DataW H) → Nat
  | [] => 0
  | x :: r => uptoBulkEntry x + uptoBulkEntries r
def uptoBulkEntry {H : Type} : Lit × DataW H → Nat
  | (.string bytes, d) => bytes.length + uptoBulk d + 1
  | (_, d) => uptoBulk d + 1
 end
def uptoSmall : (H : Type) → List (DataW H) → Bool := fun _ ds => decide (uptoBulkAll ds ≤ 1048576)
def OpenSpec.upto (s : _root_.Go.ChangeSpec) : _root_.Go.OpenSpec := { _root_.Go.OpenSpec.ofChange s with cond := some uptoSmall }

/-- 'laws.FnExactCoolestFor', WHERE WHAT IT READS IS OF BULK AT MOST 1048576: true; the input reads as it did. -/
def fnExactCoolestForUptoRow : OpenClaim := { program := "ythonmildlahjdaa", sum := "961d0cb8fb7b965300dca0735a1714fd4e38426f501b671e19d542955bc37abd", func := "loop.example/g03310/laws.FnExactCoolestFor", spec := "fnExactCoolestFor", apart := false, narrowed := true }
def FnExactCoolestForUptoSaid : Prop := fnExactCoolestForUptoRow.holds Try.pinned (OpenSpec.upto fnExactCoolestForSpec)

/-- 'laws.FnExactWholeTime', WHERE WHAT IT READS IS OF BULK AT MOST 1048576: true; the input reads as it did. -/
def fnExactWholeTimeUptoRow : OpenClaim := { program := "ythonmildlahjdaa", sum := "961d0cb8fb7b965300dca0735a1714fd4e38426f501b671e19d542955bc37abd", func := "loop.example/g03310/laws.FnExactWholeTime", spec := "fnExactWholeTime", apart := false, narrowed := true }
def FnExactWholeTimeUptoSaid : Prop := fnExactWholeTimeUptoRow.holds Try.pinned (OpenSpec.upto fnExactWholeTimeSpec)

/-- 'laws.FnBackwards', WHERE WHAT IT READS IS OF BULK AT MOST 1048576: true; the input reads as it did. -/
def fnBackwardsUptoRow : OpenClaim := { program := "ythonmildlahjdaa", sum := "961d0cb8fb7b965300dca0735a1714fd4e38426f501b671e19d542955bc37abd", func := "loop.example/g03310/laws.FnBackwards", spec := "fnBackwards", apart := false, narrowed := true }
def FnBackwardsUptoSaid : Prop := fnBackwardsUptoRow.holds Try.pinned (OpenSpec.upto fnBackwardsSpec)

/-- 'laws.FnDoughs', WHERE WHAT IT READS IS OF BULK AT MOST 1048576: true; the input reads as it did. -/
def fnDoughsUptoRow : OpenClaim := { program := "ythonmildlahjdaa", sum := "961d0cb8fb7b965300dca0735a1714fd4e38426f501b671e19d542955bc37abd", func := "loop.example/g03310/laws.FnDoughs", spec := "fnDoughs", apart := false, narrowed := true }
def FnDoughsUptoSaid : Prop := fnDoughsUptoRow.holds Try.pinned (OpenSpec.upto fnDoughsSpec)

/-- 'laws.FnExactWorkClash', WHERE WHAT IT READS IS OF BULK AT MOST 1048576: true; the input reads as it did. -/
def fnExactWorkClashUptoRow : OpenClaim := { program := "ythonmildlahjdaa", sum := "961d0cb8fb7b965300dca0735a1714fd4e38426f501b671e19d542955bc37abd", func := "loop.example/g03310/laws.FnExactWorkClash", spec := "fnExactWorkClash", apart := false, narrowed := true }
def FnExactWorkClashUptoSaid : Prop := fnExactWorkClashUptoRow.holds Try.pinned (OpenSpec.upto fnExactWorkClashSpec)

/-- 'laws.FnExactStartTimes', WHERE WHAT IT READS IS OF BULK AT MOST 1048576: true; the input reads as it did. -/
def fnExactStartTimesUptoRow : OpenClaim := { program := "ythonmildlahjdaa", sum := "961d0cb8fb7b965300dca0735a1714fd4e38426f501b671e19d542955bc37abd", func := "loop.example/g03310/laws.FnExactStartTimes", spec := "fnExactStartTimes", apart := false, narrowed := true }
def FnExactStartTimesUptoSaid : Prop := fnExactStartTimesUptoRow.holds Try.pinned (OpenSpec.upto fnExactStartTimesSpec)

/-- 'laws.FnExactLeastShift', WHERE WHAT IT READS IS OF BULK AT MOST 1048576: true; the input reads as it did. -/
def fnExactLeastShiftUptoRow : OpenClaim := { program := "ythonmildlahjdaa", sum := "961d0cb8fb7b965300dca0735a1714fd4e38426f501b671e19d542955bc37abd", func := "loop.example/g03310/laws.FnExactLeastShift", spec := "fnExactLeastShift", apart := false, narrowed := true }
def FnExactLeastShiftUptoSaid : Prop := fnExactLeastShiftUptoRow.holds Try.pinned (OpenSpec.upto fnExactLeastShiftSpec)

end Rows
end Go.Proofs.Ythonmildlahjdaa
