/-
  No cell of these rows narrows 'for every input' (looked for: loops, veiled, ifaces, maps, wideKeys, modest, calm, conditions, laid).
  DERIVED. THE GIVEN ROWS OF THIS SEAT. 12 by the template 'for every input the law returns true; each argument reads behind the call as it read before'; 0 by the template 'total and deterministic' (their statements: YtgboomgnekibfaaTotals.lean).
  GIVEN WITH THE SEED: the statements are not yours to turn. If you find one false, say at which input.
  Laid BY PROGRAM, IN A SANDBOX (cutbox-rows.mjs): the forced cells as the released guide's own fill.sh prints them over the translation 41014782b7b12f42… (all of the seat's roots in one cut). By AI agents, Wed Nov 11 2026. No macro, syntax, notation, axiom, sorry.
-/
import Derived.Test.YtgboomgnekibfaaChecked
import GoSem.Claim
import GoSem.ClaimJoined
import GoSem.ClaimMapViews
import Derived.JoinedTies
import Derived.KernelRfl
namespace Go.Proofs.Ytgboomgnekibfaa
/- THE CELL 'sum', in the pinned program and in every row, IS THE sha256 OF THE DUMP (.gsa) THAT YtgboomgnekibfaaProg.lean LOADS. Nothing in Lean hashes anything: it is a label: what it is worth is what the hold of that sum in a sandbox is worth. -/
noncomputable def Try.pinned : Pinned := { name := "ytgboomgnekibfaa", sum := "41014782b7b12f427b71f69599550e1c9dbf9e658c52dde7addc3925d63620b0", checked := Try.checked }
namespace Rows
def none {H : Type} : Left H := { results := [], args := [] }

/-- 'laws.FnExactSpeedAt': WHATEVER THE INPUT: true; the input reads as it did. -/
def fnExactSpeedAtSpec : ChangeSpec := { name := "fnExactSpeedAt", fn := fun _ => fun
  | [d] => { results := [.lit (.bool true)], args := [d] }
  | _ => none }
def fnExactSpeedAtRow : OpenClaim := { program := "ytgboomgnekibfaa", sum := "41014782b7b12f427b71f69599550e1c9dbf9e658c52dde7addc3925d63620b0", func := "loop.example/g03310/laws.FnExactSpeedAt", spec := "fnExactSpeedAt", apart := false }
def FnExactSpeedAtSaid : Prop := fnExactSpeedAtRow.holds Try.pinned (OpenSpec.ofChange fnExactSpeedAtSpec)

/-- ITS FALSE NEIGHBOUR: 'it returns false'. Refute it at one input. -/
def fnExactSpeedAtWrong : ChangeSpec := { name := "fnExactSpeedAt", fn := fun _ => fun
  | [d] => { results := [.lit (.bool false)], args := [d] }
  | _ => none }
def FnExactSpeedAtWrongFalsely : Prop := fnExactSpeedAtRow.holds Try.pinned (OpenSpec.ofChange fnExactSpeedAtWrong)

/-- 'laws.FnExactDoughFor': WHATEVER THE INPUT: true; the input reads as it did. -/
def fnExactDoughForSpec : ChangeSpec := { name := "fnExactDoughFor", fn := fun _ => fun
  | [d] => { results := [.lit (.bool true)], args := [d] }
  | _ => none }
def fnExactDoughForRow : OpenClaim := { program := "ytgboomgnekibfaa", sum := "41014782b7b12f427b71f69599550e1c9dbf9e658c52dde7addc3925d63620b0", func := "loop.example/g03310/laws.FnExactDoughFor", spec := "fnExactDoughFor", apart := false }
def FnExactDoughForSaid : Prop := fnExactDoughForRow.holds Try.pinned (OpenSpec.ofChange fnExactDoughForSpec)

/-- ITS FALSE NEIGHBOUR: 'it returns false'. Refute it at one input. -/
def fnExactDoughForWrong : ChangeSpec := { name := "fnExactDoughFor", fn := fun _ => fun
  | [d] => { results := [.lit (.bool false)], args := [d] }
  | _ => none }
def FnExactDoughForWrongFalsely : Prop := fnExactDoughForRow.holds Try.pinned (OpenSpec.ofChange fnExactDoughForWrong)

/-- 'laws.FnExactFeed': WHATEVER THE INPUT: true; the input reads as it did. -/
def fnExactFeedSpec : ChangeSpec := { name := "fnExactFeed", fn := fun _ => fun
  | [d1, d2] => { results := [.lit (.bool true)], args := [d1, d2] }
  | _ => none }
def fnExactFeedRow : OpenClaim := { program := "ytgboomgnekibfaa", sum := "41014782b7b12f427b71f69599550e1c9dbf9e658c52dde7addc3925d63620b0", func := "loop.example/g03310/laws.FnExactFeed", spec := "fnExactFeed", apart := false }
def FnExactFeedSaid : Prop := fnExactFeedRow.holds Try.pinned (OpenSpec.ofChange fnExactFeedSpec)

/-- ITS FALSE NEIGHBOUR: 'it returns false'. Refute it at one input. -/
def fnExactFeedWrong : ChangeSpec := { name := "fnExactFeed", fn := fun _ => fun
  | [d1, d2] => { results := [.lit (.bool false)], args := [d1, d2] }
  | _ => none }
def FnExactFeedWrongFalsely : Prop := fnExactFeedRow.holds Try.pinned (OpenSpec.ofChange fnExactFeedWrong)

/-- 'laws.FnExactFlourFor': WHATEVER THE INPUT: true; the input reads as it did. -/
def fnExactFlourForSpec : ChangeSpec := { name := "fnExactFlourFor", fn := fun _ => fun
  | [d1, d2] => { results := [.lit (.bool true)], args := [d1, d2] }
  | _ => none }
def fnExactFlourForRow : OpenClaim := { program := "ytgboomgnekibfaa", sum := "41014782b7b12f427b71f69599550e1c9dbf9e658c52dde7addc3925d63620b0", func := "loop.example/g03310/laws.FnExactFlourFor", spec := "fnExactFlourFor", apart := false }
def FnExactFlourForSaid : Prop := fnExactFlourForRow.holds Try.pinned (OpenSpec.ofChange fnExactFlourForSpec)

/-- ITS FALSE NEIGHBOUR: 'it returns false'. Refute it at one input. -/
def fnExactFlourForWrong : ChangeSpec := { name := "fnExactFlourFor", fn := fun _ => fun
  | [d1, d2] => { results := [.lit (.bool false)], args := [d1, d2] }
  | _ => none }
def FnExactFlourForWrongFalsely : Prop := fnExactFlourForRow.holds Try.pinned (OpenSpec.ofChange fnExactFlourForWrong)

/-- 'laws.FnClamped': WHATEVER THE INPUT: true; the input reads as it did. -/
def fnClampedSpec : ChangeSpec := { name := "fnClamped", fn := fun _ => fun
  | [d] => { results := [.lit (.bool true)], args := [d] }
  | _ => none }
def fnClampedRow : OpenClaim := { program := "ytgboomgnekibfaa", sum := "41014782b7b12f427b71f69599550e1c9dbf9e658c52dde7addc3925d63620b0", func := "loop.example/g03310/laws.FnClamped", spec := "fnClamped", apart := false }
def FnClampedSaid : Prop := fnClampedRow.holds Try.pinned (OpenSpec.ofChange fnClampedSpec)

/-- ITS FALSE NEIGHBOUR: 'it returns false'. Refute it at one input. -/
def fnClampedWrong : ChangeSpec := { name := "fnClamped", fn := fun _ => fun
  | [d] => { results := [.lit (.bool false)], args := [d] }
  | _ => none }
def FnClampedWrongFalsely : Prop := fnClampedRow.holds Try.pinned (OpenSpec.ofChange fnClampedWrong)

/-- 'laws.FnExactMinutesAt': WHATEVER THE INPUT: true; the input reads as it did. -/
def fnExactMinutesAtSpec : ChangeSpec := { name := "fnExactMinutesAt", fn := fun _ => fun
  | [d1, d2] => { results := [.lit (.bool true)], args := [d1, d2] }
  | _ => none }
def fnExactMinutesAtRow : OpenClaim := { program := "ytgboomgnekibfaa", sum := "41014782b7b12f427b71f69599550e1c9dbf9e658c52dde7addc3925d63620b0", func := "loop.example/g03310/laws.FnExactMinutesAt", spec := "fnExactMinutesAt", apart := false }
def FnExactMinutesAtSaid : Prop := fnExactMinutesAtRow.holds Try.pinned (OpenSpec.ofChange fnExactMinutesAtSpec)

/-- ITS FALSE NEIGHBOUR: 'it returns false'. Refute it at one input. -/
def fnExactMinutesAtWrong : ChangeSpec := { name := "fnExactMinutesAt", fn := fun _ => fun
  | [d1, d2] => { results := [.lit (.bool false)], args := [d1, d2] }
  | _ => none }
def FnExactMinutesAtWrongFalsely : Prop := fnExactMinutesAtRow.holds Try.pinned (OpenSpec.ofChange fnExactMinutesAtWrong)

/-- 'laws.FnExactLoavesFrom': WHATEVER THE INPUT: true; the input reads as it did. -/
def fnExactLoavesFromSpec : ChangeSpec := { name := "fnExactLoavesFrom", fn := fun _ => fun
  | [d1, d2] => { results := [.lit (.bool true)], args := [d1, d2] }
  | _ => none }
def fnExactLoavesFromRow : OpenClaim := { program := "ytgboomgnekibfaa", sum := "41014782b7b12f427b71f69599550e1c9dbf9e658c52dde7addc3925d63620b0", func := "loop.example/g03310/laws.FnExactLoavesFrom", spec := "fnExactLoavesFrom", apart := false }
def FnExactLoavesFromSaid : Prop := fnExactLoavesFromRow.holds Try.pinned (OpenSpec.ofChange fnExactLoavesFromSpec)

/-- ITS FALSE NEIGHBOUR: 'it returns false'. Refute it at one input. -/
def fnExactLoavesFromWrong : ChangeSpec := { name := "fnExactLoavesFrom", fn := fun _ => fun
  | [d1, d2] => { results := [.lit (.bool false)], args := [d1, d2] }
  | _ => none }
def FnExactLoavesFromWrongFalsely : Prop := fnExactLoavesFromRow.holds Try.pinned (OpenSpec.ofChange fnExactLoavesFromWrong)

/-- 'laws.FnExactFirmer': WHATEVER THE INPUT: true; the input reads as it did. -/
def fnExactFirmerSpec : ChangeSpec := { name := "fnExactFirmer", fn := fun _ => fun
  | [d1, d2] => { results := [.lit (.bool true)], args := [d1, d2] }
  | _ => none }
def fnExactFirmerRow : OpenClaim := { program := "ytgboomgnekibfaa", sum := "41014782b7b12f427b71f69599550e1c9dbf9e658c52dde7addc3925d63620b0", func := "loop.example/g03310/laws.FnExactFirmer", spec := "fnExactFirmer", apart := false }
def FnExactFirmerSaid : Prop := fnExactFirmerRow.holds Try.pinned (OpenSpec.ofChange fnExactFirmerSpec)

/-- ITS FALSE NEIGHBOUR: 'it returns false'. Refute it at one input. -/
def fnExactFirmerWrong : ChangeSpec := { name := "fnExactFirmer", fn := fun _ => fun
  | [d1, d2] => { results := [.lit (.bool false)], args := [d1, d2] }
  | _ => none }
def FnExactFirmerWrongFalsely : Prop := fnExactFirmerRow.holds Try.pinned (OpenSpec.ofChange fnExactFirmerWrong)

/-- 'laws.FnExactStepsOk': WHATEVER THE INPUT: true; the input reads as it did. -/
def fnExactStepsOkSpec : ChangeSpec := { name := "fnExactStepsOk", fn := fun _ => fun
  | [d] => { results := [.lit (.bool true)], args := [d] }
  | _ => none }
def fnExactStepsOkRow : OpenClaim := { program := "ytgboomgnekibfaa", sum := "41014782b7b12f427b71f69599550e1c9dbf9e658c52dde7addc3925d63620b0", func := "loop.example/g03310/laws.FnExactStepsOk", spec := "fnExactStepsOk", apart := false }
def FnExactStepsOkSaid : Prop := fnExactStepsOkRow.holds Try.pinned (OpenSpec.ofChange fnExactStepsOkSpec)

/-- ITS FALSE NEIGHBOUR: 'it returns false'. Refute it at one input. -/
def fnExactStepsOkWrong : ChangeSpec := { name := "fnExactStepsOk", fn := fun _ => fun
  | [d] => { results := [.lit (.bool false)], args := [d] }
  | _ => none }
def FnExactStepsOkWrongFalsely : Prop := fnExactStepsOkRow.holds Try.pinned (OpenSpec.ofChange fnExactStepsOkWrong)

/-- 'laws.FnExactFeedingsFor': WHATEVER THE INPUT: true; the input reads as it did. -/
def fnExactFeedingsForSpec : ChangeSpec := { name := "fnExactFeedingsFor", fn := fun _ => fun
  | [d1, d2, d3] => { results := [.lit (.bool true)], args := [d1, d2, d3] }
  | _ => none }
def fnExactFeedingsForRow : OpenClaim := { program := "ytgboomgnekibfaa", sum := "41014782b7b12f427b71f69599550e1c9dbf9e658c52dde7addc3925d63620b0", func := "loop.example/g03310/laws.FnExactFeedingsFor", spec := "fnExactFeedingsFor", apart := false }
def FnExactFeedingsForSaid : Prop := fnExactFeedingsForRow.holds Try.pinned (OpenSpec.ofChange fnExactFeedingsForSpec)

/-- ITS FALSE NEIGHBOUR: 'it returns false'. Refute it at one input. -/
def fnExactFeedingsForWrong : ChangeSpec := { name := "fnExactFeedingsFor", fn := fun _ => fun
  | [d1, d2, d3] => { results := [.lit (.bool false)], args := [d1, d2, d3] }
  | _ => none }
def FnExactFeedingsForWrongFalsely : Prop := fnExactFeedingsForRow.holds Try.pinned (OpenSpec.ofChange fnExactFeedingsForWrong)

/-- 'laws.FnExactAmounts': WHATEVER THE INPUT: true; the input reads as it did. -/
def fnExactAmountsSpec : ChangeSpec := { name := "fnExactAmounts", fn := fun _ => fun
  | [d1, d2] => { results := [.lit (.bool true)], args := [d1, d2] }
  | _ => none }
def fnExactAmountsRow : OpenClaim := { program := "ytgboomgnekibfaa", sum := "41014782b7b12f427b71f69599550e1c9dbf9e658c52dde7addc3925d63620b0", func := "loop.example/g03310/laws.FnExactAmounts", spec := "fnExactAmounts", apart := false }
def FnExactAmountsSaid : Prop := fnExactAmountsRow.holds Try.pinned (OpenSpec.ofChange fnExactAmountsSpec)

/-- ITS FALSE NEIGHBOUR: 'it returns false'. Refute it at one input. -/
def fnExactAmountsWrong : ChangeSpec := { name := "fnExactAmounts", fn := fun _ => fun
  | [d1, d2] => { results := [.lit (.bool false)], args := [d1, d2] }
  | _ => none }
def FnExactAmountsWrongFalsely : Prop := fnExactAmountsRow.holds Try.pinned (OpenSpec.ofChange fnExactAmountsWrong)

/-- 'laws.FnExactDoughWeight': WHATEVER THE INPUT: true; the input reads as it did. -/
def fnExactDoughWeightSpec : ChangeSpec := { name := "fnExactDoughWeight", fn := fun _ => fun
  | [d1, d2] => { results := [.lit (.bool true)], args := [d1, d2] }
  | _ => none }
def fnExactDoughWeightRow : OpenClaim := { program := "ytgboomgnekibfaa", sum := "41014782b7b12f427b71f69599550e1c9dbf9e658c52dde7addc3925d63620b0", func := "loop.example/g03310/laws.FnExactDoughWeight", spec := "fnExactDoughWeight", apart := false }
def FnExactDoughWeightSaid : Prop := fnExactDoughWeightRow.holds Try.pinned (OpenSpec.ofChange fnExactDoughWeightSpec)

/-- ITS FALSE NEIGHBOUR: 'it returns false'. Refute it at one input. -/
def fnExactDoughWeightWrong : ChangeSpec := { name := "fnExactDoughWeight", fn := fun _ => fun
  | [d1, d2] => { results := [.lit (.bool false)], args := [d1, d2] }
  | _ => none }
def FnExactDoughWeightWrongFalsely : Prop := fnExactDoughWeightRow.holds Try.pinned (OpenSpec.ofChange fnExactDoughWeightWrong)

/- THE SECOND FORM. 'bulk': how many values and letters a reading holds, each counted each time it is reached (what is shared counts as often as it is met; a slice's spare places count too). A statement '..UptoSaid' is the law's where the arguments, and the package variables that the reading takes, are together of bulk at most 1048576: NARROWER than '..Said'. Prove '..Said' where nothing that the law and all that it calls make is longer than what came in: it says more and counts as full. Else prove '..UptoSaid'. A law counts once. -/
mutual
def uptoBulk {H : Type} : DataW H → Nat
  | .lit (.string bytes) => bytes.length + 1
  | .lit _ => 1
  | .nil => 1
  | .ptr d => uptoBulk d + 1
  | .slice elems spare => uptoBulkAll elems + uptoBulkAll spare + 1
  | .agg parts => uptoBulkAll parts + 1
  | .iface _ d => uptoBulk d + 1
  | .map entries => uptoBulkEntries entries + 1
  | .held _ => 1
def uptoBulkAll {H : Type} : List (DataW H) → Nat
  | [] => 0
  | d :: r => uptoBulk d + uptoBulkAll r
def uptoBulkEntries {H : Type} : List (Lit × DataW H) → Nat
  | [] => 0
  | x :: r => uptoBulkEntry x + uptoBulkEntries r
def uptoBulkEntry {H : Type} : Lit × DataW H → Nat
  | (.string bytes, d) => bytes.length + uptoBulk d + 1
  | (_, d) => uptoBulk d + 1
 end
def uptoSmall : (H : Type) → List (DataW H) → Bool := fun _ ds => decide (uptoBulkAll ds ≤ 1048576)
def OpenSpec.upto (s : _root_.Go.ChangeSpec) : _root_.Go.OpenSpec := { _root_.Go.OpenSpec.ofChange s with cond := some uptoSmall }

/-- 'laws.FnExactSpeedAt', WHERE WHAT IT READS IS OF BULK AT MOST 1048576: true; the input reads as it did. -/
def fnExactSpeedAtUptoRow : OpenClaim := { program := "ytgboomgnekibfaa", sum := "41014782b7b12f427b71f69599550e1c9dbf9e658c52dde7addc3925d63620b0", func := "loop.example/g03310/laws.FnExactSpeedAt", spec := "fnExactSpeedAt", apart := false, narrowed := true }
def FnExactSpeedAtUptoSaid : Prop := fnExactSpeedAtUptoRow.holds Try.pinned (OpenSpec.upto fnExactSpeedAtSpec)

/-- 'laws.FnExactDoughFor', WHERE WHAT IT READS IS OF BULK AT MOST 1048576: true; the input reads as it did. -/
def fnExactDoughForUptoRow : OpenClaim := { program := "ytgboomgnekibfaa", sum := "41014782b7b12f427b71f69599550e1c9dbf9e658c52dde7addc3925d63620b0", func := "loop.example/g03310/laws.FnExactDoughFor", spec := "fnExactDoughFor", apart := false, narrowed := true }
def FnExactDoughForUptoSaid : Prop := fnExactDoughForUptoRow.holds Try.pinned (OpenSpec.upto fnExactDoughForSpec)

/-- 'laws.FnExactFeed', WHERE WHAT IT READS IS OF BULK AT MOST 1048576: true; the input reads as it did. -/
def fnExactFeedUptoRow : OpenClaim := { program := "ytgboomgnekibfaa", sum := "41014782b7b12f427b71f69599550e1c9dbf9e658c52dde7addc3925d63620b0", func := "loop.example/g03310/laws.FnExactFeed", spec := "fnExactFeed", apart := false, narrowed := true }
def FnExactFeedUptoSaid : Prop := fnExactFeedUptoRow.holds Try.pinned (OpenSpec.upto fnExactFeedSpec)

/-- 'laws.FnExactFlourFor', WHERE WHAT IT READS IS OF BULK AT MOST 1048576: true; the input reads as it did. -/
def fnExactFlourForUptoRow : OpenClaim := { program := "ytgboomgnekibfaa", sum := "41014782b7b12f427b71f69599550e1c9dbf9e658c52dde7addc3925d63620b0", func := "loop.example/g03310/laws.FnExactFlourFor", spec := "fnExactFlourFor", apart := false, narrowed := true }
def FnExactFlourForUptoSaid : Prop := fnExactFlourForUptoRow.holds Try.pinned (OpenSpec.upto fnExactFlourForSpec)

/-- 'laws.FnClamped', WHERE WHAT IT READS IS OF BULK AT MOST 1048576: true; the input reads as it did. -/
def fnClampedUptoRow : OpenClaim := { program := "ytgboomgnekibfaa", sum := "41014782b7b12f427b71f69599550e1c9dbf9e658c52dde7addc3925d63620b0", func := "loop.example/g03310/laws.FnClamped", spec := "fnClamped", apart := false, narrowed := true }
def FnClampedUptoSaid : Prop := fnClampedUptoRow.holds Try.pinned (OpenSpec.upto fnClampedSpec)

/-- 'laws.FnExactMinutesAt', WHERE WHAT IT READS IS OF BULK AT MOST 1048576: true; the input reads as it did. -/
def fnExactMinutesAtUptoRow : OpenClaim := { program := "ytgboomgnekibfaa", sum := "41014782b7b12f427b71f69599550e1c9dbf9e658c52dde7addc3925d63620b0", func := "loop.example/g03310/laws.FnExactMinutesAt", spec := "fnExactMinutesAt", apart := false, narrowed := true }
def FnExactMinutesAtUptoSaid : Prop := fnExactMinutesAtUptoRow.holds Try.pinned (OpenSpec.upto fnExactMinutesAtSpec)

/-- 'laws.FnExactLoavesFrom', WHERE WHAT IT READS IS OF BULK AT MOST 1048576: true; the input reads as it did. -/
def fnExactLoavesFromUptoRow : OpenClaim := { program := "ytgboomgnekibfaa", sum := "41014782b7b12f427b71f69599550e1c9dbf9e658c52dde7addc3925d63620b0", func := "loop.example/g03310/laws.FnExactLoavesFrom", spec := "fnExactLoavesFrom", apart := false, narrowed := true }
def FnExactLoavesFromUptoSaid : Prop := fnExactLoavesFromUptoRow.holds Try.pinned (OpenSpec.upto fnExactLoavesFromSpec)

/-- 'laws.FnExactFirmer', WHERE WHAT IT READS IS OF BULK AT MOST 1048576: true; the input reads as it did. -/
def fnExactFirmerUptoRow : OpenClaim := { program := "ytgboomgnekibfaa", sum := "41014782b7b12f427b71f69599550e1c9dbf9e658c52dde7addc3925d63620b0", func := "loop.example/g03310/laws.FnExactFirmer", spec := "fnExactFirmer", apart := false, narrowed := true }
def FnExactFirmerUptoSaid : Prop := fnExactFirmerUptoRow.holds Try.pinned (OpenSpec.upto fnExactFirmerSpec)

/-- 'laws.FnExactStepsOk', WHERE WHAT IT READS IS OF BULK AT MOST 1048576: true; the input reads as it did. -/
def fnExactStepsOkUptoRow : OpenClaim := { program := "ytgboomgnekibfaa", sum := "41014782b7b12f427b71f69599550e1c9dbf9e658c52dde7addc3925d63620b0", func := "loop.example/g03310/laws.FnExactStepsOk", spec := "fnExactStepsOk", apart := false, narrowed := true }
def FnExactStepsOkUptoSaid : Prop := fnExactStepsOkUptoRow.holds Try.pinned (OpenSpec.upto fnExactStepsOkSpec)

/-- 'laws.FnExactFeedingsFor', WHERE WHAT IT READS IS OF BULK AT MOST 1048576: true; the input reads as it did. -/
def fnExactFeedingsForUptoRow : OpenClaim := { program := "ytgboomgnekibfaa", sum := "41014782b7b12f427b71f69599550e1c9dbf9e658c52dde7addc3925d63620b0", func := "loop.example/g03310/laws.FnExactFeedingsFor", spec := "fnExactFeedingsFor", apart := false, narrowed := true }
def FnExactFeedingsForUptoSaid : Prop := fnExactFeedingsForUptoRow.holds Try.pinned (OpenSpec.upto fnExactFeedingsForSpec)

/-- 'laws.FnExactAmounts', WHERE WHAT IT READS IS OF BULK AT MOST 1048576: true; the input reads as it did. -/
def fnExactAmountsUptoRow : OpenClaim := { program := "ytgboomgnekibfaa", sum := "41014782b7b12f427b71f69599550e1c9dbf9e658c52dde7addc3925d63620b0", func := "loop.example/g03310/laws.FnExactAmounts", spec := "fnExactAmounts", apart := false, narrowed := true }
def FnExactAmountsUptoSaid : Prop := fnExactAmountsUptoRow.holds Try.pinned (OpenSpec.upto fnExactAmountsSpec)

/-- 'laws.FnExactDoughWeight', WHERE WHAT IT READS IS OF BULK AT MOST 1048576: true; the input reads as it did. -/
def fnExactDoughWeightUptoRow : OpenClaim := { program := "ytgboomgnekibfaa", sum := "41014782b7b12f427b71f69599550e1c9dbf9e658c52dde7addc3925d63620b0", func := "loop.example/g03310/laws.FnExactDoughWeight", spec := "fnExactDoughWeight", apart := false, narrowed := true }
def FnExactDoughWeightUptoSaid : Prop := fnExactDoughWeightUptoRow.holds Try.pinned (OpenSpec.upto fnExactDoughWeightSpec)

end Rows
end Go.Proofs.Ytgboomgnekibfaa
