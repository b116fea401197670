/-
  No cell of these rows narrows 'for every input' (looked for: loops, veiled, ifaces, maps, wideKeys, modest, calm, conditions, laid).
  DERIVED. THE GIVEN ROWS OF THIS SEAT. 12 by the template 'for every input the law returns true; each argument reads behind the call as it read before'; 0 by the template 'total and deterministic' (their statements: YtholgngbblgpfaaTotals.lean).
  GIVEN WITH THE SEED: the statements are not yours to turn. If you find one false, say at which input.
  Laid BY PROGRAM, IN A SANDBOX (cutbox-rows.mjs): the forced cells as the released guide's own fill.sh prints them over the translation 7b0d06b3fb1611c3… (all of the seat's roots in one cut). By AI agents, Wed Nov 11 2026. No macro, syntax, notation, axiom, sorry.
-/
import Derived.Test.YtholgngbblgpfaaChecked
import GoSem.Claim
import GoSem.ClaimJoined
import GoSem.ClaimMapViews
import Derived.JoinedTies
import Derived.KernelRfl
namespace Go.Proofs.Ytholgngbblgpfaa
/- THE CELL 'sum', in the pinned program and in every row, IS THE sha256 OF THE DUMP (.gsa) THAT YtholgngbblgpfaaProg.lean LOADS. Nothing in Lean hashes anything: it is a label: what it is worth is what the hold of that sum in a sandbox is worth. -/
noncomputable def Try.pinned : Pinned := { name := "ytholgngbblgpfaa", sum := "7b0d06b3fb1611c38f5035e3ebb9c759e64bc4517fbba90e80559e5faa03267f", checked := Try.checked }
namespace Rows
def none {H : Type} : Left H := { results := [], args := [] }

/-- 'laws.FnExactConstants': WHATEVER THE INPUT: true; the input reads as it did. -/
def fnExactConstantsSpec : ChangeSpec := { name := "fnExactConstants", fn := fun _ => fun
  | [] => { results := [.lit (.bool true)], args := [] }
  | _ => none }
def fnExactConstantsRow : OpenClaim := { program := "ytholgngbblgpfaa", sum := "7b0d06b3fb1611c38f5035e3ebb9c759e64bc4517fbba90e80559e5faa03267f", func := "loop.example/g03310/laws.FnExactConstants", spec := "fnExactConstants", apart := false }
def FnExactConstantsSaid : Prop := fnExactConstantsRow.holds Try.pinned (OpenSpec.ofChange fnExactConstantsSpec)

/-- ITS FALSE NEIGHBOUR: 'it returns false'. Refute it at one input. -/
def fnExactConstantsWrong : ChangeSpec := { name := "fnExactConstants", fn := fun _ => fun
  | [] => { results := [.lit (.bool false)], args := [] }
  | _ => none }
def FnExactConstantsWrongFalsely : Prop := fnExactConstantsRow.holds Try.pinned (OpenSpec.ofChange fnExactConstantsWrong)

/-- 'laws.FnExactClamp': WHATEVER THE INPUT: true; the input reads as it did. -/
def fnExactClampSpec : ChangeSpec := { name := "fnExactClamp", fn := fun _ => fun
  | [d1, d2, d3] => { results := [.lit (.bool true)], args := [d1, d2, d3] }
  | _ => none }
def fnExactClampRow : OpenClaim := { program := "ytholgngbblgpfaa", sum := "7b0d06b3fb1611c38f5035e3ebb9c759e64bc4517fbba90e80559e5faa03267f", func := "loop.example/g03310/laws.FnExactClamp", spec := "fnExactClamp", apart := false }
def FnExactClampSaid : Prop := fnExactClampRow.holds Try.pinned (OpenSpec.ofChange fnExactClampSpec)

/-- ITS FALSE NEIGHBOUR: 'it returns false'. Refute it at one input. -/
def fnExactClampWrong : ChangeSpec := { name := "fnExactClamp", fn := fun _ => fun
  | [d1, d2, d3] => { results := [.lit (.bool false)], args := [d1, d2, d3] }
  | _ => none }
def FnExactClampWrongFalsely : Prop := fnExactClampRow.holds Try.pinned (OpenSpec.ofChange fnExactClampWrong)

/-- 'laws.FnExactLeavenOk': WHATEVER THE INPUT: true; the input reads as it did. -/
def fnExactLeavenOkSpec : ChangeSpec := { name := "fnExactLeavenOk", fn := fun _ => fun
  | [d] => { results := [.lit (.bool true)], args := [d] }
  | _ => none }
def fnExactLeavenOkRow : OpenClaim := { program := "ytholgngbblgpfaa", sum := "7b0d06b3fb1611c38f5035e3ebb9c759e64bc4517fbba90e80559e5faa03267f", func := "loop.example/g03310/laws.FnExactLeavenOk", spec := "fnExactLeavenOk", apart := false }
def FnExactLeavenOkSaid : Prop := fnExactLeavenOkRow.holds Try.pinned (OpenSpec.ofChange fnExactLeavenOkSpec)

/-- ITS FALSE NEIGHBOUR: 'it returns false'. Refute it at one input. -/
def fnExactLeavenOkWrong : ChangeSpec := { name := "fnExactLeavenOk", fn := fun _ => fun
  | [d] => { results := [.lit (.bool false)], args := [d] }
  | _ => none }
def FnExactLeavenOkWrongFalsely : Prop := fnExactLeavenOkRow.holds Try.pinned (OpenSpec.ofChange fnExactLeavenOkWrong)

/-- 'laws.FnExactLoafOk': WHATEVER THE INPUT: true; the input reads as it did. -/
def fnExactLoafOkSpec : ChangeSpec := { name := "fnExactLoafOk", fn := fun _ => fun
  | [d] => { results := [.lit (.bool true)], args := [d] }
  | _ => none }
def fnExactLoafOkRow : OpenClaim := { program := "ytholgngbblgpfaa", sum := "7b0d06b3fb1611c38f5035e3ebb9c759e64bc4517fbba90e80559e5faa03267f", func := "loop.example/g03310/laws.FnExactLoafOk", spec := "fnExactLoafOk", apart := false }
def FnExactLoafOkSaid : Prop := fnExactLoafOkRow.holds Try.pinned (OpenSpec.ofChange fnExactLoafOkSpec)

/-- ITS FALSE NEIGHBOUR: 'it returns false'. Refute it at one input. -/
def fnExactLoafOkWrong : ChangeSpec := { name := "fnExactLoafOk", fn := fun _ => fun
  | [d] => { results := [.lit (.bool false)], args := [d] }
  | _ => none }
def FnExactLoafOkWrongFalsely : Prop := fnExactLoafOkRow.holds Try.pinned (OpenSpec.ofChange fnExactLoafOkWrong)

/-- 'laws.FnExactPartOf': WHATEVER THE INPUT: true; the input reads as it did. -/
def fnExactPartOfSpec : ChangeSpec := { name := "fnExactPartOf", fn := fun _ => fun
  | [d1, d2] => { results := [.lit (.bool true)], args := [d1, d2] }
  | _ => none }
def fnExactPartOfRow : OpenClaim := { program := "ytholgngbblgpfaa", sum := "7b0d06b3fb1611c38f5035e3ebb9c759e64bc4517fbba90e80559e5faa03267f", func := "loop.example/g03310/laws.FnExactPartOf", spec := "fnExactPartOf", apart := false }
def FnExactPartOfSaid : Prop := fnExactPartOfRow.holds Try.pinned (OpenSpec.ofChange fnExactPartOfSpec)

/-- ITS FALSE NEIGHBOUR: 'it returns false'. Refute it at one input. -/
def fnExactPartOfWrong : ChangeSpec := { name := "fnExactPartOf", fn := fun _ => fun
  | [d1, d2] => { results := [.lit (.bool false)], args := [d1, d2] }
  | _ => none }
def FnExactPartOfWrongFalsely : Prop := fnExactPartOfRow.holds Try.pinned (OpenSpec.ofChange fnExactPartOfWrong)

/-- 'laws.FnExactDoughOk': WHATEVER THE INPUT: true; the input reads as it did. -/
def fnExactDoughOkSpec : ChangeSpec := { name := "fnExactDoughOk", fn := fun _ => fun
  | [d] => { results := [.lit (.bool true)], args := [d] }
  | _ => none }
def fnExactDoughOkRow : OpenClaim := { program := "ytholgngbblgpfaa", sum := "7b0d06b3fb1611c38f5035e3ebb9c759e64bc4517fbba90e80559e5faa03267f", func := "loop.example/g03310/laws.FnExactDoughOk", spec := "fnExactDoughOk", apart := false }
def FnExactDoughOkSaid : Prop := fnExactDoughOkRow.holds Try.pinned (OpenSpec.ofChange fnExactDoughOkSpec)

/-- ITS FALSE NEIGHBOUR: 'it returns false'. Refute it at one input. -/
def fnExactDoughOkWrong : ChangeSpec := { name := "fnExactDoughOk", fn := fun _ => fun
  | [d] => { results := [.lit (.bool false)], args := [d] }
  | _ => none }
def FnExactDoughOkWrongFalsely : Prop := fnExactDoughOkRow.holds Try.pinned (OpenSpec.ofChange fnExactDoughOkWrong)

/-- 'laws.FnExactCoolAfter': WHATEVER THE INPUT: true; the input reads as it did. -/
def fnExactCoolAfterSpec : ChangeSpec := { name := "fnExactCoolAfter", fn := fun _ => fun
  | [d1, d2] => { results := [.lit (.bool true)], args := [d1, d2] }
  | _ => none }
def fnExactCoolAfterRow : OpenClaim := { program := "ytholgngbblgpfaa", sum := "7b0d06b3fb1611c38f5035e3ebb9c759e64bc4517fbba90e80559e5faa03267f", func := "loop.example/g03310/laws.FnExactCoolAfter", spec := "fnExactCoolAfter", apart := false }
def FnExactCoolAfterSaid : Prop := fnExactCoolAfterRow.holds Try.pinned (OpenSpec.ofChange fnExactCoolAfterSpec)

/-- ITS FALSE NEIGHBOUR: 'it returns false'. Refute it at one input. -/
def fnExactCoolAfterWrong : ChangeSpec := { name := "fnExactCoolAfter", fn := fun _ => fun
  | [d1, d2] => { results := [.lit (.bool false)], args := [d1, d2] }
  | _ => none }
def FnExactCoolAfterWrongFalsely : Prop := fnExactCoolAfterRow.holds Try.pinned (OpenSpec.ofChange fnExactCoolAfterWrong)

/-- 'laws.FnExactHeatCost': WHATEVER THE INPUT: true; the input reads as it did. -/
def fnExactHeatCostSpec : ChangeSpec := { name := "fnExactHeatCost", fn := fun _ => fun
  | [d1, d2] => { results := [.lit (.bool true)], args := [d1, d2] }
  | _ => none }
def fnExactHeatCostRow : OpenClaim := { program := "ytholgngbblgpfaa", sum := "7b0d06b3fb1611c38f5035e3ebb9c759e64bc4517fbba90e80559e5faa03267f", func := "loop.example/g03310/laws.FnExactHeatCost", spec := "fnExactHeatCost", apart := false }
def FnExactHeatCostSaid : Prop := fnExactHeatCostRow.holds Try.pinned (OpenSpec.ofChange fnExactHeatCostSpec)

/-- ITS FALSE NEIGHBOUR: 'it returns false'. Refute it at one input. -/
def fnExactHeatCostWrong : ChangeSpec := { name := "fnExactHeatCost", fn := fun _ => fun
  | [d1, d2] => { results := [.lit (.bool false)], args := [d1, d2] }
  | _ => none }
def FnExactHeatCostWrongFalsely : Prop := fnExactHeatCostRow.holds Try.pinned (OpenSpec.ofChange fnExactHeatCostWrong)

/-- 'laws.FnExactLoadsOf': WHATEVER THE INPUT: true; the input reads as it did. -/
def fnExactLoadsOfSpec : ChangeSpec := { name := "fnExactLoadsOf", fn := fun _ => fun
  | [d1, d2] => { results := [.lit (.bool true)], args := [d1, d2] }
  | _ => none }
def fnExactLoadsOfRow : OpenClaim := { program := "ytholgngbblgpfaa", sum := "7b0d06b3fb1611c38f5035e3ebb9c759e64bc4517fbba90e80559e5faa03267f", func := "loop.example/g03310/laws.FnExactLoadsOf", spec := "fnExactLoadsOf", apart := false }
def FnExactLoadsOfSaid : Prop := fnExactLoadsOfRow.holds Try.pinned (OpenSpec.ofChange fnExactLoadsOfSpec)

/-- ITS FALSE NEIGHBOUR: 'it returns false'. Refute it at one input. -/
def fnExactLoadsOfWrong : ChangeSpec := { name := "fnExactLoadsOf", fn := fun _ => fun
  | [d1, d2] => { results := [.lit (.bool false)], args := [d1, d2] }
  | _ => none }
def FnExactLoadsOfWrongFalsely : Prop := fnExactLoadsOfRow.holds Try.pinned (OpenSpec.ofChange fnExactLoadsOfWrong)

/-- 'laws.FnExactBakedWeight': WHATEVER THE INPUT: true; the input reads as it did. -/
def fnExactBakedWeightSpec : ChangeSpec := { name := "fnExactBakedWeight", fn := fun _ => fun
  | [d1, d2] => { results := [.lit (.bool true)], args := [d1, d2] }
  | _ => none }
def fnExactBakedWeightRow : OpenClaim := { program := "ytholgngbblgpfaa", sum := "7b0d06b3fb1611c38f5035e3ebb9c759e64bc4517fbba90e80559e5faa03267f", func := "loop.example/g03310/laws.FnExactBakedWeight", spec := "fnExactBakedWeight", apart := false }
def FnExactBakedWeightSaid : Prop := fnExactBakedWeightRow.holds Try.pinned (OpenSpec.ofChange fnExactBakedWeightSpec)

/-- ITS FALSE NEIGHBOUR: 'it returns false'. Refute it at one input. -/
def fnExactBakedWeightWrong : ChangeSpec := { name := "fnExactBakedWeight", fn := fun _ => fun
  | [d1, d2] => { results := [.lit (.bool false)], args := [d1, d2] }
  | _ => none }
def FnExactBakedWeightWrongFalsely : Prop := fnExactBakedWeightRow.holds Try.pinned (OpenSpec.ofChange fnExactBakedWeightWrong)

/-- 'laws.FnExactWholeParts': WHATEVER THE INPUT: true; the input reads as it did. -/
def fnExactWholePartsSpec : ChangeSpec := { name := "fnExactWholeParts", fn := fun _ => fun
  | [d] => { results := [.lit (.bool true)], args := [d] }
  | _ => none }
def fnExactWholePartsRow : OpenClaim := { program := "ytholgngbblgpfaa", sum := "7b0d06b3fb1611c38f5035e3ebb9c759e64bc4517fbba90e80559e5faa03267f", func := "loop.example/g03310/laws.FnExactWholeParts", spec := "fnExactWholeParts", apart := false }
def FnExactWholePartsSaid : Prop := fnExactWholePartsRow.holds Try.pinned (OpenSpec.ofChange fnExactWholePartsSpec)

/-- ITS FALSE NEIGHBOUR: 'it returns false'. Refute it at one input. -/
def fnExactWholePartsWrong : ChangeSpec := { name := "fnExactWholeParts", fn := fun _ => fun
  | [d] => { results := [.lit (.bool false)], args := [d] }
  | _ => none }
def FnExactWholePartsWrongFalsely : Prop := fnExactWholePartsRow.holds Try.pinned (OpenSpec.ofChange fnExactWholePartsWrong)

/-- 'laws.FnExactTakeLeaven': WHATEVER THE INPUT: true; the input reads as it did. -/
def fnExactTakeLeavenSpec : ChangeSpec := { name := "fnExactTakeLeaven", fn := fun _ => fun
  | [d1, d2, d3] => { results := [.lit (.bool true)], args := [d1, d2, d3] }
  | _ => none }
def fnExactTakeLeavenRow : OpenClaim := { program := "ytholgngbblgpfaa", sum := "7b0d06b3fb1611c38f5035e3ebb9c759e64bc4517fbba90e80559e5faa03267f", func := "loop.example/g03310/laws.FnExactTakeLeaven", spec := "fnExactTakeLeaven", apart := false }
def FnExactTakeLeavenSaid : Prop := fnExactTakeLeavenRow.holds Try.pinned (OpenSpec.ofChange fnExactTakeLeavenSpec)

/-- ITS FALSE NEIGHBOUR: 'it returns false'. Refute it at one input. -/
def fnExactTakeLeavenWrong : ChangeSpec := { name := "fnExactTakeLeaven", fn := fun _ => fun
  | [d1, d2, d3] => { results := [.lit (.bool false)], args := [d1, d2, d3] }
  | _ => none }
def FnExactTakeLeavenWrongFalsely : Prop := fnExactTakeLeavenRow.holds Try.pinned (OpenSpec.ofChange fnExactTakeLeavenWrong)

/- THE SECOND FORM. 'bulk': how many values and letters a reading holds, each counted each time it is reached (what is shared counts as often as it is met; a slice's spare places count too). A statement '..UptoSaid' is the law's where the arguments, and the package variables that the reading takes, are together of bulk at most 1048576: NARROWER than '..Said'. Prove '..Said' where nothing that the law and all that it calls make is longer than what came in: it says more and counts as full. Else prove '..UptoSaid'. A law counts once. -/
mutual
def uptoBulk {H : Type} : DataW H → Nat
  | .lit (.string bytes) => bytes.length + 1
  | .lit _ => 1
  | .nil => 1
  | .ptr d => uptoBulk d + 1
  | .slice elems spare => uptoBulkAll elems + uptoBulkAll spare + 1
  | .agg parts => uptoBulkAll parts + 1
  | .iface _ d => uptoBulk d + 1
  | .map entries => uptoBulkEntries entries + 1
  | .held _ => 1
def uptoBulkAll {H : Type} : List (DataW H) → Nat
  | [] => 0
  | d :: r => uptoBulk d + uptoBulkAll r
def uptoBulkEntries {H : Type} : List (Lit × DataW H) → Nat
  | [] => 0
  | x :: r => uptoBulkEntry x + uptoBulkEntries r
def uptoBulkEntry {H : Type} : Lit × DataW H → Nat
  | (.string bytes, d) => bytes.length + uptoBulk d + 1
  | (_, d) => uptoBulk d + 1
 end
def uptoSmall : (H : Type) → List (DataW H) → Bool := fun _ ds => decide (uptoBulkAll ds ≤ 1048576)
def OpenSpec.upto (s : _root_.Go.ChangeSpec) : _root_.Go.OpenSpec := { _root_.Go.OpenSpec.ofChange s with cond := some uptoSmall }

/-- 'laws.FnExactConstants', WHERE WHAT IT READS IS OF BULK AT MOST 1048576: true; the input reads as it did. -/
def fnExactConstantsUptoRow : OpenClaim := { program := "ytholgngbblgpfaa", sum := "7b0d06b3fb1611c38f5035e3ebb9c759e64bc4517fbba90e80559e5faa03267f", func := "loop.example/g03310/laws.FnExactConstants", spec := "fnExactConstants", apart := false, narrowed := true }
def FnExactConstantsUptoSaid : Prop := fnExactConstantsUptoRow.holds Try.pinned (OpenSpec.upto fnExactConstantsSpec)

/-- 'laws.FnExactClamp', WHERE WHAT IT READS IS OF BULK AT MOST 1048576: true; the input reads as it did. -/
def fnExactClampUptoRow : OpenClaim := { program := "ytholgngbblgpfaa", sum := "7b0d06b3fb1611c38f5035e3ebb9c759e64bc4517fbba90e80559e5faa03267f", func := "loop.example/g03310/laws.FnExactClamp", spec := "fnExactClamp", apart := false, narrowed := true }
def FnExactClampUptoSaid : Prop := fnExactClampUptoRow.holds Try.pinned (OpenSpec.upto fnExactClampSpec)

/-- 'laws.FnExactLeavenOk', WHERE WHAT IT READS IS OF BULK AT MOST 1048576: true; the input reads as it did. -/
def fnExactLeavenOkUptoRow : OpenClaim := { program := "ytholgngbblgpfaa", sum := "7b0d06b3fb1611c38f5035e3ebb9c759e64bc4517fbba90e80559e5faa03267f", func := "loop.example/g03310/laws.FnExactLeavenOk", spec := "fnExactLeavenOk", apart := false, narrowed := true }
def FnExactLeavenOkUptoSaid : Prop := fnExactLeavenOkUptoRow.holds Try.pinned (OpenSpec.upto fnExactLeavenOkSpec)

/-- 'laws.FnExactLoafOk', WHERE WHAT IT READS IS OF BULK AT MOST 1048576: true; the input reads as it did. -/
def fnExactLoafOkUptoRow : OpenClaim := { program := "ytholgngbblgpfaa", sum := "7b0d06b3fb1611c38f5035e3ebb9c759e64bc4517fbba90e80559e5faa03267f", func := "loop.example/g03310/laws.FnExactLoafOk", spec := "fnExactLoafOk", apart := false, narrowed := true }
def FnExactLoafOkUptoSaid : Prop := fnExactLoafOkUptoRow.holds Try.pinned (OpenSpec.upto fnExactLoafOkSpec)

/-- 'laws.FnExactPartOf', WHERE WHAT IT READS IS OF BULK AT MOST 1048576: true; the input reads as it did. -/
def fnExactPartOfUptoRow : OpenClaim := { program := "ytholgngbblgpfaa", sum := "7b0d06b3fb1611c38f5035e3ebb9c759e64bc4517fbba90e80559e5faa03267f", func := "loop.example/g03310/laws.FnExactPartOf", spec := "fnExactPartOf", apart := false, narrowed := true }
def FnExactPartOfUptoSaid : Prop := fnExactPartOfUptoRow.holds Try.pinned (OpenSpec.upto fnExactPartOfSpec)

/-- 'laws.FnExactDoughOk', WHERE WHAT IT READS IS OF BULK AT MOST 1048576: true; the input reads as it did. -/
def fnExactDoughOkUptoRow : OpenClaim := { program := "ytholgngbblgpfaa", sum := "7b0d06b3fb1611c38f5035e3ebb9c759e64bc4517fbba90e80559e5faa03267f", func := "loop.example/g03310/laws.FnExactDoughOk", spec := "fnExactDoughOk", apart := false, narrowed := true }
def FnExactDoughOkUptoSaid : Prop := fnExactDoughOkUptoRow.holds Try.pinned (OpenSpec.upto fnExactDoughOkSpec)

/-- 'laws.FnExactCoolAfter', WHERE WHAT IT READS IS OF BULK AT MOST 1048576: true; the input reads as it did. -/
def fnExactCoolAfterUptoRow : OpenClaim := { program := "ytholgngbblgpfaa", sum := "7b0d06b3fb1611c38f5035e3ebb9c759e64bc4517fbba90e80559e5faa03267f", func := "loop.example/g03310/laws.FnExactCoolAfter", spec := "fnExactCoolAfter", apart := false, narrowed := true }
def FnExactCoolAfterUptoSaid : Prop := fnExactCoolAfterUptoRow.holds Try.pinned (OpenSpec.upto fnExactCoolAfterSpec)

/-- 'laws.FnExactHeatCost', WHERE WHAT IT READS IS OF BULK AT MOST 1048576: true; the input reads as it did. -/
def fnExactHeatCostUptoRow : OpenClaim := { program := "ytholgngbblgpfaa", sum := "7b0d06b3fb1611c38f5035e3ebb9c759e64bc4517fbba90e80559e5faa03267f", func := "loop.example/g03310/laws.FnExactHeatCost", spec := "fnExactHeatCost", apart := false, narrowed := true }
def FnExactHeatCostUptoSaid : Prop := fnExactHeatCostUptoRow.holds Try.pinned (OpenSpec.upto fnExactHeatCostSpec)

/-- 'laws.FnExactLoadsOf', WHERE WHAT IT READS IS OF BULK AT MOST 1048576: true; the input reads as it did. -/
def fnExactLoadsOfUptoRow : OpenClaim := { program := "ytholgngbblgpfaa", sum := "7b0d06b3fb1611c38f5035e3ebb9c759e64bc4517fbba90e80559e5faa03267f", func := "loop.example/g03310/laws.FnExactLoadsOf", spec := "fnExactLoadsOf", apart := false, narrowed := true }
def FnExactLoadsOfUptoSaid : Prop := fnExactLoadsOfUptoRow.holds Try.pinned (OpenSpec.upto fnExactLoadsOfSpec)

/-- 'laws.FnExactBakedWeight', WHERE WHAT IT READS IS OF BULK AT MOST 1048576: true; the input reads as it did. -/
def fnExactBakedWeightUptoRow : OpenClaim := { program := "ytholgngbblgpfaa", sum := "7b0d06b3fb1611c38f5035e3ebb9c759e64bc4517fbba90e80559e5faa03267f", func := "loop.example/g03310/laws.FnExactBakedWeight", spec := "fnExactBakedWeight", apart := false, narrowed := true }
def FnExactBakedWeightUptoSaid : Prop := fnExactBakedWeightUptoRow.holds Try.pinned (OpenSpec.upto fnExactBakedWeightSpec)

/-- 'laws.FnExactWholeParts', WHERE WHAT IT READS IS OF BULK AT MOST 1048576: true; the input reads as it did. -/
def fnExactWholePartsUptoRow : OpenClaim := { program := "ytholgngbblgpfaa", sum := "7b0d06b3fb1611c38f5035e3ebb9c759e64bc4517fbba90e80559e5faa03267f", func := "loop.example/g03310/laws.FnExactWholeParts", spec := "fnExactWholeParts", apart := false, narrowed := true }
def FnExactWholePartsUptoSaid : Prop := fnExactWholePartsUptoRow.holds Try.pinned (OpenSpec.upto fnExactWholePartsSpec)

/-- 'laws.FnExactTakeLeaven', WHERE WHAT IT READS IS OF BULK AT MOST 1048576: true; the input reads as it did. -/
def fnExactTakeLeavenUptoRow : OpenClaim := { program := "ytholgngbblgpfaa", sum := "7b0d06b3fb1611c38f5035e3ebb9c759e64bc4517fbba90e80559e5faa03267f", func := "loop.example/g03310/laws.FnExactTakeLeaven", spec := "fnExactTakeLeaven", apart := false, narrowed := true }
def FnExactTakeLeavenUptoSaid : Prop := fnExactTakeLeavenUptoRow.holds Try.pinned (OpenSpec.upto fnExactTakeLeavenSpec)

end Rows
end Go.Proofs.Ytholgngbblgpfaa
