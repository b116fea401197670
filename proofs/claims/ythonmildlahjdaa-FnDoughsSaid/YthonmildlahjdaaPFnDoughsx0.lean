/- What is proved here: each Go function that the law FnDoughs reaches comes to what the plain Lean function beside it says; some by hand, the others as printed over them. No condition is added. -/
import Derived.Test.YthonmildlahjdaaProg
import Derived.Below
import Derived.Deep.Draws
import Derived.Deep.AppendLies
import Derived.Maps.AppendAt
import Derived.OwnWalk
import Derived.Laws.BytesArg
import Derived.Laws.MakeOwn
import Derived.Laws.OwnMore
import Derived.Deep.OwnRows
import Derived.Tactics
import Derived.Lib.ConvBytes
import Derived.Laws.Slices
import Derived.WalkKit
import Derived.KernelRfl
import Derived.RowKit3
import Derived.Deep.LoopGhost
import Derived.Deep.QuietTactic
import Derived.BigQuiet
import Derived.WideLaws
import Derived.Deep.DeepCutAuto
import Derived.Deep.CutBlock
import Derived.Deep.RegionHeld3
import Derived.Laws.Rows
import Derived.Lib.AppendStr
import Derived.ArgAppend
import Derived.Laws.IdiomCopy
import Derived.OrdersHeld
import Derived.Laws.BitsLemmas
import Derived.RowKit
import Derived.Lib.SliceRun
import Derived.Test.YthonmildlahjdaaWWords
import Derived.Test.YthonmildlahjdaaWLast
import Derived.Test.YthonmildlahjdaaWTab
import Derived.Test.YthonmildlahjdaaWFour
import Derived.Test.YthonmildlahjdaaWQPut
import Derived.Test.YthonmildlahjdaaWApart
import Derived.Test.YthonmildlahjdaaWArr
import Derived.Test.YthonmildlahjdaaWZeros
import Derived.Test.YthonmildlahjdaaWFoot
import Derived.Test.YthonmildlahjdaaWKept
import Derived.Test.YthonmildlahjdaaWShare
import Derived.Test.YthonmildlahjdaaWN
import Derived.Test.YthonmildlahjdaaWFootNe
import Derived.Test.YthonmildlahjdaaWAt
import Derived.Test.YthonmildlahjdaaWEqStruct
import Derived.Test.YthonmildlahjdaaWRepsOne
import Derived.Test.YthonmildlahjdaaWInv
import Derived.Test.YthonmildlahjdaaWInvWords
import Derived.Test.YthonmildlahjdaaWGuard
import Derived.Test.YthonmildlahjdaaWNEv
import Derived.Test.YthonmildlahjdaaWMore
namespace Go.Proofs.Ythonmildlahjdaa.PFnDoughs
open Go.RowKit Go.Proofs.YthonmildlahjdaaW.PrintWords Go.Proofs.YthonmildlahjdaaW.PrintLast Go.Proofs.YthonmildlahjdaaW.PrintMore
attribute [local go_sem] max2_int min2_int max_two min_two max_three min_three max_four min_four   -- for this text's walks alone
set_option linter.unusedVariables false
set_option linter.unusedSimpArgs false



def errW : Option Int → Value
  | none => .nilIface
  | some c => .iface 0 (.int .i64 c)
theorem errW_none : errW none = .nilIface := rfl
theorem errW_some (c : Int) : errW (some c) = .iface 0 (.int .i64 c) := rfl

theorem info3 : (Try.prog.info? 3).map (fun i => (i.zero, i.size, i.bytes)) = some (some (.int .i64 0), 1, 8) := by kernel_rfl
-- the values' own types

end Go.Proofs.Ythonmildlahjdaa.PFnDoughs
