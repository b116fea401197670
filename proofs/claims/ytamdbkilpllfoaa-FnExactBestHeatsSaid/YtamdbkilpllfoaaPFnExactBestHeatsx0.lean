/- What is proved here: each Go function that the law FnExactBestHeats reaches comes to what the plain Lean function beside it says; some by hand, the others as printed over them. No condition is added. -/
import Derived.Test.YtamdbkilpllfoaaProg
import Derived.Below
import Derived.Deep.Draws
import Derived.Deep.AppendLies
import Derived.Maps.AppendAt
import Derived.OwnWalk
import Derived.Laws.BytesArg
import Derived.Laws.MakeOwn
import Derived.Laws.OwnMore
import Derived.Deep.OwnRows
import Derived.Tactics
import Derived.Lib.ConvBytes
import Derived.Laws.Slices
import Derived.WalkKit
import Derived.KernelRfl
import Derived.RowKit3
import Derived.Deep.LoopGhost
import Derived.Deep.QuietTactic
import Derived.BigQuiet
import Derived.WideLaws
import Derived.Deep.DeepCutAuto
import Derived.Deep.CutBlock
import Derived.Deep.RegionHeld3
import Derived.Laws.Rows
import Derived.Lib.AppendStr
import Derived.ArgAppend
import Derived.Laws.IdiomCopy
import Derived.OrdersHeld
import Derived.Laws.BitsLemmas
import Derived.RowKit
import Derived.Test.YtamdbkilpllfoaaHand
import Derived.Test.YtamdbkilpllfoaaHandFive
import Derived.Test.YtamdbkilpllfoaaWWords
import Derived.Test.YtamdbkilpllfoaaWLast
import Derived.Test.YtamdbkilpllfoaaWTab
import Derived.Test.YtamdbkilpllfoaaWFour
import Derived.Test.YtamdbkilpllfoaaWQPut
import Derived.Test.YtamdbkilpllfoaaWApart
import Derived.Test.YtamdbkilpllfoaaWArr
import Derived.Test.YtamdbkilpllfoaaWZeros
import Derived.Test.YtamdbkilpllfoaaWFoot
import Derived.Test.YtamdbkilpllfoaaWKept
import Derived.Test.YtamdbkilpllfoaaWShare
import Derived.Test.YtamdbkilpllfoaaWN
import Derived.Test.YtamdbkilpllfoaaWFootNe
import Derived.Test.YtamdbkilpllfoaaWAt
import Derived.Test.YtamdbkilpllfoaaWEqStruct
import Derived.Test.YtamdbkilpllfoaaWRepsOne
import Derived.Test.YtamdbkilpllfoaaWInv
import Derived.Test.YtamdbkilpllfoaaWInvWords
import Derived.Test.YtamdbkilpllfoaaWGuard
import Derived.Test.YtamdbkilpllfoaaWNEv
import Derived.Test.YtamdbkilpllfoaaWMore
namespace Go.Proofs.Ytamdbkilpllfoaa.PFnExactBestHeats
open Go.RowKit Go.Proofs.YtamdbkilpllfoaaW.PrintWords Go.Proofs.YtamdbkilpllfoaaW.PrintLast Go.Proofs.YtamdbkilpllfoaaW.PrintMore
attribute [local go_sem] max2_int min2_int max_two min_two max_three min_three max_four min_four   -- for this text's walks alone
set_option linter.unusedVariables false
set_option linter.unusedSimpArgs false



def errW : Option Int → Value
  | none => .nilIface
  | some c => .iface 0 (.int .i64 c)
theorem errW_none : errW none = .nilIface := rfl
theorem errW_some (c : Int) : errW (some c) = .iface 0 (.int .i64 c) := rfl

theorem info3 : (Try.prog.info? 3).map (fun i => (i.zero, i.size, i.bytes)) = some (some (.int .i64 0), 1, 8) := by kernel_rfl
-- the values' own types

end Go.Proofs.Ytamdbkilpllfoaa.PFnExactBestHeats
