/- What is proved here: each Go function that the law FnExactDoughWeight reaches comes to what the plain Lean function beside it says; some by hand, the others as printed over them. No condition is added. -/
import Derived.Test.YtgboomgnekibfaaProg
import Derived.Below
import Derived.Deep.Draws
import Derived.Deep.AppendLies
import Derived.Maps.AppendAt
import Derived.OwnWalk
import Derived.Laws.BytesArg
import Derived.Laws.MakeOwn
import Derived.Laws.OwnMore
import Derived.Deep.OwnRows
import Derived.Tactics
import Derived.Lib.ConvBytes
import Derived.Laws.Slices
import Derived.WalkKit
import Derived.KernelRfl
import Derived.RowKit3
import Derived.Deep.LoopGhost
import Derived.Deep.QuietTactic
import Derived.BigQuiet
import Derived.WideLaws
import Derived.Deep.DeepCutAuto
import Derived.Deep.CutBlock
import Derived.Deep.RegionHeld3
import Derived.Laws.Rows
import Derived.Lib.AppendStr
import Derived.ArgAppend
import Derived.Laws.IdiomCopy
import Derived.OrdersHeld
import Derived.Laws.BitsLemmas
import Derived.RowKit
import Derived.Lib.SliceRun
import Derived.Test.YtgboomgnekibfaaWWords
import Derived.Test.YtgboomgnekibfaaWLast
import Derived.Test.YtgboomgnekibfaaWTab
import Derived.Test.YtgboomgnekibfaaWFour
import Derived.Test.YtgboomgnekibfaaWQPut
import Derived.Test.YtgboomgnekibfaaWApart
import Derived.Test.YtgboomgnekibfaaWArr
import Derived.Test.YtgboomgnekibfaaWZeros
import Derived.Test.YtgboomgnekibfaaWFoot
import Derived.Test.YtgboomgnekibfaaWKept
import Derived.Test.YtgboomgnekibfaaWShare
import Derived.Test.YtgboomgnekibfaaWN
import Derived.Test.YtgboomgnekibfaaWFootNe
import Derived.Test.YtgboomgnekibfaaWAt
import Derived.Test.YtgboomgnekibfaaWEqStruct
import Derived.Test.YtgboomgnekibfaaWRepsOne
import Derived.Test.YtgboomgnekibfaaWInv
import Derived.Test.YtgboomgnekibfaaWInvWords
import Derived.Test.YtgboomgnekibfaaWGuard
import Derived.Test.YtgboomgnekibfaaWNEv
import Derived.Test.YtgboomgnekibfaaWMore
namespace Go.Proofs.Ytgboomgnekibfaa.PFnExactDoughWeight
open Go.RowKit Go.Proofs.YtgboomgnekibfaaW.PrintWords Go.Proofs.YtgboomgnekibfaaW.PrintLast Go.Proofs.YtgboomgnekibfaaW.PrintMore
attribute [local go_sem] max2_int min2_int max_two min_two max_three min_three max_four min_four   -- for this text's walks alone
set_option linter.unusedVariables false
set_option linter.unusedSimpArgs false



def errW : Option Int → Value
  | none => .nilIface
  | some c => .iface 0 (.int .i64 c)
theorem errW_none : errW none = .nilIface := rfl
theorem errW_some (c : Int) : errW (some c) = .iface 0 (.int .i64 c) := rfl

theorem info3 : (Try.prog.info? 3).map (fun i => (i.zero, i.size, i.bytes)) = some (some (.int .i64 0), 1, 8) := by kernel_rfl
-- the values' own types

end Go.Proofs.Ytgboomgnekibfaa.PFnExactDoughWeight
