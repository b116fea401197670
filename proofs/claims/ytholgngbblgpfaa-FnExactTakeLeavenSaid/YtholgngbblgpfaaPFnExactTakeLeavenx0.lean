-- PRINTED BY print.sh 35421559b90ae4d0a3588c463048766b98c2df88dd9212a6774a882060cdf62d: not written by this session
import Derived.Test.YtholgngbblgpfaaProg
import Derived.Below
import Derived.Deep.Draws
import Derived.Deep.AppendLies
import Derived.Maps.AppendAt
import Derived.OwnWalk
import Derived.Laws.BytesArg
import Derived.Laws.MakeOwn
import Derived.Laws.OwnMore
import Derived.Deep.OwnRows
import Derived.Tactics
import Derived.Lib.ConvBytes
import Derived.Laws.Slices
import Derived.WalkKit
import Derived.KernelRfl
import Derived.RowKit3
import Derived.Deep.LoopGhost
import Derived.Deep.QuietTactic
import Derived.BigQuiet
import Derived.WideLaws
import Derived.Deep.DeepCutAuto
import Derived.Deep.CutBlock
import Derived.Deep.RegionHeld3
import Derived.Laws.Rows
import Derived.Lib.AppendStr
import Derived.ArgAppend
import Derived.Laws.IdiomCopy
import Derived.OrdersHeld
import Derived.Laws.BitsLemmas
import Derived.RowKit
import Derived.Test.YtholgngbblgpfaaWWords
import Derived.Test.YtholgngbblgpfaaWLast
import Derived.Test.YtholgngbblgpfaaWTab
import Derived.Test.YtholgngbblgpfaaWFour
import Derived.Test.YtholgngbblgpfaaWQPut
import Derived.Test.YtholgngbblgpfaaWApart
import Derived.Test.YtholgngbblgpfaaWArr
import Derived.Test.YtholgngbblgpfaaWZeros
import Derived.Test.YtholgngbblgpfaaWFoot
import Derived.Test.YtholgngbblgpfaaWKept
import Derived.Test.YtholgngbblgpfaaWShare
import Derived.Test.YtholgngbblgpfaaWN
import Derived.Test.YtholgngbblgpfaaWFootNe
import Derived.Test.YtholgngbblgpfaaWAt
import Derived.Test.YtholgngbblgpfaaWEqStruct
import Derived.Test.YtholgngbblgpfaaWRepsOne
import Derived.Test.YtholgngbblgpfaaWInv
import Derived.Test.YtholgngbblgpfaaWInvWords
import Derived.Test.YtholgngbblgpfaaWGuard
import Derived.Test.YtholgngbblgpfaaWNEv
import Derived.Test.YtholgngbblgpfaaWMore
namespace Go.Proofs.Ytholgngbblgpfaa.PFnExactTakeLeaven
open Go.RowKit Go.Proofs.YtholgngbblgpfaaW.PrintWords Go.Proofs.YtholgngbblgpfaaW.PrintLast Go.Proofs.YtholgngbblgpfaaW.PrintMore
attribute [local go_sem] max2_int min2_int max_two min_two max_three min_three max_four min_four   -- for this text's walks alone
set_option linter.unusedVariables false
set_option linter.unusedSimpArgs false



def errW : Option Int → Value
  | none => .nilIface
  | some c => .iface 0 (.int .i64 c)
theorem errW_none : errW none = .nilIface := rfl
theorem errW_some (c : Int) : errW (some c) = .iface 0 (.int .i64 c) := rfl

-- the values' own types

end Go.Proofs.Ytholgngbblgpfaa.PFnExactTakeLeaven
