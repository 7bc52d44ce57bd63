/- Go functions as Lean functions, and that the code answers what they say (written by wip/tool/print2.py over the print of the kit); no condition but the typed premises. -/
import Derived.Test.YtabgdpobcloclaaProg
import Derived.Below
import Derived.Deep.Draws
import Derived.Deep.AppendLies
import Derived.Maps.AppendAt
import Derived.OwnWalk
import Derived.Laws.BytesArg
import Derived.Laws.MakeOwn
import Derived.Laws.OwnMore
import Derived.Deep.OwnRows
import Derived.Tactics
import Derived.Lib.ConvBytes
import Derived.Laws.Slices
import Derived.WalkKit
import Derived.KernelRfl
import Derived.RowKit3
import Derived.Deep.LoopGhost
import Derived.Deep.QuietTactic
import Derived.BigQuiet
import Derived.WideLaws
import Derived.Deep.DeepCutAuto
import Derived.Deep.CutBlock
import Derived.Deep.RegionHeld3
import Derived.Laws.Rows
import Derived.Lib.AppendStr
import Derived.ArgAppend
import Derived.Laws.IdiomCopy
import Derived.OrdersHeld
import Derived.Laws.BitsLemmas
import Derived.RowKit
import Derived.Test.YtabgdpobcloclaaGauss
import Derived.Test.YtabgdpobcloclaaGaussOddWalk
import Derived.Test.YtabgdpobcloclaaWWords
import Derived.Test.YtabgdpobcloclaaWLast
import Derived.Test.YtabgdpobcloclaaWTab
import Derived.Test.YtabgdpobcloclaaWFour
import Derived.Test.YtabgdpobcloclaaWQPut
import Derived.Test.YtabgdpobcloclaaWApart
import Derived.Test.YtabgdpobcloclaaWArr
import Derived.Test.YtabgdpobcloclaaWZeros
import Derived.Test.YtabgdpobcloclaaWFoot
import Derived.Test.YtabgdpobcloclaaWKept
import Derived.Test.YtabgdpobcloclaaWShare
import Derived.Test.YtabgdpobcloclaaWN
import Derived.Test.YtabgdpobcloclaaWFootNe
import Derived.Test.YtabgdpobcloclaaWAt
import Derived.Test.YtabgdpobcloclaaWEqStruct
import Derived.Test.YtabgdpobcloclaaWRepsOne
import Derived.Test.YtabgdpobcloclaaWInv
import Derived.Test.YtabgdpobcloclaaWInvWords
import Derived.Test.YtabgdpobcloclaaWGuard
import Derived.Test.YtabgdpobcloclaaWNEv
import Derived.Test.YtabgdpobcloclaaWMore
import Derived.Test.YtabgdpobcloclaaXFloat
import Derived.Test.YtabgdpobcloclaaXGauss
import Derived.Test.YtabgdpobcloclaaXKinds
import Derived.Test.YtabgdpobcloclaaXMake
namespace Go.Proofs.Ytabgdpobcloclaa.PGaussOdd
open Go.RowKit Go.Proofs.YtabgdpobcloclaaW.PrintWords Go.Proofs.YtabgdpobcloclaaW.PrintLast Go.Proofs.YtabgdpobcloclaaW.PrintMore
attribute [local go_sem] max2_int min2_int max_two min_two max_three min_three max_four min_four   -- for this text's walks alone
set_option linter.unusedVariables false
set_option linter.unusedSimpArgs false



def errW : Option Int → Value
  | none => .nilIface
  | some c => .iface 0 (.int .i64 c)
theorem errW_none : errW none = .nilIface := rfl
theorem errW_some (c : Int) : errW (some c) = .iface 0 (.int .i64 c) := rfl

-- the values' own types

end Go.Proofs.Ytabgdpobcloclaa.PGaussOdd
