/- Go functions as Lean functions, and that the code answers what they say (written by wip/tool/print2.py over the print of the kit); no condition but the typed premises. -/
import Derived.Test.YtngcfmnmjkncoaaDoorProg
import Derived.Below
import Derived.Deep.Draws
import Derived.Deep.AppendLies
import Derived.Maps.AppendAt
import Derived.OwnWalk
import Derived.Laws.BytesArg
import Derived.Laws.MakeOwn
import Derived.Laws.OwnMore
import Derived.Deep.OwnRows
import Derived.Tactics
import Derived.Lib.ConvBytes
import Derived.Laws.Slices
import Derived.WalkKit
import Derived.KernelRfl
import Derived.RowKit3
import Derived.Deep.LoopGhost
import Derived.Deep.QuietTactic
import Derived.BigQuiet
import Derived.WideLaws
import Derived.Deep.DeepCutAuto
import Derived.Deep.CutBlock
import Derived.Deep.RegionHeld3
import Derived.Laws.Rows
import Derived.Lib.AppendStr
import Derived.ArgAppend
import Derived.Laws.IdiomCopy
import Derived.OrdersHeld
import Derived.Laws.BitsLemmas
import Derived.RowKit
import Derived.WalkSpells
import Derived.Test.YtngcfmnmjkncoaaDoorShelf
import Derived.Test.YtngcfmnmjkncoaaDoorRight
import Derived.Test.YtngcfmnmjkncoaaDoorWWords
import Derived.Test.YtngcfmnmjkncoaaDoorWLast
import Derived.Test.YtngcfmnmjkncoaaDoorWTab
import Derived.Test.YtngcfmnmjkncoaaDoorWFour
import Derived.Test.YtngcfmnmjkncoaaDoorWQPut
import Derived.Test.YtngcfmnmjkncoaaDoorWApart
import Derived.Test.YtngcfmnmjkncoaaDoorWArr
import Derived.Test.YtngcfmnmjkncoaaDoorWZeros
import Derived.Test.YtngcfmnmjkncoaaDoorWFoot
import Derived.Test.YtngcfmnmjkncoaaDoorWKept
import Derived.Test.YtngcfmnmjkncoaaDoorWShare
import Derived.Test.YtngcfmnmjkncoaaDoorWN
import Derived.Test.YtngcfmnmjkncoaaDoorWFootNe
import Derived.Test.YtngcfmnmjkncoaaDoorWAt
import Derived.Test.YtngcfmnmjkncoaaDoorWEqStruct
import Derived.Test.YtngcfmnmjkncoaaDoorWRepsOne
import Derived.Test.YtngcfmnmjkncoaaDoorWInv
import Derived.Test.YtngcfmnmjkncoaaDoorWInvWords
import Derived.Test.YtngcfmnmjkncoaaDoorWGuard
import Derived.Test.YtngcfmnmjkncoaaDoorWNEv
import Derived.Test.YtngcfmnmjkncoaaDoorWMore
import Derived.Test.YtngcfmnmjkncoaaDoorXFloat
import Derived.Test.YtngcfmnmjkncoaaDoorXGauss
import Derived.Test.YtngcfmnmjkncoaaDoorXKinds
import Derived.Test.YtngcfmnmjkncoaaDoorXMake
namespace Go.Proofs.YtngcfmnmjkncoaaDoor.PPathDeepest
open Go.RowKit Go.Proofs.YtngcfmnmjkncoaaDoorW.PrintWords Go.Proofs.YtngcfmnmjkncoaaDoorW.PrintLast Go.Proofs.YtngcfmnmjkncoaaDoorW.PrintMore
attribute [local go_sem] max2_int min2_int max_two min_two max_three min_three max_four min_four   -- for this text's walks alone
set_option linter.unusedVariables false
set_option linter.unusedSimpArgs false



def errW : Option Int → Value
  | none => .nilIface
  | some c => .iface 0 (.int .i64 c)
theorem errW_none : errW none = .nilIface := rfl
theorem errW_some (c : Int) : errW (some c) = .iface 0 (.int .i64 c) := rfl

theorem info9 : (Tryd.prog.info? 9).map (fun i => (i.zero, i.size, i.bytes)) = some (some (.string ⟨#[]⟩), 1, 16) := by kernel_rfl
-- the values' own types

end Go.Proofs.YtngcfmnmjkncoaaDoor.PPathDeepest
