-- printed by wip/tools/oprint.py over the kit's print.py: this session's own program
import Derived.Test.YtdflcicgniediaaDoorProg
import Derived.Below
import Derived.Deep.Draws
import Derived.Deep.AppendLies
import Derived.Maps.AppendAt
import Derived.OwnWalk
import Derived.Laws.BytesArg
import Derived.Laws.MakeOwn
import Derived.Laws.OwnMore
import Derived.Deep.OwnRows
import Derived.Tactics
import Derived.Lib.ConvBytes
import Derived.Laws.Slices
import Derived.WalkKit
import Derived.KernelRfl
import Derived.RowKit3
import Derived.Deep.LoopGhost
import Derived.Deep.QuietTactic
import Derived.BigQuiet
import Derived.WideLaws
import Derived.Deep.DeepCutAuto
import Derived.Deep.CutBlock
import Derived.Deep.RegionHeld3
import Derived.Laws.Rows
import Derived.Lib.AppendStr
import Derived.ArgAppend
import Derived.Laws.IdiomCopy
import Derived.OrdersHeld
import Derived.Laws.BitsLemmas
import Derived.RowKit
import Derived.Test.YtdflcicgniediaaDoorDgCalls
import Derived.Test.YtdflcicgniediaaDoorPx1
import Derived.Test.YtdflcicgniediaaDoorWWords
import Derived.Test.YtdflcicgniediaaDoorWLast
import Derived.Test.YtdflcicgniediaaDoorWTab
import Derived.Test.YtdflcicgniediaaDoorWFour
import Derived.Test.YtdflcicgniediaaDoorWQPut
import Derived.Test.YtdflcicgniediaaDoorWApart
import Derived.Test.YtdflcicgniediaaDoorWArr
import Derived.Test.YtdflcicgniediaaDoorWZeros
import Derived.Test.YtdflcicgniediaaDoorWFoot
import Derived.Test.YtdflcicgniediaaDoorWKept
import Derived.Test.YtdflcicgniediaaDoorWShare
import Derived.Test.YtdflcicgniediaaDoorWN
import Derived.Test.YtdflcicgniediaaDoorWFootNe
import Derived.Test.YtdflcicgniediaaDoorWAt
import Derived.Test.YtdflcicgniediaaDoorWEqStruct
import Derived.Test.YtdflcicgniediaaDoorWRepsOne
import Derived.Test.YtdflcicgniediaaDoorWInv
import Derived.Test.YtdflcicgniediaaDoorWInvWords
import Derived.Test.YtdflcicgniediaaDoorWGuard
import Derived.Test.YtdflcicgniediaaDoorWNEv
import Derived.Test.YtdflcicgniediaaDoorWMore
namespace Go.Proofs.YtdflcicgniediaaDoor.PB
open Go.RowKit Go.Proofs.YtdflcicgniediaaDoorW.PrintWords Go.Proofs.YtdflcicgniediaaDoorW.PrintLast Go.Proofs.YtdflcicgniediaaDoorW.PrintMore
attribute [local go_sem] max2_int min2_int max_two min_two max_three min_three max_four min_four   -- for this text's walks alone
set_option linter.unusedVariables false
set_option linter.unusedSimpArgs false
open Go.Proofs.YtdflcicgniediaaDoor.Dg
open Go.Proofs.YtdflcicgniediaaDoor.P



def errW : Option Int → Value
  | none => .nilIface
  | some c => .iface 0 (.int .i64 c)
theorem errW_none : errW none = .nilIface := rfl
theorem errW_some (c : Int) : errW (some c) = .iface 0 (.int .i64 c) := rfl

-- the values' own types

end Go.Proofs.YtdflcicgniediaaDoor.PB
