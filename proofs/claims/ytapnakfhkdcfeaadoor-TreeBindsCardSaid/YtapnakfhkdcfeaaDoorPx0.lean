-- printed by wip/tools/oprint.py over the kit's print.py: this session's own program
import Derived.Test.YtapnakfhkdcfeaaDoorProg
import Derived.Below
import Derived.Deep.Draws
import Derived.Deep.AppendLies
import Derived.Maps.AppendAt
import Derived.OwnWalk
import Derived.Laws.BytesArg
import Derived.Laws.MakeOwn
import Derived.Laws.OwnMore
import Derived.Deep.OwnRows
import Derived.Tactics
import Derived.Lib.ConvBytes
import Derived.Laws.Slices
import Derived.WalkKit
import Derived.KernelRfl
import Derived.RowKit3
import Derived.Deep.LoopGhost
import Derived.Deep.QuietTactic
import Derived.BigQuiet
import Derived.WideLaws
import Derived.Deep.DeepCutAuto
import Derived.Deep.CutBlock
import Derived.Deep.RegionHeld3
import Derived.Laws.Rows
import Derived.Lib.AppendStr
import Derived.ArgAppend
import Derived.Laws.IdiomCopy
import Derived.OrdersHeld
import Derived.Laws.BitsLemmas
import Derived.RowKit
import Derived.Test.YtapnakfhkdcfeaaDoorMgDigest
import Derived.Test.YtapnakfhkdcfeaaDoorMgProof
import Derived.Test.YtapnakfhkdcfeaaDoorWWords
import Derived.Test.YtapnakfhkdcfeaaDoorWLast
import Derived.Test.YtapnakfhkdcfeaaDoorWTab
import Derived.Test.YtapnakfhkdcfeaaDoorWFour
import Derived.Test.YtapnakfhkdcfeaaDoorWQPut
import Derived.Test.YtapnakfhkdcfeaaDoorWApart
import Derived.Test.YtapnakfhkdcfeaaDoorWArr
import Derived.Test.YtapnakfhkdcfeaaDoorWZeros
import Derived.Test.YtapnakfhkdcfeaaDoorWFoot
import Derived.Test.YtapnakfhkdcfeaaDoorWKept
import Derived.Test.YtapnakfhkdcfeaaDoorWShare
import Derived.Test.YtapnakfhkdcfeaaDoorWN
import Derived.Test.YtapnakfhkdcfeaaDoorWFootNe
import Derived.Test.YtapnakfhkdcfeaaDoorWAt
import Derived.Test.YtapnakfhkdcfeaaDoorWEqStruct
import Derived.Test.YtapnakfhkdcfeaaDoorWRepsOne
import Derived.Test.YtapnakfhkdcfeaaDoorWInv
import Derived.Test.YtapnakfhkdcfeaaDoorWInvWords
import Derived.Test.YtapnakfhkdcfeaaDoorWGuard
import Derived.Test.YtapnakfhkdcfeaaDoorWNEv
import Derived.Test.YtapnakfhkdcfeaaDoorWMore
namespace Go.Proofs.YtapnakfhkdcfeaaDoor.P
open Go.RowKit Go.Proofs.YtapnakfhkdcfeaaDoorW.PrintWords Go.Proofs.YtapnakfhkdcfeaaDoorW.PrintLast Go.Proofs.YtapnakfhkdcfeaaDoorW.PrintMore
attribute [local go_sem] max2_int min2_int max_two min_two max_three min_three max_four min_four   -- for this text's walks alone
set_option linter.unusedVariables false
set_option linter.unusedSimpArgs false
open Go.Proofs.YtapnakfhkdcfeaaDoor.Dg



def errW : Option Int → Value
 | none => .nilIface
 | some c => .iface 0 (.int .i64 c)
theorem errW_none : errW none = .nilIface := rfl
theorem errW_some (c : Int) : errW (some c) = .iface 0 (.int .i64 c) := rfl

theorem info5 : (Tryd.prog.info? 5).map (fun i => (i.zero, i.size, i.bytes)) = some (some (.int .u8 0), 1, 1) := by kernel_rfl
theorem info9 : (Tryd.prog.info? 9).map (fun i => (i.zero, i.size, i.bytes)) = some (some (.string ⟨#[]⟩), 1, 16) := by kernel_rfl
-- the values' own types

end Go.Proofs.YtapnakfhkdcfeaaDoor.P
