-- printed by wip/tools/oprint.py over the kit's print.py: this session's own program
import Derived.Test.YtapnakfhkdcfeaaGreatDoorProg
import Derived.Below
import Derived.Deep.Draws
import Derived.Deep.AppendLies
import Derived.Maps.AppendAt
import Derived.OwnWalk
import Derived.Laws.BytesArg
import Derived.Laws.MakeOwn
import Derived.Laws.OwnMore
import Derived.Deep.OwnRows
import Derived.Tactics
import Derived.Lib.ConvBytes
import Derived.Laws.Slices
import Derived.WalkKit
import Derived.KernelRfl
import Derived.RowKit3
import Derived.Deep.LoopGhost
import Derived.Deep.QuietTactic
import Derived.BigQuiet
import Derived.WideLaws
import Derived.Deep.DeepCutAuto
import Derived.Deep.CutBlock
import Derived.Deep.RegionHeld3
import Derived.Laws.Rows
import Derived.Lib.AppendStr
import Derived.ArgAppend
import Derived.Laws.IdiomCopy
import Derived.OrdersHeld
import Derived.Laws.BitsLemmas
import Derived.RowKit
import Derived.Test.YtapnakfhkdcfeaaGreatDoorMgDigest
import Derived.Test.YtapnakfhkdcfeaaGreatDoorMgProof
import Derived.Test.YtapnakfhkdcfeaaGreatDoorWWords
import Derived.Test.YtapnakfhkdcfeaaGreatDoorWLast
import Derived.Test.YtapnakfhkdcfeaaGreatDoorWTab
import Derived.Test.YtapnakfhkdcfeaaGreatDoorWFour
import Derived.Test.YtapnakfhkdcfeaaGreatDoorWQPut
import Derived.Test.YtapnakfhkdcfeaaGreatDoorWApart
import Derived.Test.YtapnakfhkdcfeaaGreatDoorWArr
import Derived.Test.YtapnakfhkdcfeaaGreatDoorWZeros
import Derived.Test.YtapnakfhkdcfeaaGreatDoorWFoot
import Derived.Test.YtapnakfhkdcfeaaGreatDoorWKept
import Derived.Test.YtapnakfhkdcfeaaGreatDoorWShare
import Derived.Test.YtapnakfhkdcfeaaGreatDoorWN
import Derived.Test.YtapnakfhkdcfeaaGreatDoorWFootNe
import Derived.Test.YtapnakfhkdcfeaaGreatDoorWAt
import Derived.Test.YtapnakfhkdcfeaaGreatDoorWEqStruct
import Derived.Test.YtapnakfhkdcfeaaGreatDoorWRepsOne
import Derived.Test.YtapnakfhkdcfeaaGreatDoorWInv
import Derived.Test.YtapnakfhkdcfeaaGreatDoorWInvWords
import Derived.Test.YtapnakfhkdcfeaaGreatDoorWGuard
import Derived.Test.YtapnakfhkdcfeaaGreatDoorWNEv
import Derived.Test.YtapnakfhkdcfeaaGreatDoorWMore
namespace Go.Proofs.YtapnakfhkdcfeaaGreatDoor.P
open Go.RowKit Go.Proofs.YtapnakfhkdcfeaaGreatDoorW.PrintWords Go.Proofs.YtapnakfhkdcfeaaGreatDoorW.PrintLast Go.Proofs.YtapnakfhkdcfeaaGreatDoorW.PrintMore
attribute [local go_sem] max2_int min2_int max_two min_two max_three min_three max_four min_four   -- for this text's walks alone
set_option linter.unusedVariables false
set_option linter.unusedSimpArgs false
open Go.Proofs.YtapnakfhkdcfeaaGreatDoor.Dg



def errW : Option Int → Value
 | none => .nilIface
 | some c => .iface 0 (.int .i64 c)
theorem errW_none : errW none = .nilIface := rfl
theorem errW_some (c : Int) : errW (some c) = .iface 0 (.int .i64 c) := rfl

theorem info5 : (Tryz.prog.info? 5).map (fun i => (i.zero, i.size, i.bytes)) = some (some (.int .u8 0), 1, 1) := by kernel_rfl
theorem info9 : (Tryz.prog.info? 9).map (fun i => (i.zero, i.size, i.bytes)) = some (some (.string ⟨#[]⟩), 1, 16) := by kernel_rfl
-- the values' own types

end Go.Proofs.YtapnakfhkdcfeaaGreatDoor.P
