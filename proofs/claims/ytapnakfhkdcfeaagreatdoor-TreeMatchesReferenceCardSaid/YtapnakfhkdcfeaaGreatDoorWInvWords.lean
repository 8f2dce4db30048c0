/-
  Shared lemmas of this seat's printed functions: what its texts use of the kit's words.
-/
import Derived.Test.YtapnakfhkdcfeaaGreatDoorWInv
import Derived.Test.YtapnakfhkdcfeaaGreatDoorWFootNe
namespace Go.Proofs.YtapnakfhkdcfeaaGreatDoorW.PrintWords
open Go.RowKit
end Go.Proofs.YtapnakfhkdcfeaaGreatDoorW.PrintWords
namespace Go.Proofs.YtapnakfhkdcfeaaGreatDoorW.PrintLast
section
variable {ops : Array Oper} {a : Act} {o og : Oper} {g : Nat} {t : Tmp} {u : Bool}
end
end Go.Proofs.YtapnakfhkdcfeaaGreatDoorW.PrintLast
