/-
  Shared lemmas of this seat's printed functions: what its texts use of the kit's words.
-/
import Derived.Test.YtapnakfhkdcfeaaDoorWInv
import Derived.Test.YtapnakfhkdcfeaaDoorWFootNe
namespace Go.Proofs.YtapnakfhkdcfeaaDoorW.PrintWords
open Go.RowKit
end Go.Proofs.YtapnakfhkdcfeaaDoorW.PrintWords
namespace Go.Proofs.YtapnakfhkdcfeaaDoorW.PrintLast
section
variable {ops : Array Oper} {a : Act} {o og : Oper} {g : Nat} {t : Tmp} {u : Bool}
end
end Go.Proofs.YtapnakfhkdcfeaaDoorW.PrintLast
