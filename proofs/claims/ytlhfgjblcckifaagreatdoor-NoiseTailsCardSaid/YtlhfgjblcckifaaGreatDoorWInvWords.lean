/-
  Shared lemmas of this seat's printed functions: what its texts use of the kit's words.
-/
import Derived.Test.YtlhfgjblcckifaaGreatDoorWInv
import Derived.Test.YtlhfgjblcckifaaGreatDoorWFootNe
namespace Go.Proofs.YtlhfgjblcckifaaGreatDoorW.PrintWords
open Go.RowKit
end Go.Proofs.YtlhfgjblcckifaaGreatDoorW.PrintWords
namespace Go.Proofs.YtlhfgjblcckifaaGreatDoorW.PrintLast
section
variable {ops : Array Oper} {a : Act} {o og : Oper} {g : Nat} {t : Tmp} {u : Bool}
end
end Go.Proofs.YtlhfgjblcckifaaGreatDoorW.PrintLast
