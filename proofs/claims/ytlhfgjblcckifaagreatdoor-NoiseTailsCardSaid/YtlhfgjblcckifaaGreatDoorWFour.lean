/-
  Shared lemmas of this seat's printed functions: what its texts use of the kit's words.
-/
import Derived.Test.YtlhfgjblcckifaaGreatDoorWTab
/-! ### 56. Four, five, six operations that may come up next, in any order -/
namespace Go.Proofs.YtlhfgjblcckifaaGreatDoorW.PrintLast
section
variable {P : Program} {ops : Array Oper} {Q : Exit → Act → World → Prop} {md : Region.Mode} {S : World → Prop} {ds : List Nat} {T : Bool × List (List Nat × List Nat)}
end
end Go.Proofs.YtlhfgjblcckifaaGreatDoorW.PrintLast
