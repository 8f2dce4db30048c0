/-
  Shared lemmas of this seat's printed functions: what its texts use of the kit's words.
-/
import Derived.Test.YtapnakfhkdcfeaaGreatDoorWWords
import Derived.Laws.StructEq
/-! ### 53. '==' of structs as_ one Bool -/
namespace Go.Proofs.YtapnakfhkdcfeaaGreatDoorW.PrintWords
open Go.RowKit
section
variable {P : Program} {d : Nat} {xs ys : Array Value} {f : Field} {fs : List Field} {a b : Value} {r s : Bool} {w : World}
end
end Go.Proofs.YtapnakfhkdcfeaaGreatDoorW.PrintWords
