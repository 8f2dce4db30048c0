/-
  The head of the tree laws in the form in which the printed functions take it: it returns true.
-/
import Derived.Test.YtapnakfhkdcfeaaGreatDoorPvH
set_option linter.unusedVariables false
set_option linter.unusedSimpArgs false
namespace Go.Proofs.YtapnakfhkdcfeaaGreatDoor.P
open Go.RowKit Go.Proofs.YtapnakfhkdcfeaaGreatDoorW.PrintWords Go.Proofs.YtapnakfhkdcfeaaGreatDoorW.PrintLast Go.Proofs.YtapnakfhkdcfeaaGreatDoorW.PrintMore
open Go.Proofs.YtapnakfhkdcfeaaGreatDoor.Dg

/-! ### observatorylaw02_head: function 4 -/
def observatorylaw02_head.f (k : Nat) : Option (Bool) := some true
theorem observatorylaw02_head.mono : ∀ k, LeO (observatorylaw02_head.f k) (observatorylaw02_head.f (k + 1)) := fun k => LeO.refl _
theorem observatorylaw02_head.calls (k : Nat) (r : Bool) (w : World) (hT : Tabs w) (h : observatorylaw02_head.f k = some r) :
    Calls Tryz.prog 4 #[] w fun e w' => e = .returned (.bool r) ∧ Below w.heap.size w w' := by
  obtain rfl := Option.some.inj h
  exact Pure.head_calls w hT

end Go.Proofs.YtapnakfhkdcfeaaGreatDoor.P
