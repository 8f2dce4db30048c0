/-
  What the rows of this seat's laws share: what the listed variables give (the library's tables), and a world that lays them.
-/
import Derived.Test.YtdflcicgniediaaDoorCards
import Derived.Test.YtdflcicgniediaaDoorTie
import Derived.Test.YtdflcicgniediaaDoorDgSum
import Derived.WalkKit
import Derived.ProofKit
import Derived.OpenShut
import Derived.ShutString
import Derived.SizedLaws
import Derived.Deep.DeepHandedRow
import Derived.Lib.LaidTab
set_option linter.unusedVariables false
set_option linter.unusedSimpArgs false
namespace Go.Proofs.YtdflcicgniediaaDoor.Dg
open Go.ChangeShapes Go.WideShapes Go.ChangeAt Go.RowKit

theorem own : ownKnob Tryd.prog.godebug = none := by kernel_rfl

theorem tab_of_laid {W : World} {l : List (String × DataW Unit)} {name : String} {k : IntKind} {zs : List Int} {g : Nat} {t e : TypeId} {n : Nat}
    (hl : laidMetH Tryd.prog l W) (hh : (l.filter fun x => x.2.handleName?.isSome) = []) (hm : l.filter (fun x => x.1 == name) = [(name, Lib.tabData k zs)])
    (hg : Tryd.prog.globalNamed name = some g) (hty : (Tryd.prog.globals[g]?).map (·.type) = some t) (ht : Tryd.prog.underlying t = some (.array n e)) (he : Tryd.prog.underlying e = some (.int k)) (hce : Tryd.prog.cellsOf e = 1) (hct : Tryd.prog.cellsOf t = n) :
    Lib.TabIs Tryd.prog W name k zs := by
  have h1 : laidMet Tryd.prog l W := by
    unfold laidMetH at hl
    rw [hh] at hl
    exact hl
  have h2 := h1.filter (fun x => x.1 == name)
  rw [hm] at h2
  exact Lib.tabIs_of_head (rest := []) hg hty ht he hce hct h2

def bruijnZ : List Int := [0, 1, 56, 2, 57, 49, 28, 3, 61, 58, 42, 50, 38, 29, 17, 4, 62, 47, 59, 36, 45, 43, 51, 22, 53, 39, 33, 30, 24, 18, 12, 5, 63, 55, 48, 27, 60, 41, 37, 16, 46, 35, 44, 21, 52, 32, 23, 11, 54, 26, 40, 15, 34, 20, 31, 10, 25, 14, 19, 9, 13, 8, 7, 6]
theorem g_bruijn : Tryd.prog.globalNamed "math/bits.deBruijn64tab" = some 5 := by kernel_rfl

theorem tabs_of {W : World} {l : List (String × DataW Unit)} (hl : laidMetH Tryd.prog l W) (hh : (l.filter fun x => x.2.handleName?.isSome) = [])
    (h1 : l.filter (fun x => x.1 == "math/bits.deBruijn64tab") = [("math/bits.deBruijn64tab", Lib.tabData .u8 bruijnZ)])
    (h2 : l.filter (fun x => x.1 == "internal/strconv.uint64pow10") = [("internal/strconv.uint64pow10", Lib.tabData .u64 Lib.pow10Tab)]) : Tabs W where
  bruijn := (tab_of_laid hl hh h1 g_bruijn (by kernel_rfl) Tryd.underlying106 Tryd.underlying5 (by kernel_rfl) (by kernel_rfl)).cell g_bruijn 15 (by decide)
  pow10 := tab_of_laid hl hh h2 g_pow10 (by kernel_rfl) Tryd.underlying91 Tryd.underlying37 (by kernel_rfl) (by kernel_rfl)

/-- The cells that lay a datum of numbers and records of numbers. -/
def cellsOfData : DataW Unit → List Value
  | .lit (.int k n) => [.int k n]
  | .agg l => l.flatMap fun d => match d with
    | .lit (.int k n) => [.int k n]
    | .agg m => m.map fun e => match e with
      | .lit (.int k n) => .int k n
      | _ => .nilIface
    | _ => []
  | _ => []
def layAt (g : Nat) (d : DataW Unit) (h : Array Obj) : Array Obj := h.modify g fun
  | .cells _ t frozen => .cells (cellsOfData d).toArray t frozen
  | o => o

/-- A world for a witness: the settled one, the listed variables holding what they are listed with. -/
noncomputable def laidWorld (l : List (String × DataW Unit)) (os : Os) (i : Input) : World :=
  { World.holding Tryd.prog os i with heap := l.foldl (fun h x => match Tryd.prog.globalNamed x.1 with | some g => layAt g x.2 h | none => h) (World.holding Tryd.prog os i).heap }

end Go.Proofs.YtdflcicgniediaaDoor.Dg
