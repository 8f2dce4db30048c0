/-
  What the rows of this seat's laws share: what the listed variables give (the library's tables), and a world that lays them.
-/
import Derived.Test.YtlhfgjblcckifaaGreatDoorCards
import Derived.Test.YtlhfgjblcckifaaGreatDoorTie
import Derived.Test.YtlhfgjblcckifaaGreatDoorMgNum
import Derived.Test.YtlhfgjblcckifaaGreatDoorWWords
import Derived.ChangeSlices
import Derived.WalkKit
import Derived.ProofKit
import Derived.OpenShut
import Derived.ShutString
import Derived.SizedLaws
import Derived.Deep.DeepHandedRow
import Derived.Lib.LaidTab
import Derived.Lay
set_option linter.unusedVariables false
set_option linter.unusedSimpArgs false
namespace Go.Proofs.YtlhfgjblcckifaaGreatDoor.Dg
open Go.ChangeShapes Go.WideShapes Go.ChangeAt Go.RowKit

theorem own : ownKnob Tryz.prog.godebug = none := by kernel_rfl

theorem tab_of_laid {W : World} {l : List (String × DataW Unit)} {name : String} {k : IntKind} {zs : List Int} {g : Nat} {t e : TypeId} {n : Nat}
    (hl : laidMetH Tryz.prog l W) (hh : (l.filter fun x => x.2.handleName?.isSome) = []) (hm : l.filter (fun x => x.1 == name) = [(name, Lib.tabData k zs)])
    (hg : Tryz.prog.globalNamed name = some g) (hty : (Tryz.prog.globals[g]?).map (·.type) = some t) (ht : Tryz.prog.underlying t = some (.array n e)) (he : Tryz.prog.underlying e = some (.int k)) (hce : Tryz.prog.cellsOf e = 1) (hct : Tryz.prog.cellsOf t = n) :
    Lib.TabIs Tryz.prog W name k zs := by
  have h1 : laidMet Tryz.prog l W := by
    unfold laidMetH at hl
    rw [hh] at hl
    exact hl
  have h2 := h1.filter (fun x => x.1 == name)
  rw [hm] at h2
  exact Lib.tabIs_of_head (rest := []) hg hty ht he hce hct h2

theorem tabs_of {W : World} {l : List (String × DataW Unit)} (hl : laidMetH Tryz.prog l W) (hh : (l.filter fun x => x.2.handleName?.isSome) = [])
    (h1 : (0 : Nat) = 0)
    (h2 : l.filter (fun x => x.1 == "internal/strconv.uint64pow10") = [("internal/strconv.uint64pow10", Lib.tabData .u64 Lib.pow10Tab)]) : Tabs W where
  pow10 := tab_of_laid hl hh h2 g_pow10 (by kernel_rfl) Tryz.underlying166 Tryz.underlying79 (by kernel_rfl) (by kernel_rfl)

theorem open_nums {H : Type} {enc : TypeId × Value → H} {P : Program} {W : World} {base : Nat} {spare : Nat → Bool} {held : Bool} {t e : TypeId} {A : Option Addr} {len cap : Nat} {d : DataW H} {ps : List MemPlace} {ts : List TypeId} {ds : List (DataW H)} {j : Nat}
    (hu : P.underlying t = some (.slice e)) (he : P.underlying e = some (.int .i64)) (hc : P.cellsOf e = 1) (hB : P.bytesOf e = 8)
    (hsz : (DataW.weightsEach P ts ds).all (· ≤ reachBytes) = true) (ht : ts[j]? = some t) (hd : ds[j]? = some d)
    (h : DataW.Trod enc P W base spare held t (.slice A len cap) d ps) :
    ∃ l : List Int, len = l.length ∧ Go.Proofs.YtlhfgjblcckifaaGreatDoorW.PrintWords.Kd.C (Go.Proofs.YtlhfgjblcckifaaGreatDoorW.PrintWords.Kd.int .i64) W A l.length l ∧ l.length ≤ cap ∧ l.length ≤ 140737488351232 := by
  obtain ⟨fuel, hf⟩ := h
  rcases open_ints hu he hc hf with ⟨hcs, _⟩ | ⟨x, n, c, ss, hcs, _, hl, _, hz, hx, hr, _⟩
  · simp [Value.cells] at hcs
    obtain ⟨rfl, rfl, rfl⟩ := hcs
    refine ⟨[], rfl, ?_, by simp, by simp⟩
    exact Go.Proofs.YtlhfgjblcckifaaGreatDoorW.PrintWords.Kd.C_of_reads (d := 0) ⟨rfl, by simp, fun h0 => by simp at h0⟩
  · simp [Value.cells] at hcs
    obtain ⟨rfl, rfl, rfl⟩ := hcs
    obtain ⟨hx, _⟩ := Prod.mk.inj hx
    subst hx
    have z := sized_slice hsz ht hd hu
    rw [hB] at z
    have hl2 : len ≤ ss.length := by
      rw [hz]
      split
      · exact hl
      · exact Nat.le_refl _
    have h1 : (lits (H := H) .i64 (ss.take len)).length + (lits (H := H) .i64 (ss.drop len)).length = ss.length := by
      simp [lits]
      omega
    rw [h1] at z
    have e1 : (ss.take len).length = len := by rw [List.length_take]; omega
    refine ⟨ss.take len, e1.symm, ?_, by rw [e1]; exact hl, ?_⟩
    · rw [e1]
      refine Go.Proofs.YtlhfgjblcckifaaGreatDoorW.PrintWords.Kd.C_of_reads (d := 0) ⟨e1, by unfold reachBytes at z; omega, fun _ => ⟨x, rfl, fun i hi => ?_⟩⟩
      rw [hr i (by omega)]
      simp [List.getD, List.getElem?_take, hi]
    · rw [e1]; unfold reachBytes at z; omega

/-- The witness of a row, its shape given. -/
theorem witness_row_z {H : Type} {enc : TypeId × Value → H} {C : Checked} {os : Os} {f : FuncId} {fn : Func} {s : OpenSpec} {conds : List PathCond} {apart : Bool} {laid : List (String × DataW Unit)} (modest : Bool) (w0 : World) (args : Array Value) (hos : w0.os = os)
    (hsh : (w0.forCall (fun _ _ => 0) ⟨#[], args, []⟩).Shaped C.prog)
    (hok : Input.okWideB C.prog (w0.forCall (fun _ _ => 0) ⟨#[], args, []⟩) f ⟨#[], args, []⟩ = true)
    (hrow : s.preRow enc C.prog fn conds apart laid (w0.forCall (fun _ _ => 0) ⟨#[], args, []⟩).memory args) :
    ∃ (w : World) (tape : Tape) (i : Input), w.os = os ∧ (w.forCall tape i).Shaped C.prog ∧ i.vars = [] ∧ Input.okWide C.prog (w.forCall tape i) .any w.heap.size f i ∧
      s.preRow enc C.prog fn conds apart laid (w.forCall tape i).memory i.args ∧ ({ modest := modest } : Assume).holds C.prog (lone (Frame.enter C.prog f i.args .normal) [] (w.forCall tape i)) :=
  ⟨w0, fun _ _ => 0, ⟨#[], args, []⟩, hos, hsh, (Input.okWide_of_okWideB (base := 0) hok).1, (Input.okWide_of_okWideB hok).2, hrow, by
    simp only [Assume.holds]
    exact ⟨by simp, by simp, fun _ => Modest.zero, by simp, by simp⟩⟩

end Go.Proofs.YtlhfgjblcckifaaGreatDoor.Dg
