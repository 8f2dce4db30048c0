/-
  A slice of texts among the arguments, opened: what a row hands over, as what the printed contracts take.
-/
import Derived.Test.YtdflcicgniediaaDoorDgCalls
import Derived.ChangeSlices
import Derived.SliceStrings
import Derived.SizedLaws
set_option linter.unusedVariables false
set_option linter.unusedSimpArgs false
namespace Go.Proofs.YtdflcicgniediaaDoor.Dg
open Go.ChangeShapes Go.WideShapes Go.RowKit Go.Proofs.YtdflcicgniediaaDoorW.PrintWords

theorem open_strs {H : Type} {enc : TypeId × Value → H} {P : Program} {W : World} {base : Nat} {spare : Nat → Bool} {held : Bool} {t e : TypeId} {A : Option Addr} {len cap : Nat} {d : DataW H} {ps : List MemPlace} {ts : List TypeId} {ds : List (DataW H)} {j : Nat}
    (hu : P.underlying t = some (.slice e)) (he : P.underlying e = some .string) (hc : P.cellsOf e = 1) (hB : P.bytesOf e = 16)
    (hsz : (DataW.weightsEach P ts ds).all (· ≤ reachBytes) = true) (ht : ts[j]? = some t) (hd : ds[j]? = some d)
    (h : DataW.Trod enc P W base spare held t (.slice A len cap) d ps) :
    ∃ l : List ByteArray, len = l.length ∧ Kd.C Kd.string W A l.length l ∧ l.length ≤ cap ∧ l.length ≤ 140737488351232 := by
  obtain ⟨fuel, hf⟩ := h
  rcases open_strings hu he hc hf with ⟨hcs, _⟩ | ⟨x, n, c, ss, hcs, _, hl, _, hz, hx, hr, _⟩
  · simp [Value.cells] at hcs
    obtain ⟨rfl, rfl, rfl⟩ := hcs
    refine ⟨[], rfl, ?_, by simp, by simp⟩
    exact Kd.C_of_reads (d := ByteArray.empty) ⟨rfl, by simp, fun h0 => by simp at h0⟩
  · simp [Value.cells] at hcs
    obtain ⟨rfl, rfl, rfl⟩ := hcs
    obtain ⟨hx, _⟩ := Prod.mk.inj hx
    subst hx
    have z := sized_slice hsz ht hd hu
    rw [hB] at z
    have hl2 : len ≤ ss.length := by
      rw [hz]
      split
      · exact hl
      · exact Nat.le_refl _
    have h1 : (strs (H := H) (ss.take len)).length + (strs (H := H) (ss.drop len)).length = ss.length := by
      simp [strs]
      omega
    rw [h1] at z
    have e1 : (ss.take len).length = len := by rw [List.length_take]; omega
    refine ⟨ss.take len, e1.symm, ?_, by rw [e1]; exact hl, ?_⟩
    · rw [e1]
      refine Kd.C_of_reads (d := ByteArray.empty) ⟨e1, by unfold reachBytes at z; omega, fun _ => ⟨x, rfl, fun i hi => ?_⟩⟩
      rw [hr i (by omega)]
      simp [List.getD, List.getElem?_take, hi]
    · rw [e1]; unfold reachBytes at z; omega

end Go.Proofs.YtdflcicgniediaaDoor.Dg
