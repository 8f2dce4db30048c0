/-
  The tree laws' guard in plain terms: few strings.
-/
import Derived.Test.YtapnakfhkdcfeaaGreatDoorPvA
import Derived.Test.YtapnakfhkdcfeaaGreatDoorTpB
import Derived.Test.YtapnakfhkdcfeaaGreatDoorPx4
import Derived.Test.YtapnakfhkdcfeaaGreatDoorPx3
set_option linter.unusedVariables false
set_option linter.unusedSimpArgs false
namespace Go.Proofs.YtapnakfhkdcfeaaGreatDoor.Pure
open Go.RowKit Go.Proofs.YtapnakfhkdcfeaaGreatDoor.P Go.Proofs.YtapnakfhkdcfeaaGreatDoor.Dg Go.Proofs.YtapnakfhkdcfeaaGreatDoorW.PrintWords Go.Proofs.YtapnakfhkdcfeaaGreatDoorW.PrintMore
attribute [local irreducible] sumB

def few20 (l : List ByteArray) : Bool := decide (l.length ≤ 20) && fewB l 100
theorem few20_out {l : List ByteArray} (h : few20 l = true) : l.length ≤ 20 ∧ ∀ s ∈ l, s.size ≤ 100 := by
  unfold few20 at h
  rw [Bool.and_eq_true, decide_eq_true_eq] at h
  obtain ⟨h1, h2⟩ := h
  exact ⟨h1, fun s hs => by have := (fewB_out l 100 (by decide) h2).2.2 s hs; omega⟩
theorem few02_f (k : Nat) (l : List ByteArray) (hl : l.length ≤ 9223372036854775806) (hk : l.length < k) : observatorylaw02_few.f k l = some (few20 l) := by
  unfold observatorylaw02_few.f few20
  by_cases h : l.length ≤ 20
  · rw [if_pos (by omega), few_f k l 100 hl hk, decide_eq_true h]; simp only [bindS, Bool.true_and]
  · rw [if_neg (by omega), decide_eq_false h]; rfl
theorem head_f (k : Nat) : observatorylaw02_head.f k = some true := rfl
end Go.Proofs.YtapnakfhkdcfeaaGreatDoor.Pure
