/-
  The tree laws' guards in plain terms: few strings, all of which are digests.
-/
import Derived.Test.YtapnakfhkdcfeaaDoorPvA
import Derived.Test.YtapnakfhkdcfeaaDoorTpB
import Derived.Test.YtapnakfhkdcfeaaDoorPx4
import Derived.Test.YtapnakfhkdcfeaaDoorPx3
set_option linter.unusedVariables false
set_option linter.unusedSimpArgs false
namespace Go.Proofs.YtapnakfhkdcfeaaDoor.Pure
open Go.RowKit Go.Proofs.YtapnakfhkdcfeaaDoor.P Go.Proofs.YtapnakfhkdcfeaaDoor.Dg Go.Proofs.YtapnakfhkdcfeaaDoorW.PrintWords Go.Proofs.YtapnakfhkdcfeaaDoorW.PrintMore
attribute [local irreducible] sumB

def few20 (l : List ByteArray) : Bool := decide (l.length ≤ 20) && fewB l 100
theorem few20_out {l : List ByteArray} (h : few20 l = true) : l.length ≤ 20 ∧ ∀ s ∈ l, s.size ≤ 100 := by
  unfold few20 at h
  rw [Bool.and_eq_true, decide_eq_true_eq] at h
  obtain ⟨h1, h2⟩ := h
  exact ⟨h1, fun s hs => by have := (fewB_out l 100 (by decide) h2).2.2 s hs; omega⟩
theorem few02_f (k : Nat) (l : List ByteArray) (hl : l.length ≤ 9223372036854775806) (hk : l.length < k) : observatorylaw02_few.f k l = some (few20 l) := by
  unfold observatorylaw02_few.f few20
  by_cases h : l.length ≤ 20
  · rw [if_pos (by omega), few_f k l 100 hl hk, decide_eq_true h]; simp only [bindS, Bool.true_and]
  · rw [if_neg (by omega), decide_eq_false h]; rfl
def goodB (l : List ByteArray) : Bool := l.all isB && few20 l
theorem good_l0 (l : List ByteArray) (hl : l.length ≤ 9223372036854775806) (d : Nat) : ∀ (k i : Nat), i + d = l.length → l.length + d + 1 < k →
    observatorylaw02_good.l0 k l (i : Int) = some ((l.drop i).all isB && few20 l) := by
  induction d with
  | zero =>
    intro k i hi hk
    obtain ⟨k, rfl⟩ : ∃ q, k = q + 1 := ⟨k - 1, by omega⟩
    simp only [observatorylaw02_good.l0]
    rw [if_neg (by omega), few02_f k l hl (by omega), List.drop_eq_nil_of_le (by omega)]
    simp only [bindS, List.all_nil, Bool.true_and]
  | succ d ih =>
    intro k i hi hk
    obtain ⟨k, rfl⟩ : ∃ q, k = q + 1 := ⟨k - 1, by omega⟩
    have h : i < l.length := by omega
    simp only [observatorylaw02_good.l0]
    rw [if_pos (by omega), if_pos (by omega), rdOf_nat _ _ _ h, is_f, List.drop_eq_getElem_cons h]
    simp only [bindS, List.all_cons]
    by_cases hb : isB l[i] = true
    · rw [if_pos hb, hb, show wrap64 ((i : Int) + 1) = ((i + 1 : Nat) : Int) by unfold wrap64; omega, ih k (i + 1) (by omega) (by omega), Bool.true_and]
    · rw [if_neg hb]
      have : isB l[i] = false := by simpa using hb
      rw [this]; rfl
theorem good_f (k : Nat) (l : List ByteArray) (hl : l.length ≤ 9223372036854775806) (hk : 2 * l.length + 1 < k) : observatorylaw02_good.f k l = some (goodB l) := by
  unfold observatorylaw02_good.f goodB
  have := good_l0 l hl l.length k 0 (by omega) (by omega)
  simpa using this
theorem good_out {l : List ByteArray} (h : goodB l = true) : l.all isB = true ∧ few20 l = true ∧ l.length ≤ 20 := by
  unfold goodB at h
  rw [Bool.and_eq_true] at h
  exact ⟨h.1, h.2, (few20_out h.2).1⟩
theorem head_f (k : Nat) : observatorylaw02_head.f k = some true := rfl
theorem tmod_nat (a : Int) (h : 0 ≤ a ∧ a ≤ 255) (n : Nat) (hn : 0 < n) : ∃ i : Nat, Int.tmod (wrap64 a) (n : Int) = (i : Int) ∧ i < n := by
  rw [show wrap64 a = a by unfold wrap64; omega]
  obtain ⟨m, rfl⟩ := Int.eq_ofNat_of_zero_le h.1
  exact ⟨m % n, (Int.ofNat_tmod m n).symm, Nat.mod_lt _ hn⟩

end Go.Proofs.YtapnakfhkdcfeaaDoor.Pure
