/-
  rational.Valid at a quotient in lowest terms, numbers below 10^9.
-/
import Derived.Test.YtlhfgjblcckifaaGreatDoorNtCmp
set_option linter.unusedVariables false
set_option linter.unusedSimpArgs false
namespace Go.Proofs.YtlhfgjblcckifaaGreatDoor.Dg
open Go.RowKit Go.Shelf
open Go.Proofs.YtlhfgjblcckifaaGreatDoor.PA
open Go.Proofs.YtlhfgjblcckifaaGreatDoorW.PrintWords Go.Proofs.YtlhfgjblcckifaaGreatDoorW.PrintMore Go.Proofs.YtlhfgjblcckifaaGreatDoorW.PrintLast

theorem ne_lit (s : ByteArray) (n m : Nat) (hs : s = decN n) (l : List UInt8) (hl : decN m = ⟨l.toArray⟩) (h : n ≠ m) : (s.toList == l) = false := by
  rw [beq_eq_false_iff_ne]
  intro e
  rw [ByteArray.toList_eq] at e
  have e2 : s = ⟨l.toArray⟩ := ByteArray.ext (by rw [← Array.toList_inj, e])
  rw [hs, ← hl] at e2
  exact h (decN_inj e2)
theorem decN_one_ : decN 1 = ⟨#[49]⟩ := by
  unfold decN
  rw [show ((1 : Nat) : Int) = ((1 : Nat) : Int) from rfl, Lib.itoa_nonneg]; unfold Lib.decDigits; rw [dif_pos (by decide)]; rfl
/-- In lowest terms: the numerator 0 with the denominator 1, or without a common divisor. -/
def Low (n d : Nat) : Prop := n < 1000000000 ∧ 1 ≤ d ∧ d < 1000000000 ∧ (n = 0 → d = 1) ∧ Nat.gcd n d = 1

set_option maxHeartbeats 2000000 in
set_option maxRecDepth 100000 in
theorem Valid_rat (n d : Nat) (h : Low n d) (sn sd : ByteArray) (hsn : sn = decN n) (hsd : sd = decN d) (w : World) (hT : Tabs w) :
    Calls Tryz.prog 35 #[.agg #[.bool false, .string sn, .string sd]] w fun e w' => e = .returned (.bool true) ∧ Below w.heap.size w w' := by
  obtain ⟨h1, h2, h3, h4, h5⟩ := h
  have hva : natural_Valid.f sn = some true := by rw [hsn]; exact valid_dec n (by omega)
  have hvb : natural_Valid.f sd = some true := by rw [hsd]; exact valid_dec d (by omega)
  have hd0 : (sd.toList == ([48] : List UInt8)) = false := ne_lit sd d 0 hsd [48] decN_zero (by omega)
  have HG := fun W hW => Lib.hid (Gcd_calls n d 1 h5 (by omega) h1 h3 W hW)
  rw [← hsn, ← hsd, decN_one_] at HG
  have HT := Lib.hid hT
  have walk : ∀ (x y : ByteArray), natural_Valid.f x = some true → natural_Valid.f y = some true → (y.toList == ([48] : List UInt8)) = false → ((x = ⟨#[48]⟩ ∧ y = ⟨#[49]⟩) ∨ ((x.toList == ([48] : List UInt8)) = false ∧ ∀ W : World, Tabs W → Hid (Calls Tryz.prog 54 #[.string x, .string y] W fun e w' => e = .returned (.tuple #[.string ⟨#[49]⟩, .int .i64 0]) ∧ Below W.heap.size W w'))) →
      Calls Tryz.prog 35 #[.agg #[.bool false, .string x, .string y]] w fun e w' => e = .returned (.bool true) ∧ Below w.heap.size w w' := by
    intro x y hx hy hy0 hor
    clear hva hvb hd0 HG h5 h4 h3 h2 h1 hsn hsd hT
    have HX := Lib.hid hx
    have HY := Lib.hid hy
    have HOR := Lib.hid hor
    clear hx hy hor
    go_enter Tryz.func35, Tryz.ntmps35
    go_wp2_with fail
    obtain ⟨W1, hW1⟩ : ∃ W1, w.alloc (.cells #[.bool false, .string x, .string y] 31) = W1 := ⟨_, rfl⟩
    have HC1 : Hid (W1.heap[w.heap.size]? = some (.cells #[.bool false, .string x, .string y] 31 (0, 0))) := by rw [← hW1]; exact heap_alloc_new _ _
    have HB1 : Hid (Below w.heap.size w W1) := by rw [← hW1]; exact (Below.refl _ _).alloc (Nat.le_refl _) _
    rw [hW1]
    clear hW1
    refine (natural_Valid.calls x true W1 HX.out).mono ?_
    rintro e w2 ⟨rfl, hb2⟩
    have HB2 : Hid (Below w.heap.size w w2) := HB1.out.trans (hb2.mono HB1.out.size)
    have HC2 := Lib.hid (blk_below HC1.out hb2)
    clear hb2
    have q0 := blk_cell HC2.out 0
    have q1 := blk_cell HC2.out 1
    have q2 := blk_cell HC2.out 2
    go_wp2_with fail
    refine (natural_Valid.calls y true w2 HY.out).mono ?_
    rintro e w3 ⟨rfl, hb3⟩
    have HB3 : Hid (Below w.heap.size w w3) := HB2.out.trans (hb3.mono HB2.out.size)
    have HC3 := Lib.hid (blk_below HC2.out hb3)
    clear hb3 q0 q1 q2
    have q0 := blk_cell HC3.out 0
    have q1 := blk_cell HC3.out 1
    have q2 := blk_cell HC3.out 2
    rcases HOR.out with ⟨rfl, rfl⟩ | ⟨hx0, hg⟩
    · go_wp2_with fail
      go_ret
      exact ⟨rfl, HB3.out⟩
    · go_wp2_with fail
      refine (hg w3 (HT.out.below HB3.out)).out.mono ?_
      rintro e w4 ⟨rfl, hb4⟩
      have HB4 : Hid (Below w.heap.size w w4) := HB3.out.trans (hb4.mono HB3.out.size)
      clear hb4
      go_wp2_with fail
      go_ret
      exact ⟨rfl, HB4.out⟩
  refine walk sn sd hva hvb hd0 ?_
  by_cases h0 : n = 0
  · exact Or.inl ⟨by rw [hsn, h0, decN_zero], by rw [hsd, h4 h0, decN_one_]⟩
  · exact Or.inr ⟨ne_lit sn n 0 hsn [48] decN_zero h0, HG⟩
end Go.Proofs.YtlhfgjblcckifaaGreatDoor.Dg
