/-
  rational.Compare at two quotients in lowest terms that are not negative, numbers below 10^9.
-/
import Derived.Test.YtlhfgjblcckifaaGreatDoorNtRatA
import Derived.Test.YtlhfgjblcckifaaGreatDoorNtRatB
set_option linter.unusedVariables false
set_option linter.unusedSimpArgs false
namespace Go.Proofs.YtlhfgjblcckifaaGreatDoor.Dg
open Go.RowKit Go.Shelf
open Go.Proofs.YtlhfgjblcckifaaGreatDoor.PA
open Go.Proofs.YtlhfgjblcckifaaGreatDoorW.PrintWords Go.Proofs.YtlhfgjblcckifaaGreatDoorW.PrintMore Go.Proofs.YtlhfgjblcckifaaGreatDoorW.PrintLast

set_option maxHeartbeats 2000000 in
set_option maxRecDepth 100000 in
theorem Rat_walk (n1 d1 n2 d2 : Nat) (h1 : Low n1 d1) (h2 : Low n2 d2) (s1 t1 s2 t2 : ByteArray) (hs1 : s1 = decN n1) (ht1 : t1 = decN d1) (hs2 : s2 = decN n2) (ht2 : t2 = decN d2) (w : World) (hT : Tabs w) :
    Calls Tryz.prog 21 #[.agg #[.bool false, .string s1, .string t1], .agg #[.bool false, .string s2, .string t2]] w fun e w' => e = .returned (.int .i64 (ratI n1 d1 n2 d2)) ∧ Below w.heap.size w w' := by
  have HT := Lib.hid hT
  have HV1 := Lib.hid fun W => Valid_rat n1 d1 h1 s1 t1 hs1 ht1 W
  have HV2 := Lib.hid fun W => Valid_rat n2 d2 h2 s2 t2 hs2 ht2 W
  have HH := Lib.hid (And.intro h1 (And.intro h2 (And.intro hs1 (And.intro ht1 (And.intro hs2 ht2)))))
  obtain ⟨R, hR⟩ : ∃ R, ratI n1 d1 n2 d2 = R := ⟨_, rfl⟩
  rw [hR]
  have HR := Lib.hid hR
  by_cases heq : s1 = s2 ∧ t1 = t2
  rotate_left
  · rw [← hR]
    have hne : (¬ s1.toList = s2.toList) ∨ (s1.toList = s2.toList ∧ ¬ t1.toList = t2.toList) := by
      rw [ByteArray.toList_eq, ByteArray.toList_eq, ByteArray.toList_eq, ByteArray.toList_eq]
      by_cases e : s1 = s2
      · exact Or.inr ⟨by rw [e], fun q => heq ⟨e, ByteArray.ext (Array.toList_inj.1 q)⟩⟩
      · exact Or.inl fun q => e (ByteArray.ext (Array.toList_inj.1 q))
    rcases hne with hne | ⟨hne1, hne2⟩
    · exact Rat_walkA n1 d1 n2 d2 h1 h2 s1 t1 s2 t2 hs1 ht1 hs2 ht2 heq hne w hT
    · exact Rat_walkB n1 d1 n2 d2 h1 h2 s1 t1 s2 t2 hs1 ht1 hs2 ht2 heq hne1 hne2 w hT
  obtain ⟨rfl, rfl⟩ := heq
  clear hT h1 h2 hs1 ht1 hs2 ht2 hR
  go_enter Tryz.func21, Tryz.ntmps21
  go_wp2_with fail
  obtain ⟨W1, hW1⟩ : ∃ W1, (w.alloc (.cells #[.bool false, .string s1, .string t1] 31)).alloc (.cells #[.bool false, .string s1, .string t1] 31) = W1 := ⟨_, rfl⟩
  have HA1 : Hid (W1.heap[w.heap.size]? = some (.cells #[.bool false, .string s1, .string t1] 31 (0, 0))) := by rw [← hW1]; exact blk_alloc (heap_alloc_new _ _) _
  have HC1 : Hid (W1.heap[w.heap.size + 1]? = some (.cells #[.bool false, .string s1, .string t1] 31 (0, 0))) := by
    have e : w.heap.size + 1 = (w.alloc (.cells #[.bool false, .string s1, .string t1] 31)).heap.size := by simp
    show _ = _
    rw [e, ← hW1]; exact heap_alloc_new _ _
  have HB1 : Hid (Below w.heap.size w W1) := by rw [← hW1]; exact ((Below.refl _ _).alloc (Nat.le_refl _) _).alloc (by simp) _
  have e1 : (w.alloc (.cells #[.bool false, .string s1, .string t1] 31)).heap.size = w.heap.size + 1 := by simp
  rw [hW1]
  clear hW1
  refine (HV1.out W1 (HT.out.below HB1.out)).mono ?_
  rintro e w2 ⟨rfl, hb2⟩
  have HB2 : Hid (Below w.heap.size w w2) := HB1.out.trans (hb2.mono HB1.out.size)
  have HA2 := Lib.hid (blk_below HA1.out hb2)
  have HC2 := Lib.hid (blk_below HC1.out hb2)
  clear hb2 HA1 HC1 HB1
  have p0 := blk_cell HA2.out 0
  have p1 := blk_cell HA2.out 1
  have p2 := blk_cell HA2.out 2
  have q0 := blk_cell HC2.out 0
  have q1 := blk_cell HC2.out 1
  have q2 := blk_cell HC2.out 2
  go_wp2_with fail
  refine (HV2.out w2 (HT.out.below HB2.out)).mono ?_
  rintro e w3 ⟨rfl, hb3⟩
  have HB3 : Hid (Below w.heap.size w w3) := HB2.out.trans (hb3.mono HB2.out.size)
  have HA3 := Lib.hid (blk_below HA2.out hb3)
  have HC3 := Lib.hid (blk_below HC2.out hb3)
  clear hb3 HA2 HC2 HB2 p0 p1 p2 q0 q1 q2
  have p0 : w3.cell? ⟨w.heap.size, 0, none⟩ = some (.bool false) := blk_cell HA3.out 0
  have p1 : w3.cell? ⟨w.heap.size, 1, none⟩ = some (.string s1) := blk_cell HA3.out 1
  have p2 : w3.cell? ⟨w.heap.size, 2, none⟩ = some (.string t1) := blk_cell HA3.out 2
  have q0 : w3.cell? ⟨w.heap.size + 1, 0, none⟩ = some (.bool false) := blk_cell HC3.out 0
  have q1 : w3.cell? ⟨w.heap.size + 1, 1, none⟩ = some (.string s1) := blk_cell HC3.out 1
  have q2 : w3.cell? ⟨w.heap.size + 1, 2, none⟩ = some (.string t1) := blk_cell HC3.out 2
  have e : R = 0 := by
    obtain ⟨h1, h2, hs1, ht1, hs2, ht2⟩ := HH.out
    rw [← HR.out]
    unfold ratI
    rw [if_pos ⟨decN_inj (hs1.symm.trans hs2), decN_inj (ht1.symm.trans ht2)⟩]
  subst e
  go_wp2_with fail
  go_ret
  exact ⟨rfl, HB3.out⟩

instance (n d : Nat) : Decidable (Low n d) := by unfold Low; infer_instance
def rational_Compare.f (a0 : Bool) (a1 a2 : ByteArray) (b0 : Bool) (b1 b2 : ByteArray) : Option Int :=
  if a0 = false ∧ b0 = false ∧ a1 = decN (natV a1) ∧ a2 = decN (natV a2) ∧ b1 = decN (natV b1) ∧ b2 = decN (natV b2) ∧ Low (natV a1) (natV a2) ∧ Low (natV b1) (natV b2) then some (ratI (natV a1) (natV a2) (natV b1) (natV b2)) else none
theorem rational_Compare.calls (a0 : Bool) (a1 a2 : ByteArray) (b0 : Bool) (b1 b2 : ByteArray) (r : Int) (w : World) (hT : Tabs w) (h : rational_Compare.f a0 a1 a2 b0 b1 b2 = some r) :
    Calls Tryz.prog 21 #[.agg #[.bool a0, .string a1, .string a2], .agg #[.bool b0, .string b1, .string b2]] w fun e w' => e = .returned (.int .i64 r) ∧ Below w.heap.size w w' := by
  unfold rational_Compare.f at h
  split at h
  · rename_i hh
    obtain ⟨rfl, rfl, h1, h2, h3, h4, h5, h6⟩ := hh
    have e := Option.some.inj h
    subst e
    exact Rat_walk _ _ _ _ h5 h6 a1 a2 b1 b2 h1 h2 h3 h4 w hT
  · exact absurd h (by simp)
theorem cmp_dec (n1 d1 n2 d2 : Nat) (h1 : Low n1 d1) (h2 : Low n2 d2) : rational_Compare.f false (decN n1) (decN d1) false (decN n2) (decN d2) = some (ratI n1 d1 n2 d2) := by
  unfold rational_Compare.f
  rw [natV_dec, natV_dec, natV_dec, natV_dec, if_pos ⟨rfl, rfl, rfl, rfl, rfl, rfl, h1, h2⟩]
end Go.Proofs.YtlhfgjblcckifaaGreatDoor.Dg
