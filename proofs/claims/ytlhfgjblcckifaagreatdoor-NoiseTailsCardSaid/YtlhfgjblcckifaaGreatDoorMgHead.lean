/-
  The noise laws' head.
-/
import Derived.Test.YtlhfgjblcckifaaGreatDoorPxT
import Derived.Test.YtlhfgjblcckifaaGreatDoorPxS
set_option linter.unusedVariables false
set_option linter.unusedSimpArgs false
namespace Go.Proofs.YtlhfgjblcckifaaGreatDoor.P
open Go.RowKit Go.Shelf
open Go.Proofs.YtlhfgjblcckifaaGreatDoorW.PrintWords Go.Proofs.YtlhfgjblcckifaaGreatDoorW.PrintMore Go.Proofs.YtlhfgjblcckifaaGreatDoorW.PrintLast
open Go.Proofs.YtlhfgjblcckifaaGreatDoor.Dg

theorem dA : Nz.distN [-1, 1] 2 = [(-2, 1), (0, 2), (2, 1)] := by kernel_rfl
theorem dB : Nz.distN [0, 0, 3] 1 = [(0, 2), (3, 1)] := by kernel_rfl
theorem dC : Nz.distN [7, 8] 0 = [(0, 1)] := by kernel_rfl
theorem vA : noise_Distribution.f [-1, 1] 2 = some ([⟨-2, decN 1⟩, ⟨0, decN 2⟩, ⟨2, decN 1⟩], 0) := by
  unfold noise_Distribution.f
  rw [if_pos (by decide), if_neg (by decide), if_pos (by decide)]
  show some ((Nz.distN [-1, 1] 2).map mkO, (0 : Int)) = _
  rw [dA]; rfl
theorem vB : noise_Distribution.f [0, 0, 3] 1 = some ([⟨0, decN 2⟩, ⟨3, decN 1⟩], 0) := by
  unfold noise_Distribution.f
  rw [if_pos (by decide), if_neg (by decide), if_pos (by decide)]
  show some ((Nz.distN [0, 0, 3] 1).map mkO, (0 : Int)) = _
  rw [dB]; rfl
theorem vC : noise_Distribution.f [7, 8] 0 = some ([⟨0, decN 1⟩], 0) := by
  unfold noise_Distribution.f
  rw [if_pos (by decide), if_neg (by decide), if_pos (by decide)]
  show some ((Nz.distN [7, 8] 0).map mkO, (0 : Int)) = _
  rw [dC]; rfl
theorem vJ : noise_Distribution.f [] 2 = some ([], 1) := by
  unfold noise_Distribution.f
  rw [if_neg (by decide)]
theorem vK : noise_Distribution.f [51] 2 = some ([], 1) := by
  unfold noise_Distribution.f
  rw [if_neg (by decide)]
theorem vL : noise_Distribution.f [1] 41 = some ([], 1) := by
  unfold noise_Distribution.f
  rw [if_pos (by decide), if_pos (by decide)]
theorem low34 : rational_lowest.f false (decN 3) (decN 4) = some (false, decN 3, decN 4) := by
  unfold rational_lowest.f
  rw [if_neg (fun e => by
    rw [ByteArray.toList_eq] at e
    have : decN 3 = decN 0 := by rw [decN_zero]; exact ByteArray.ext (Array.toList_inj.1 e)
    exact absurd (decN_inj this) (by decide))]
  rw [gcd_dec 3 4 (by decide) (by decide)]
  simp only [Option.bind_some]
  rw [show Nat.gcd 3 4 = 1 from by decide, div_dec 3 1 (by decide) (by decide) (by decide)]
  simp only [Option.bind_some]
  rw [div_dec 4 1 (by decide) (by decide) (by decide)]
  rfl
theorem low0 (d : ByteArray) : rational_lowest.f false (decN 0) d = some (false, decN 0, decN 1) := by
  unfold rational_lowest.f
  rw [if_pos (by rw [decN_zero, ByteArray.toList_eq]), decN_one, decN_zero]
theorem make_dec (k a b : Nat) (ha : a < 1000000000) (hb0 : 1 ≤ b) (hb : b < 1000000000) (r1 : Bool) (r2 r3 : ByteArray) (h : rational_lowest.f false (decN a) (decN b) = some (r1, r2, r3)) : rational_Make.f (k + 1) false (decN a) (decN b) = some (r1, r2, r3, 0) := by
  have hva : natural_Valid.f (decN a) = some true := valid_dec a ha
  have hvb : natural_Valid.f (decN b) = some true := valid_dec b hb
  unfold rational_Make.f
  rw [hva]
  simp only [Option.bind_some, if_true]
  rw [hvb]
  simp only [Option.bind_some, Bool.not_true]
  rw [rational_Make.j0, if_neg (by decide), if_neg (fun e => by
    rw [ByteArray.toList_eq] at e
    have : decN b = decN 0 := by rw [decN_zero]; exact ByteArray.ext (Array.toList_inj.1 e)
    have := decN_inj this
    omega), h]
  rfl
theorem tail_end (k : Nat) (x : Int) (s a : Nat) (l : List S38) (hs : s < 1000000000) (ha0 : 1 ≤ a) (ha : a < 1000000000) (r1 : Bool) (r2 r3 : ByteArray) (h : rational_lowest.f false (decN s) (decN a) = some (r1, r2, r3)) :
    noise_Tail.l0 (k + 2) x (decN s) (decN a) l (l.length : Int) (l.length : Int) = some (r1, r2, r3, 0) := by
  rw [noise_Tail.l0, if_neg (by omega), make_dec k s a hs ha0 ha r1 r2 r3 h]
  rfl
theorem tail_step (k : Nat) (x : Int) (s a : Nat) (l : List S38) (j : Nat) (v : Int) (c : Nat) (hj : l[j]? = some ⟨v, decN c⟩) (hl : l.length < 1000000) (ha : a + c < 1000000000) (hs : s + c < 1000000000) :
    noise_Tail.l0 (k + 1) x (decN s) (decN a) l (l.length : Int) (j : Int) = noise_Tail.l0 k x (decN (if v ≥ x then s + c else s)) (decN (a + c)) l (l.length : Int) ((j + 1 : Nat) : Int) := by
  have hlt : j < l.length := (List.getElem?_eq_some_iff.1 hj).1
  have hr : rd_T38 l (j : Int) = ⟨v, decN c⟩ := by
    unfold rd_T38
    rw [Int.toNat_natCast, List.getD_eq_getElem?_getD, hj]; rfl
  have hw : wrap64 ((j : Int) + 1) = ((j + 1 : Nat) : Int) := by unfold wrap64; omega
  rw [noise_Tail.l0, if_pos (by omega), if_pos (by omega), if_pos (by omega), hr, add_dec a c ha, hw]
  simp only [Option.bind_some]
  by_cases h : v ≥ x
  · rw [if_pos h, if_pos h, add_dec s c hs]
    rfl
  · rw [if_neg h, if_neg h]
theorem tailA (x : Int) (k : Nat) : noise_Tail.l0 (k + 5) x (decN 0) (decN 0) [⟨-2, decN 1⟩, ⟨0, decN 2⟩, ⟨2, decN 1⟩] 3 0 =
    noise_Tail.l0 (k + 2) x (decN ((if (2 : Int) ≥ x then 1 else 0) + (if (0 : Int) ≥ x then 2 else 0) + (if (-2 : Int) ≥ x then 1 else 0))) (decN 4) [⟨-2, decN 1⟩, ⟨0, decN 2⟩, ⟨2, decN 1⟩] 3 3 := by
  have s1 := tail_step (k + 4) x 0 0 [⟨-2, decN 1⟩, ⟨0, decN 2⟩, ⟨2, decN 1⟩] 0 (-2) 1 rfl (by decide) (by decide) (by decide)
  have s2 := tail_step (k + 3) x (if (-2 : Int) ≥ x then 0 + 1 else 0) (0 + 1) [⟨-2, decN 1⟩, ⟨0, decN 2⟩, ⟨2, decN 1⟩] 1 0 2 rfl (by decide) (by decide) (by split <;> omega)
  have s3 := tail_step (k + 2) x (if (0 : Int) ≥ x then (if (-2 : Int) ≥ x then 0 + 1 else 0) + 2 else (if (-2 : Int) ≥ x then 0 + 1 else 0)) (0 + 1 + 2) [⟨-2, decN 1⟩, ⟨0, decN 2⟩, ⟨2, decN 1⟩] 2 2 1 rfl (by decide) (by decide) (by (repeat' split) <;> omega)
  refine (s1.trans (s2.trans s3)).trans ?_
  congr 2
  (repeat' split) <;> omega
theorem vX : noise_Tail.f 5 [-1, 1] 2 0 = some (false, decN 3, decN 4, 0) := by
  unfold noise_Tail.f
  rw [vA]
  simp only [Option.bind_some]
  rw [if_pos trivial, ← decN_zero]
  refine (tailA 0 0).trans ?_
  exact tail_end 0 0 3 4 [⟨-2, decN 1⟩, ⟨0, decN 2⟩, ⟨2, decN 1⟩] (by decide) (by decide) (by decide) _ _ _ low34
theorem vY : noise_Tail.f 5 [-1, 1] 2 3 = some (false, decN 0, decN 1, 0) := by
  unfold noise_Tail.f
  rw [vA]
  simp only [Option.bind_some]
  rw [if_pos trivial, ← decN_zero]
  refine (tailA 3 0).trans ?_
  exact tail_end 0 3 0 4 [⟨-2, decN 1⟩, ⟨0, decN 2⟩, ⟨2, decN 1⟩] (by decide) (by decide) (by decide) _ _ _ (low0 _)
end Go.Proofs.YtlhfgjblcckifaaGreatDoor.P

set_option linter.unusedVariables false
namespace Go.Proofs.YtlhfgjblcckifaaGreatDoor.P
open Go.RowKit Go.Shelf
open Go.Proofs.YtlhfgjblcckifaaGreatDoorW.PrintWords Go.Proofs.YtlhfgjblcckifaaGreatDoorW.PrintMore Go.Proofs.YtlhfgjblcckifaaGreatDoorW.PrintLast
open Go.Proofs.YtlhfgjblcckifaaGreatDoor.Dg
def cells38 (l : List S38) : List Value := l.flatMap fun x => [.int .i64 x.f0, .string x.f1]
theorem cells38_get : ∀ (l : List S38) (j : Nat) (p : S38), l[j]? = some p → (cells38 l)[j * 2]? = some (.int .i64 p.f0) ∧ (cells38 l)[j * 2 + 1]? = some (.string p.f1)
  | [], j, p, h => by simp at h
  | x :: l, 0, p, h => by
    have : x = p := by simpa using h
    subst this
    exact ⟨rfl, rfl⟩
  | x :: l, j + 1, p, h => by
    have h1 : l[j]? = some p := by simpa using h
    have := cells38_get l j p h1
    have e : cells38 (x :: l) = .int .i64 x.f0 :: .string x.f1 :: cells38 l := rfl
    rw [e, show (j + 1) * 2 = j * 2 + 1 + 1 by omega]
    exact this
theorem lit38 (w : World) (l : List S38) (hl : l.length ≤ 1000) : Kd.C k38 (w.alloc (.cells (cells38 l).toArray 38)) (some ⟨w.heap.size, 0, none⟩) l.length l := by
  refine ⟨rfl, by omega, fun _ => ⟨⟨w.heap.size, 0, none⟩, rfl, fun j p hj => ⟨[.int .i64 p.f0, .string p.f1], rfl, k38_mk _ p, fun i u hu => ?_⟩⟩⟩
  have hb : (w.alloc (.cells (cells38 l).toArray 38)).heap[w.heap.size]? = some (.cells (cells38 l).toArray 38 (0, 0)) := heap_alloc_new _ _
  obtain ⟨g1, g2⟩ := cells38_get l j p hj
  have key : ∀ k, (w.alloc (.cells (cells38 l).toArray 38)).cell? (Addr.add ⟨w.heap.size, 0, none⟩ k) = (cells38 l)[k]? := fun k => by
    have e : Addr.add ⟨w.heap.size, 0, none⟩ k = ⟨w.heap.size, k, none⟩ := by
      unfold Addr.add
      by_cases hk : k = 0
      · subst hk; rfl
      · rw [if_neg hk]; simp
    rw [e, blk_cell hb k]
    simp
  show (w.alloc (.cells (cells38 l).toArray 38)).cell? (Addr.add ⟨w.heap.size, 0, none⟩ (j * 2 + i)) = some u
  rw [key]
  match i, hu with
  | 0, hu => cases hu; exact g1
  | 1, hu => cases hu; exact g2
end Go.Proofs.YtlhfgjblcckifaaGreatDoor.P

set_option linter.unusedVariables false
set_option linter.unusedSimpArgs false
namespace Go.Proofs.YtlhfgjblcckifaaGreatDoor.P
open Go.RowKit Go.Shelf
open Go.Proofs.YtlhfgjblcckifaaGreatDoorW.PrintWords Go.Proofs.YtlhfgjblcckifaaGreatDoorW.PrintMore Go.Proofs.YtlhfgjblcckifaaGreatDoorW.PrintLast
open Go.Proofs.YtlhfgjblcckifaaGreatDoor.Dg
theorem decN_two : decN 2 = ⟨#[50]⟩ := by
  unfold decN
  rw [show ((2 : Nat) : Int) = ((2 : Nat) : Int) from rfl, Lib.itoa_nonneg]; unfold Lib.decDigits; rw [dif_pos (by decide)]; rfl
theorem same_go (l : List S38) (hl : l.length ≤ 1000000) : ∀ (m k j : Nat), l.length - j = m → j ≤ l.length → observatoryref17_Same.l0 (k + m + 1) l l (j : Int) = some true
  | 0, k, j, hm, hj => by
    rw [observatoryref17_Same.l0]
    rw [if_neg (by omega)]
  | m + 1, k, j, hm, hj => by
    have hw : wrap64 ((j : Int) + 1) = ((j + 1 : Nat) : Int) := by unfold wrap64; omega
    rw [show k + (m + 1) + 1 = (k + m + 1) + 1 by omega, observatoryref17_Same.l0]
    rw [if_pos (by omega)]
    simp only [hw, same_go l hl m k (j + 1) (by omega) (by omega)]
    have a1 : (0 : Int) ≤ j := by omega
    have a2 : (j : Int) < l.length := by omega
    simp [a1, a2]
theorem same_refl (l : List S38) (hl : l.length ≤ 1000000) : observatoryref17_Same.f (l.length + 1) l l = some true := by
  unfold observatoryref17_Same.f
  rw [if_pos rfl]
  have := same_go l hl l.length 0 0 (by omega) (by omega)
  simpa using this
end Go.Proofs.YtlhfgjblcckifaaGreatDoor.P

set_option linter.unusedVariables false
set_option linter.unusedSimpArgs false
namespace Go.Proofs.YtlhfgjblcckifaaGreatDoor.P
open Go.RowKit Go.Shelf
open Go.Proofs.YtlhfgjblcckifaaGreatDoorW.PrintWords Go.Proofs.YtlhfgjblcckifaaGreatDoorW.PrintMore Go.Proofs.YtlhfgjblcckifaaGreatDoorW.PrintLast
open Go.Proofs.YtlhfgjblcckifaaGreatDoor.Dg

theorem lit_C (w : World) (l : List Int) (hl : l.length ≤ 1000) : Kd.C (Kd.int .i64) (w.alloc (.cells (l.map (Value.int .i64)).toArray 3)) (some ⟨w.heap.size, 0, none⟩) l.length l :=
  (Kd.R_reads' (R_cells (w.alloc (.cells (l.map (Value.int .i64)).toArray 3)) 0 w.heap.size l (heap_alloc_new _ _) (Nat.zero_le _) hl)).2.2
theorem nil_C (w : World) : Kd.C (Kd.int .i64) w none 0 [] := Kd.C_nil _ w

theorem decN_three : decN 3 = ⟨#[51]⟩ := by
  unfold decN
  rw [show ((3 : Nat) : Int) = ((3 : Nat) : Int) from rfl, Lib.itoa_nonneg]; unfold Lib.decDigits; rw [dif_pos (by decide)]; rfl
theorem decN_four : decN 4 = ⟨#[52]⟩ := by
  unfold decN
  rw [show ((4 : Nat) : Int) = ((4 : Nat) : Int) from rfl, Lib.itoa_nonneg]; unfold Lib.decDigits; rw [dif_pos (by decide)]; rfl
set_option maxHeartbeats 1000000 in
set_option maxRecDepth 100000 in
theorem head_calls (w : World) (hT : Tabs w) : Calls Tryz.prog 9 #[] w fun e w' => e = .returned (.bool true) ∧ Below w.heap.size w w' := by
  have HT := Lib.hid hT
  have HB0 := Lib.hid (Below.refl w.heap.size w)
  clear hT
  have VA := Lib.hid vA
  have VB := Lib.hid vB
  have VC := Lib.hid vC
  rw [decN_one, decN_two] at VA VB
  rw [decN_one] at VC
  have HX := Lib.hid vX
  have HY := Lib.hid vY
  rw [decN_three, decN_four] at HX
  rw [decN_zero, decN_one] at HY
  go_enter Tryz.func9, Tryz.ntmps9
  go_wp2_with fail
  have hb1_ : Below w.heap.size w (w.alloc (.cells #[.int .i64 (-1), .int .i64 (1)] 3)) := (HB0.out.alloc HB0.out.size _)
  have hc1 : Kd.C (Kd.int .i64) (w.alloc (.cells #[.int .i64 (-1), .int .i64 (1)] 3)) (some ⟨w.heap.size, 0, none⟩) 2 [-1, 1] := by
    have h := lit_C w [-1, 1] (by decide)
    exact h
  refine (noise_Distribution.calls (some ⟨w.heap.size, 0, none⟩) 2 [-1, 1] 2 _ _ _ hc1 (by decide) (HT.out.below hb1_) VA.out).mono ?_
  rintro e w1 ⟨v1, rfl, hr1, hb1⟩
  have HR1 := Lib.hid (Kd.R_lower hr1 hb1_.size)
  have HB1 : Hid (Below w.heap.size w w1) := hb1_.trans (hb1.mono hb1_.size)
  clear hb1_ hb1 hr1 hc1
  go_wp2_with fail
  have hb2_ : Below w.heap.size w (w1.alloc (.cells #[.int .i64 (0), .int .i64 (0), .int .i64 (3)] 3)) := (HB1.out.alloc HB1.out.size _)
  have hc2 : Kd.C (Kd.int .i64) (w1.alloc (.cells #[.int .i64 (0), .int .i64 (0), .int .i64 (3)] 3)) (some ⟨w1.heap.size, 0, none⟩) 3 [0, 0, 3] := by
    have h := lit_C w1 [0, 0, 3] (by decide)
    exact h
  refine (noise_Distribution.calls (some ⟨w1.heap.size, 0, none⟩) 3 [0, 0, 3] 1 _ _ _ hc2 (by decide) (HT.out.below hb2_) VB.out).mono ?_
  rintro e w2 ⟨v2, rfl, hr2, hb2⟩
  have HR2 := Lib.hid (Kd.R_lower hr2 hb2_.size)
  have HB2 : Hid (Below w.heap.size w w2) := hb2_.trans (hb2.mono hb2_.size)
  replace HR1 := Lib.hid (Kd.R_below (Kd.R_alloc HR1.out _) hb2)
  clear hb2_ hb2 hr2 hc2
  go_wp2_with fail
  have hb3_ : Below w.heap.size w (w2.alloc (.cells #[.int .i64 (7), .int .i64 (8)] 3)) := (HB2.out.alloc HB2.out.size _)
  have hc3 : Kd.C (Kd.int .i64) (w2.alloc (.cells #[.int .i64 (7), .int .i64 (8)] 3)) (some ⟨w2.heap.size, 0, none⟩) 2 [7, 8] := by
    have h := lit_C w2 [7, 8] (by decide)
    exact h
  refine (noise_Distribution.calls (some ⟨w2.heap.size, 0, none⟩) 2 [7, 8] 0 _ _ _ hc3 (by decide) (HT.out.below hb3_) VC.out).mono ?_
  rintro e w3 ⟨v3, rfl, hr3, hb3⟩
  have HR3 := Lib.hid (Kd.R_lower hr3 hb3_.size)
  have HB3 : Hid (Below w.heap.size w w3) := hb3_.trans (hb3.mono hb3_.size)
  replace HR1 := Lib.hid (Kd.R_below (Kd.R_alloc HR1.out _) hb3)
  replace HR2 := Lib.hid (Kd.R_below (Kd.R_alloc HR2.out _) hb3)
  clear hb3_ hb3 hr3 hc3
  go_wp2_with fail
  have hb4_ : Below w.heap.size w (w3.alloc (.cells #[.int .i64 (-1), .int .i64 (1)] 3)) := (HB3.out.alloc HB3.out.size _)
  have hc4 : Kd.C (Kd.int .i64) (w3.alloc (.cells #[.int .i64 (-1), .int .i64 (1)] 3)) (some ⟨w3.heap.size, 0, none⟩) 2 [-1, 1] := by
    have h := lit_C w3 [-1, 1] (by decide)
    exact h
  refine (noise_Tail.calls 5 (some ⟨w3.heap.size, 0, none⟩) 2 [-1, 1] 2 0 _ _ _ _ _ hc4 (by decide) (HT.out.below hb4_) HX.out).mono ?_
  rintro e w4 ⟨rfl, hb4⟩
  have HB4 : Hid (Below w.heap.size w w4) := hb4_.trans (hb4.mono hb4_.size)
  replace HR1 := Lib.hid (Kd.R_below (Kd.R_alloc HR1.out _) hb4)
  replace HR2 := Lib.hid (Kd.R_below (Kd.R_alloc HR2.out _) hb4)
  replace HR3 := Lib.hid (Kd.R_below (Kd.R_alloc HR3.out _) hb4)
  clear hb4_ hb4 hc4
  have he4 : (w4.alloc (.cells #[.bool false, .string ⟨#[51]⟩, .string ⟨#[52]⟩] 31)).heap.size = w4.heap.size + 1 := by simp
  have HE4 := Lib.hid he4
  clear he4
  have HBs4 : Hid (Below w.heap.size w (w4.alloc (.cells #[.bool false, .string ⟨#[51]⟩, .string ⟨#[52]⟩] 31))) := HB4.out.alloc HB4.out.size _
  have HK4 := Lib.hid (heap_alloc_new w4 (.cells #[.bool false, .string ⟨#[51]⟩, .string ⟨#[52]⟩] 31))
  replace HR1 := Lib.hid (Kd.R_alloc HR1.out (.cells #[.bool false, .string ⟨#[51]⟩, .string ⟨#[52]⟩] 31))
  replace HR2 := Lib.hid (Kd.R_alloc HR2.out (.cells #[.bool false, .string ⟨#[51]⟩, .string ⟨#[52]⟩] 31))
  replace HR3 := Lib.hid (Kd.R_alloc HR3.out (.cells #[.bool false, .string ⟨#[51]⟩, .string ⟨#[52]⟩] 31))
  go_wp2_with fail
  have hb5_ : Below w.heap.size w ((w4.alloc (.cells #[.bool false, .string ⟨#[51]⟩, .string ⟨#[52]⟩] 31)).alloc (.cells #[.int .i64 (-1), .int .i64 (1)] 3)) := (HBs4.out.alloc HBs4.out.size _)
  have hc5 : Kd.C (Kd.int .i64) ((w4.alloc (.cells #[.bool false, .string ⟨#[51]⟩, .string ⟨#[52]⟩] 31)).alloc (.cells #[.int .i64 (-1), .int .i64 (1)] 3)) (some ⟨w4.heap.size + 1, 0, none⟩) 2 [-1, 1] := by
    have h := lit_C (w4.alloc (.cells #[.bool false, .string ⟨#[51]⟩, .string ⟨#[52]⟩] 31)) [-1, 1] (by decide)
    rw [HE4.out] at h
    exact h
  refine (noise_Tail.calls 5 (some ⟨w4.heap.size + 1, 0, none⟩) 2 [-1, 1] 2 3 _ _ _ _ _ hc5 (by decide) (HT.out.below hb5_) HY.out).mono ?_
  rintro e w5 ⟨rfl, hb5⟩
  have HB5 : Hid (Below w.heap.size w w5) := hb5_.trans (hb5.mono hb5_.size)
  replace HR1 := Lib.hid (Kd.R_below (Kd.R_alloc HR1.out _) hb5)
  replace HR2 := Lib.hid (Kd.R_below (Kd.R_alloc HR2.out _) hb5)
  replace HR3 := Lib.hid (Kd.R_below (Kd.R_alloc HR3.out _) hb5)
  replace HK4 := Lib.hid (blk_below (blk_alloc HK4.out _) hb5)
  clear hb5_ hb5 hc5
  have he5 : (w5.alloc (.cells #[.bool false, .string ⟨#[48]⟩, .string ⟨#[49]⟩] 31)).heap.size = w5.heap.size + 1 := by simp
  have HE5 := Lib.hid he5
  clear he5
  have HBs5 : Hid (Below w.heap.size w (w5.alloc (.cells #[.bool false, .string ⟨#[48]⟩, .string ⟨#[49]⟩] 31))) := HB5.out.alloc HB5.out.size _
  replace HK4 := Lib.hid (blk_alloc HK4.out (.cells #[.bool false, .string ⟨#[48]⟩, .string ⟨#[49]⟩] 31))
  have HK5 := Lib.hid (heap_alloc_new w5 (.cells #[.bool false, .string ⟨#[48]⟩, .string ⟨#[49]⟩] 31))
  replace HR1 := Lib.hid (Kd.R_alloc HR1.out (.cells #[.bool false, .string ⟨#[48]⟩, .string ⟨#[49]⟩] 31))
  replace HR2 := Lib.hid (Kd.R_alloc HR2.out (.cells #[.bool false, .string ⟨#[48]⟩, .string ⟨#[49]⟩] 31))
  replace HR3 := Lib.hid (Kd.R_alloc HR3.out (.cells #[.bool false, .string ⟨#[48]⟩, .string ⟨#[49]⟩] 31))
  go_wp2_with fail
  have hb6_ : Below w.heap.size w (w5.alloc (.cells #[.bool false, .string ⟨#[48]⟩, .string ⟨#[49]⟩] 31)) := HBs5.out
  refine (noise_Distribution.calls none 0 [] 2 _ _ _ (nil_C _) (by decide) (HT.out.below hb6_) vJ).mono ?_
  rintro e w6 ⟨v6, rfl, hr6, hb6⟩
  have HB6 : Hid (Below w.heap.size w w6) := hb6_.trans (hb6.mono hb6_.size)
  replace HR1 := Lib.hid (Kd.R_below (HR1.out) hb6)
  replace HR2 := Lib.hid (Kd.R_below (HR2.out) hb6)
  replace HR3 := Lib.hid (Kd.R_below (HR3.out) hb6)
  replace HK4 := Lib.hid (blk_below (HK4.out) hb6)
  replace HK5 := Lib.hid (blk_below (HK5.out) hb6)
  clear hb6_ hb6 hr6
  go_wp2_with fail
  have hb7_ : Below w.heap.size w (w6.alloc (.cells #[.int .i64 (51)] 3)) := (HB6.out.alloc HB6.out.size _)
  have hc7 : Kd.C (Kd.int .i64) (w6.alloc (.cells #[.int .i64 (51)] 3)) (some ⟨w6.heap.size, 0, none⟩) 1 [51] := by
    have h := lit_C w6 [51] (by decide)
    exact h
  refine (noise_Distribution.calls (some ⟨w6.heap.size, 0, none⟩) 1 [51] 2 _ _ _ hc7 (by decide) (HT.out.below hb7_) vK).mono ?_
  rintro e w7 ⟨v7, rfl, hr7, hb7⟩
  have HB7 : Hid (Below w.heap.size w w7) := hb7_.trans (hb7.mono hb7_.size)
  replace HR1 := Lib.hid (Kd.R_below (Kd.R_alloc HR1.out _) hb7)
  replace HR2 := Lib.hid (Kd.R_below (Kd.R_alloc HR2.out _) hb7)
  replace HR3 := Lib.hid (Kd.R_below (Kd.R_alloc HR3.out _) hb7)
  replace HK4 := Lib.hid (blk_below (blk_alloc HK4.out _) hb7)
  replace HK5 := Lib.hid (blk_below (blk_alloc HK5.out _) hb7)
  clear hb7_ hb7 hr7 hc7
  go_wp2_with fail
  have hb8_ : Below w.heap.size w (w7.alloc (.cells #[.int .i64 (1)] 3)) := (HB7.out.alloc HB7.out.size _)
  have hc8 : Kd.C (Kd.int .i64) (w7.alloc (.cells #[.int .i64 (1)] 3)) (some ⟨w7.heap.size, 0, none⟩) 1 [1] := by
    have h := lit_C w7 [1] (by decide)
    exact h
  refine (noise_Distribution.calls (some ⟨w7.heap.size, 0, none⟩) 1 [1] 41 _ _ _ hc8 (by decide) (HT.out.below hb8_) vL).mono ?_
  rintro e w8 ⟨v8, rfl, hr8, hb8⟩
  have HB8 : Hid (Below w.heap.size w w8) := hb8_.trans (hb8.mono hb8_.size)
  replace HR1 := Lib.hid (Kd.R_below (Kd.R_alloc HR1.out _) hb8)
  replace HR2 := Lib.hid (Kd.R_below (Kd.R_alloc HR2.out _) hb8)
  replace HR3 := Lib.hid (Kd.R_below (Kd.R_alloc HR3.out _) hb8)
  replace HK4 := Lib.hid (blk_below (blk_alloc HK4.out _) hb8)
  replace HK5 := Lib.hid (blk_below (blk_alloc HK5.out _) hb8)
  clear hb8_ hb8 hr8 hc8
  go_wp2_with fail
  obtain ⟨A1, c1, rfl, hc1, k1⟩ := Kd.R_reads HR1.out
  have hl1 := lit38 w8 [⟨-2, ⟨#[49]⟩⟩, ⟨0, ⟨#[50]⟩⟩, ⟨2, ⟨#[49]⟩⟩] (by decide)
  have hsame1 := observatoryref17_Same.calls 4 A1 c1 _ (some ⟨w8.heap.size, 0, none⟩) 3 [⟨-2, ⟨#[49]⟩⟩, ⟨0, ⟨#[50]⟩⟩, ⟨2, ⟨#[49]⟩⟩] true _ (Kd.C_alloc k1 _) hc1 hl1 (by decide) (same_refl [⟨-2, ⟨#[49]⟩⟩, ⟨0, ⟨#[50]⟩⟩, ⟨2, ⟨#[49]⟩⟩] (by decide))
  refine hsame1.mono ?_
  rintro e w9 ⟨rfl, ⟨nd1, hw1⟩⟩
  have hbs1 : Below w8.heap.size w8 w9 := by rw [hw1]; exact pw_below_drewN ((Below.refl _ _).alloc (Nat.le_refl _) _) _
  have HB9 : Hid (Below w.heap.size w w9) := HB8.out.trans (hbs1.mono HB8.out.size)
  replace HK4 := Lib.hid (blk_below (HK4.out) hbs1)
  replace HK5 := Lib.hid (blk_below (HK5.out) hbs1)
  replace HR2 := Lib.hid (Kd.R_below HR2.out hbs1)
  replace HR3 := Lib.hid (Kd.R_below HR3.out hbs1)
  clear hw1 hbs1 hsame1 hl1 k1 hc1
  go_wp2_with fail
  obtain ⟨A2, c2, rfl, hc2, k2⟩ := Kd.R_reads HR2.out
  have hl2 := lit38 w9 [⟨0, ⟨#[50]⟩⟩, ⟨3, ⟨#[49]⟩⟩] (by decide)
  have hsame2 := observatoryref17_Same.calls 3 A2 c2 _ (some ⟨w9.heap.size, 0, none⟩) 2 [⟨0, ⟨#[50]⟩⟩, ⟨3, ⟨#[49]⟩⟩] true _ (Kd.C_alloc k2 _) hc2 hl2 (by decide) (same_refl [⟨0, ⟨#[50]⟩⟩, ⟨3, ⟨#[49]⟩⟩] (by decide))
  refine hsame2.mono ?_
  rintro e w10 ⟨rfl, ⟨nd2, hw2⟩⟩
  have hbs2 : Below w9.heap.size w9 w10 := by rw [hw2]; exact pw_below_drewN ((Below.refl _ _).alloc (Nat.le_refl _) _) _
  have HB10 : Hid (Below w.heap.size w w10) := HB9.out.trans (hbs2.mono HB9.out.size)
  replace HK4 := Lib.hid (blk_below (HK4.out) hbs2)
  replace HK5 := Lib.hid (blk_below (HK5.out) hbs2)
  replace HR3 := Lib.hid (Kd.R_below HR3.out hbs2)
  clear hw2 hbs2 hsame2 hl2 k2 hc2
  go_wp2_with fail
  obtain ⟨A3, c3, rfl, hc3, k3⟩ := Kd.R_reads HR3.out
  have hl3 := lit38 w10 [⟨0, ⟨#[49]⟩⟩] (by decide)
  have hsame3 := observatoryref17_Same.calls 2 A3 c3 _ (some ⟨w10.heap.size, 0, none⟩) 1 [⟨0, ⟨#[49]⟩⟩] true _ (Kd.C_alloc k3 _) hc3 hl3 (by decide) (same_refl [⟨0, ⟨#[49]⟩⟩] (by decide))
  refine hsame3.mono ?_
  rintro e w11 ⟨rfl, ⟨nd3, hw3⟩⟩
  have hbs3 : Below w10.heap.size w10 w11 := by rw [hw3]; exact pw_below_drewN ((Below.refl _ _).alloc (Nat.le_refl _) _) _
  have HB11 : Hid (Below w.heap.size w w11) := HB10.out.trans (hbs3.mono HB10.out.size)
  replace HK4 := Lib.hid (blk_below (HK4.out) hbs3)
  replace HK5 := Lib.hid (blk_below (HK5.out) hbs3)
  have q40 := blk_cell HK4.out 0
  have q41 := blk_cell HK4.out 1
  have q42 := blk_cell HK4.out 2
  have q50 := blk_cell HK5.out 0
  have q51 := blk_cell HK5.out 1
  have q52 := blk_cell HK5.out 2
  clear hw3 hbs3 hsame3 hl3 k3 hc3
  go_wp2_with fail
  go_ret
  exact ⟨rfl, HB11.out⟩
def observatorylaw17_head.f : Option Bool := some true
theorem observatorylaw17_head.calls (r : Bool) (w : World) (hT : Tabs w) (h : observatorylaw17_head.f = some r) :
    Calls Tryz.prog 9 #[] w fun e w' => e = .returned (.bool r) ∧ Below w.heap.size w w' := by
  obtain rfl := Option.some.inj h
  exact head_calls w hT
end Go.Proofs.YtlhfgjblcckifaaGreatDoor.P
