/-
  digest.Sum: its text's digest, where the library's tables read as their initialisers lay them.
-/
import Derived.Test.YtdflcicgniediaaDoorDgBlocks
import Derived.Test.YtdflcicgniediaaDoorDgFmt
import Derived.Test.YtdflcicgniediaaDoorShelf
import Derived.WalkSmall
set_option linter.unusedVariables false
set_option linter.unusedSimpArgs false
namespace Go.Proofs.YtdflcicgniediaaDoor.Dg
open Go.RowKit

/-- What the library's tables hold. -/
structure Tabs (w : World) : Prop where
  bruijn : w.cell? ⟨5, 15, none⟩ = some (.int .u8 4)
  pow10 : Lib.TabIs Tryd.prog w "internal/strconv.uint64pow10" .u64 Lib.pow10Tab

theorem g_pow10 : Tryd.prog.globalNamed "internal/strconv.uint64pow10" = some 0 := by kernel_rfl
theorem Tabs.lt_b {w : World} (h : Tabs w) : 5 < w.heap.size := World.block_lt_of_cell? w _ h.bruijn
theorem Tabs.lt_p {w : World} (h : Tabs w) : 0 < w.heap.size := by
  have := h.pow10.cell g_pow10 0 (by decide)
  exact World.block_lt_of_cell? w _ this
theorem Tabs.below {w w' : World} (h : Tabs w) (hb : Below w.heap.size w w') : Tabs w' :=
  ⟨(hb.cell (p := ⟨5, 15, none⟩) h.lt_b).trans h.bruijn, var?_below hb g_pow10 h.lt_p h.pow10⟩

/-- The digest of a text. -/
def sumB (s : ByteArray) : ByteArray := ⟨(sumL s.data.toList).toArray⟩
theorem sumB_data (s : ByteArray) : (sumB s).data.toList = sumL s.data.toList := rfl

theorem repeat_zero : ∀ m, Lib.repeatL [48] m = List.replicate m 48
  | 0 => rfl
  | m + 1 => by rw [List.replicate_succ, ← repeat_zero m]; rfl

theorem sum_join (s z o : ByteArray) (j m : Nat) (hj : sumN s.data.toList < 16 ^ j) (hm : j + m = 16) (hz : z.data.toList = Lib.repeatL [48] m) (ho : o.data.toList = hexTo (sumN s.data.toList) j) : z ++ o = sumB s := by
  have h : (z ++ o).data.toList = (sumB s).data.toList := by
    rw [sumB_data, ByteArray.data_append, Array.toList_append, hz, ho, repeat_zero, hexTo_pad j m _ hj, Nat.add_comm, hm]
    rfl
  cases hzo : z ++ o with
  | mk d =>
    rw [hzo] at h
    cases d with
    | mk l => 
      simp only [sumB_data] at h
      subst h
      rfl

set_option maxHeartbeats 1000000 in
set_option maxRecDepth 100000 in
theorem sum_calls (s : ByteArray) (hs : s.size ≤ 9223372036854775799) (w : World) (hT : Tabs w) :
    Calls Tryd.prog 12 #[.string s] w fun e w' => e = .returned (.string (sumB s)) ∧ Below w.heap.size w w' := by
  obtain ⟨x0, hx0⟩ : ∃ x, stN s.data.toList 0 = x := ⟨_, rfl⟩
  have hx : bits BinOp.xor IntKind.u64 1442695040888963407 (s.size : Int) = (x0 : Int) := by
    have := xorN 1442695040888963407 s.size (by decide) (by omega)
    rw [← hx0]
    unfold stN
    rw [← Lib.size_eq]
    exact this
  have HS0 : Hid (StAt w.heap.size (stN s.data.toList 0) (w.alloc (.cells #[.int .u64 (x0 : Int)] 38))) := by
    show StAt _ _ _
    rw [hx0]; exact heap_alloc_new w _
  have HT := Lib.hid hT
  clear hT hx0
  go_enter Tryd.func12, Tryd.ntmps12
  go_wp2_with fail
  refine (blocks_calls w.heap.size s hs _ HS0.out).mono ?_
  rintro e w1 ⟨rfl, hst1, hb1⟩
  have HB1 : Hid (Below w.heap.size w w1) := ((Below.refl _ _).alloc (Nat.le_refl _) _).trans hb1
  obtain ⟨x, hxe⟩ : ∃ x, stN s.data.toList (s.size / 8 + 1) = x := ⟨_, rfl⟩
  rw [hxe] at hst1
  have hcell := hst1.cell
  have HXE : Hid (sumN s.data.toList = x) := by show sumN _ = x; unfold sumN; rw [← Lib.size_eq]; exact hxe
  have HT1 := Lib.hid (HT.out.below HB1.out)
  clear hst1 hb1 hxe HS0
  go_wp2_with fail
  refine (fmtUint16 x (by rw [← HXE.out]; exact sumN_lt _) w1 HT1.out.bruijn HT1.out.lt_b).mono ?_
  rintro e w2 ⟨j, h1, h2, h3, rfl, hb2⟩
  have HB2 : Hid (Below w.heap.size w w2) := HB1.out.trans (hb2.mono HB1.out.size)
  obtain ⟨o, ho⟩ : ∃ o : ByteArray, (⟨(hexTo x j).toArray⟩ : ByteArray) = o := ⟨_, rfl⟩
  have HO : Hid (o.data.toList = hexTo x j) := by show _ = _; rw [← ho]
  have hos : o.size = j := by rw [Lib.size_eq, HO.out, hexTo_length]
  obtain ⟨m, hm⟩ : ∃ m : Nat, j + m = 16 := ⟨16 - j, by omega⟩
  have hmi : (16 : Int) - (o.size : Int) = (m : Int) := by omega
  have HJM := Lib.hid (And.intro h3 hm)
  have hos16 : o.size ≤ 16 := by omega
  have hm16 : m ≤ 16 := by omega
  rw [ho]
  clear ho hos hm h1 h2 h3 hb2 hcell
  go_wp2_with fail
  have hrep := Tryd.strings_Repeat ⟨#[48]⟩ m w2 (by omega) (by show 1 * m ≤ _; omega)
  obtain ⟨z, hz⟩ : ∃ z : ByteArray, (⟨(Lib.repeatL (⟨#[48]⟩ : ByteArray).data.toList m).toArray⟩ : ByteArray) = z := ⟨_, rfl⟩
  have HZ : Hid (z.data.toList = Lib.repeatL [48] m) := by show _ = _; rw [← hz]
  have hzs : z.size ≤ 16 := by rw [Lib.size_eq, HZ.out, Lib.repeatL_length]; simp; exact hm16
  rw [hz] at hrep
  have HREP := Lib.hid hrep
  clear hrep hz
  refine HREP.out.mono ?_
  rintro e w3 ⟨rfl, hb3⟩
  have HB3 : Hid (Below w.heap.size w w3) := HB2.out.trans (hb3.mono HB2.out.size)
  clear hb3
  go_wp2
  go_ret
  refine ⟨?_, HB3.out⟩
  rw [sum_join s z o j m (by rw [HXE.out]; exact HJM.out.1) HJM.out.2 HZ.out (by rw [HXE.out]; exact HO.out)]
  rfl

end Go.Proofs.YtdflcicgniediaaDoor.Dg
