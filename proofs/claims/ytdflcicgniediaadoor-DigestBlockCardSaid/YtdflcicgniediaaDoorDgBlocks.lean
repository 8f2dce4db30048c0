/-
  digest.blocks over the method value of take: the state behind it is that of all blocks of the text.
-/
import Derived.Test.YtdflcicgniediaaDoorDgTake
import Derived.Lib.BufferWrite
import Derived.Lib.ItoaWalk
import Derived.Lib.IndexBytes
import Derived.Deep.DeepMust
import Derived.Laws.Rows
import Derived.Deep.RegionLaw
import Derived.RegionTactic
set_option linter.unusedVariables false
set_option linter.unusedSimpArgs false
namespace Go.Proofs.YtdflcicgniediaaDoor.Dg
open Go.RowKit

/-- copy(dst, s), s a string of whatever length, dst the head of a row of its own. -/
theorem run_copy_cut {P : Program} (w : World) (dT sT ty elem : TypeId) (g dLen dCap : Nat) (s : ByteArray) (cur : Array Value) (t : TypeId)
    (hu : P.underlying dT = some (.slice elem)) (hs : (P.info? elem).map (·.size) = some 1) (hg : w.heap[g]? = some (.cells cur t (0, 0))) (hfit : Nat.min s.size dLen ≤ cur.size) :
    (Builtin.copy_ #[dT, sT] ty #[.slice (some ⟨g, 0, none⟩) dLen dCap, .string s]).run P w =
      .ok (goInt (Nat.min s.size dLen)) (w.setRow g (Lib.byteCells (s.data.toList.take (Nat.min s.size dLen)) ++ cur.toList.drop (Nat.min s.size dLen)).toArray) := by
  have hlen : (Lib.byteCells (s.data.toList.take (Nat.min s.size dLen))).length = Nat.min s.size dLen := by
    rw [Lib.byteCells_length, List.length_take, ← Lib.size_eq]; exact Nat.min_eq_left (Nat.min_le_left _ _)
  have hst := run_storeCells_at P g 0 t (Lib.byteCells (s.data.toList.take (Nat.min s.size dLen))) 0 cur w hg (by rw [hlen]; simpa using hfit) (Lib.byteCells_one _)
  have htk : List.take (Nat.min s.size dLen) (List.map (fun b : UInt8 => Value.int IntKind.u8 (b.toNat : Int)) s.data.toList) = Lib.byteCells (s.data.toList.take (Nat.min s.size dLen)) := by
    rw [← List.map_take]; rfl
  rw [hlen] at hst
  simp only [Nat.add_zero, Nat.zero_add, List.take_zero, List.nil_append] at hst
  cases hq : P.info? elem with
  | none => simp [hq] at hs
  | some i =>
    have hi : i.size = 1 := by simpa [hq] using hs
    generalize hm : Nat.min s.size dLen = m at *
    simp [Builtin.copy_, run_underlying hu, Builtin.lenOf, Builtin.firstCells, sizeOf, typeInfo, hq, hm]
    rw [htk, hst]
    simp [Result.andThen]

/-- .. as one step of a region that draws. -/
theorem step_copy_cut {P : Program} {ops : Array Oper} {o : Oper} {a : Act} {w : World} {K : Act → World → Prop} {Q : Exit → Act → World → Prop} {E : Prop}
    (hgd : o.guard = none) (d x : Operand) (dT sT : TypeId) (hop : o.op = Op.call { callee := Callee.builtin Builtin.copy, args := #[d, x], argTypes := #[dT, sT] })
    (elem : TypeId) (hu : P.underlying dT = some (.slice elem)) (hs : (P.info? elem).map (·.size) = some 1)
    (g dLen dCap : Nat) (hd : a.eval d = .slice (some ⟨g, 0, none⟩) dLen dCap) (s : ByteArray) (hx : a.eval x = .string s) (cur : Array Value) (t : TypeId) (hg : w.heap[g]? = some (.cells cur t (0, 0))) (hfit : Nat.min s.size dLen ≤ cur.size)
    (new : Array Value) (hnew : (Lib.byteCells (s.data.toList.take (Nat.min s.size dLen)) ++ cur.toList.drop (Nat.min s.size dLen)).toArray = new)
    (hK : ∀ W : World, W.heap[g]? = some (.cells new t (0, 0)) → w.grownBy W (some g) → K (a.put o.dst (goInt (Nat.min s.size dLen))) W) :
    if Region.wanted o (yielded ops a.tmps) = true then Oper.wp P o a w K Q else E := by
  have hw : Region.wanted o (yielded ops a.tmps) = true := by simp [Region.wanted, hgd]
  rw [if_pos hw]
  have hrun := run_copy_cut (P := P) w dT sT o.type elem g dLen dCap s cur t hu hs hg hfit
  unfold Oper.wp
  simp [execOp, hop, resolve, invoke, builtin, hd, hx, hrun, Result.andThen]
  exact hK _ (by rw [← hnew]; exact setRow_heap w g cur _ t (0, 0) hg) ⟨rfl, rfl, rfl, by simp, fun q _ hq => setRow_other w g q _ (fun e => hq (by rw [e]))⟩

/-- The bytes of the block at a place. -/
def blkL (l : List UInt8) (o : Nat) : List Nat := (List.range 8).map fun i => byteN l (o + i)
theorem blkL_length (l : List UInt8) (o : Nat) : (blkL l o).length = 8 := by simp [blkL]
theorem blkL_at (l : List UInt8) (o i : Nat) (hi : i < 8) : (blkL l o).getD i 0 = byteN l (o + i) := by
  simp [blkL, List.getD, List.getElem?_range hi]
theorem blkL_lt (l : List UInt8) (o i : Nat) : (blkL l o).getD i 0 < 256 := by
  rcases Nat.lt_or_ge i 8 with h | h
  · rw [blkL_at l o i h]; exact byteN_lt _ _
  · simp [List.getD, List.getElem?_eq_none (show (blkL l o).length ≤ i by rw [blkL_length]; exact h)]
theorem acc_blkL (l : List UInt8) (o : Nat) : ∀ k, k ≤ 8 → accN (blkL l o) k = blockTo l o k
  | 0, _ => rfl
  | k + 1, h => by
    simp only [accN, blockTo]
    rw [acc_blkL l o k (by omega), blkL_at l o k (by omega)]

/-- What copy leaves in a block of zeros is the text's block. -/
theorem cells_blk (l : List UInt8) (o : Nat) :
    (Lib.byteCells ((l.drop o).take (Nat.min (l.drop o).length 8)) ++ (List.replicate 8 (Value.int .u8 0)).drop (Nat.min (l.drop o).length 8)).toArray = ((blkL l o).map fun z : Nat => Value.int .u8 (z : Int)).toArray := by
  congr 1
  refine List.ext_getElem? fun i => ?_
  have hm : Nat.min (l.drop o).length 8 ≤ 8 := Nat.min_le_right _ _
  have hlen : (Lib.byteCells ((l.drop o).take (Nat.min (l.drop o).length 8))).length = Nat.min (l.drop o).length 8 := by
    rw [Lib.byteCells_length, List.length_take]; exact Nat.min_eq_left (Nat.min_le_left _ _)
  rcases Nat.lt_or_ge i 8 with h8 | h8
  · have hr : ((blkL l o).map fun z : Nat => Value.int .u8 (z : Int))[i]? = some (Value.int .u8 (byteN l (o + i) : Int)) := by
      simp [blkL, List.getElem?_range h8]
    rw [hr]
    rcases Nat.lt_or_ge i (Nat.min (l.drop o).length 8) with hi | hi
    · have hil : i < (l.drop o).length := Nat.lt_of_lt_of_le hi (Nat.min_le_left _ _)
      have hol : o + i < l.length := by simp at hil; omega
      rw [List.getElem?_append_left (by rw [hlen]; exact hi)]
      simp only [Lib.byteCells, List.getElem?_map, List.getElem?_take, if_pos hi, List.getElem?_drop]
      simp [byteN, List.getD, List.getElem?_eq_getElem hol]
    · have hlo : (l.drop o).length ≤ i := by
        have e : Nat.min (l.drop o).length 8 = min (l.drop o).length 8 := rfl
        rw [e] at hi; omega
      have hol : l.length ≤ o + i := by simp at hlo; omega
      rw [List.getElem?_append_right (by rw [hlen]; exact hi), hlen, List.getElem?_drop]
      rw [show Nat.min (l.drop o).length 8 + (i - Nat.min (l.drop o).length 8) = i by omega, List.getElem?_replicate, if_pos h8]
      simp [byteN, List.getD, List.getElem?_eq_none hol]
  · rw [List.getElem?_eq_none (by rw [List.length_append, hlen]; simp only [List.length_drop, List.length_replicate] at hm ⊢; omega), List.getElem?_eq_none (by simp [blkL]; exact h8)]

/-- What a call of blocks leaves. -/
def Blocked (b x : Nat) (w : World) (e : Ending) (w' : World) : Prop := e = .returned (.tuple #[]) ∧ StAt b x w' ∧ Below b w w'

set_option maxHeartbeats 1000000 in
set_option maxRecDepth 100000 in
theorem blocks_calls (b : Nat) (s : ByteArray) (hsz : s.size ≤ 9223372036854775799) (w : World) (hst : StAt b (stN s.data.toList 0) w) :
    Calls Tryd.prog 22 #[.string s, .func (Fn.func 23) #[.pointer (some ⟨b, 0, none⟩)] #[]] w (Blocked b (stN s.data.toList (s.size / 8 + 1)) w) := by
  have HST := Lib.hid hst
  clear hst
  have HLEN := Lib.hid (show s.data.toList.length < 18446744073709551616 by rw [← Lib.size_eq]; omega)
  go_enter Tryd.func22, Tryd.ntmps22
  go_wp2
  go_loopw [4] (fun vf wr => ∃ (k p : Nat), p ≤ s.size + 8 ∧ vf = .int .i64 (p : Int) ∧ Hid (p = 8 * k) ∧ Hid (StAt b (stN s.data.toList k) wr) ∧ Hid (Below b w wr)) (fun vf _ => (s.size + 16 - RowKit.intOf vf).toNat)
  case atStart => exact ⟨0, 0, by omega, rfl, rfl, HST.out, Below.refl _ _⟩
  case round =>
    obtain ⟨k, p, hp8, rfl, HP, HS, HB⟩ := hrel
    rename World => W0
    by_cases hlt : p ≤ s.size
    · go_wp2_with fail
      have hbW : b < W0.heap.size := HS.out.lt
      have hblk : (Lib.byteCells ((s.extract p s.size).data.toList.take (Nat.min (s.extract p s.size).size 8)) ++ (List.replicate 8 (Value.int .u8 0)).drop (Nat.min (s.extract p s.size).size 8)).toArray = ((blkL s.data.toList p).map fun z : Nat => Value.int .u8 (z : Int)).toArray := by
        have e : (s.extract p s.size).size = (s.data.toList.drop p).length := by rw [Lib.size_eq, Lib.extract_to_end]
        rw [Lib.extract_to_end, e]; exact cells_blk s.data.toList p
      have HBLK := Lib.hid hblk
      clear hblk
      go_region_law (refine step_copy_cut rfl (.tmp 12) (.tmp 15) 44 9 rfl 5 Tryd.underlying44 (by kernel_rfl) W0.heap.size 8 8 (by simp [Act.eval, Act.put]) (s.extract p s.size) (by simp [Act.eval, Act.put]) _ 56 (Go.heap_alloc_new W0 _) (Nat.min_le_right _ _) _ HBLK.out ?_; intro W1 hr1 hg1)
      have hb1 : Below W0.heap.size W0 W1 := (((Below.refl _ _).alloc (Nat.le_refl _) _).drew).grown hg1 (by simp) (fun q hq => by simp at hq; omega)
      have HS1 : Hid (StAt b (stN s.data.toList k) W1) := by show StAt _ _ _; unfold StAt; rw [hb1.block b hbW]; exact HS.out
      have HB1 : Hid (Below b w W1) := HB.out.trans (hb1.mono (Nat.le_of_lt hbW))
      have HX := Lib.hid hb1
      have HR := Lib.hid hr1
      clear hg1 hr1 hb1
      have hinfo : (Tryd.prog.info? 56).map (·.size) = some ((blkL s.data.toList p).map fun z : Nat => Value.int .u8 (z : Int)).toArray.size := by
        rw [List.size_toArray, List.length_map, blkL_length]; kernel_rfl
      have HI := Lib.hid hinfo
      clear hinfo
      go_wp2_with (first
        | (refine wpList_load_row rfl 56 _ rfl W0.heap.size rfl 56 _ (0, 0) _ HR.out Tryd.underlying56 rfl HI.out ?_)
        | (go_at_call 23; refine (take_calls b _ (stN_lt _ HLEN.out k) (blkL s.data.toList p) (blkL_length _ _) (blkL_lt _ _) _ HS1.out).mono ?_; rintro e w' ⟨rfl, hst', hb'⟩; (have HS2 := Lib.hid hst'); (have HB2 := Lib.hid hb'); clear hst' hb'))
      go_roundw
      case rel =>
        refine ⟨k + 1, p + 8, by omega, by first | go_num | (congr 1; omega), by have := HP.out; show p + 8 = 8 * (k + 1); omega, ?_, HB1.out.trans HB2.out⟩
        have e := HS2.out
        rw [acc_blkL _ _ 8 (Nat.le_refl _), HP.out] at e
        exact e
      case measure => simp [RowKit.intOf]; omega
    · have hk : k = s.size / 8 + 1 := by have := HP.out; omega
      subst hk
      go_wp2
      go_end0
      exact ⟨rfl, HS.out, HB.out⟩

end Go.Proofs.YtdflcicgniediaaDoor.Dg
