/-
  internal/strconv.formatBits, internal/strconv.FormatUint and strconv.FormatUint at base 16: the hexadecimal digits without leading zeros, where the library's table of trailing zeros reads as its initialiser lays it.
-/
import Derived.Test.YtdflcicgniediaaDoorDgPure
import Derived.Test.YtdflcicgniediaaDoorDgTz
import Derived.Lib.ItoaWalk
import Derived.Lib.ItoaMem
set_option linter.unusedVariables false
set_option linter.unusedSimpArgs false
namespace Go.Proofs.YtdflcicgniediaaDoor.Dg
open Go.RowKit Go.Sort Go.Lib

abbrev encB : UInt8 → Value := fun b => Value.int .u8 (b.toNat : Int)
def digs : ByteArray := ⟨#[48, 49, 50, 51, 52, 53, 54, 55, 56, 57, 97, 98, 99, 100, 101, 102, 103, 104, 105, 106, 107, 108, 109, 110, 111, 112, 113, 114, 115, 116, 117, 118, 119, 120, 121, 122]⟩
theorem digs_at : ∀ i, i < 16 → digs.data.toList.getD i 0 = hexd i := by decide
theorem digs_size : digs.size = 36 := rfl

theorem idx_digs {P : Program} (t : TypeId) (ht : P.underlying t = some .string) (k : IntKind) (z : Int) (i : Nat) (hz : z = (i : Int)) (hi : i < 16) (w : World) :
    (Instr.index t (.string digs) (.int k z)).run P w = .ok (.int .u8 ((hexd i).toNat : Int)) w := by
  subst hz
  rw [run_index_string w t digs k _ ht, dif_pos ⟨by omega, by rw [digs_size]; omega⟩]
  have e : ((i : Int)).toNat = i := by omega
  simp only [e]
  rw [getD_at digs i (by rw [digs_size]; omega), digs_at i hi]

theorem and15 (u : Nat) (hu : u < 18446744073709551616) : bits BinOp.and IntKind.u64 (u : Int) 15 = ((u % 16 : Nat) : Int) := by
  have h1 : (BitVec.ofInt 64 (u : Int)).toNat = u := by
    rw [BitVec.ofInt_natCast, BitVec.toNat_ofNat]; exact Nat.mod_eq_of_lt (by omega)
  have h3 : u &&& 15 = u % 16 := Nat.and_two_pow_sub_one_eq_mod u 4
  show IntKind.u64.wrap ((BitVec.ofInt 64 (u : Int) &&& BitVec.ofInt 64 15).toNat : Int) = _
  rw [BitVec.toNat_and, h1, show (BitVec.ofInt 64 15).toNat = 15 from rfl, h3]
  simp only [IntKind.wrap, IntKind.bits, IntKind.signed]
  simp
  omega

theorem hexTo_head (j : Nat) : ∀ n, hexTo n (j + 1) = hexd (n / 16 ^ j % 16) :: hexTo n j := by
  induction j with
  | zero => intro n; simp [hexTo]
  | succ j ih =>
    intro n
    rw [hexTo, ih (n / 16)]
    rw [show hexTo n (j + 1) = hexTo (n / 16) j ++ [hexd (n % 16)] from rfl]
    rw [Nat.div_div_eq_div_mul, ← Nat.pow_succ']
    rfl

/-- What the buffer holds when j digits have been written. -/
structure FmtB (n j u i : Nat) (dk : Array UInt8) : Prop where
  size : dk.size = 65
  u_eq : u = n / 16 ^ j
  i_eq : i + j = 65
  le : j ≤ 15
  tail : dk.toList.drop i = hexTo n j

theorem FmtB.start (n : Nat) : FmtB n 0 n 65 (Array.replicate 65 0) := ⟨by simp, by simp, rfl, by omega, by simp [hexTo]⟩

theorem FmtB.tail_set {n j u i : Nat} {dk : Array UInt8} (h : FmtB n j u (i + 1) dk) : (dk.setIfInBounds i (hexd (u % 16))).toList.drop i = hexTo n (j + 1) := by
  have hs := h.size
  have hi := h.i_eq
  have hl : i < dk.toList.length := by simp; omega
  rw [hexTo_head, ← h.u_eq, ← h.tail, Array.toList_setIfInBounds, List.drop_set]
  rw [if_neg (by omega), Nat.sub_self, List.drop_eq_getElem_cons hl]
  rfl

theorem FmtB.step {n j u i : Nat} {dk : Array UInt8} (hn : n < 18446744073709551616) (h : FmtB n j u (i + 1) dk) (hu : 16 ≤ u) : FmtB n (j + 1) (u / 16) i (dk.setIfInBounds i (hexd (u % 16))) where
  size := by simp [h.size]
  u_eq := by rw [h.u_eq, Nat.div_div_eq_div_mul, ← Nat.pow_succ]
  i_eq := by have := h.i_eq; omega
  le := by
    rcases Nat.lt_or_ge j 15 with hj | hj
    · omega
    · have h15 : j = 15 := by have := h.le; omega
      have := h.u_eq
      rw [h15] at this
      omega
  tail := h.tail_set

theorem world_set (w : World) (o : Obj) (dk : Array UInt8) (i : Nat) (x : UInt8) (hi : i < dk.size) :
    (putRow encB (w.alloc o) w.heap.size 0 dk).setCell ⟨w.heap.size, i, none⟩ (.int .u8 (x.toNat : Int)) = putRow encB (w.alloc o) w.heap.size 0 (dk.setIfInBounds i x) := by
  rw [← putRow_set encB (w.alloc o) w.heap.size 0 dk i x hi, Nat.zero_add]

theorem holds65 (w : World) (T : TypeId) : Holds encB (w.alloc (.cells Tryd.zeroCells92 T)) w.heap.size 0 (Array.replicate 65 (0 : UInt8)) := fun j hj => by
  have hj' : j < 65 := by simpa using hj
  refine ⟨?_, World.frozen?_alloc_new _ _ _ _⟩
  have e : Tryd.zeroCells92 = Array.replicate 65 (.int .u8 0) := by kernel_rfl
  rw [World.cell?_alloc_new, e, Array.getElem?_replicate, if_pos (by omega), getElem!_pos _ j hj]
  simp

theorem below_mapBlock {α : Type} [Inhabited α] {enc : α → Value} {B : Nat} {w0 w : World} {g off : Nat} {d : Array α} (h : Below B w0 w) (hg : B ≤ g) : Below B w0 (putRow enc w g off d) :=
  ⟨h.os, h.tape, h.output, by simpa [putRow, mapBlock] using h.size, fun k hk => by
    rw [← h.block k hk]
    simp [putRow, mapBlock, Array.getElem?_modify, show g ≠ k by omega]⟩

/-- What formatBits leaves. -/
def Hex16 (n : Nat) (w : World) (e : Ending) (w' : World) : Prop :=
  ∃ j : Nat, 1 ≤ j ∧ j ≤ 16 ∧ n < 16 ^ j ∧ e = .returned (.tuple #[.slice none 0 0, .string ⟨(hexTo n j).toArray⟩]) ∧ Below w.heap.size w w'

set_option maxHeartbeats 1000000 in
set_option maxRecDepth 100000 in
theorem fmtBits16 (n : Nat) (hn : n < 18446744073709551616) (w : World) (hc : w.cell? ⟨5, 15, none⟩ = some (.int .u8 4)) (hg : 5 < w.heap.size) :
    Calls Tryd.prog 52 #[.slice none 0 0, .int .u64 n, .int .i64 16, .bool false, .bool false] w (Hex16 n w) := by
  have hH := Lib.hid (holds65 w 92)
  have hc1 : ∀ o, (w.alloc o).cell? ⟨5, 15, none⟩ = some (.int .u8 4) := fun o => by
    rw [World.cell?_alloc_old _ _ _ (Nat.ne_of_lt hg)]; exact hc
  go_enter Tryd.func52, Tryd.ntmps52
  go_wp2_with (first | (go_at_call 66; refine (ispow_16 _).mono ?_; rintro e w' ⟨rfl, rfl⟩) | (go_at_call 67; refine (tz_16 _ (hc1 _)).mono ?_; rintro e w' ⟨rfl, rfl⟩))
  clear hc1 hc hg
  go_name_bytes DG hDG
  have eDG : DG = digs := by rw [← hDG]; decide +kernel
  subst eDG
  clear hDG
  go_loopw [1, 13] (fun vu vi wr => ∃ (j u i : Nat) (dk : Array UInt8), vu = .int .u64 u ∧ vi = .int .i64 i ∧ wr = putRow encB (w.alloc (.cells Tryd.zeroCells92 92)) w.heap.size 0 dk ∧ u ≤ n ∧ Hid (FmtB n j u i dk)) (fun vu _ _ => (RowKit.intOf vu).toNat)
  case atStart => exact ⟨0, n, 65, Array.replicate 65 0, rfl, rfl, (putRow_self _ _ _ _ _ hH.out).symm, Nat.le_refl _, FmtB.start n⟩
  case round =>
    obtain ⟨j, u, i, dk, rfl, rfl, hw0, hun, HI⟩ := hrel
    obtain ⟨i, rfl⟩ : ∃ m, i = m + 1 := ⟨i - 1, by have := HI.out.i_eq; have := HI.out.le; omega⟩
    rename World => W0
    have hi65 : i < 65 := by have := HI.out.i_eq; omega
    have hH0 : Holds encB W0 w.heap.size 0 dk := by rw [hw0]; exact holds_putRow _ _ _ _ _ dk hH.out (by rw [HI.out.size]; simp)
    obtain ⟨G0, hG0⟩ : ∃ G : Nat → Int, ∀ t, G t = (dk[t]!.toNat : Int) := ⟨_, fun _ => rfl⟩
    have hc0 : W0.cell? ⟨w.heap.size, i, none⟩ = some (.int .u8 (G0 i)) := by
      have := (hH0 i (by rw [HI.out.size]; omega)).1; rw [Nat.zero_add] at this; rw [hG0]; exact this
    have hf0 : W0.frozen? ⟨w.heap.size, i, none⟩ = false := by
      have := (hH0 i (by rw [HI.out.size]; omega)).2; rw [Nat.zero_add] at this; exact this
    have AW0 := Lib.hid hw0
    clear hw0 hG0 hH0
    by_cases hu : 16 ≤ u
    · have hX : ∀ w, (Instr.index 9 (.string digs) (.int .u64 (bits BinOp.and IntKind.u64 (u : Int) 15))).run Tryd.prog w = .ok (.int .u8 ((hexd (u % 16)).toNat : Int)) w :=
        idx_digs 9 Tryd.underlying9 .u64 _ _ (and15 u (by omega)) (Nat.mod_lt _ (by decide))
      go_wp2
      go_roundw
      case rel =>
        refine ⟨j + 1, u / 16, i, dk.setIfInBounds i (hexd (u % 16)), by first | go_num | (congr 1; omega), by first | go_num | (congr 1; omega), by rw [AW0.out]; exact world_set w _ dk i _ (by rw [HI.out.size]; omega), by omega, ?_⟩
        exact HI.out.step hn hu
      case measure => simp [RowKit.intOf]; omega
    · have hX : ∀ w, (Instr.index 9 (.string digs) (.int .u64 (u : Int))).run Tryd.prog w = .ok (.int .u8 ((hexd u).toNat : Int)) w :=
        idx_digs 9 Tryd.underlying9 .u64 _ _ rfl (by omega)
      unfold digs at hX
      have hs65 := HI.out.size
      have hsum := HI.out.i_eq
      have htl := HI.out.tail_set
      have hlast : u % 16 = u := Nat.mod_eq_of_lt (by omega)
      have hsl : ∀ W, (Instr.sliceAt 92 (.pointer (some ⟨w.heap.size, 0, none⟩)) (some (.int .i64 (i : Int))) none none).run Tryd.prog W = .ok (.slice (some ⟨w.heap.size, i, none⟩) (65 - i) (65 - i)) W := fun W => by
        have hal : Tryd.prog.arrayLen 92 = 65 := by simp [Program.arrayLen, Tryd.underlying92]
        rw [run_sliceAt_array_l W 92 ⟨w.heap.size, 0, none⟩ (by simp [Program.arrayLen, Program.elem, Tryd.underlying92]) .i64 (i : Int) (by omega) (by rw [hal]; omega)]
        go_simp
        omega
      have hcv : (convert 44 9 (.slice (some ⟨w.heap.size, i, none⟩) (65 - i) (65 - i))).run Tryd.prog (W0.setCell ⟨w.heap.size, i, none⟩ (.int .u8 ((hexd u).toNat : Int))) = .ok (.string ⟨(hexTo n (j + 1)).toArray⟩) (W0.setCell ⟨w.heap.size, i, none⟩ (.int .u8 ((hexd u).toNat : Int))) := by
        have e := world_set w (.cells Tryd.zeroCells92 92) dk i (hexd u) (by omega)
        rw [AW0.out, e]
        have hlen : (hexTo n (j + 1)).length = 65 - i := by rw [hexTo_length]; omega
        have h := run_convert_bytes_back (P := Tryd.prog) (putRow encB (w.alloc (.cells Tryd.zeroCells92 92)) w.heap.size 0 (dk.setIfInBounds i (hexd u))) 44 9 5 ⟨w.heap.size, i, none⟩ (65 - i) (hexTo n (j + 1)) Tryd.underlying44 Tryd.underlying5 Tryd.underlying9 (fun q hq => by
          rw [Lib.add_plain]
          have hq' : i + q < 65 := by rw [hlen] at hq; omega
          have hcell := cell?_putRow encB (w.alloc (.cells Tryd.zeroCells92 92)) w.heap.size 0 _ (dk.setIfInBounds i (hexd u)) hH.out (by simp [hs65]) (i + q) (by simp [hs65]; omega)
          rw [Nat.zero_add] at hcell
          rw [hcell]
          rw [hlast] at htl
          have : (hexTo n (j + 1))[q] = (dk.setIfInBounds i (hexd u))[i + q]! := by
            rw [getElem!_pos _ _ (by simp [hs65]; omega)]
            have h2 : (hexTo n (j + 1))[q]? = (dk.setIfInBounds i (hexd u)).toList[i + q]? := by rw [← htl, List.getElem?_drop]
            rw [List.getElem?_eq_getElem hq, List.getElem?_eq_getElem (by simp [hs65]; omega)] at h2
            exact (Option.some.inj h2).trans (Array.getElem_toList _)
          rw [this])
        rw [hlen] at h
        exact h
      have hnj : n < 16 ^ (j + 1) := by
        have h1 := HI.out.u_eq
        have : n / 16 ^ j < 16 := by omega
        rw [Nat.pow_succ]
        exact (Nat.div_lt_iff_lt_mul (Nat.pow_pos (by decide))).1 this |> fun h => by rw [Nat.mul_comm] at h; exact h
      have hle := HI.out.le
      have HF := Lib.hid hnj
      have HE := Lib.hid (show W0.setCell ⟨w.heap.size, i, none⟩ (.int .u8 ((hexd u).toNat : Int)) = putRow encB (w.alloc (.cells Tryd.zeroCells92 92)) w.heap.size 0 (dk.setIfInBounds i (hexd u)) by rw [AW0.out]; exact world_set w _ dk i (hexd u) (by omega))
      clear htl hlast hnj hs65 hsum
      go_wp2
      go_ret2
      refine ⟨j + 1, by omega, by omega, HF.out, rfl, ?_⟩
      rw [HE.out]
      exact below_mapBlock (((Below.refl _ _).alloc (Nat.le_refl _) _)) (Nat.le_refl _)

/-- What FormatUint leaves. -/
def Hex16S (n : Nat) (w : World) (e : Ending) (w' : World) : Prop :=
  ∃ j : Nat, 1 ≤ j ∧ j ≤ 16 ∧ n < 16 ^ j ∧ e = .returned (.string ⟨(hexTo n j).toArray⟩) ∧ Below w.heap.size w w'

set_option maxHeartbeats 1000000 in
set_option maxRecDepth 100000 in
theorem fmtUint16_in (n : Nat) (hn : n < 18446744073709551616) (w : World) (hc : w.cell? ⟨5, 15, none⟩ = some (.int .u8 4)) (hg : 5 < w.heap.size) :
    Calls Tryd.prog 34 #[.int .u64 n, .int .i64 16] w (Hex16S n w) := by
  have hf := Lib.hid (fmtBits16 n hn w hc hg)
  clear hc hg
  go_enter Tryd.func34, Tryd.ntmps34
  go_wp2_with (go_at_call 52; refine hf.out.mono ?_; rintro e w' ⟨j, h1, h2, h3, rfl, hb⟩)
  have H3 := Lib.hid h3
  clear h3
  go_wp2
  go_ret
  exact ⟨j, h1, h2, H3.out, rfl, hb⟩

set_option maxHeartbeats 1000000 in
set_option maxRecDepth 100000 in
theorem fmtUint16 (n : Nat) (hn : n < 18446744073709551616) (w : World) (hc : w.cell? ⟨5, 15, none⟩ = some (.int .u8 4)) (hg : 5 < w.heap.size) :
    Calls Tryd.prog 24 #[.int .u64 n, .int .i64 16] w (Hex16S n w) := by
  have hf := Lib.hid (fmtUint16_in n hn w hc hg)
  clear hc hg
  go_enter Tryd.func24, Tryd.ntmps24
  go_wp2_with (go_at_call 34; refine hf.out.mono ?_; rintro e w' ⟨j, h1, h2, h3, rfl, hb⟩)
  have H3 := Lib.hid h3
  clear h3
  go_wp2
  go_ret
  exact ⟨j, h1, h2, H3.out, rfl, hb⟩

end Go.Proofs.YtdflcicgniediaaDoor.Dg
