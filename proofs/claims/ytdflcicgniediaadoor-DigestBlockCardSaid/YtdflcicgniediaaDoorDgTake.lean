/-
  (*digest.state).take: the state behind it is the mixed number of the state before it, xor the block.
-/
import Derived.Test.YtdflcicgniediaaDoorDgPure
import Derived.Test.YtdflcicgniediaaDoorProg
import Derived.WalkKit
import Derived.WalkLawsBesides
import Derived.WalkSpells
import Derived.Outline
import Derived.Lib.Hide
import Derived.Lib.Builder
set_option linter.unusedVariables false
set_option linter.unusedSimpArgs false
namespace Go.Proofs.YtdflcicgniediaaDoor.Dg
open Go.RowKit

/-- The first k bytes of a block, as a number. -/
def accN (c : List Nat) : Nat → Nat
  | 0 => 0
  | k + 1 => accN c k * 256 + c.getD k 0
theorem accN_lt (c : List Nat) (hc : ∀ k, c.getD k 0 < 256) : ∀ k, accN c k < 256 ^ k
  | 0 => by simp [accN]
  | k + 1 => by
    have := accN_lt c hc k
    have := hc k
    simp only [accN, Nat.pow_succ]
    omega
theorem accN_le (c : List Nat) (hc : ∀ k, c.getD k 0 < 256) (k : Nat) (hk : k < 8) : accN c k < 72057594037927936 :=
  Nat.lt_of_lt_of_le (accN_lt c hc k) (show 256 ^ k ≤ 256 ^ 7 from Nat.pow_le_pow_right (by decide) (by omega))

theorem ofInt64 (u : Nat) (hu : u < 18446744073709551616) : (BitVec.ofInt 64 (u : Int)).toNat = u := by
  rw [BitVec.ofInt_natCast, BitVec.toNat_ofNat]; exact Nat.mod_eq_of_lt (by omega)
theorem wrap_u64 (n : Int) : IntKind.u64.wrap n = n % 18446744073709551616 := by simp [IntKind.wrap, IntKind.bits, IntKind.signed]
theorem xorN (a b : Nat) (ha : a < 18446744073709551616) (hb : b < 18446744073709551616) : bits BinOp.xor IntKind.u64 (a : Int) (b : Int) = ((a ^^^ b : Nat) : Int) := by
  show IntKind.u64.wrap ((BitVec.ofInt 64 (a : Int) ^^^ BitVec.ofInt 64 (b : Int)).toNat : Int) = _
  have := xor_lt a b ha hb
  rw [BitVec.toNat_xor, ofInt64 a ha, ofInt64 b hb, wrap_u64]
  omega
theorem orN (a b : Nat) (ha : a < 72057594037927936) (hb : b < 256) : bits BinOp.or IntKind.u64 ((a : Int) * 256) (b : Int) = ((a * 256 + b : Nat) : Int) := by
  have e : (a : Int) * 256 = ((a * 256 : Nat) : Int) := by omega
  rw [e]
  show IntKind.u64.wrap ((BitVec.ofInt 64 ((a * 256 : Nat) : Int) ||| BitVec.ofInt 64 (b : Int)).toNat : Int) = _
  have ho := Nat.two_pow_add_eq_or_of_lt (i := 8) (b := b) hb a
  rw [BitVec.toNat_or, ofInt64 _ (by omega), ofInt64 b (by omega), show a * 256 = 2 ^ 8 * a from Nat.mul_comm _ _, ← ho, wrap_u64]
  omega
theorem divN (a k : Nat) : ((a : Int) / (k : Int)) = ((a / k : Nat) : Int) := by simp
theorem mulN (a c : Nat) : IntKind.u64.wrap ((a : Int) * (c : Int)) = ((a * c % 18446744073709551616 : Nat) : Int) := by rw [wrap_u64]; simp

/-- The mixing as the code spells it. -/
def mixI (x : Int) : Int :=
  bits BinOp.xor IntKind.u64 (IntKind.u64.wrap (bits BinOp.xor IntKind.u64 (IntKind.u64.wrap (bits BinOp.xor IntKind.u64 x (x / 2147483648) * 14029467366897019727)) (IntKind.u64.wrap (bits BinOp.xor IntKind.u64 x (x / 2147483648) * 14029467366897019727) / 134217728) * 11400714785074694791))
    (IntKind.u64.wrap (bits BinOp.xor IntKind.u64 (IntKind.u64.wrap (bits BinOp.xor IntKind.u64 x (x / 2147483648) * 14029467366897019727)) (IntKind.u64.wrap (bits BinOp.xor IntKind.u64 x (x / 2147483648) * 14029467366897019727) / 134217728) * 11400714785074694791) / 8589934592)

theorem mixI_eq (x : Nat) (hx : x < 18446744073709551616) : mixI (x : Int) = ((mixN x : Nat) : Int) := by
  have div : ∀ z k : Nat, z < 18446744073709551616 → z / k < 18446744073709551616 := fun z k hz => Nat.lt_of_le_of_lt (Nat.div_le_self _ _) hz
  have md : ∀ z : Nat, z % 18446744073709551616 < 18446744073709551616 := fun z => Nat.mod_lt _ (by decide)
  have e1 : bits BinOp.xor IntKind.u64 (x : Int) ((x : Int) / 2147483648) = ((x ^^^ (x / 2147483648) : Nat) : Int) := by
    rw [show ((x : Int) / 2147483648) = ((x / 2147483648 : Nat) : Int) from divN x 2147483648, xorN x _ hx (div _ _ hx)]
  have e2 : IntKind.u64.wrap (bits BinOp.xor IntKind.u64 (x : Int) ((x : Int) / 2147483648) * 14029467366897019727) = (((x ^^^ (x / 2147483648)) * 14029467366897019727 % 18446744073709551616 : Nat) : Int) := by
    rw [e1]; exact mulN _ 14029467366897019727
  have e3 : ∀ z : Nat, z < 18446744073709551616 → IntKind.u64.wrap (bits BinOp.xor IntKind.u64 (z : Int) ((z : Int) / 134217728) * 11400714785074694791) = (((z ^^^ (z / 134217728)) * 11400714785074694791 % 18446744073709551616 : Nat) : Int) := by
    intro z hz
    rw [show ((z : Int) / 134217728) = ((z / 134217728 : Nat) : Int) from divN z 134217728, xorN z _ hz (div _ _ hz)]; exact mulN _ 11400714785074694791
  have e4 : ∀ z : Nat, z < 18446744073709551616 → bits BinOp.xor IntKind.u64 (z : Int) ((z : Int) / 8589934592) = ((z ^^^ (z / 8589934592) : Nat) : Int) := by
    intro z hz
    rw [show ((z : Int) / 8589934592) = ((z / 8589934592 : Nat) : Int) from divN z 8589934592, xorN z _ hz (div _ _ hz)]
  unfold mixI
  rw [e2, e3 _ (md _), e4 _ (md _)]
  rfl

/-- A state in memory. -/
def StAt (b x : Nat) (w : World) : Prop := w.heap[b]? = some (.cells #[.int .u64 (x : Int)] 38 (0, 0))
theorem StAt.lt {b x : Nat} {w : World} (h : StAt b x w) : b < w.heap.size := (Array.getElem?_eq_some_iff.1 h).1
theorem StAt.cell {b x : Nat} {w : World} (h : StAt b x w) : w.cell? ⟨b, 0, none⟩ = some (.int .u64 (x : Int)) := by rw [Lib.cell_of_heap h]; rfl
theorem StAt.frozen {b x : Nat} {w : World} (h : StAt b x w) : w.frozen? ⟨b, 0, none⟩ = false := Lib.frozen_of_heap h 0
theorem StAt.alloc {b x : Nat} {w : World} (h : StAt b x w) (o : Obj) : StAt b x (w.alloc o) := by
  unfold StAt; rw [Below.heap_alloc w o b h.lt]; exact h
theorem StAt.set {b x y : Nat} {w : World} (h : StAt b x w) : StAt b y (w.setCell ⟨b, 0, none⟩ (.int .u64 (y : Int))) := by
  unfold StAt at h ⊢
  simp [World.setCell, Array.getElem?_modify, h]

/-- What a call of take leaves. -/
def Took (b x : Nat) (w : World) (e : Ending) (w' : World) : Prop := e = .returned (.tuple #[]) ∧ StAt b x w' ∧ Below b w w'

set_option maxHeartbeats 1000000 in
set_option maxRecDepth 100000 in
theorem take_calls (b s : Nat) (hs : s < 18446744073709551616) (c : List Nat) (hl : c.length = 8) (hc : ∀ k, c.getD k 0 < 256) (w : World) (hst : StAt b s w) :
    Calls Tryd.prog 23 #[.pointer (some ⟨b, 0, none⟩), .agg (c.map fun z : Nat => Value.int .u8 (z : Int)).toArray] w (Took b (mixN (s ^^^ accN c 8)) w) := by
  have HST := Lib.hid hst
  have HL := Lib.hid hl
  have HC := Lib.hid hc
  have hsz : (c.map fun z : Nat => Value.int .u8 (z : Int)).toArray.size = 8 := by simp [hl]
  obtain ⟨C, hC⟩ : ∃ C, (c.map fun z : Nat => Value.int .u8 (z : Int)).toArray = C := ⟨_, rfl⟩
  have hcell : ∀ k, k < 8 → (w.alloc (.cells C 56)).cell? ⟨w.heap.size, k, none⟩ = some (.int .u8 ((c.getD k 0 : Nat) : Int)) := by
    intro k hk
    rw [World.cell?_alloc_new, ← hC, List.getElem?_toArray, List.getElem?_map, List.getElem?_eq_getElem (by omega)]
    simp [List.getD, List.getElem?_eq_getElem (show k < c.length by omega)]
  have h1 := (hst.alloc (.cells C 56)).cell
  have h2 := (hst.alloc (.cells C 56)).frozen
  rw [hC] at hsz ⊢
  have HCELL := Lib.hid hcell
  clear hcell hC hst hl hc
  go_enter Tryd.func23, Tryd.ntmps23
  go_wp2
  go_loop [4, 7] (fun vn vk => ∃ k : Nat, k ≤ 8 ∧ vk = .int .i64 k ∧ vn = .int .u64 ((accN c k : Nat) : Int)) (fun _ vk => (8 - RowKit.intOf vk).toNat)
  case atStart => exact ⟨0, by omega, rfl, rfl⟩
  case round =>
    obtain ⟨k, hk, rfl, hn⟩ := hrel
    by_cases hlt : k < 8
    · have hc0 := HCELL.out k hlt
      have hck := HC.out k
      have hak := accN_le c HC.out k hlt
      have hor := orN (accN c k) (c.getD k 0) hak hck
      obtain ⟨a1, hs1⟩ : ∃ a, accN c k * 256 + c.getD k 0 = a := ⟨_, rfl⟩
      have HA := Lib.hid (show accN c (k + 1) = a1 from hs1)
      generalize accN c k = a0 at *
      generalize c.getD k 0 = ck at *
      subst hn
      rw [hs1] at hor
      have HS1 := Lib.hid hs1
      clear hs1
      go_wp2
      go_round
      case rel => exact ⟨k + 1, by omega, by go_num, by rw [HA.out]⟩
      case measure => simp [RowKit.intOf]; omega
    · obtain rfl : k = 8 := by omega
      have hN : accN c 8 < 18446744073709551616 := accN_lt c HC.out 8
      have hx := xorN s (accN c 8) hs hN
      have HX := Lib.hid (mixI_eq (s ^^^ accN c 8) (xor_lt _ _ hs hN))
      generalize accN c 8 = n at *
      subst hn
      go_wp2
      go_end0
      show Took b _ w _ ((w.alloc (.cells C 56)).setCell ⟨b, 0, none⟩ (.int .u64 (mixI ((s ^^^ n : Nat) : Int))))
      rw [HX.out]
      exact ⟨rfl, (HST.out.alloc _).set, ((Below.refl _ _).alloc (Nat.le_of_lt HST.out.lt) _).setCell (Nat.le_refl _) _⟩

end Go.Proofs.YtdflcicgniediaaDoor.Dg
