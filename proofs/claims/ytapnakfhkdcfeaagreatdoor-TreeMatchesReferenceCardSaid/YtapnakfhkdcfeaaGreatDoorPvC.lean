/-
  What the reference of the digest layer computes, in plain terms: Sum, Decimal, Joined, List.
-/
import Derived.Test.YtapnakfhkdcfeaaGreatDoorPvA
import Derived.Test.YtapnakfhkdcfeaaGreatDoorMgDigest
import Derived.Test.YtapnakfhkdcfeaaGreatDoorPx5
import Derived.Test.YtapnakfhkdcfeaaGreatDoorPx4
set_option linter.unusedVariables false
set_option linter.unusedSimpArgs false
namespace Go.Proofs.YtapnakfhkdcfeaaGreatDoor.Pure
open Go.RowKit Go.Proofs.YtapnakfhkdcfeaaGreatDoor.P Go.Proofs.YtapnakfhkdcfeaaGreatDoor.Dg Go.Proofs.YtapnakfhkdcfeaaGreatDoorW.PrintWords Go.Proofs.YtapnakfhkdcfeaaGreatDoorW.PrintMore
attribute [local irreducible] sumB

theorem bt_byteN (s : ByteArray) (n : Nat) : bt s (n : Int) = ((byteN s.data.toList n : Nat) : Int) := by
  unfold bt byteN
  split
  · rename_i h
    have h2 : n < s.data.toList.length := by rw [← Lib.size_eq]; simpa using h
    simp only [Int.toNat_natCast, List.getD_eq_getElem?_getD, List.getElem?_eq_getElem h2, Option.getD_some]
    rfl
  · rename_i h
    have h2 : ¬ n < s.data.toList.length := by rw [← Lib.size_eq]; simpa using h
    simp [List.getD_eq_getElem?_getD, List.getElem?_eq_none (show s.data.toList.length ≤ n by omega)]
theorem byteN_out (l : List UInt8) (n : Nat) (h : l.length ≤ n) : byteN l n = 0 := by
  simp [byteN, List.getD_eq_getElem?_getD, List.getElem?_eq_none h]
theorem mix_f (x : Nat) (hx : x < 18446744073709551616) : observatoryref01_mix.f (x : Int) = some ((mixN x : Nat) : Int) := by
  rw [← mixI_eq x hx]; rfl
theorem block_small (l : List UInt8) (o i : Nat) (hi : i < 8) : blockTo l o i < 72057594037927936 :=
  Nat.lt_of_lt_of_le (blockTo_lt l o i) (Nat.pow_le_pow_right (by decide : 0 < 256) (show i ≤ 7 by omega))
theorem sum_l1 (s : ByteArray) (hs : s.size ≤ 9223372036854775799) (o st : Nat) (ho : o ≤ s.size) (hst : st < 18446744073709551616) (d : Nat) : ∀ (k i : Nat), i + d = 8 →
    observatoryref01_Sum.l1 (k + 1 + d) s (st : Int) (o : Int) ((blockTo s.data.toList o i : Nat) : Int) ((o + i : Nat) : Int) = observatoryref01_Sum.l0 k s ((mixN (st ^^^ blockTo s.data.toList o 8) : Nat) : Int) ((o + 8 : Nat) : Int) := by
  have hw : wrap64 ((o : Int) + 8) = ((o + 8 : Nat) : Int) := by unfold wrap64; omega
  induction d with
  | zero =>
    intro k i hi
    obtain rfl : i = 8 := by omega
    simp only [Nat.add_zero, observatoryref01_Sum.l1]
    rw [hw, if_neg (by omega), xorN st _ hst (blockTo8_lt _ _), mix_f _ (xor_lt _ _ hst (blockTo8_lt _ _))]
    rfl
  | succ d ih =>
    intro k i hi
    have hb := block_small s.data.toList o i (by omega)
    have hc := byteN_lt s.data.toList (o + i)
    have hn : blockTo s.data.toList o (i + 1) = blockTo s.data.toList o i * 256 + byteN s.data.toList (o + i) := rfl
    have e1 : wrap64 (((o + i : Nat) : Int) + 1) = ((o + (i + 1) : Nat) : Int) := by unfold wrap64; omega
    show observatoryref01_Sum.l1 ((k + 1 + d) + 1) s _ _ _ _ = _
    simp only [observatoryref01_Sum.l1]
    rw [hw, if_pos (by omega), e1]
    by_cases h : o + i < s.size
    · rw [if_pos (by omega), if_pos (by omega), bt_byteN]
      have e2 : IntKind.u64.wrap (IntKind.u64.wrap (((blockTo s.data.toList o i : Nat) : Int) * 256) + IntKind.u64.wrap ((byteN s.data.toList (o + i) : Nat) : Int)) = ((blockTo s.data.toList o (i + 1) : Nat) : Int) := by
        rw [wrap_u64, wrap_u64, wrap_u64, hn]; omega
      rw [e2]; exact ih k (i + 1) (by omega)
    · rw [if_neg (by omega)]
      have e3 := byteN_out s.data.toList (o + i) (by rw [← Lib.size_eq]; omega)
      have e2 : IntKind.u64.wrap (((blockTo s.data.toList o i : Nat) : Int) * 256) = ((blockTo s.data.toList o (i + 1) : Nat) : Int) := by
        rw [wrap_u64, hn]; omega
      rw [e2]; exact ih k (i + 1) (by omega)
theorem hex_cut : ∀ m, m < 16 → (⟨#[48, 49, 50, 51, 52, 53, 54, 55, 56, 57, 97, 98, 99, 100, 101, 102]⟩ : ByteArray).extract m (m + 1) = ⟨#[hexd m]⟩ := by decide +kernel
theorem dec_cut : ∀ m, m < 10 → (⟨#[48, 49, 50, 51, 52, 53, 54, 55, 56, 57]⟩ : ByteArray).extract m (m + 1) = ⟨#[UInt8.ofNat (48 + m)]⟩ := by decide +kernel
theorem cat_one (c : UInt8) (l : List UInt8) : (⟨#[c]⟩ : ByteArray) ++ (⟨l.toArray⟩ : ByteArray) = ⟨(c :: l).toArray⟩ := by
  apply bytes_ext
  rw [ByteArray.data_append]; simp
theorem xorN' (a b : Nat) (ha : a < 18446744073709551616) (hb : b < 18446744073709551616) : bits BinOp.xor IntKind.u64 (a : Int) (b : Int) = ((a ^^^ b : Nat) : Int) := xorN a b ha hb
theorem size_one (c : UInt8) : (⟨#[c]⟩ : ByteArray).size = 1 := rfl
theorem size_list (x : List UInt8) : (⟨x.toArray⟩ : ByteArray).size = x.length := by rw [Lib.size_eq]
theorem sum_l2 (d : Nat) : ∀ (k i n : Nat) (x : List UInt8), i + d = 16 → n < 18446744073709551616 → x.length ≤ 16 - d → d < k →
    observatoryref01_Sum.l2 k (n : Int) ⟨x.toArray⟩ (i : Int) = some ⟨(hexTo n d ++ x).toArray⟩ := by
  induction d with
  | zero =>
    intro k i n x hi hn hx hk
    obtain ⟨k, rfl⟩ : ∃ q, k = q + 1 := ⟨k - 1, by omega⟩
    simp only [observatoryref01_Sum.l2]
    rw [if_neg (by omega)]; rfl
  | succ d ih =>
    intro k i n x hi hn hx hk
    obtain ⟨k, rfl⟩ : ∃ q, k = q + 1 := ⟨k - 1, by omega⟩
    have hi2 : i + 1 + d = 16 := by omega
    have hn2 : n / 16 < 18446744073709551616 := by omega
    have hx3 : x.length + 1 ≤ 16 - d := by omega
    have hi16 : (i : Int) < 16 := by omega
    have hm0 : (0 : Int) ≤ ((n % 16 : Nat) : Int) := Int.natCast_nonneg _
    have hm1 : ((n % 16 : Nat) : Int) ≤ ((n % 16 + 1 : Nat) : Int) := by omega
    have hm2 : ((n % 16 + 1 : Nat) : Int) ≤ 16 := by omega
    have hx2 : x.length ≤ 15 := by omega
    have e0 : Int.tmod (n : Int) 16 = ((n % 16 : Nat) : Int) := (Int.ofNat_tmod n 16).symm
    have e1 : IntKind.u64.wrap (((n % 16 : Nat) : Int) + 1) = ((n % 16 + 1 : Nat) : Int) := by rw [wrap_u64]; omega
    have e2 : IntKind.u64.wrap (Int.tdiv (n : Int) 16) = ((n / 16 : Nat) : Int) := by rw [show Int.tdiv (n : Int) 16 = ((n / 16 : Nat) : Int) from (Int.ofNat_tdiv n 16).symm, wrap_u64]; omega
    have e3 : wrap64 ((i : Int) + 1) = ((i + 1 : Nat) : Int) := by unfold wrap64; omega
    have hd : n % 16 < 16 := Nat.mod_lt _ (by decide)
    simp only [observatoryref01_Sum.l2]
    rw [if_pos hi16, e0, e1, if_pos hm0, if_pos hm1, if_pos hm2, e2, e3, Int.toNat_natCast, Int.toNat_natCast, hex_cut _ hd, cat_one]
    have hsz : (⟨#[hexd (n % 16)]⟩ : ByteArray).size + (⟨x.toArray⟩ : ByteArray).size ≤ 9223372036854775807 := by rw [size_one, size_list]; clear e0 e1 e2 e3; omega
    rw [if_pos hsz, ih k (i + 1) (n / 16) _ hi2 hn2 (by rw [List.length_cons]; exact hx3) (by clear e0 e1 e2 e3; omega)]
    congr 2
    simp [hexTo]
theorem sum_l0 (s : ByteArray) (hs : s.size ≤ 9223372036854775799) (d : Nat) : ∀ (k j : Nat), j + d = s.size / 8 + 1 → 10 * d + 20 ≤ k →
    observatoryref01_Sum.l0 k s ((stN s.data.toList j : Nat) : Int) ((8 * j : Nat) : Int) = some (sumB s) := by
  have hl : s.data.toList.length = s.size := (Lib.size_eq s).symm
  induction d with
  | zero =>
    intro k j hj hk
    obtain ⟨k, rfl⟩ : ∃ q, k = q + 1 := ⟨k - 1, by omega⟩
    simp only [observatoryref01_Sum.l0]
    rw [if_neg (by omega)]
    have := sum_l2 16 k 0 (stN s.data.toList j) [] rfl (stN_lt _ (by omega) _) (by simp) (by omega)
    refine Eq.trans this ?_
    congr 1
    apply bytes_ext
    rw [sumB_data, List.append_nil, show j = s.data.toList.length / 8 + 1 by omega]
    rfl
  | succ d ih =>
    intro k j hj hk
    obtain ⟨k, rfl⟩ : ∃ q, k = q + 1 + 8 + 1 := ⟨k - 10, by omega⟩
    have h8 : 8 * j ≤ s.size := by omega
    show observatoryref01_Sum.l0 ((k + 1 + 8) + 1) s _ _ = _
    simp only [observatoryref01_Sum.l0]
    rw [if_pos (by omega)]
    have := sum_l1 s hs (8 * j) (stN s.data.toList j) h8 (stN_lt _ (by omega) _) 8 k 0 (by omega)
    refine Eq.trans this ?_
    rw [show 8 * j + 8 = 8 * (j + 1) by omega]
    exact ih k (j + 1) (by omega) (by omega)
theorem refSum_f (k : Nat) (s : ByteArray) (hs : s.size ≤ 9223372036854775799) (hk : 2 * s.size + 40 ≤ k) : observatoryref01_Sum.f k s = some (sumB s) := by
  have hl : s.data.toList.length = s.size := (Lib.size_eq s).symm
  unfold observatoryref01_Sum.f
  rw [show (bits BinOp.xor IntKind.u64 1442695040888963407 (IntKind.u64.wrap (s.size : Int))) = ((stN s.data.toList 0 : Nat) : Int) by
    rw [show IntKind.u64.wrap (s.size : Int) = ((s.size : Nat) : Int) by rw [wrap_u64]; omega]
    rw [show (1442695040888963407 : Int) = ((1442695040888963407 : Nat) : Int) from rfl, xorN _ _ (by decide) (by omega)]
    rw [← hl]; rfl]
  exact sum_l0 s hs (s.size / 8 + 1) k 0 (by omega) (by omega)
theorem digits_l0 (d : Nat) : ∀ (k n : Nat) (x : List UInt8), n < 10 ^ d → n < 1000000 → x.length + d ≤ 100 → d < k →
    observatoryref01_digits.l0 k (n : Int) ⟨x.toArray⟩ = some ⟨((if n = 0 then [] else Lib.decDigits n) ++ x).toArray⟩ := by
  induction d with
  | zero =>
    intro k n x hn _ hx hk
    obtain ⟨k, rfl⟩ : ∃ q, k = q + 1 := ⟨k - 1, by omega⟩
    obtain rfl : n = 0 := by simpa using hn
    simp only [observatoryref01_digits.l0]
    rw [if_neg (by omega)]; rfl
  | succ d ih =>
    intro k n x hn hm hx hk
    obtain ⟨k, rfl⟩ : ∃ q, k = q + 1 := ⟨k - 1, by omega⟩
    simp only [observatoryref01_digits.l0]
    by_cases h0 : n = 0
    · subst h0; rw [if_neg (by omega)]; rfl
    · have e0 : Int.tmod (n : Int) 10 = ((n % 10 : Nat) : Int) := (Int.ofNat_tmod n 10).symm
      have e1 : IntKind.u64.wrap (((n % 10 : Nat) : Int) + 1) = ((n % 10 + 1 : Nat) : Int) := by rw [wrap_u64]; omega
      have e2 : IntKind.u64.wrap (Int.tdiv (n : Int) 10) = ((n / 10 : Nat) : Int) := by rw [show Int.tdiv (n : Int) 10 = ((n / 10 : Nat) : Int) from (Int.ofNat_tdiv n 10).symm, wrap_u64]; omega
      have hd : n % 10 < 10 := Nat.mod_lt _ (by decide)
      have hq : n / 10 < 10 ^ d := by rw [Nat.pow_succ] at hn; omega
      rw [if_pos (by omega), e0, e1, if_pos (by omega), if_pos (by omega), if_pos (by omega), e2, Int.toNat_natCast, Int.toNat_natCast, dec_cut _ hd, cat_one]
      rw [if_pos (by rw [size_one, size_list]; omega), ih k (n / 10) _ hq (by omega) (by rw [List.length_cons]; omega) (by omega)]
      congr 2
      rw [if_neg h0]
      conv => rhs; rw [Lib.decDigits]
      by_cases h9 : n < 10
      · rw [dif_pos h9, if_pos (by omega), Nat.mod_eq_of_lt h9]; rfl
      · rw [dif_neg h9, if_neg (by omega)]; simp
theorem decimal_f (k n : Nat) (hn : n ≤ 1000) (hk : 10 < k) : observatoryref01_Decimal.f k (n : Int) = some ⟨(Lib.itoa (n : Int)).toArray⟩ := by
  unfold observatoryref01_Decimal.f
  rw [if_neg (by omega), show IntKind.u64.wrap (n : Int) = (n : Int) by rw [wrap_u64]; omega]
  unfold observatoryref01_digits.f
  have e0 : Int.tmod (n : Int) 10 = ((n % 10 : Nat) : Int) := (Int.ofNat_tmod n 10).symm
  have e1 : IntKind.u64.wrap (((n % 10 : Nat) : Int) + 1) = ((n % 10 + 1 : Nat) : Int) := by rw [wrap_u64]; omega
  have e2 : IntKind.u64.wrap (Int.tdiv (n : Int) 10) = ((n / 10 : Nat) : Int) := by rw [show Int.tdiv (n : Int) 10 = ((n / 10 : Nat) : Int) from (Int.ofNat_tdiv n 10).symm, wrap_u64]; omega
  have hd : n % 10 < 10 := Nat.mod_lt _ (by decide)
  rw [e0, e1, if_pos (by omega), if_pos (by omega), if_pos (by omega), e2, Int.toNat_natCast, Int.toNat_natCast, dec_cut _ hd]
  rw [digits_l0 6 k (n / 10) [UInt8.ofNat (48 + n % 10)] (by omega) (by omega) (by simp) (by omega)]
  simp only [Option.bind_some]
  congr 2
  rw [Lib.itoa_nonneg]
  conv => rhs; rw [Lib.decDigits]
  by_cases h9 : n < 10
  · rw [dif_pos h9, if_pos (by omega), Nat.mod_eq_of_lt h9]; rfl
  · rw [dif_neg h9, if_neg (by omega)]
/-- Bytes as numbers. -/
def numsOf (l : List UInt8) : List Int := l.map fun b => (b.toNat : Int)
theorem bytesOf_nums (s : ByteArray) : bytesOf s = numsOf s.data.toList := rfl
theorem strOf_nums (l : List UInt8) : strOfNums (numsOf l) = ⟨l.toArray⟩ := by
  unfold strOfNums numsOf
  rw [List.map_map]
  congr 2
  conv => rhs; rw [← List.map_id l]
  apply List.map_congr_left
  intro b _
  simp
theorem joined_l1 (l : List ByteArray) (hl : l.length ≤ 30) (hs : ∀ s ∈ l, (s.size : Int) ≤ 200) (d : Nat) : ∀ (k i : Nat), i + d = l.length → d + 12 < k →
    observatoryref01_Joined.l1 k l (numsOf (joinL (l.take i))) (i : Int) = some (joinB l) := by
  have hj := join_le l 200 (by decide) hs
  induction d with
  | zero =>
    intro k i hi hk
    obtain ⟨k, rfl⟩ : ∃ q, k = q + 1 := ⟨k - 1, by omega⟩
    simp only [observatoryref01_Joined.l1]
    rw [if_neg (by omega), List.take_of_length_le (by omega), strOf_nums]; rfl
  | succ d ih =>
    intro k i hi hk
    obtain ⟨k, rfl⟩ : ∃ q, k = q + 1 := ⟨k - 1, by omega⟩
    have h : i < l.length := by omega
    have h2 := hs _ (List.getElem_mem h)
    have h3 := itoa_le l[i].size (by omega)
    have h4 := joinL_take_le l i
    have h5 : (numsOf (joinL (l.take i))).length = (joinL (l.take i)).length := by simp [numsOf]
    have h6 : (⟨(Lib.itoa (l[i].size : Int)).toArray⟩ : ByteArray).size = (Lib.itoa (l[i].size : Int)).length := by rw [Lib.size_eq]
    simp only [observatoryref01_Joined.l1]
    rw [if_pos (by omega), if_pos (by omega), rdOf_nat _ _ _ h, decimal_f k _ (by omega) (by omega)]
    simp only [Option.bind_some]
    have e1 : numsOf (joinL (l.take i)) ++ bytesOf ⟨(Lib.itoa (l[i].size : Int)).toArray⟩ ++ [58] ++ bytesOf l[i] = numsOf (joinL (l.take (i + 1))) := by
      rw [joinL_take_succ l i h]
      simp [bytesOf_nums, numsOf, piece]
    have l1 : (numsOf (joinL (l.take i)) ++ bytesOf ⟨(Lib.itoa (l[i].size : Int)).toArray⟩).length ≤ 8000 := by
      rw [List.length_append, bytesOf_length, h5, h6]; omega
    have l2 : (numsOf (joinL (l.take i)) ++ bytesOf ⟨(Lib.itoa (l[i].size : Int)).toArray⟩ ++ [58]).length ≤ 8001 := by
      rw [List.length_append]; simp only [List.length_cons, List.length_nil]; omega
    rw [if_pos (by rw [h5, h6]; omega), if_pos (by omega), if_pos (by omega), e1, show wrap64 ((i : Int) + 1) = ((i + 1 : Nat) : Int) by unfold wrap64; omega]
    exact ih k (i + 1) (by omega) (by omega)
theorem joined_l0 (l : List ByteArray) (hl : l.length ≤ 30) (hs : ∀ s ∈ l, (s.size : Int) ≤ 200) (d : Nat) : ∀ (k i n : Nat), i + d = l.length → n ≤ 221 * i → d + l.length + 14 < k →
    observatoryref01_Joined.l0 k l (n : Int) (i : Int) = some (joinB l) := by
  induction d with
  | zero =>
    intro k i n hi hn hk
    obtain ⟨k, rfl⟩ : ∃ q, k = q + 1 := ⟨k - 1, by omega⟩
    simp only [observatoryref01_Joined.l0]
    rw [if_neg (by omega), if_pos (by omega), if_pos (by omega)]
    exact joined_l1 l hl hs l.length k 0 (by omega) (by omega)
  | succ d ih =>
    intro k i n hi hn hk
    obtain ⟨k, rfl⟩ : ∃ q, k = q + 1 := ⟨k - 1, by omega⟩
    have h : i < l.length := by omega
    have h2 := hs _ (List.getElem_mem h)
    simp only [observatoryref01_Joined.l0]
    rw [if_pos (by omega), if_pos (by omega), rdOf_nat _ _ _ h]
    rw [show wrap64 ((n : Int) + wrap64 ((l[i].size : Int) + 21)) = ((n + l[i].size + 21 : Nat) : Int) by unfold wrap64; omega, show wrap64 ((i : Int) + 1) = ((i + 1 : Nat) : Int) by unfold wrap64; omega]
    exact ih k (i + 1) _ (by omega) (by omega) (by omega)
theorem joined_f (k : Nat) (l : List ByteArray) (h : fewB l 200 = true) (hk : 80 < k) : observatoryref01_Joined.f k l = some (joinB l) := by
  obtain ⟨_, h2, h3⟩ := fewB_out l 200 (by decide) h
  exact joined_l0 l h2 h3 l.length k 0 0 (by omega) (by omega) (by omega)
theorem refList_f (k : Nat) (l : List ByteArray) (h : fewB l 200 = true) (hk : 14000 < k) : observatoryref01_List.f k l = some (sumB (joinB l)) := by
  obtain ⟨h1, _, _⟩ := fewB_out l 200 (by decide) h
  unfold observatoryref01_List.f
  rw [joined_f k l h (by omega)]
  simp only [Option.bind_some]
  rw [refSum_f k _ (by rw [joinB_size]; omega) (by rw [joinB_size]; omega)]
  rfl

end Go.Proofs.YtapnakfhkdcfeaaGreatDoor.Pure
