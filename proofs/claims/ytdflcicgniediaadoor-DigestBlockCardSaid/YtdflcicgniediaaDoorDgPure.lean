/-
  The plain arithmetic of digests: mixing is a bijection on numbers below 2^64, a digest's sixteen digits tell its number.
-/
set_option linter.unusedVariables false
set_option linter.unusedSimpArgs false
namespace Go.Proofs.YtdflcicgniediaaDoor.Dg

/-- One mixing step, on numbers below 2^64. -/
def mixN (x : Nat) : Nat :=
  let a := ((x ^^^ (x / 2147483648)) * 14029467366897019727) % 18446744073709551616
  let b := ((a ^^^ (a / 134217728)) * 11400714785074694791) % 18446744073709551616
  b ^^^ (b / 8589934592)

/-- The byte at a place, 0 behind the end. -/
def byteN (l : List UInt8) (i : Nat) : Nat := (l.getD i 0).toNat
/-- The first k bytes of the block at a place, as a number. -/
def blockTo (l : List UInt8) (o : Nat) : Nat → Nat
  | 0 => 0
  | k + 1 => blockTo l o k * 256 + byteN l (o + k)
/-- The state behind k blocks. -/
def stN (l : List UInt8) : Nat → Nat
  | 0 => 1442695040888963407 ^^^ l.length
  | k + 1 => mixN (stN l k ^^^ blockTo l (8 * k) 8)
def sumN (l : List UInt8) : Nat := stN l (l.length / 8 + 1)
/-- A hexadecimal digit. -/
def hexd (d : Nat) : UInt8 := if d < 10 then UInt8.ofNat (48 + d) else UInt8.ofNat (87 + d)
/-- The last k hexadecimal digits. -/
def hexTo (n : Nat) : Nat → List UInt8
  | 0 => []
  | k + 1 => hexTo (n / 16) k ++ [hexd (n % 16)]
def sumL (l : List UInt8) : List UInt8 := hexTo (sumN l) 16

theorem byteN_lt (l : List UInt8) (i : Nat) : byteN l i < 256 := by
  unfold byteN; exact UInt8.toNat_lt _

theorem blockTo_lt (l : List UInt8) (o k : Nat) : blockTo l o k < 256 ^ k := by
  induction k with
  | zero => simp [blockTo]
  | succ k ih =>
    have := byteN_lt l (o + k)
    simp only [blockTo, Nat.pow_succ]
    omega

theorem xor_self_mid (x y a b : Nat) (h : x ^^^ a = y ^^^ b) : x ^^^ y = a ^^^ b := by
  have h1 : x = (y ^^^ b) ^^^ a := by rw [← h, Nat.xor_assoc, Nat.xor_self, Nat.xor_zero]
  have h2 : x ^^^ y = ((y ^^^ b) ^^^ a) ^^^ y := congrArg (· ^^^ y) h1
  rw [h2, Nat.xor_comm ((y ^^^ b) ^^^ a) y, ← Nat.xor_assoc, ← Nat.xor_assoc, Nat.xor_self, Nat.zero_xor, Nat.xor_comm]

theorem eq_of_xor_zero (x y : Nat) (h : x ^^^ y = 0) : x = y := by
  have h1 : (x ^^^ y) ^^^ y = 0 ^^^ y := congrArg (· ^^^ y) h
  rwa [Nat.xor_assoc, Nat.xor_self, Nat.xor_zero, Nat.zero_xor] at h1

theorem xshift_inj (k : Nat) (hk : 0 < k) (x y : Nat) (h : x ^^^ (x / 2 ^ k) = y ^^^ (y / 2 ^ k)) : x = y := by
  have h1 := xor_self_mid x y _ _ h
  rw [← Nat.shiftRight_eq_div_pow, ← Nat.shiftRight_eq_div_pow, ← Nat.shiftRight_xor_distrib, Nat.shiftRight_eq_div_pow] at h1
  refine eq_of_xor_zero x y ?_
  rcases Nat.eq_zero_or_pos (x ^^^ y) with h0 | h0
  · exact h0
  · have h2 : (x ^^^ y) / 2 ^ k < x ^^^ y := Nat.div_lt_self h0 (Nat.one_lt_two_pow (by omega))
    omega

theorem mul_inj (c d x y : Nat) (hcd : c * d % 18446744073709551616 = 1) (hx : x < 18446744073709551616) (hy : y < 18446744073709551616)
    (h : x * c % 18446744073709551616 = y * c % 18446744073709551616) : x = y := by
  have back : ∀ z, z < 18446744073709551616 → (z * c % 18446744073709551616) * d % 18446744073709551616 = z := by
    intro z hz
    rw [Nat.mod_mul_mod, Nat.mul_assoc, Nat.mul_mod, hcd, Nat.mul_one, Nat.mod_mod, Nat.mod_eq_of_lt hz]
  rw [← back x hx, ← back y hy, h]

theorem xor_lt (x y : Nat) (hx : x < 18446744073709551616) (hy : y < 18446744073709551616) : x ^^^ y < 18446744073709551616 :=
  Nat.xor_lt_two_pow (n := 64) hx hy

theorem mixN_lt (x : Nat) : mixN x < 18446744073709551616 := by
  unfold mixN
  refine xor_lt _ _ (Nat.mod_lt _ (by decide)) ?_
  exact Nat.lt_of_le_of_lt (Nat.div_le_self _ _) (Nat.mod_lt _ (by decide))

theorem mixN_inj (x y : Nat) (hx : x < 18446744073709551616) (hy : y < 18446744073709551616) (h : mixN x = mixN y) : x = y := by
  unfold mixN at h
  have h1 := xshift_inj 33 (by decide) _ _ h
  have lx : ∀ z k : Nat, z < 18446744073709551616 → z ^^^ (z / k) < 18446744073709551616 := fun z k hz =>
    xor_lt _ _ hz (Nat.lt_of_le_of_lt (Nat.div_le_self _ _) hz)
  have h2 := mul_inj 11400714785074694791 614540362697595703 _ _ (by decide) (lx _ _ (Nat.mod_lt _ (by decide))) (lx _ _ (Nat.mod_lt _ (by decide))) h1
  have h3 := xshift_inj 27 (by decide) _ _ h2
  have h4 := mul_inj 14029467366897019727 839798700976720815 _ _ (by decide) (lx _ _ hx) (lx _ _ hy) h3
  exact xshift_inj 31 (by decide) _ _ h4

theorem blockTo8_lt (l : List UInt8) (o : Nat) : blockTo l o 8 < 18446744073709551616 := blockTo_lt l o 8

theorem stN_lt (l : List UInt8) (hl : l.length < 18446744073709551616) : ∀ k, stN l k < 18446744073709551616
  | 0 => by unfold stN; exact xor_lt _ _ (by decide) hl
  | k + 1 => by unfold stN; exact mixN_lt _

theorem sumN_lt (l : List UInt8) : sumN l < 18446744073709551616 := by
  unfold sumN stN; exact mixN_lt _

theorem xor_right_inj' (x a b : Nat) (h : x ^^^ a = x ^^^ b) : a = b := by
  have h1 := xor_self_mid x x a b h
  rw [Nat.xor_self] at h1
  exact eq_of_xor_zero _ _ h1.symm
theorem xor_left_inj' (x y a : Nat) (h : x ^^^ a = y ^^^ a) : x = y := by
  rw [Nat.xor_comm x, Nat.xor_comm y] at h
  exact xor_right_inj' a x y h

/-! ### hexadecimal digits -/

theorem hexd_toNat (d : Nat) (h : d < 16) : (hexd d).toNat = if d < 10 then 48 + d else 87 + d := by
  unfold hexd
  split
  · simp; omega
  · simp; omega

theorem hexd_inj (a b : Nat) (ha : a < 16) (hb : b < 16) (h : hexd a = hexd b) : a = b := by
  have := congrArg UInt8.toNat h
  rw [hexd_toNat a ha, hexd_toNat b hb] at this
  split at this <;> split at this <;> omega

theorem hexTo_length (k : Nat) : ∀ n, (hexTo n k).length = k := by
  induction k with
  | zero => intro n; rfl
  | succ k ih => intro n; simp [hexTo, ih]

theorem hexTo_inj (k : Nat) : ∀ n m, n < 16 ^ k → m < 16 ^ k → hexTo n k = hexTo m k → n = m := by
  induction k with
  | zero => intro n m hn hm _; simp at hn hm; omega
  | succ k ih =>
    intro n m hn hm h
    simp only [hexTo] at h
    have h1 := List.append_inj h (by rw [hexTo_length, hexTo_length])
    have h2 := ih (n / 16) (m / 16) (by rw [Nat.pow_succ] at hn; omega) (by rw [Nat.pow_succ] at hm; omega) h1.1
    have h3 := hexd_inj _ _ (Nat.mod_lt _ (by decide)) (Nat.mod_lt _ (by decide)) (List.cons.inj h1.2).1
    omega

theorem sumL_length (l : List UInt8) : (sumL l).length = 16 := hexTo_length 16 _

theorem sumL_inj (l m : List UInt8) (h : sumL l = sumL m) : sumN l = sumN m :=
  hexTo_inj 16 _ _ (sumN_lt l) (sumN_lt m) h

/-- Leading zeros. -/
theorem hexTo_pad (j : Nat) : ∀ k n, n < 16 ^ j → List.replicate k 48 ++ hexTo n j = hexTo n (k + j) := by
  have zero : ∀ k, hexTo 0 k = List.replicate k 48 := by
    intro k
    induction k with
    | zero => rfl
    | succ k ih => simp only [hexTo, Nat.zero_div, ih]; rw [List.replicate_succ']; rfl
  induction j with
  | zero =>
    intro k n hn
    have : n = 0 := by simpa using hn
    subst this
    simp [hexTo, zero]
  | succ j ih =>
    intro k n hn
    have h := ih k (n / 16) (by rw [Nat.pow_succ] at hn; omega)
    rw [← Nat.add_assoc]
    simp only [hexTo, ← h, List.append_assoc]

/-! ### what a digest tells -/

theorem stN_inj_from (l m : List UInt8) (h : l.length = m.length) (hl : l.length < 18446744073709551616) (i : Nat) (j : Nat) (hb : ∀ k, i ≤ k → blockTo l (8 * k) 8 = blockTo m (8 * k) 8)
    (hs : stN l (i + j) = stN m (i + j)) : stN l i = stN m i := by
  induction j with
  | zero => exact hs
  | succ j ih =>
    refine ih ?_
    have hs' : mixN (stN l (i + j) ^^^ blockTo l (8 * (i + j)) 8) = mixN (stN m (i + j) ^^^ blockTo m (8 * (i + j)) 8) := hs
    have h1 := mixN_inj _ _ (xor_lt _ _ (stN_lt l hl _) (blockTo8_lt _ _)) (xor_lt _ _ (stN_lt m (h ▸ hl) _) (blockTo8_lt _ _)) hs'
    rw [hb (i + j) (by omega)] at h1
    exact xor_left_inj' _ _ _ h1

theorem stN_congr (l m : List UInt8) (h : l.length = m.length) : ∀ i, (∀ k, k < i → blockTo l (8 * k) 8 = blockTo m (8 * k) 8) → stN l i = stN m i
  | 0, _ => by unfold stN; rw [h]
  | i + 1, hb => by
    unfold stN
    rw [stN_congr l m h i (fun k hk => hb k (by omega)), hb i (by omega)]

/-- Texts that differ in one block alone have the same digest only if the blocks are the same. -/
theorem one_block (l m : List UInt8) (h : l.length = m.length) (hl : l.length < 18446744073709551616) (i : Nat) (hi : i ≤ l.length / 8)
    (hb : ∀ k, k ≠ i → blockTo l (8 * k) 8 = blockTo m (8 * k) 8) (hs : sumL l = sumL m) : blockTo l (8 * i) 8 = blockTo m (8 * i) 8 := by
  have h0 := sumL_inj l m hs
  unfold sumN at h0
  rw [← h] at h0
  have h1 := stN_inj_from l m h hl (i + 1) (l.length / 8 + 1 - (i + 1)) (fun k hk => hb k (by omega)) (by rw [show i + 1 + (l.length / 8 + 1 - (i + 1)) = l.length / 8 + 1 from by omega]; exact h0)
  have h2 : stN l i = stN m i := stN_congr l m h i (fun k hk => hb k (by omega))
  have h3 : mixN (stN l i ^^^ blockTo l (8 * i) 8) = mixN (stN m i ^^^ blockTo m (8 * i) 8) := h1
  have h4 := mixN_inj _ _ (xor_lt _ _ (stN_lt l hl _) (blockTo8_lt _ _)) (xor_lt _ _ (stN_lt m (h ▸ hl) _) (blockTo8_lt _ _)) h3
  rw [h2] at h4
  exact xor_right_inj' _ _ _ h4

theorem blockTo_bytes (l m : List UInt8) (o p : Nat) : ∀ k, blockTo l o k = blockTo m p k → ∀ i, i < k → byteN l (o + i) = byteN m (p + i)
  | 0, _, i, hi => absurd hi (Nat.not_lt_zero i)
  | k + 1, h, i, hi => by
    simp only [blockTo] at h
    have a := byteN_lt l (o + k)
    have b := byteN_lt m (p + k)
    have h1 : blockTo l o k = blockTo m p k := by omega
    have h2 : byteN l (o + k) = byteN m (p + k) := by omega
    rcases Nat.lt_or_ge i k with hik | hik
    · exact blockTo_bytes l m o p k h1 i hik
    · have : i = k := by omega
      subst this
      exact h2

theorem blockTo_congr (l m : List UInt8) (o : Nat) : ∀ k, (∀ i, i < k → byteN l (o + i) = byteN m (o + i)) → blockTo l o k = blockTo m o k
  | 0, _ => rfl
  | k + 1, h => by
    simp only [blockTo]
    rw [blockTo_congr l m o k (fun i hi => h i (by omega)), h k (by omega)]

theorem eq_of_bytes (l m : List UInt8) (h : l.length = m.length) (hb : ∀ i, i < l.length → byteN l i = byteN m i) : l = m := by
  refine List.ext_getElem h fun i h1 h2 => ?_
  have := hb i h1
  simp only [byteN, List.getD, List.getElem?_eq_getElem h1, List.getElem?_eq_getElem h2, Option.getD_some] at this
  exact UInt8.toNat_inj.1 this

/-- Texts of at most seven bytes have the same digest only if they are equal: the last byte of the state before mixing tells the length. -/
theorem short_inj (l m : List UInt8) (hl : l.length ≤ 7) (hm : m.length ≤ 7) (hs : sumL l = sumL m) : l = m := by
  have h0 := sumL_inj l m hs
  have el : sumN l = mixN ((1442695040888963407 ^^^ l.length) ^^^ blockTo l 0 8) := by
    unfold sumN; rw [show l.length / 8 = 0 from by omega]; rfl
  have em : sumN m = mixN ((1442695040888963407 ^^^ m.length) ^^^ blockTo m 0 8) := by
    unfold sumN; rw [show m.length / 8 = 0 from by omega]; rfl
  rw [el, em] at h0
  have h1 := mixN_inj _ _ (xor_lt _ _ (xor_lt _ _ (by decide) (by omega)) (blockTo8_lt _ _)) (xor_lt _ _ (xor_lt _ _ (by decide) (by omega)) (blockTo8_lt _ _)) h0
  rw [Nat.xor_assoc, Nat.xor_assoc] at h1
  have h2 := xor_right_inj' _ _ _ h1
  have last : ∀ z : List UInt8, z.length ≤ 7 → blockTo z 0 8 = blockTo z 0 7 * 256 := by
    intro z hz
    show blockTo z 0 7 * 256 + byteN z (0 + 7) = _
    have : byteN z (0 + 7) = 0 := by simp [byteN, List.getD, List.getElem?_eq_none (show z.length ≤ 7 from hz)]
    omega
  have low : ∀ z : List UInt8, z.length ≤ 7 → (z.length ^^^ blockTo z 0 8) = z.length + blockTo z 0 8 := by
    intro z hz
    rw [last z hz]
    have h8 : z.length < 2 ^ 8 := by omega
    rw [Nat.xor_comm, show blockTo z 0 7 * 256 = 2 ^ 8 * blockTo z 0 7 from Nat.mul_comm _ _, Nat.add_comm]
    have ho := Nat.two_pow_add_eq_or_of_lt h8 (blockTo z 0 7)
    rw [ho]
    refine Nat.eq_of_testBit_eq fun i => ?_
    rw [Nat.testBit_xor, Nat.testBit_or, Nat.testBit_two_pow_mul]
    rcases Nat.lt_or_ge i 8 with hi | hi
    · simp [Nat.not_le.2 hi]
    · rw [Nat.testBit_lt_two_pow (Nat.lt_of_lt_of_le h8 (Nat.pow_le_pow_right (by decide) hi))]
      simp
  rw [low l hl, low m hm, last l hl, last m hm] at h2
  have h3 : l.length = m.length := by omega
  have h4 : blockTo l 0 7 = blockTo m 0 7 := by omega
  refine eq_of_bytes l m h3 fun i hi => ?_
  have := blockTo_bytes l m 0 0 7 h4 i (by omega)
  simpa using this

end Go.Proofs.YtdflcicgniediaaDoor.Dg
