/-
  What the printed functions of the digest layer compute, in plain terms (part 1): Sum, Is, Chain, the fixed examples.
-/
import Derived.Test.YtdflcicgniediaaDoorPx
set_option linter.unusedVariables false
set_option linter.unusedSimpArgs false
namespace Go.Proofs.YtdflcicgniediaaDoor.Pure
open Go.RowKit Go.Proofs.YtdflcicgniediaaDoor.P Go.Proofs.YtdflcicgniediaaDoor.Dg Go.Proofs.YtdflcicgniediaaDoorW.PrintWords Go.Proofs.YtdflcicgniediaaDoorW.PrintMore

attribute [local irreducible] sumB

theorem toL (s : ByteArray) : s.toList = s.data.toList := ByteArray.toList_eq s
theorem bytes_ext {s t : ByteArray} (h : s.data.toList = t.data.toList) : s = t := by
  cases s with | mk a => cases t with | mk b => cases a; cases b; simp only at h; rw [h]
theorem toL_eq (s t : ByteArray) : (s.toList == t.toList) = decide (s = t) := by
  rw [toL, toL]
  by_cases h : s = t
  · subst h; simp
  · have : ¬ s.data.toList = t.data.toList := fun e => h (bytes_ext e)
    rw [decide_eq_false h, beq_eq_false_iff_ne]; exact this
theorem toL_inj {s t : ByteArray} : s.toList = t.toList ↔ s = t := ⟨fun h => by rw [toL, toL] at h; exact bytes_ext h, fun h => by rw [h]⟩

theorem sumB_size (s : ByteArray) : (sumB s).size = 16 := by rw [Lib.size_eq, sumB_data, sumL_length]
theorem sum_f (s : ByteArray) (h : s.size ≤ 9223372036854775799) : digest_Sum.f s = some (sumB s) := if_pos h
theorem sumB_inj {s t : ByteArray} (h : sumB s = sumB t) : sumL s.data.toList = sumL t.data.toList := by rw [← sumB_data, ← sumB_data, h]
theorem short_eq {s t : ByteArray} (hs : s.size ≤ 7) (ht : t.size ≤ 7) (h : sumB s = sumB t) : s = t :=
  bytes_ext (short_inj _ _ (by rw [← Lib.size_eq]; exact hs) (by rw [← Lib.size_eq]; exact ht) (sumB_inj h))

theorem hexd_mem : ∀ d, d < 16 → hexSet.contains (hexd d) = true := by decide
theorem hexTo_mem (k : Nat) : ∀ n, (hexTo n k).all (hexSet.contains ·) = true := by
  induction k with
  | zero => intro n; rfl
  | succ k ih => intro n; simp only [hexTo, List.all_append, ih, List.all_cons, List.all_nil, hexd_mem _ (Nat.mod_lt n (by decide : 0 < 16)), Bool.and_true]
theorem isB_sumB (s : ByteArray) : isB (sumB s) = true := by
  unfold isB; rw [sumB_size, sumB_data]; unfold sumL; rw [hexTo_mem]; rfl

/-- The chain of a text. -/
def chainB (s : ByteArray) : Nat → ByteArray
  | 0 => s
  | n + 1 => chainB (sumB s) n
theorem chainB_add (a b : Nat) : ∀ s, chainB s (a + b) = chainB (chainB s a) b := by
  induction a with
  | zero => intro s; rw [Nat.zero_add]; rfl
  | succ a ih => intro s; rw [Nat.succ_add, chainB, chainB]; exact ih (sumB s)

theorem chain_l0 (d : Nat) : ∀ (k : Nat) (s : ByteArray) (n i : Int), s.size ≤ 9223372036854775799 → 0 ≤ i → n ≤ 1000 → n - i = d → d < k → digest_Chain.l0 k s n i = some (chainB s d) := by
  induction d with
  | zero =>
    intro k s n i hs h0 hn hd hk
    obtain ⟨k, rfl⟩ : ∃ m, k = m + 1 := ⟨k - 1, by omega⟩
    simp only [digest_Chain.l0]; rw [if_neg (by omega)]; rfl
  | succ d ih =>
    intro k s n i hs h0 hn hd hk
    obtain ⟨k, rfl⟩ : ∃ m, k = m + 1 := ⟨k - 1, by omega⟩
    simp only [digest_Chain.l0]; rw [if_pos (by omega), sum_f s hs]; simp only [Option.bind_some]
    rw [show wrap64 (i + 1) = i + 1 by unfold wrap64; omega]
    exact ih k (sumB s) n (i + 1) (by rw [sumB_size]; omega) (by omega) hn (by omega) (by omega)
theorem chain_f (k : Nat) (s : ByteArray) (n : Int) (hs : s.size ≤ 9223372036854775799) (hk : 1001 < k) : digest_Chain.f k s n = some (chainB s (min n 1000).toNat) := by
  unfold digest_Chain.f
  by_cases h0 : 0 ≤ n
  · exact chain_l0 (min n 1000).toNat k s _ 0 hs (by omega) (by unfold mx mn; split <;> split <;> omega) (by unfold mx mn; split <;> split <;> omega) (by omega)
  · have e : (min n 1000).toNat = 0 := by omega
    rw [e]
    exact chain_l0 0 k s _ 0 hs (by omega) (by unfold mx mn; split <;> split <;> omega) (by unfold mx mn; split <;> split <;> omega) (by omega)

theorem list_f (l : List ByteArray) (h : (joinL l).length ≤ 140737488355328) : digest_List.f l = some (sumB (joinB l)) := if_pos h
theorem decDigits_small (u : Nat) (h : u < 10) : Lib.decDigits u = [UInt8.ofNat (48 + u)] := by unfold Lib.decDigits; rw [dif_pos h]
theorem itoa_small (u : Nat) (h : u < 10) : Lib.itoa (u : Int) = [UInt8.ofNat (48 + u)] := by rw [Lib.itoa_nonneg, decDigits_small u h]

theorem head_list : joinB [(⟨#[97]⟩ : ByteArray), (⟨#[98, 99]⟩ : ByteArray)] = ⟨#[49, 58, 97, 50, 58, 98, 99]⟩ := by
  unfold joinB joinL
  simp only [List.flatMap_cons, List.flatMap_nil, piece]
  rw [show ((⟨#[97]⟩ : ByteArray).size : Int) = ((1 : Nat) : Int) from rfl, show ((⟨#[98, 99]⟩ : ByteArray).size : Int) = ((2 : Nat) : Int) from rfl, itoa_small 1 (by decide), itoa_small 2 (by decide)]
  rfl

theorem head_ev (k : Nat) (hk : 1003 < k) : observatorylaw01_head.f k = some true := by
  obtain ⟨k, rfl⟩ : ∃ m, k = m + 1 := ⟨k - 1, by omega⟩
  have e1 : isB ⟨#[48, 49, 50, 51, 52, 53, 54, 55, 56, 57, 97, 98, 99, 100, 101, 102]⟩ = true := by decide
  have e2 : isB ⟨#[48, 49, 50, 51, 52, 53, 54, 55, 56, 57, 97, 98, 99, 100, 101, 70]⟩ = false := by decide
  have e3 : isB ⟨#[]⟩ = false := by decide
  unfold observatorylaw01_head.f
  simp only [digest_Is.f, Option.bind_some, e1, e2, e3, if_true, Bool.false_eq_true, if_false, Bool.not_false]
  simp only [observatorylaw01_head.j0, if_true]
  rw [list_f _ (by have := head_list; unfold joinB at this; have h2 := congrArg (fun s : ByteArray => s.data.toList.length) this; simp only at h2; rw [h2]; decide)]
  simp only [Option.bind_some]
  rw [head_list, sum_f _ (by decide)]
  simp only [Option.bind_some, if_true]
  rw [chain_f k _ 0 (by decide) (by omega)]
  simp only [Option.bind_some]
  rw [if_pos (by show (chainB ⟨#[120]⟩ 0).toList = _; rw [toL]; rfl), chain_f k _ 2 (by decide) (by omega)]
  simp only [Option.bind_some]
  rw [sum_f _ (by decide)]
  simp only [Option.bind_some]
  rw [sum_f _ (by rw [sumB_size]; decide)]
  simp only [Option.bind_some]
  rw [if_pos (show (chainB ⟨#[120]⟩ (min 2 1000 : Int).toNat).toList = (sumB (sumB ⟨#[120]⟩)).toList from rfl), sum_f _ (by decide)]
  simp only [Option.bind_some]
  rw [sum_f _ (by decide)]
  simp only [Option.bind_some]
  have n1 : ¬ sumB ⟨#[]⟩ = sumB ⟨#[0]⟩ := fun h => by
    have h2 := congrArg ByteArray.size (short_eq (by decide) (by decide) h)
    exact absurd h2 (by decide)
  have n2 : ¬ sumB ⟨#[1]⟩ = sumB ⟨#[]⟩ := fun h => by
    have h2 := congrArg ByteArray.size (short_eq (by decide) (by decide) h)
    exact absurd h2 (by decide)
  rw [if_neg (fun h => n1 (toL_inj.1 h)), sum_f _ (by decide)]
  simp only [Option.bind_some]
  congr 1
  rw [bne, toL_eq]
  simp [n2]

theorem DigestShort : ∀ (a0 a1 : ByteArray), a0.size ≤ 140737488351232 → a1.size ≤ 140737488351232 → ∃ k, observatorylaw01_DigestShort.f k a0 a1 = some true := by
  intro a b ha hb
  refine ⟨1004, ?_⟩
  unfold observatorylaw01_DigestShort.f
  rw [head_ev 1004 (by omega)]
  simp only [Option.bind_some]
  have hm : ∀ x : Nat, 0 ≤ mn (x : Int) 7 ∧ mn (x : Int) 7 ≤ x ∧ mn (x : Int) 7 ≤ 7 := fun x => by unfold mn; split <;> omega
  have hsz : ∀ s : ByteArray, (s.extract 0 (mn (s.size : Int) 7).toNat).size ≤ 7 := fun s => by
    have := hm s.size
    rw [ByteArray.size_extract]; omega
  rw [if_pos (hm _).1, if_pos (hm _).2.1, if_pos (hm _).1, if_pos (hm _).2.1]
  simp only [if_true]
  rw [sum_f _ (by have := hsz a; omega)]
  simp only [Option.bind_some]
  rw [sum_f _ (by have := hsz b; omega)]
  simp only [Option.bind_some]
  rw [toL_eq, toL_eq]
  congr 1
  by_cases h : a.extract 0 (mn (a.size : Int) 7).toNat = b.extract 0 (mn (b.size : Int) 7).toNat
  · simp [h]
  · have : ¬ sumB (a.extract 0 (mn (a.size : Int) 7).toNat) = sumB (b.extract 0 (mn (b.size : Int) 7).toNat) := fun e => h (short_eq (hsz a) (hsz b) e)
    simp [h, this]

end Go.Proofs.YtdflcicgniediaaDoor.Pure
