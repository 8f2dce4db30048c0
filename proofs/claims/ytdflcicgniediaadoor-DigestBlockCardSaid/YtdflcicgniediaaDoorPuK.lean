/-
  The law of blocks, in plain terms: texts that differ in one block alone have different digests.
-/
import Derived.Test.YtdflcicgniediaaDoorPuC
import Derived.Test.YtdflcicgniediaaDoorPxB1
set_option linter.unusedVariables false
set_option linter.unusedSimpArgs false
namespace Go.Proofs.YtdflcicgniediaaDoor.Pure
open Go.RowKit Go.Proofs.YtdflcicgniediaaDoor.P Go.Proofs.YtdflcicgniediaaDoor.PB Go.Proofs.YtdflcicgniediaaDoor.Dg Go.Proofs.YtdflcicgniediaaDoorW.PrintWords Go.Proofs.YtdflcicgniediaaDoorW.PrintMore
attribute [local irreducible] sumB

theorem byteN_left (U W : List UInt8) (j : Nat) (h : j < U.length) : byteN (U ++ W) j = byteN U j := by
  simp only [byteN, List.getD_eq_getElem?_getD]; rw [List.getElem?_append_left h]
theorem byteN_right (U W : List UInt8) (j : Nat) (h : U.length ≤ j) : byteN (U ++ W) j = byteN W (j - U.length) := by
  simp only [byteN, List.getD_eq_getElem?_getD]; rw [List.getElem?_append_right h]
theorem block_mid (U V A B : List UInt8) (p : Nat) (hU : U.length = 8 * p) (hAB : A.length = B.length) (h8 : A.length ≤ 8) (hl : (U ++ (A ++ V)).length < 18446744073709551616) (hs : sumL (U ++ (A ++ V)) = sumL (U ++ (B ++ V))) : A = B := by
  have hlen : (U ++ (A ++ V)).length = (U ++ (B ++ V)).length := by simp only [List.length_append]; omega
  have hb := one_block _ _ hlen hl p (by simp only [List.length_append]; omega) (fun k hk => by
    refine blockTo_congr _ _ _ 8 fun i hi => ?_
    by_cases h1 : 8 * k + i < U.length
    · rw [byteN_left _ _ _ h1, byteN_left _ _ _ h1]
    · rw [byteN_right _ _ _ (by omega), byteN_right _ _ _ (by omega), byteN_right _ _ _ (by omega), byteN_right _ _ _ (by omega), hAB]) hs
  have h2 := blockTo_bytes _ _ _ _ 8 hb
  refine eq_of_bytes A B hAB fun i hi => ?_
  have h3 := h2 i (by omega)
  rw [byteN_right U (A ++ V) _ (by omega), byteN_right U (B ++ V) _ (by omega), byteN_left A V _ (by omega), byteN_left B V _ (by omega), show 8 * p + i - U.length = i by omega] at h3
  exact h3

theorem cat_data (x y z : ByteArray) : ((x ++ y) ++ z).data.toList = x.data.toList ++ (y.data.toList ++ z.data.toList) := by
  rw [ByteArray.data_append, ByteArray.data_append, Array.toList_append, Array.toList_append, List.append_assoc]
theorem mid_eq (u a b v : ByteArray) (p : Nat) (hu : u.size = 8 * p) (hab : a.size = b.size) (h8 : a.size ≤ 8) (hl : u.size + a.size + v.size < 18446744073709551616) (hs : sumB ((u ++ a) ++ v) = sumB ((u ++ b) ++ v)) : a = b := by
  have h := sumB_inj hs
  rw [cat_data, cat_data] at h
  have q : ∀ s : ByteArray, s.data.toList.length = s.size := fun s => (Lib.size_eq s).symm
  refine bytes_ext (block_mid _ _ _ _ p ?_ ?_ ?_ ?_ h)
  · rw [q, hu]
  · rw [q, q, hab]
  · rw [q]; exact h8
  · rw [List.length_append, List.length_append, q, q, q]; omega

theorem DigestBlock : ∀ (a0 : ByteArray) (a1 : Int) (a2 a3 : ByteArray), a0.size ≤ 140737488351232 → (Lit.int .u8 a1).wf = true → a2.size ≤ 140737488351232 → a3.size ≤ 140737488351232 → ∃ k, observatorylaw01_DigestBlock.f k a0 a1 a2 a3 = some true := by
  intro s pl a b hs hp ha hb
  have hp := wf8 hp
  obtain ⟨k, hk⟩ : ∃ k, k = 20000 := ⟨_, rfl⟩
  refine ⟨k + 1, ?_⟩
  obtain ⟨n, hn, h3, h4, h5⟩ : ∃ n : Nat, mn (mn (a.size : Int) (b.size : Int)) 8 = (n : Int) ∧ n ≤ a.size ∧ n ≤ b.size ∧ n ≤ 8 := ⟨min (min a.size b.size) 8, by unfold mn; split <;> split <;> omega, by omega, by omega, by omega⟩
  obtain ⟨p, hpp, hpl⟩ : ∃ p : Nat, wrap64 (8 * wrap64 pl) = ((8 * p : Nat) : Int) ∧ p ≤ 255 := ⟨pl.toNat, by unfold wrap64; omega, by omega⟩
  have sA : (a.extract 0 n).size = n := by rw [ByteArray.size_extract]; omega
  have sB : (b.extract 0 n).size = n := by rw [ByteArray.size_extract]; omega
  unfold observatorylaw01_DigestBlock.f
  rw [head_ev _ (by omega), bindS, hn, hpp, if_pos (by omega), if_pos (by omega), if_pos (by omega), Int.toNat_natCast]
  have skip : observatorylaw01_DigestBlock.j0 (k + 1) s (a.extract 0 n) (b.extract 0 n) true (n : Int) ((8 * p : Nat) : Int) true = some true := by
    simp only [observatorylaw01_DigestBlock.j0, if_true]
  by_cases h1 : (s.size : Int) > 2000
  · rw [if_pos h1]; exact skip
  · rw [if_neg h1]
    by_cases h2 : ((8 * p : Nat) : Int) > (s.size : Int)
    · rw [decide_eq_true h2]; exact skip
    · rw [decide_eq_false h2]
      obtain ⟨q, hq, hq1, hq2⟩ : ∃ q : Nat, mn (wrap64 (((8 * p : Nat) : Int) + (n : Int))) (s.size : Int) = (q : Int) ∧ q ≤ s.size ∧ 8 * p ≤ q := ⟨min (8 * p + n) s.size, by unfold mn wrap64; split <;> omega, by omega, by omega⟩
      have sU : (s.extract 0 (8 * p)).size = 8 * p := by rw [ByteArray.size_extract]; omega
      have sV : (s.extract q s.size).size = s.size - q := by rw [ByteArray.size_extract]; omega
      have sX : ∀ z : ByteArray, (s.extract 0 (8 * p) ++ z).size = 8 * p + z.size := fun z => by rw [ByteArray.size_append, sU]
      simp only [observatorylaw01_DigestBlock.j0, Bool.false_eq_true, if_false, if_true, hq, Int.toNat_natCast]
      rw [if_pos (by omega), if_pos (by omega), if_pos (by omega), if_pos (by omega), if_pos (by omega), if_pos (by rw [sX]; omega)]
      rw [sum_f _ (by rw [ByteArray.size_append, sX]; omega), bindS, if_pos (by omega), if_pos (by rw [sX]; omega), sum_f _ (by rw [ByteArray.size_append, sX]; omega), bindS, toL_eq, toL_eq]
      congr 1
      by_cases e : a.extract 0 n = b.extract 0 n
      · rw [← e, decide_eq_true rfl, decide_eq_true rfl]; rfl
      · rw [decide_eq_false e, decide_eq_false (fun h => e (mid_eq _ _ _ _ p sU (by omega) (by omega) (by omega) h))]; rfl

end Go.Proofs.YtdflcicgniediaaDoor.Pure
