/-
  The noise layer's plain side: what Distribution, few and count of the printed texts are, in terms of the counts of sums.
-/
import Derived.Test.YtlhfgjblcckifaaGreatDoorNzDist
import Derived.Test.YtlhfgjblcckifaaGreatDoorMgHead
import Derived.Test.YtlhfgjblcckifaaGreatDoorPx3
import Derived.Test.YtlhfgjblcckifaaGreatDoorPx4
set_option linter.unusedVariables false
set_option linter.unusedSimpArgs false
namespace Go.Proofs.YtlhfgjblcckifaaGreatDoor.Pure
open Go.RowKit Go.Proofs.YtlhfgjblcckifaaGreatDoor.P Go.Proofs.YtlhfgjblcckifaaGreatDoor.Dg Go.Proofs.YtlhfgjblcckifaaGreatDoorW.PrintWords Go.Proofs.YtlhfgjblcckifaaGreatDoorW.PrintMore

theorem wf8 {a : Int} (h : (Lit.int .u8 a).wf = true) : 0 ≤ a ∧ a ≤ 255 := by
  simp [Lit.wf, IntKind.min, IntKind.max, IntKind.signed, IntKind.bits] at h
  omega
theorem wf64 {a : Int} (h : (Lit.int .i64 a).wf = true) : -9223372036854775808 ≤ a ∧ a ≤ 9223372036854775807 := by
  simp [Lit.wf, IntKind.min, IntKind.max, IntKind.signed, IntKind.bits] at h
  omega
theorem bindS {α β : Type} (a : α) (f : α → Option β) : (some a).bind f = f a := by rw [Option.bind_some]
theorem head_f : observatorylaw17_head.f = some true := by rw [observatorylaw17_head.f]
theorem few_f (l : List Int) (a : Int) : observatorylaw17_few.f l a = some (decide (l.length ≤ 12 ∧ (a ≤ 6 ∨ a > 40))) := by
  unfold observatorylaw17_few.f
  by_cases h : (l.length : Int) ≤ 12
  · rw [if_pos h]
    by_cases h2 : a ≤ 6
    · rw [if_pos h2, decide_eq_true ⟨by omega, Or.inl h2⟩]
    · rw [if_neg h2]
      congr 1
      rw [Bool.eq_iff_iff, decide_eq_true_eq, decide_eq_true_eq]
      exact ⟨fun q => ⟨by omega, Or.inr q⟩, fun q => by rcases q.2 with q | q <;> omega⟩
  · rw [if_neg h, decide_eq_false]
    exact fun q => h (by omega)
theorem valid_f (l : List Int) : noise_Valid.f l = some (validT l) := by rw [noise_Valid.f]
theorem dist_ok {l : List Int} (h : validT l = true) (n : Nat) (hn : n ≤ 9) : noise_Distribution.f l (n : Int) = some (outN l n, 0) := by
  unfold noise_Distribution.f
  rw [if_pos h, if_neg (by omega), if_pos (by omega), Int.toNat_natCast]
theorem dist_bad {l : List Int} {a : Int} (h : validT l = false ∨ a < 0 ∨ 40 < a) : noise_Distribution.f l a = some ([], 1) := by
  unfold noise_Distribution.f
  by_cases hv : validT l = true
  · rw [if_pos hv, if_pos]
    rcases h with h | h
    · rw [hv] at h; cases h
    · exact h
  · rw [if_neg hv]
/-- What a tape and a number of at most 6 or above 40 give. -/
theorem dist_cases (l : List Int) (a : Int) (h : a ≤ 6 ∨ a > 40) : (noise_Distribution.f l a = some ([], 1) ∧ (validT l = false ∨ a < 0 ∨ 40 < a)) ∨ ∃ n : Nat, a = (n : Int) ∧ n ≤ 6 ∧ validT l = true ∧ noise_Distribution.f l a = some (outN l n, 0) := by
  by_cases hb : validT l = false ∨ a < 0 ∨ 40 < a
  · exact Or.inl ⟨dist_bad hb, hb⟩
  · have hv : validT l = true := by
      cases e : validT l with
      | true => rfl
      | false => exact absurd (Or.inl e) hb
    have h1 : 0 ≤ a := by have := fun q => hb (Or.inr (Or.inl q)); omega
    have h2 : a ≤ 40 := by have := fun q => hb (Or.inr (Or.inr q)); omega
    obtain ⟨n, rfl⟩ := Int.eq_ofNat_of_zero_le h1
    exact Or.inr ⟨n, rfl, by omega, hv, dist_ok hv n (by omega)⟩

/-- The bounds that a well-formed tape gives. -/
theorem tape_of {t : List Int} (h : validT t = true) : 1 ≤ t.length ∧ t.length ≤ 9 ∧ Nz.Tape t := (validT_iff t).1 h
theorem pow_small {t : List Int} (h : validT t = true) (n : Nat) (hn : n ≤ 9) : t.length ^ n < 1000000000 := by
  obtain ⟨h1, h9, _⟩ := tape_of h
  exact Nat.lt_of_le_of_lt (Nat.pow_le_pow_left h9 n) (Nat.lt_of_le_of_lt (Nat.pow_le_pow_right (by decide) hn) (by decide))
theorem cnt_small {t : List Int} (h : validT t = true) (n : Nat) (hn : n ≤ 9) (v : Int) : Nz.cntN t n v < 1000000000 := Nat.lt_of_le_of_lt (Nz.count_le t n v) (pow_small h n hn)
theorem dist_len (t : List Int) (n : Nat) : (Nz.distN t n).length ≤ 100 * n + 1 := by
  have h4 : (Nz.distN t n).length ≤ (Nz.span n).length := List.length_filterMap_le _ _
  have h5 : (Nz.span n).length = 100 * n + 1 := by unfold Nz.span; simp
  omega
theorem out_len (t : List Int) (n : Nat) : (outN t n).length = (Nz.distN t n).length := by unfold outN; rw [List.length_map]
/-- An entry of a distribution, as the printed texts read it. -/
theorem rd_out (t : List Int) (n i : Nat) (h : i < (Nz.distN t n).length) : rd_T38 (outN t n) (i : Int) = mkO ((Nz.distN t n)[i]) := by
  unfold rd_T38 outN
  rw [Int.toNat_natCast, List.getD_eq_getElem?_getD, List.getElem?_map, List.getElem?_eq_getElem h]; rfl
theorem entry {t : List Int} (ht : validT t = true) (n : Nat) (hn : n ≤ 9) (i : Nat) (h : i < (Nz.distN t n).length) :
    (Nz.distN t n)[i].2 = Nz.cntN t n (Nz.distN t n)[i].1 ∧ (Nz.distN t n)[i].2 ≠ 0 ∧ (Nz.distN t n)[i].2 < 1000000000 ∧ -50 * (n : Int) ≤ (Nz.distN t n)[i].1 ∧ (Nz.distN t n)[i].1 ≤ 50 * (n : Int) := by
  obtain ⟨h1, h9, htt⟩ := tape_of ht
  have hm : (Nz.distN t n)[i] ∈ Nz.distN t n := List.getElem_mem h
  obtain ⟨e1, e2⟩ := (Nz.mem_dist htt n (Nz.distN t n)[i].1 (Nz.distN t n)[i].2).1 hm
  have hs := Nz.support t htt n _ (by rw [← e1]; exact e2)
  exact ⟨e1, e2, by rw [e1]; exact cnt_small ht n hn _, hs.1, hs.2⟩
theorem int_out {t : List Int} (ht : validT t = true) (n : Nat) (hn : n ≤ 9) (i : Nat) (h : i < (Nz.distN t n).length) : natural_Int.f (rd_T38 (outN t n) (i : Int)).f1 = some (((Nz.distN t n)[i].2 : Int), 0) := by
  rw [rd_out t n i h]
  exact int_dec _ (entry ht n hn i h).2.2.1
theorem val_out (t : List Int) (n i : Nat) (h : i < (Nz.distN t n).length) : (rd_T38 (outN t n) (i : Int)).f0 = (Nz.distN t n)[i].1 := by rw [rd_out t n i h]; rfl
theorem txt_out (t : List Int) (n i : Nat) (h : i < (Nz.distN t n).length) : (rd_T38 (outN t n) (i : Int)).f1 = decN (Nz.distN t n)[i].2 := by rw [rd_out t n i h]; rfl
theorem wrap_succ (i : Nat) (h : i < 1000000000) : wrap64 ((i : Int) + 1) = ((i + 1 : Nat) : Int) := by unfold wrap64; omega

theorem count_l0 {t : List Int} (ht : validT t = true) (n : Nat) (hn : n ≤ 9) (v : Int) (d : Nat) : ∀ (k i : Nat), i + d = (Nz.distN t n).length → d < k → (∀ j, (hj : j < i) → (hl : j < (Nz.distN t n).length) → (Nz.distN t n)[j].1 ≠ v) →
    observatorylaw17_count.l0 k (outN t n) v (i : Int) = some ((Nz.cntN t n v : Nat) : Int) := by
  have hlen := dist_len t n
  induction d with
  | zero =>
    intro k i hd hk hno
    obtain ⟨k, rfl⟩ : ∃ q, k = q + 1 := ⟨k - 1, by omega⟩
    simp only [observatorylaw17_count.l0]
    rw [out_len, if_neg (by omega)]
    have h0 : Nz.cntN t n v = 0 := by
      refine Classical.byContradiction fun h => ?_
      have hm := (Nz.mem_dist (tape_of ht).2.2 n v (Nz.cntN t n v)).2 ⟨rfl, h⟩
      obtain ⟨j, hj, e⟩ := List.getElem_of_mem hm
      exact hno j (by omega) hj (by rw [e])
    rw [h0]; rfl
  | succ d ih =>
    intro k i hd hk hno
    obtain ⟨k, rfl⟩ : ∃ q, k = q + 1 := ⟨k - 1, by omega⟩
    have hi : i < (Nz.distN t n).length := by omega
    simp only [observatorylaw17_count.l0]
    rw [out_len, if_pos (by omega), if_pos (by omega), val_out t n i hi]
    by_cases hv : (Nz.distN t n)[i].1 = v
    · rw [if_pos hv, int_out ht n hn i hi, bindS, (entry ht n hn i hi).1, hv]
    · rw [if_neg hv, wrap_succ i (by omega)]
      exact ih k (i + 1) (by omega) (by omega) fun j hj hl => by
        by_cases e : j = i
        · subst e; exact hv
        · exact hno j (by omega) hl
theorem count_f {t : List Int} (ht : validT t = true) (n : Nat) (hn : n ≤ 9) (v : Int) (k : Nat) (hk : 1000 < k) : observatorylaw17_count.f k (outN t n) v = some ((Nz.cntN t n v : Nat) : Int) := by
  unfold observatorylaw17_count.f
  have hlen := dist_len t n
  exact count_l0 ht n hn v (Nz.distN t n).length k 0 (by omega) (by omega) (fun j hj _ => by omega)
end Go.Proofs.YtlhfgjblcckifaaGreatDoor.Pure
