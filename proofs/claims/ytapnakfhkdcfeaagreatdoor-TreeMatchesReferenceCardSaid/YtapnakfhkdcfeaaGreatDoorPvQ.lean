/-
  The tree layer's reference in plain terms (part 1): Half, node, root.
-/
import Derived.Test.YtapnakfhkdcfeaaGreatDoorPvC
import Derived.Test.YtapnakfhkdcfeaaGreatDoorTpB
import Derived.Test.YtapnakfhkdcfeaaGreatDoorPx5
set_option linter.unusedVariables false
set_option linter.unusedSimpArgs false
namespace Go.Proofs.YtapnakfhkdcfeaaGreatDoor.Pure
open Go.RowKit Go.Proofs.YtapnakfhkdcfeaaGreatDoor.P Go.Proofs.YtapnakfhkdcfeaaGreatDoor.Dg Go.Proofs.YtapnakfhkdcfeaaGreatDoorW.PrintWords Go.Proofs.YtapnakfhkdcfeaaGreatDoorW.PrintMore
attribute [local irreducible] sumB

theorem rhalf_l0 (n : Nat) (hn : n ≤ 1000000) : ∀ f k K, f < K → 1 ≤ k → k ≤ 1000000 → n ≤ 2 ^ (f + 1) * k → observatoryref02_Half.l0 K (n : Int) (k : Int) = some ((halfTo f k n : Nat) : Int)
  | 0, k, K, hK, h0, h1, h => by
    obtain ⟨K, rfl⟩ : ∃ q, K = q + 1 := ⟨K - 1, by omega⟩
    have : n ≤ 2 * k := by simpa using h
    simp only [observatoryref02_Half.l0, halfTo]
    rw [if_neg (by unfold wrap64; omega)]
  | f + 1, k, K, hK, h0, h1, h => by
    obtain ⟨K, rfl⟩ : ∃ q, K = q + 1 := ⟨K - 1, by omega⟩
    rw [observatoryref02_Half.l0, halfTo, show wrap64 (2 * (k : Int)) = ((2 * k : Nat) : Int) by unfold wrap64; omega]
    by_cases hk : 2 * k < n
    · rw [if_pos (by omega), if_pos hk]
      refine rhalf_l0 n hn f (2 * k) K (by omega) (by omega) (by omega) ?_
      rw [← Nat.mul_assoc, ← Nat.pow_succ]; exact h
    · rw [if_neg (by omega), if_neg hk]
theorem rhalf_f (n : Nat) (hn : n ≤ 1000000) (k : Nat) (hk : 20 < k) : observatoryref02_Half.f k (n : Int) = some ((halfN n : Nat) : Int) :=
  rhalf_l0 n hn 20 1 k hk (by omega) (by omega) (by omega)

theorem few3 (a b c : ByteArray) (ha : a.size ≤ 200) (hb : b.size ≤ 200) (hc : c.size ≤ 200) : fewB [a, b, c] 200 = true := by
  simp [fewB]; omega
theorem few1 (a : ByteArray) (ha : a.size ≤ 200) : fewB [a] 200 = true := by
  simp [fewB]; omega
theorem rnode_f (k : Nat) (a b : ByteArray) (ha : a.size ≤ 200) (hb : b.size ≤ 200) (hk : 14000 < k) : observatoryref02_node.f k a b = some (nodeB a b) := by
  unfold observatoryref02_node.f
  rw [refList_f k _ (few3 _ a b (by decide) ha hb) hk]
  rfl
theorem rjoin_f (k : Nat) (a b : ByteArray) (ha : a.size ≤ 200) (hb : b.size ≤ 200) (hk : 80 < k) : observatoryref01_Joined.f k [(⟨#[110, 111, 100, 101]⟩ : ByteArray), a, b] = some (nodeJ a b) := by
  rw [joined_f k _ (few3 _ a b (by decide) ha hb) hk]; rfl
theorem rempty_f (k : Nat) (hk : 14000 < k) : observatoryref02_Empty.f k = some emptyB := by
  unfold observatoryref02_Empty.f
  rw [refList_f k _ (few1 _ (by decide)) hk]
  rfl

theorem rootW_le (l : List ByteArray) (h : l.all isB = true) : (rootW l).size ≤ 200 := by
  by_cases h1 : 1 ≤ l.length
  · rw [root16 h h1]; omega
  · have : l = [] := List.eq_nil_of_length_eq_zero (by omega)
    subst this; rw [rootW_one [] (by simp)]; exact Nat.zero_le _

theorem rroot_f : ∀ (d k : Nat) (l : List ByteArray), l.length ≤ d → 1 ≤ l.length → l.length ≤ 1000000 → l.all isB = true → 14001 + d < k → observatoryref02_root.f k l = some (rootW l) := by
  intro d
  induction d with
  | zero => intro k l h1 h2; omega
  | succ d ih =>
    intro k l h1 h2 h3 ha hk
    obtain ⟨k, rfl⟩ : ∃ q, k = q + 1 := ⟨k - 1, by omega⟩
    rw [observatoryref02_root.f, if_neg (by omega)]
    by_cases h : l.length ≤ 1
    · rw [if_pos (by omega), if_pos (by omega), rootW_one l h]
      cases l with
      | nil => exact absurd h2 (by simp)
      | cons x l => rfl
    · have hb := half_bounds h
      rw [if_neg (by omega), rhalf_f l.length h3 k (by omega)]
      simp only [bindS, Int.toNat_natCast]
      rw [if_pos (by omega), if_pos (by omega), ih k (l.take (halfN l.length)) (by rw [List.length_take]; omega) (by rw [List.length_take]; omega) (by rw [List.length_take]; omega) (all_take ha _) (by omega)]
      simp only [bindS]
      rw [ih k (l.drop (halfN l.length)) (by rw [List.length_drop]; omega) (by rw [List.length_drop]; omega) (by rw [List.length_drop]; omega) (all_drop ha _) (by omega)]
      simp only [bindS]
      rw [rnode_f k _ _ (rootW_le _ (all_take ha _)) (rootW_le _ (all_drop ha _)) (by omega)]
      simp only [bindS]
      rw [← rootW_node l h]

end Go.Proofs.YtapnakfhkdcfeaaGreatDoor.Pure
