/-
  TreeIncludes in plain terms.
-/
import Derived.Test.YtapnakfhkdcfeaaDoorPvT
import Derived.Test.YtapnakfhkdcfeaaDoorPvL
import Derived.Test.YtapnakfhkdcfeaaDoorPx5
set_option linter.unusedVariables false
set_option linter.unusedSimpArgs false
namespace Go.Proofs.YtapnakfhkdcfeaaDoor.Pure
open Go.RowKit Go.Proofs.YtapnakfhkdcfeaaDoor.P Go.Proofs.YtapnakfhkdcfeaaDoor.Dg Go.Proofs.YtapnakfhkdcfeaaDoorW.PrintWords Go.Proofs.YtapnakfhkdcfeaaDoorW.PrintMore
attribute [local irreducible] sumB

theorem checkB_len (root : ByteArray) (n i : Int) (leaf : ByteArray) (l : List ByteArray) (h : l.length ≠ lenW n.toNat i.toNat) : checkB root n i leaf l = false := by
  rw [checkB_W]
  repeat' split
  all_goals first | rfl | (rw [decide_eq_false h]; rfl)
theorem inc_l0 (x0 : List ByteArray) (x5 : Bool) (x6 : Int) (x7 : ByteArray) (x8 : List ByteArray) : ∀ (f k c m : Nat), m < 2 ^ f → c + f ≤ 1000 → m ≤ 1000000 → f < k →
    ∃ k', k ≤ k' + f ∧ observatorylaw02_TreeIncludes.l0 k x0 x5 x6 x7 x8 (c : Int) (m : Int) = observatorylaw02_TreeIncludes.l0 k' x0 x5 x6 x7 x8 ((c + digF f m : Nat) : Int) 0
  | 0, k, c, m, hm, hc, hb, hk => by
    obtain rfl : m = 0 := by simpa using hm
    exact ⟨k, by omega, rfl⟩
  | f + 1, k, c, m, hm, hc, hb, hk => by
    by_cases h0 : m = 0
    · subst h0; exact ⟨k, by omega, rfl⟩
    · obtain ⟨k, rfl⟩ : ∃ q, k = q + 1 := ⟨k - 1, by omega⟩
      obtain ⟨k', h1, h2⟩ := inc_l0 x0 x5 x6 x7 x8 f k (c + 1) (m / 2) (by rw [Nat.pow_succ] at hm; omega) (by omega) (by omega) (by omega)
      refine ⟨k', by omega, ?_⟩
      conv => lhs; rw [observatorylaw02_TreeIncludes.l0]
      rw [if_pos (by omega), show wrap64 ((c : Int) + 1) = ((c + 1 : Nat) : Int) by unfold wrap64; omega, show wrap64 (Int.tdiv (m : Int) 2) = ((m / 2 : Nat) : Int) by (rw [show Int.tdiv (m : Int) 2 = ((m / 2 : Nat) : Int) from (Int.ofNat_tdiv m 2).symm]; unfold wrap64; omega), h2, digF, if_neg h0,
        show c + 1 + digF f (m / 2) = c + (1 + digF f (m / 2)) by omega]

theorem TreeIncludes : ∀ (l0 : List ByteArray) (a1 : Int), l0.length ≤ 140737488351232 → (Lit.int .u8 a1).wf = true → ∃ k, observatorylaw02_TreeIncludes.f k l0 a1 = some true := by
  intro l a hl hw
  have ha := wf8 hw
  obtain ⟨k, hk⟩ : ∃ k, k = 2 * l.length + 100000 := ⟨_, rfl⟩
  refine ⟨k + 1, ?_⟩
  unfold observatorylaw02_TreeIncludes.f
  rw [head_f]
  simp only [bindS]
  rw [good_f _ _ (by omega) (by omega)]
  simp only [bindS]
  by_cases hg : goodB l = true
  · rw [if_pos hg]
    obtain ⟨g1, g2, g3⟩ := good_out hg
    simp only [observatorylaw02_TreeIncludes.j0]
    by_cases h0 : l.length = 0
    · rw [if_pos (by simp [h0])]
    · obtain ⟨i, hi, hin⟩ := tmod_nat a ha l.length (by omega)
      have hli := pathW_length l.length l i (Nat.le_refl _) hin
      have hld : lenW l.length i ≤ digF 6 l.length := by rw [← lenF_W 20 l.length i (by omega)]; exact len_digits l.length (by omega) i hin
      have hd6 : lenW l.length i ≤ 100 := Nat.le_trans hld (by
        have : ∀ n, n < 21 → digF 6 n ≤ 100 := by decide
        exact this _ (by omega))
      rw [if_neg (by rw [beq_iff_eq]; omega), if_neg (by omega), hi, rooted_good l (by omega) g1, rootB_pos l (by omega)]
      simp only [bindS]
      rw [path_f k l _ (by omega) (by omega), if_pos ⟨g1, by omega, by omega⟩, Int.toNat_natCast]
      simp only [bindS, if_true]
      rw [if_pos (by omega), if_pos (by omega), rdOf_nat _ _ _ hin, check_f _ _ _ _ _ (by omega)]
      have hc : checkB (rootW l) (l.length : Int) (i : Int) l[i] (pathW l i) = true := by
        rw [checkB_W, if_neg (by omega), if_neg (by omega), if_neg (by omega), if_neg (by rw [pathW_isB l.length l i (Nat.le_refl _) hin g1]; decide), if_neg (by rw [all_mem g1 (List.getElem_mem hin)]; decide), Int.toNat_natCast, Int.toNat_natCast, up_path l.length l i (Nat.le_refl _) hin, hli]
        simp
      rw [hc]
      simp only [bindS, Bool.not_true]
      obtain ⟨k, rfl⟩ : ∃ q, k = q + 1 := ⟨k - 1, by omega⟩
      simp only [observatorylaw02_TreeIncludes.j1, Bool.false_eq_true, if_false]
      obtain ⟨k', hk1, hk2⟩ := inc_l0 l true (i : Int) (rootW l) (pathW l i) 6 k 0 l.length (by omega) (by omega) (by omega) (by omega)
      refine Eq.trans hk2 ?_
      obtain ⟨k', rfl⟩ : ∃ q, k' = q + 1 := ⟨k' - 1, by omega⟩
      rw [Nat.zero_add]
      simp only [observatorylaw02_TreeIncludes.l0]
      rw [if_neg (by omega), if_neg (by omega), if_pos (by omega), if_pos (by omega), rdOf_nat _ _ _ hin]
      simp only [bindS, List.nil_append, List.length_nil, Nat.zero_add]
      rw [if_pos (by omega), rooted_good [] (by simp) rfl]
      simp only [bindS]
      rw [if_pos (by omega), check_f _ _ _ _ _ (by rw [List.length_append, List.length_cons, List.length_nil]; omega), checkB_len _ _ _ _ _ (by rw [List.length_append, List.length_cons, List.length_nil, Int.toNat_natCast, Int.toNat_natCast]; omega)]
      simp only [bindS, Bool.false_eq_true, if_false, if_true]
      have hz := lenW_zero l.length i
      have hb : ((((pathW l i).length : Int) == 0) == ((l.length : Int) == 1)) = true := by
        by_cases q : l.length ≤ 1
        · have e1 := hz.2 q
          rw [show (((pathW l i).length : Int) == 0) = true from beq_iff_eq.mpr (by omega), show ((l.length : Int) == 1) = true from beq_iff_eq.mpr (by omega)]; rfl
        · have e1 : ¬ lenW l.length i = 0 := fun e => q (hz.1 e)
          rw [show (((pathW l i).length : Int) == 0) = false from beq_eq_false_iff_ne.mpr (by omega), show ((l.length : Int) == 1) = false from beq_eq_false_iff_ne.mpr (by omega)]; rfl
      rw [if_pos hb]
      by_cases hp : (pathW l i).length = 0
      · rw [if_pos (by omega)]
      · have ew : wrap64 (((pathW l i).length : Int) - 1) = (((pathW l i).length - 1 : Nat) : Int) := by unfold wrap64; omega
        rw [if_neg (by omega), ew, if_pos (by omega), if_pos (by omega), Int.toNat_natCast, check_f _ _ _ _ _ (by rw [List.length_take]; omega), checkB_len _ _ _ _ _ (by rw [List.length_take, Int.toNat_natCast, Int.toNat_natCast]; omega)]
        simp only [bindS, Bool.not_false]
  · rw [if_neg hg]
    simp only [observatorylaw02_TreeIncludes.j0, if_true]

end Go.Proofs.YtapnakfhkdcfeaaDoor.Pure
