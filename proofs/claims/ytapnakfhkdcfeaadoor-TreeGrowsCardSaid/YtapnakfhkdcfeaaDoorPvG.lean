/-
  TreeGrows in plain terms.
-/
import Derived.Test.YtapnakfhkdcfeaaDoorPvT
import Derived.Test.YtapnakfhkdcfeaaDoorPvL
import Derived.Test.YtapnakfhkdcfeaaDoorPx10
set_option linter.unusedVariables false
set_option linter.unusedSimpArgs false
namespace Go.Proofs.YtapnakfhkdcfeaaDoor.Pure
open Go.RowKit Go.Proofs.YtapnakfhkdcfeaaDoor.P Go.Proofs.YtapnakfhkdcfeaaDoor.Dg Go.Proofs.YtapnakfhkdcfeaaDoorW.PrintWords Go.Proofs.YtapnakfhkdcfeaaDoorW.PrintMore
attribute [local irreducible] sumB

theorem rootB_isB (l : List ByteArray) (h : l.all isB = true) : isB (rootB l) = true := by
  rw [rootB_W]
  by_cases h0 : l.length = 0
  · rw [if_pos h0]; exact isB_sum _
  · rw [if_neg h0]; exact rootW_isB l h (by omega)
theorem grow_l0 (x0 : List ByteArray) (x5 : Bool) (x6 : Int) (x7 : List ByteArray) (x8 : Int) : ∀ (f k c m : Nat), m < 2 ^ f → c + f ≤ 1000 → m ≤ 1000000 → f < k →
    ∃ k', k ≤ k' + f ∧ observatorylaw02_TreeGrows.l0 k x0 x5 x6 x7 x8 (c : Int) (m : Int) = observatorylaw02_TreeGrows.l0 k' x0 x5 x6 x7 x8 ((c + digF f m : Nat) : Int) 0
  | 0, k, c, m, hm, hc, hb, hk => by
    obtain rfl : m = 0 := by simpa using hm
    exact ⟨k, by omega, rfl⟩
  | f + 1, k, c, m, hm, hc, hb, hk => by
    by_cases h0 : m = 0
    · subst h0; exact ⟨k, by omega, rfl⟩
    · obtain ⟨k, rfl⟩ : ∃ q, k = q + 1 := ⟨k - 1, by omega⟩
      obtain ⟨k', h1, h2⟩ := grow_l0 x0 x5 x6 x7 x8 f k (c + 1) (m / 2) (by rw [Nat.pow_succ] at hm; omega) (by omega) (by omega) (by omega)
      refine ⟨k', by omega, ?_⟩
      conv => lhs; rw [observatorylaw02_TreeGrows.l0]
      rw [if_pos (by omega), show wrap64 ((c : Int) + 1) = ((c + 1 : Nat) : Int) by unfold wrap64; omega, show wrap64 (Int.tdiv (m : Int) 2) = ((m / 2 : Nat) : Int) by (rw [show Int.tdiv (m : Int) 2 = ((m / 2 : Nat) : Int) from (Int.ofNat_tdiv m 2).symm]; unfold wrap64; omega), h2, digF, if_neg h0,
        show c + 1 + digF f (m / 2) = c + (1 + digF f (m / 2)) by omega]
theorem ext_link (l : List ByteArray) (m : Nat) (hm : m ≤ l.length) (hl : l.length ≤ 1000) (ha : l.all isB = true) :
    extB (rootB (l.take m)) (m : Int) (rootB l) (l.length : Int) (linkB l (m : Int)) = true := by
  have i1 := rootB_isB (l.take m) (all_take ha m)
  have i2 := rootB_isB l ha
  rw [extB_W, if_neg (by omega), if_neg (by omega), if_neg (by omega)]
  by_cases h0 : m = 0
  · subst h0
    have e : linkB l ((0 : Nat) : Int) = [] := by unfold linkB; rw [if_pos (by omega)]
    rw [e, if_neg (by decide), if_neg (by rw [i1, i2]; decide), if_pos (by omega), List.take_zero, show rootB [] = emptyB from by rw [rootB_W, if_pos (by rfl)]]
    by_cases hn : l.length = 0
    · have : l = [] := List.eq_nil_of_length_eq_zero hn
      subst this
      rw [show rootB [] = emptyB from by rw [rootB_W, if_pos (by rfl)]]; simp
    · have : decide ((l.length : Int) > 0) = true := decide_eq_true (by omega)
      rw [this]; simp
  · have e : linkB l (m : Int) = linkW l m true := by unfold linkB; rw [if_neg (by omega), Int.toNat_natCast]
    have hb := both_link l.length l m true (rootW (l.take m)) (Nat.le_refl _) (by omega) hm (fun _ => rfl)
    rw [e, if_neg (by rw [linkW_isB l.length l m true (Nat.le_refl _) (by omega) hm ha]; decide), if_neg (by rw [i1, i2]; decide), if_neg (by omega), Int.toNat_natCast, Int.toNat_natCast, linkW_length l.length l m true (Nat.le_refl _) (by omega) hm,
      rootB_pos (l.take m) (by rw [List.length_take]; omega), rootB_pos l (by omega), hb]
    simp

theorem TreeGrows : ∀ (l0 : List ByteArray) (a1 : Int), l0.length ≤ 140737488351232 → (Lit.int .u8 a1).wf = true → ∃ k, observatorylaw02_TreeGrows.f k l0 a1 = some true := by
  intro l a hl hw
  have ha := wf8 hw
  obtain ⟨k, hk⟩ : ∃ k, k = 2 * l.length + 100000 := ⟨_, rfl⟩
  refine ⟨k + 1, ?_⟩
  unfold observatorylaw02_TreeGrows.f
  rw [head_f]
  simp only [bindS]
  rw [good_f _ _ (by omega) (by omega)]
  simp only [bindS]
  by_cases hg : goodB l = true
  · rw [if_pos hg]
    obtain ⟨g1, g2, g3⟩ := good_out hg
    have e1 : wrap64 ((l.length : Int) + 1) = ((l.length + 1 : Nat) : Int) := by unfold wrap64; omega
    obtain ⟨m, hm, hmn⟩ := tmod_nat a ha (l.length + 1) (by omega)
    rw [e1, if_neg (by omega), hm, link_f _ l _ (by omega) (by omega), if_pos ⟨g1, by omega, by omega⟩]
    simp only [bindS]
    obtain ⟨k', hk1, hk2⟩ := grow_l0 l true (m : Int) (linkB l (m : Int)) 0 6 (k + 1) 0 l.length (by omega) (by omega) (by omega) (by omega)
    refine Eq.trans hk2 ?_
    obtain ⟨k', rfl⟩ : ∃ q, k' = q + 1 := ⟨k' - 1, by omega⟩
    rw [Nat.zero_add]
    have hd6 : digF 6 l.length ≤ 100 := by
      have : ∀ n, n < 21 → digF 6 n ≤ 100 := by decide
      exact this _ (by omega)
    have hlen : (linkB l (m : Int)).length = if m = 0 then 0 else longW l.length m true := by
      unfold linkB
      by_cases h0 : m = 0
      · rw [if_pos h0, if_pos (by omega)]; rfl
      · rw [if_neg h0, if_neg (by omega), Int.toNat_natCast, linkW_length l.length l m true (Nat.le_refl _) (by omega) (by omega)]
    have hld : (linkB l (m : Int)).length ≤ digF 6 l.length + 1 := by
      rw [hlen]
      by_cases h0 : m = 0
      · rw [if_pos h0]; omega
      · rw [if_neg h0, ← longF_W 20 l.length m true (by omega) (by omega) (by omega)]
        exact long_digits l.length (by omega) m hmn
    simp only [observatorylaw02_TreeGrows.l0, if_true]
    rw [if_neg (by omega), if_pos (by omega), if_pos (by omega), Int.toNat_natCast, rooted_good _ (by rw [List.length_take]; omega) (all_take g1 m)]
    simp only [bindS]
    rw [rooted_good l (by omega) g1]
    simp only [bindS]
    rw [ext_f _ _ _ _ _ (by omega), ext_link l m (by omega) (by omega) g1]
    simp only [bindS, if_true]
    rw [show wrap64 (((digF 6 l.length : Nat) : Int) + 1) = ((digF 6 l.length + 1 : Nat) : Int) by unfold wrap64; omega, if_pos (by omega)]
    by_cases h0 : m = 0
    · rw [if_pos (by omega)]
      rw [if_pos h0] at hlen
      rw [hlen]; rfl
    · rw [if_neg (by omega)]
      rw [if_neg h0] at hlen
      have hz := longW_zero l.length m (by omega) (by omega)
      congr 1
      by_cases q : m = l.length
      · have e1 := hz.2 q
        rw [show (((linkB l (m : Int)).length : Int) == 0) = true from beq_iff_eq.mpr (by omega), show ((m : Int) == (l.length : Int)) = true from beq_iff_eq.mpr (by omega)]; rfl
      · have e1 : ¬ longW l.length m true = 0 := fun e => q (hz.1 e)
        rw [show (((linkB l (m : Int)).length : Int) == 0) = false from beq_eq_false_iff_ne.mpr (by omega), show ((m : Int) == (l.length : Int)) = false from beq_eq_false_iff_ne.mpr (by omega)]; rfl
  · rw [if_neg hg]

end Go.Proofs.YtapnakfhkdcfeaaDoor.Pure
