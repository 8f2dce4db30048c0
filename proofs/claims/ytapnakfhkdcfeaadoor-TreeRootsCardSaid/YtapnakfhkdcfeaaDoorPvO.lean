/-
  TreeRoots in plain terms.
-/
import Derived.Test.YtapnakfhkdcfeaaDoorPvT
import Derived.Test.YtapnakfhkdcfeaaDoorPvL
import Derived.Test.YtapnakfhkdcfeaaDoorPvR
import Derived.Test.YtapnakfhkdcfeaaDoorPx10
set_option linter.unusedVariables false
set_option linter.unusedSimpArgs false
namespace Go.Proofs.YtapnakfhkdcfeaaDoor.Pure
open Go.RowKit Go.Proofs.YtapnakfhkdcfeaaDoor.P Go.Proofs.YtapnakfhkdcfeaaDoor.Dg Go.Proofs.YtapnakfhkdcfeaaDoorW.PrintWords Go.Proofs.YtapnakfhkdcfeaaDoorW.PrintMore
attribute [local irreducible] sumB

theorem TreeRoots : ∀ (l0 l1 : List ByteArray), l0.length ≤ 140737488351232 → l1.length ≤ 140737488351232 → ∃ k, observatorylaw02_TreeRoots.f k l0 l1 = some true := by
  intro a b ha hb
  obtain ⟨k, hk⟩ : ∃ k, k = 2 * a.length + 2 * b.length + 3000000 := ⟨_, rfl⟩
  refine ⟨k + 3, ?_⟩
  unfold observatorylaw02_TreeRoots.f
  rw [head_f]
  simp only [bindS]
  rw [few02_f _ _ (by omega) (by omega)]
  simp only [bindS]
  by_cases h1 : few20 a = true
  · rw [if_pos h1, few02_f _ _ (by omega) (by omega)]
    simp only [bindS]
    by_cases h2 : few20 b = true
    · rw [if_pos h2]
      simp only [observatorylaw02_TreeRoots.j0]
      by_cases h3 : a.length = b.length
      · have na := (few20_out h1).1
        have nb := (few20_out h2).1
        rw [if_neg (by simp [h3]), root_f a (by omega)]
        simp only [bindS]
        rw [root_f b (by omega)]
        simp only [bindS]
        have ga : goodB a = a.all isB := by unfold goodB; rw [h1, Bool.and_true]
        have gb : goodB b = b.all isB := by unfold goodB; rw [h2, Bool.and_true]
        rw [good_f _ _ (by omega) (by omega), ga]
        simp only [bindS]
        by_cases g1 : a.all isB = true
        · rw [if_pos g1, g1, if_neg (by simp), good_f _ _ (by omega) (by omega), gb]
          simp only [bindS]
          by_cases g2 : b.all isB = true
          · rw [if_pos g2, g2, if_neg (by simp), if_pos trivial]
            simp only [observatorylaw02_TreeRoots.j1, Bool.false_eq_true, if_false, if_true]
            simp only [observatorylaw02_TreeRoots.j2]
            rw [if_neg (by simp), same_f _ _ _ (by omega) (by omega)]
            simp only [bindS]
            by_cases hab : a = b
            · subst hab
              rw [decide_eq_true rfl]; simp
            · rw [decide_eq_false hab]
              simp only [Bool.false_eq_true, if_false, if_true]
              by_cases hr : rootB a = rootB b
              · have ta := textsW_few a (by omega)
                have tb := textsW_few b (by omega)
                have h0 : 1 ≤ a.length := by
                  rcases Nat.eq_zero_or_pos a.length with e | e
                  · exact absurd (by rw [List.eq_nil_of_length_eq_zero e, List.eq_nil_of_length_eq_zero (show b.length = 0 by omega)]) hab
                  · exact e
                rw [if_pos (by rw [hr]), rtexts_f a.length _ a (Nat.le_refl _) (by omega) g1 (by omega)]
                simp only [bindS]
                rw [rtexts_f b.length _ b (Nat.le_refl _) (by omega) g2 (by omega)]
                simp only [bindS]
                rw [if_pos (by omega)]
                have la := textsW_length a.length a (Nat.le_refl _) h0
                have lb := textsW_length b.length b (Nat.le_refl _) (by omega)
                have hc : Coll (textsW a ++ textsW b) := by
                  rcases roots_coll a.length a b (Nat.le_refl _) h3 g1 g2 (by rw [← rootB_pos a h0, ← rootB_pos b (by omega)]; exact hr) with q | q
                  · exact q
                  · exact absurd q hab
                rw [shown_f _ _ (by rw [List.length_append]; omega) (fun s hs => by rcases List.mem_append.1 hs with q | q; exact textsW_le a.length a (Nat.le_refl _) g1 s q; exact textsW_le b.length b (Nat.le_refl _) g2 s q) hc (by omega)]
                rfl
              · rw [if_neg (fun h => hr (toL_inj.1 h))]
          · rw [if_neg g2]
            have g2' : b.all isB = false := by simpa using g2
            rw [g2', if_neg (by simp), if_pos trivial]
            simp only [observatorylaw02_TreeRoots.j1, Bool.false_eq_true, if_false, if_true]
            simp only [observatorylaw02_TreeRoots.j2]
            rw [if_pos (by decide)]
        · have g1' : a.all isB = false := by simpa using g1
          rw [if_neg g1, g1', if_neg (by decide), good_f _ _ (by omega) (by omega), gb]
          simp only [bindS]
          have e2 : ¬ ((((if b.all isB = true then (rootB b, (0 : Int)) else (⟨#[]⟩, 1)).2 == 0) != b.all isB) = true) := by
            by_cases g2 : b.all isB = true
            · rw [if_pos g2, g2]; simp
            · have g2' : b.all isB = false := by simpa using g2
              rw [if_neg g2, g2']; simp
          rw [if_neg e2, if_neg (by simp), if_pos trivial, show (((⟨#[]⟩ : ByteArray).toList != ([] : List UInt8))) = false from by rw [toL]; rfl]
          simp only [observatorylaw02_TreeRoots.j1, Bool.false_eq_true, if_false]
          rw [if_neg (by decide)]
          simp only [observatorylaw02_TreeRoots.j2, if_true]
      · rw [if_pos (by simp; omega)]
    · rw [if_neg h2]; simp only [observatorylaw02_TreeRoots.j0, if_true]
  · rw [if_neg h1]; simp only [observatorylaw02_TreeRoots.j0, if_true]

end Go.Proofs.YtapnakfhkdcfeaaDoor.Pure
