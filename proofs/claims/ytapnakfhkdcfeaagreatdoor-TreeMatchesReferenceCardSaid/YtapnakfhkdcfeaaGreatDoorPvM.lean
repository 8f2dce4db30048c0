/-
  TreeMatchesReference in plain terms.
-/
import Derived.Test.YtapnakfhkdcfeaaGreatDoorPvS
import Derived.Test.YtapnakfhkdcfeaaGreatDoorPx9
set_option linter.unusedVariables false
set_option linter.unusedSimpArgs false
namespace Go.Proofs.YtapnakfhkdcfeaaGreatDoor.Pure
open Go.RowKit Go.Proofs.YtapnakfhkdcfeaaGreatDoor.P Go.Proofs.YtapnakfhkdcfeaaGreatDoor.Dg Go.Proofs.YtapnakfhkdcfeaaGreatDoorW.PrintWords Go.Proofs.YtapnakfhkdcfeaaGreatDoorW.PrintMore
attribute [local irreducible] sumB

theorem same_rfl' (k : Nat) (a : List ByteArray) (ha : a.length ≤ 1000) (hk : 1000 < k) : observatoryref01_Same.f k a a = some true := by rw [same_f k a a (by omega) (by omega), decide_eq_true rfl]

theorem TreeMatchesReference : ∀ (l0 : List ByteArray) (a1 a2 a3 : Int) (a4 a5 a6 : ByteArray) (l7 : List ByteArray), l0.length ≤ 140737488351232 → (Lit.int .i64 a1).wf = true → (Lit.int .i64 a2).wf = true → (Lit.int .i64 a3).wf = true →
    a4.size ≤ 140737488351232 → a5.size ≤ 140737488351232 → a6.size ≤ 140737488351232 → l7.length ≤ 140737488351232 → ∃ k, observatorylaw02_TreeMatchesReference.f k l0 a1 a2 a3 a4 a5 a6 l7 = some true := by
  intro l i m n root old s p hl _ _ _ _ _ _ hp
  obtain ⟨k, hk⟩ : ∃ k, k = l.length + p.length + 2000000 := ⟨_, rfl⟩
  refine ⟨k + 3, ?_⟩
  unfold observatorylaw02_TreeMatchesReference.f
  rw [head_f]
  simp only [bindS]
  rw [few02_f _ _ (by omega) (by omega)]
  simp only [bindS]
  by_cases h1 : few20 l = true
  · rw [if_pos h1, few02_f _ _ (by omega) (by omega)]
    simp only [bindS]
    by_cases h2 : few20 p = true
    · rw [if_pos h2]
      by_cases h3 : (root.size : Int) > 100
      · rw [if_pos h3]; simp only [observatorylaw02_TreeMatchesReference.j0, if_true]
      rw [if_neg h3]
      by_cases h4 : (old.size : Int) > 100
      · rw [if_pos h4]; simp only [observatorylaw02_TreeMatchesReference.j0, if_true]
      rw [if_neg h4]
      by_cases h5 : (s.size : Int) > 100
      · rw [decide_eq_true h5]; simp only [observatorylaw02_TreeMatchesReference.j0, if_true]
      obtain ⟨n1, s1⟩ := few20_out h1
      obtain ⟨n2, s2⟩ := few20_out h2
      rw [decide_eq_false h5]
      simp only [observatorylaw02_TreeMatchesReference.j0, Bool.false_eq_true, if_false]
      rw [root_f l (by omega)]
      simp only [bindS]
      rw [rRoot_f _ l (by omega) (by omega)]
      simp only [bindS]
      rw [path_f _ l i (by omega) (by omega)]
      simp only [bindS]
      rw [rPath_f _ l i (by omega) (by omega)]
      simp only [bindS]
      rw [link_f _ l m (by omega) (by omega)]
      simp only [bindS]
      rw [rLink_f _ l m (by omega) (by omega)]
      simp only [bindS, if_true]
      rw [leaf_f s (by omega)]
      simp only [bindS]
      rw [rLeaf_f _ s (by omega) (by omega)]
      simp only [bindS, if_true]
      have pl : ∀ (c : Prop) [Decidable c] (x : List ByteArray), x.length ≤ 1000 → (if c then (x, (0 : Int)) else ([], 1)).1.length ≤ 1000 := fun c _ x hx => by split <;> simp [hx]
      have b1 : (if l.all isB = true ∧ 0 ≤ i ∧ i < (l.length : Int) then (pathW l i.toNat, (0 : Int)) else ([], 1)).1.length ≤ 1000 := by
        split
        · rename_i q
          obtain ⟨q1, q2, q3⟩ := q
          have := (rpath_f l.length 100000 l i.toNat (Nat.le_refl _) (by omega) (by omega) q1 (by omega)).2
          dsimp only; omega
        · simp
      have b2 : (if l.all isB = true ∧ 0 ≤ m ∧ m ≤ (l.length : Int) then (linkB l m, (0 : Int)) else ([], 1)).1.length ≤ 1000 := by
        split
        · rename_i q
          obtain ⟨q1, q2, q3⟩ := q
          unfold linkB
          by_cases q4 : m = 0
          · rw [if_pos q4]; simp
          · rw [if_neg q4]
            have := (rlink_f l.length 100000 l m.toNat true (Nat.le_refl _) (by omega) (by omega) (by omega) q1 (by omega)).2
            dsimp only; omega
        · simp
      rw [same_rfl' _ _ b1 (by omega)]
      simp only [bindS, if_true]
      rw [same_rfl' _ _ b2 (by omega)]
      simp only [bindS]
      simp only [observatorylaw02_TreeMatchesReference.j1]
      rw [check_f _ _ _ _ _ (by omega)]
      simp only [bindS]
      rw [rCheck_f _ _ _ _ _ _ (by omega) s2 (by omega) (by omega)]
      simp only [bindS, beq_self_eq_true, if_true]
      rw [check_f _ _ _ _ _ (by omega)]
      simp only [bindS]
      rw [rCheck_f _ _ _ _ _ _ (by omega) s2 (by omega) (by omega)]
      simp only [bindS, beq_self_eq_true]
      simp only [observatorylaw02_TreeMatchesReference.j2, if_true]
      rw [ext_f _ _ _ _ _ (by omega)]
      simp only [bindS]
      rw [rExtends_f _ _ _ _ _ _ (by omega) s2 (by omega) (by omega)]
      simp only [bindS, beq_self_eq_true, if_true]
      rw [ext_f _ _ _ _ _ (by omega)]
      simp only [bindS]
      rw [rExtends_f _ _ _ _ _ _ (by omega) s2 (by omega) (by omega)]
      simp only [bindS, beq_self_eq_true]
    · rw [if_neg h2]; simp only [observatorylaw02_TreeMatchesReference.j0, if_true]
  · rw [if_neg h1]; simp only [observatorylaw02_TreeMatchesReference.j0, if_true]

end Go.Proofs.YtapnakfhkdcfeaaGreatDoor.Pure
