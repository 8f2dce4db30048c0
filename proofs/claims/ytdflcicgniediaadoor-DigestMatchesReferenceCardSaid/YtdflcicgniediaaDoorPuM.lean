/-
  What the printed functions of the digest layer compute, in plain terms: the law that all agree with the reference.
-/
import Derived.Test.YtdflcicgniediaaDoorPuC
set_option linter.unusedVariables false
set_option linter.unusedSimpArgs false
namespace Go.Proofs.YtdflcicgniediaaDoor.Pure
open Go.RowKit Go.Proofs.YtdflcicgniediaaDoor.P Go.Proofs.YtdflcicgniediaaDoor.Dg Go.Proofs.YtdflcicgniediaaDoorW.PrintWords Go.Proofs.YtdflcicgniediaaDoorW.PrintMore
attribute [local irreducible] sumB

theorem DigestMatchesReference : ∀ (a0 : ByteArray) (l1 : List ByteArray) (a2 : Int), a0.size ≤ 140737488351232 → l1.length ≤ 140737488351232 → (Lit.int .i64 a2).wf = true → ∃ k, observatorylaw01_DigestMatchesReference.f k a0 l1 a2 = some true := by
  intro s l n hs hl hn
  obtain ⟨k, hk⟩ : ∃ k, k = l.length + 20000 := ⟨_, rfl⟩
  refine ⟨k + 1, ?_⟩
  unfold observatorylaw01_DigestMatchesReference.f
  rw [head_ev _ (by omega)]
  simp only [bindS]
  by_cases h1 : (s.size : Int) > 2000
  · rw [if_pos h1]; simp only [observatorylaw01_DigestMatchesReference.j0, if_true]
  · rw [if_neg h1, few_f _ _ _ (by omega) (by omega)]
    simp only [bindS]
    by_cases h2 : fewB l 200 = true
    · have hj := (fewB_out l 200 (by decide) h2).1
      rw [h2]
      simp only [observatorylaw01_DigestMatchesReference.j0, Bool.not_true, Bool.false_eq_true, if_false, if_true]
      rw [sum_f _ (by omega)]
      simp only [bindS]
      rw [refSum_f _ _ (by omega) (by omega)]
      simp only [bindS, if_true]
      rw [list_f _ (by omega)]
      simp only [bindS]
      rw [refList_f _ _ h2 (by omega)]
      simp only [bindS, if_true]
      rw [chain_f _ _ _ (by omega) (by omega)]
      simp only [bindS]
      rw [refChain_f _ _ _ (by omega) (by omega)]
      simp only [bindS, if_true]
      rw [is_f]
      simp only [bindS]
      rw [refIs_f _ _ (by omega)]
      simp only [bindS, beq_self_eq_true]
    · rw [Bool.not_eq_true] at h2; rw [h2]; simp only [observatorylaw01_DigestMatchesReference.j0, Bool.not_false, if_true]

end Go.Proofs.YtdflcicgniediaaDoor.Pure
