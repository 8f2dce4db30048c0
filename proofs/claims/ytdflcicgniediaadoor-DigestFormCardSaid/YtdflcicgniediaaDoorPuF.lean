/-
  What the printed functions of the digest layer compute, in plain terms: the law of forms.
-/
import Derived.Test.YtdflcicgniediaaDoorPuB
set_option linter.unusedVariables false
set_option linter.unusedSimpArgs false
namespace Go.Proofs.YtdflcicgniediaaDoor.Pure
open Go.RowKit Go.Proofs.YtdflcicgniediaaDoor.P Go.Proofs.YtdflcicgniediaaDoor.Dg Go.Proofs.YtdflcicgniediaaDoorW.PrintWords Go.Proofs.YtdflcicgniediaaDoorW.PrintMore
attribute [local irreducible] sumB

theorem DigestForm : ∀ (a0 : ByteArray) (l1 : List ByteArray) (a2 : Int), a0.size ≤ 140737488351232 → l1.length ≤ 140737488351232 → (Lit.int .u8 a2).wf = true → ∃ k, observatorylaw01_DigestForm.f k a0 l1 a2 = some true := by
  intro s l n hs hl hn
  have hn := wf8 hn
  obtain ⟨k, hk⟩ : ∃ k, k = l.length + 2000 := ⟨_, rfl⟩
  refine ⟨k + 1, ?_⟩
  unfold observatorylaw01_DigestForm.f
  rw [head_ev _ (by omega)]
  simp only [bindS]
  by_cases h1 : (s.size : Int) > 2000
  · rw [if_pos h1]; simp only [observatorylaw01_DigestForm.j0, if_true]
  · rw [if_neg h1, few_f _ _ _ (by omega) (by omega)]
    simp only [bindS]
    by_cases h2 : fewB l 200 = true
    · have hj := (fewB_out l 200 (by decide) h2).1
      rw [h2]
      simp only [observatorylaw01_DigestForm.j0, Bool.not_true, Bool.false_eq_true, if_false, if_true]
      rw [sum_f _ (by omega)]
      simp only [bindS]
      rw [is_f, isB_sumB]
      simp only [bindS, if_true]
      rw [list_f _ (by omega)]
      simp only [bindS]
      rw [is_f, isB_sumB]
      simp only [bindS, if_true]
      rw [chain_f _ _ _ (by omega) (by omega)]
      simp only [bindS]
      rw [is_f]
      simp only [bindS]
      congr 1
      refine isB_chain_pos _ ?_ s
      rw [wrap_tmod n 30 (by omega)]; unfold wrap64; omega
    · rw [Bool.not_eq_true] at h2; rw [h2]; simp only [observatorylaw01_DigestForm.j0, Bool.not_false, if_true]


end Go.Proofs.YtdflcicgniediaaDoor.Pure
