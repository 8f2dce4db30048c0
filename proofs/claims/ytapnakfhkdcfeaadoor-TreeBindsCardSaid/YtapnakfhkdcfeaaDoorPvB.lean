/-
  TreeBinds in plain terms.
-/
import Derived.Test.YtapnakfhkdcfeaaDoorPvT
import Derived.Test.YtapnakfhkdcfeaaDoorPvL
import Derived.Test.YtapnakfhkdcfeaaDoorPvR
import Derived.Test.YtapnakfhkdcfeaaDoorPx9
set_option linter.unusedVariables false
set_option linter.unusedSimpArgs false
namespace Go.Proofs.YtapnakfhkdcfeaaDoor.Pure
open Go.RowKit Go.Proofs.YtapnakfhkdcfeaaDoor.P Go.Proofs.YtapnakfhkdcfeaaDoor.Dg Go.Proofs.YtapnakfhkdcfeaaDoorW.PrintWords Go.Proofs.YtapnakfhkdcfeaaDoorW.PrintMore
attribute [local irreducible] sumB

theorem last_rd (l : List ByteArray) (h : 0 < l.length) (h2 : l.length ≤ 1000000000) : rdOf ByteArray.empty l (wrap64 ((l.length : Int) - 1)) = lastB l := by
  rw [show wrap64 ((l.length : Int) - 1) = ((l.length : Int) - 1) by unfold wrap64; omega]
  exact lastB_at l h
theorem rup_f : ∀ (d k n i : Nat) (s : ByteArray) (p : List ByteArray), n ≤ d → 1 ≤ n → i < n → n ≤ 1000000 → s.size ≤ 100 → (∀ x ∈ p, x.size ≤ 100) → p.length = lenW n i → p.length ≤ 1000000 → 14001 + d < k →
    observatoryref02_up.f k (n : Int) (i : Int) s p = some (upW n i s p) ∧ (upW n i s p).size ≤ 100 := by
  intro d
  induction d with
  | zero => intro k n i s p h1 h2; omega
  | succ d ih =>
    intro k n i s p h1 h2 h3 h4 hs hp hlen hpm hk
    obtain ⟨k, rfl⟩ : ∃ q, k = q + 1 := ⟨k - 1, by omega⟩
    rw [observatoryref02_up.f]
    by_cases h : n ≤ 1
    · rw [if_pos (by omega), upW_one _ _ _ _ h]; exact ⟨rfl, hs⟩
    · have hb := half_bounds h
      have hd : ∀ x ∈ p.dropLast, x.size ≤ 100 := fun x hx => by rw [List.dropLast_eq_take] at hx; exact hp x (List.mem_of_mem_take hx)
      rw [if_neg (by omega), rhalf_f n h4 k (by omega)]
      simp only [bindS]
      by_cases hi : i < halfN n
      · rw [lenW_left n i h hi] at hlen
        have hpos : 0 < p.length := by omega
        have ew : wrap64 ((p.length : Int) - 1) = ((p.length - 1 : Nat) : Int) := by unfold wrap64; omega
        obtain ⟨e1, e2⟩ := ih k (halfN n) i s p.dropLast (by omega) (by omega) hi (by omega) hs hd (by rw [List.length_dropLast]; omega) (by rw [List.length_dropLast]; omega) (by omega)
        have hl := hp _ (lastB_mem p hpos)
        rw [last_rd p hpos (by omega), ew, if_pos (by omega), if_pos (by omega), if_pos (by omega), if_pos (by omega), Int.toNat_natCast, ← List.dropLast_eq_take, e1]
        simp only [bindS]
        rw [rnode_f k _ _ (by omega) (by omega) (by omega), upW_left n i s p h hi]
        exact ⟨rfl, by rw [nodeB_len]; omega⟩
      · rw [lenW_right n i h hi] at hlen
        have hpos : 0 < p.length := by omega
        have ew : wrap64 ((p.length : Int) - 1) = ((p.length - 1 : Nat) : Int) := by unfold wrap64; omega
        obtain ⟨e1, e2⟩ := ih k (n - halfN n) (i - halfN n) s p.dropLast (by omega) (by omega) (by omega) (by omega) hs hd (by rw [List.length_dropLast]; omega) (by rw [List.length_dropLast]; omega) (by omega)
        have hl := hp _ (lastB_mem p hpos)
        rw [last_rd p hpos (by omega), ew, if_pos (by omega), if_pos (by omega), if_pos (by omega), if_neg (by omega), Int.toNat_natCast, ← List.dropLast_eq_take,
          show wrap64 ((n : Int) - ((halfN n : Nat) : Int)) = ((n - halfN n : Nat) : Int) by unfold wrap64; omega, show wrap64 ((i : Int) - ((halfN n : Nat) : Int)) = ((i - halfN n : Nat) : Int) by unfold wrap64; omega, e1]
        simp only [bindS]
        rw [rnode_f k _ _ (by omega) (by omega) (by omega), upW_right n i s p h hi]
        exact ⟨rfl, by rw [nodeB_len]; omega⟩
theorem rpathTexts_f : ∀ (d k n i : Nat) (s : ByteArray) (p : List ByteArray), n ≤ d → 1 ≤ n → i < n → n ≤ 1000000 → s.size ≤ 100 → (∀ x ∈ p, x.size ≤ 100) → p.length = lenW n i → p.length ≤ 1000000 → 14002 + d < k →
    observatoryref02_PathTexts.f k (n : Int) (i : Int) s p = some (pathTextsW n i s p) ∧ (pathTextsW n i s p).length = p.length ∧ ∀ x ∈ pathTextsW n i s p, x.size ≤ 4000 := by
  intro d
  induction d with
  | zero => intro k n i s p h1 h2; omega
  | succ d ih =>
    intro k n i s p h1 h2 h3 h4 hs hp hlen hpm hk
    obtain ⟨k, rfl⟩ : ∃ q, k = q + 1 := ⟨k - 1, by omega⟩
    rw [observatoryref02_PathTexts.f]
    by_cases h : n ≤ 1
    · rw [if_pos (by omega), pathTextsW_one _ _ _ _ h]
      rw [lenW_one n i h] at hlen
      exact ⟨rfl, by rw [hlen]; rfl, fun x hx => absurd hx (by simp)⟩
    · have hb := half_bounds h
      have hd : ∀ x ∈ p.dropLast, x.size ≤ 100 := fun x hx => by rw [List.dropLast_eq_take] at hx; exact hp x (List.mem_of_mem_take hx)
      rw [if_neg (by omega), rhalf_f n h4 k (by omega)]
      simp only [bindS]
      by_cases hi : i < halfN n
      · rw [lenW_left n i h hi] at hlen
        have hpos : 0 < p.length := by omega
        have ew : wrap64 ((p.length : Int) - 1) = ((p.length - 1 : Nat) : Int) := by unfold wrap64; omega
        obtain ⟨e1, e2, e3⟩ := ih k (halfN n) i s p.dropLast (by omega) (by omega) hi (by omega) hs hd (by rw [List.length_dropLast]; omega) (by rw [List.length_dropLast]; omega) (by omega)
        obtain ⟨f1, f2⟩ := rup_f d k (halfN n) i s p.dropLast (by omega) (by omega) hi (by omega) hs hd (by rw [List.length_dropLast]; omega) (by rw [List.length_dropLast]; omega) (by omega)
        have hl := hp _ (lastB_mem p hpos)
        rw [List.length_dropLast] at e2
        rw [last_rd p hpos (by omega), ew, if_pos (by omega), if_pos (by omega), if_pos (by omega), if_pos (by omega), Int.toNat_natCast, ← List.dropLast_eq_take, e1]
        simp only [bindS]
        rw [f1]
        simp only [bindS]
        rw [rjoin_f k _ _ (by omega) (by omega) (by omega)]
        simp only [bindS]
        rw [if_pos (by omega), pathTextsW_left n i s p h hi]
        refine ⟨rfl, by rw [List.length_append, e2, List.length_cons, List.length_nil]; omega, fun x hx => ?_⟩
        rcases List.mem_append.1 hx with q | q
        · exact e3 x q
        · have := List.mem_singleton.1 q
          subst this
          exact nodeJ_le _ _ (by omega) (by omega)
      · rw [lenW_right n i h hi] at hlen
        have hpos : 0 < p.length := by omega
        have ew : wrap64 ((p.length : Int) - 1) = ((p.length - 1 : Nat) : Int) := by unfold wrap64; omega
        obtain ⟨e1, e2, e3⟩ := ih k (n - halfN n) (i - halfN n) s p.dropLast (by omega) (by omega) (by omega) (by omega) hs hd (by rw [List.length_dropLast]; omega) (by rw [List.length_dropLast]; omega) (by omega)
        obtain ⟨f1, f2⟩ := rup_f d k (n - halfN n) (i - halfN n) s p.dropLast (by omega) (by omega) (by omega) (by omega) hs hd (by rw [List.length_dropLast]; omega) (by rw [List.length_dropLast]; omega) (by omega)
        have hl := hp _ (lastB_mem p hpos)
        rw [List.length_dropLast] at e2
        rw [last_rd p hpos (by omega), ew, if_pos (by omega), if_pos (by omega), if_pos (by omega), if_neg (by omega), Int.toNat_natCast, ← List.dropLast_eq_take,
          show wrap64 ((n : Int) - ((halfN n : Nat) : Int)) = ((n - halfN n : Nat) : Int) by unfold wrap64; omega, show wrap64 ((i : Int) - ((halfN n : Nat) : Int)) = ((i - halfN n : Nat) : Int) by unfold wrap64; omega, e1]
        simp only [bindS]
        rw [f1]
        simp only [bindS]
        rw [rjoin_f k _ _ (by omega) (by omega) (by omega)]
        simp only [bindS]
        rw [if_pos (by omega), pathTextsW_right n i s p h hi]
        refine ⟨rfl, by rw [List.length_append, e2, List.length_cons, List.length_nil]; omega, fun x hx => ?_⟩
        rcases List.mem_append.1 hx with q | q
        · exact e3 x q
        · have := List.mem_singleton.1 q
          subst this
          exact nodeJ_le _ _ (by omega) (by omega)

theorem TreeBinds : ∀ (l0 : List ByteArray) (a1 : Int) (a2 : ByteArray) (l3 : List ByteArray), l0.length ≤ 140737488351232 → (Lit.int .u8 a1).wf = true → a2.size ≤ 140737488351232 → l3.length ≤ 140737488351232 → ∃ k, observatorylaw02_TreeBinds.f k l0 a1 a2 l3 = some true := by
  intro l a s p hl hw hsz hp
  have ha := wf8 hw
  obtain ⟨k, hk⟩ : ∃ k, k = 2 * l.length + 2 * p.length + 3000000 := ⟨_, rfl⟩
  refine ⟨k + 3, ?_⟩
  unfold observatorylaw02_TreeBinds.f
  rw [head_f]
  simp only [bindS]
  rw [good_f _ _ (by omega) (by omega)]
  simp only [bindS]
  by_cases hg : goodB l = true
  · rw [if_pos hg, few02_f _ _ (by omega) (by omega)]
    simp only [bindS]
    obtain ⟨g1, g2, g3⟩ := good_out hg
    by_cases hf : few20 p = true
    · obtain ⟨f1, f2⟩ := few20_out hf
      rw [if_pos hf]
      by_cases hs : (s.size : Int) > 100
      · rw [if_pos hs]; simp only [observatorylaw02_TreeBinds.j0, if_true]
      · rw [if_neg hs]
        simp only [observatorylaw02_TreeBinds.j0]
        by_cases h0 : l.length = 0
        · rw [if_pos (by rw [beq_iff_eq]; omega)]
        · obtain ⟨i, hi, hin⟩ := tmod_nat a ha l.length (by omega)
          rw [if_neg (by rw [beq_iff_eq]; omega), if_neg (by omega), hi, if_pos (by omega), if_pos (by omega), rdOf_nat _ _ _ hin]
          by_cases hse : s = l[i]
          · rw [if_pos (by rw [hse])]; simp only [observatorylaw02_TreeBinds.j1, if_true]
          · rw [if_neg (fun h => hse (toL_inj.1 h)), rooted_good l (by omega) g1, rootB_pos l (by omega)]
            simp only [bindS]
            rw [check_f _ _ _ _ _ (by omega)]
            simp only [bindS, observatorylaw02_TreeBinds.j1]
            by_cases hc : checkB (rootW l) (l.length : Int) (i : Int) s p = true
            · rw [hc, if_neg (by decide)]
              rw [checkB_W] at hc
              split at hc
              · exact absurd hc (by decide)
              split at hc
              · exact absurd hc (by decide)
              split at hc
              · exact absurd hc (by decide)
              split at hc
              · exact absurd hc (by decide)
              rename_i q4
              split at hc
              · exact absurd hc (by decide)
              rename_i q5
              have p1 : p.all isB = true := by simpa using q4
              have s1 : isB s = true := by simpa using q5
              rw [Bool.and_eq_true, decide_eq_true_eq, decide_eq_true_eq, Int.toNat_natCast, Int.toNat_natCast] at hc
              obtain ⟨hlen, hup⟩ := hc
              have hli := pathW_length l.length l i (Nat.le_refl _) hin
              rw [path_f _ l _ (by omega) (by omega), if_pos ⟨g1, by omega, by omega⟩, Int.toNat_natCast]
              simp only [bindS, if_true]
              simp only [observatorylaw02_TreeBinds.j2]
              rw [if_neg (by rw [hli, hlen]; simp), rtexts_f l.length _ l (Nat.le_refl _) (by omega) g1 (by omega)]
              simp only [bindS]
              obtain ⟨e1, e2, e3⟩ := rpathTexts_f l.length k l.length i s p (Nat.le_refl _) (by omega) hin (by omega) (by omega) f2 hlen (by omega) (by omega)
              rw [e1]
              simp only [bindS, if_true]
              have tl := textsW_length l.length l (Nat.le_refl _) (by omega)
              have hcoll : Coll (textsW l ++ pathTextsW l.length i s p) := by
                rcases binds_coll l.length l i s p (Nat.le_refl _) hin g1 p1 s1 hlen hup with q | q
                · exact q
                · exact absurd q hse
              rw [if_pos (by omega), shown_f _ _ (by rw [List.length_append]; omega) (fun x hx => by rcases List.mem_append.1 hx with q | q; exact textsW_le l.length l (Nat.le_refl _) g1 x q; exact e3 x q) hcoll (by omega)]
              simp only [bindS]
            · have hc' : checkB (rootW l) (l.length : Int) (i : Int) s p = false := by simpa using hc
              rw [hc', if_pos (by decide)]
    · rw [if_neg hf]; simp only [observatorylaw02_TreeBinds.j0, if_true]
  · rw [if_neg hg]; simp only [observatorylaw02_TreeBinds.j0, if_true]

end Go.Proofs.YtapnakfhkdcfeaaDoor.Pure
