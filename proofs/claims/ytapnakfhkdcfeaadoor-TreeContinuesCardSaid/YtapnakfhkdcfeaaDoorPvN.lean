/-
  TreeContinues in plain terms.
-/
import Derived.Test.YtapnakfhkdcfeaaDoorPvT
import Derived.Test.YtapnakfhkdcfeaaDoorPvL
import Derived.Test.YtapnakfhkdcfeaaDoorPvR
import Derived.Test.YtapnakfhkdcfeaaDoorPx12
import Derived.Test.YtapnakfhkdcfeaaDoorPx11
set_option linter.unusedVariables false
set_option linter.unusedSimpArgs false
namespace Go.Proofs.YtapnakfhkdcfeaaDoor.Pure
open Go.RowKit Go.Proofs.YtapnakfhkdcfeaaDoor.P Go.Proofs.YtapnakfhkdcfeaaDoor.Dg Go.Proofs.YtapnakfhkdcfeaaDoorW.PrintWords Go.Proofs.YtapnakfhkdcfeaaDoorW.PrintMore
attribute [local irreducible] sumB

theorem last_rd (l : List ByteArray) (h : 0 < l.length) (h2 : l.length ≤ 1000000000) : rdOf ByteArray.empty l (wrap64 ((l.length : Int) - 1)) = lastB l := by
  rw [show wrap64 ((l.length : Int) - 1) = ((l.length : Int) - 1) by unfold wrap64; omega]
  exact lastB_at l h
theorem one_rd (l : List ByteArray) (h : l.length = 1) : rdOf ByteArray.empty l 0 = lastB l := by
  match l, h with
  | [x], _ => rfl
theorem rboth_f : ∀ (d k n m : Nat) (wh : Bool) (old : ByteArray) (p : List ByteArray), n ≤ d → 1 ≤ m → m ≤ n → n ≤ 1000000 → old.size ≤ 100 → (∀ x ∈ p, x.size ≤ 100) → p.length = longW n m wh → p.length ≤ 1000000 → 14001 + d < k →
    observatoryref02_both.f k (n : Int) (m : Int) wh old p = some (bothW n m wh old p) ∧ (bothW n m wh old p).1.size ≤ 100 ∧ (bothW n m wh old p).2.size ≤ 100 := by
  intro d
  induction d with
  | zero => intro k n m wh old p h1 h2; omega
  | succ d ih =>
    intro k n m wh old p h1 h2 h3 h4 ho hp hlen hpm hk
    obtain ⟨k, rfl⟩ : ∃ q, k = q + 1 := ⟨k - 1, by omega⟩
    rw [observatoryref02_both.f]
    by_cases hm : m = n
    · subst hm
      rw [longW_all] at hlen
      rw [if_pos rfl, bothW_all]
      cases wh
      · have h1 : p.length = 1 := by simpa using hlen
        simp only [Bool.false_eq_true, if_false]
        rw [if_pos (by omega), one_rd p h1]
        have := hp _ (lastB_mem p (by omega))
        exact ⟨rfl, this, this⟩
      · simp only [if_true]
        exact ⟨trivial, ho, ho⟩
    · have h : ¬ n ≤ 1 := by omega
      have hb := half_bounds h
      have hd : ∀ x ∈ p.dropLast, x.size ≤ 100 := fun x hx => by rw [List.dropLast_eq_take] at hx; exact hp x (List.mem_of_mem_take hx)
      rw [if_neg (by omega), rhalf_f n h4 k (by omega)]
      simp only [bindS]
      by_cases hi : m ≤ halfN n
      · rw [longW_left n m wh hm h hi] at hlen
        have hpos : 0 < p.length := by omega
        have ew : wrap64 ((p.length : Int) - 1) = ((p.length - 1 : Nat) : Int) := by unfold wrap64; omega
        obtain ⟨e1, e2, e3⟩ := ih k (halfN n) m wh old p.dropLast (by omega) h2 hi (by omega) ho hd (by rw [List.length_dropLast]; omega) (by rw [List.length_dropLast]; omega) (by omega)
        have hl := hp _ (lastB_mem p hpos)
        rw [last_rd p hpos (by omega), ew, if_pos (by omega), if_pos (by omega), if_pos (by omega), if_pos (by omega), Int.toNat_natCast, ← List.dropLast_eq_take, e1]
        simp only [bindS]
        rw [rnode_f k _ _ (by omega) (by omega) (by omega), bothW_left n m wh old p hm h hi]
        exact ⟨rfl, e2, by dsimp only; rw [nodeB_len]; omega⟩
      · rw [longW_right n m wh hm h hi] at hlen
        have hpos : 0 < p.length := by omega
        have ew : wrap64 ((p.length : Int) - 1) = ((p.length - 1 : Nat) : Int) := by unfold wrap64; omega
        obtain ⟨e1, e2, e3⟩ := ih k (n - halfN n) (m - halfN n) false old p.dropLast (by omega) (by omega) (by omega) (by omega) ho hd (by rw [List.length_dropLast]; omega) (by rw [List.length_dropLast]; omega) (by omega)
        have hl := hp _ (lastB_mem p hpos)
        rw [last_rd p hpos (by omega), ew, if_pos (by omega), if_pos (by omega), if_pos (by omega), if_neg (by omega), Int.toNat_natCast, ← List.dropLast_eq_take,
          show wrap64 ((n : Int) - ((halfN n : Nat) : Int)) = ((n - halfN n : Nat) : Int) by unfold wrap64; omega, show wrap64 ((m : Int) - ((halfN n : Nat) : Int)) = ((m - halfN n : Nat) : Int) by unfold wrap64; omega, e1]
        simp only [bindS]
        rw [rnode_f k _ _ (by omega) (by omega) (by omega)]
        simp only [bindS]
        rw [rnode_f k _ _ (by omega) (by omega) (by omega), bothW_right n m wh old p hm h hi]
        exact ⟨rfl, by dsimp only; rw [nodeB_len]; omega, by dsimp only; rw [nodeB_len]; omega⟩
theorem rlinkTexts_f : ∀ (d k n m : Nat) (wh : Bool) (old : ByteArray) (p : List ByteArray), n ≤ d → 1 ≤ m → m ≤ n → n ≤ 1000000 → old.size ≤ 100 → (∀ x ∈ p, x.size ≤ 100) → p.length = longW n m wh → p.length ≤ 1000000 → 14002 + d < k →
    observatoryref02_LinkTexts.f k (n : Int) (m : Int) wh old p = some (linkTextsW n m wh old p) ∧ (linkTextsW n m wh old p).length ≤ 2 * p.length ∧ ∀ x ∈ linkTextsW n m wh old p, x.size ≤ 4000 := by
  intro d
  induction d with
  | zero => intro k n m wh old p h1 h2; omega
  | succ d ih =>
    intro k n m wh old p h1 h2 h3 h4 ho hp hlen hpm hk
    obtain ⟨k, rfl⟩ : ∃ q, k = q + 1 := ⟨k - 1, by omega⟩
    rw [observatoryref02_LinkTexts.f]
    by_cases hm : m = n
    · subst hm
      rw [if_pos rfl, linkTextsW_all]
      exact ⟨rfl, by simp, fun x hx => absurd hx (by simp)⟩
    · have h : ¬ n ≤ 1 := by omega
      have hb := half_bounds h
      have hd : ∀ x ∈ p.dropLast, x.size ≤ 100 := fun x hx => by rw [List.dropLast_eq_take] at hx; exact hp x (List.mem_of_mem_take hx)
      rw [if_neg (by omega), rhalf_f n h4 k (by omega)]
      simp only [bindS]
      by_cases hi : m ≤ halfN n
      · rw [longW_left n m wh hm h hi] at hlen
        have hpos : 0 < p.length := by omega
        have ew : wrap64 ((p.length : Int) - 1) = ((p.length - 1 : Nat) : Int) := by unfold wrap64; omega
        obtain ⟨e1, e2, e3⟩ := ih k (halfN n) m wh old p.dropLast (by omega) h2 hi (by omega) ho hd (by rw [List.length_dropLast]; omega) (by rw [List.length_dropLast]; omega) (by omega)
        obtain ⟨f1, f2, f3⟩ := rboth_f d k (halfN n) m wh old p.dropLast (by omega) h2 hi (by omega) ho hd (by rw [List.length_dropLast]; omega) (by rw [List.length_dropLast]; omega) (by omega)
        have hl := hp _ (lastB_mem p hpos)
        rw [List.length_dropLast] at e2
        rw [last_rd p hpos (by omega), ew, if_pos (by omega), if_pos (by omega), if_pos (by omega), if_pos (by omega), Int.toNat_natCast, ← List.dropLast_eq_take, f1]
        simp only [bindS]
        rw [e1]
        simp only [bindS]
        rw [rjoin_f k _ _ (by omega) (by omega) (by omega)]
        simp only [bindS]
        rw [if_pos (by omega), linkTextsW_left n m wh old p hm h hi]
        refine ⟨rfl, by rw [List.length_append, List.length_cons, List.length_nil]; omega, fun x hx => ?_⟩
        rcases List.mem_append.1 hx with q | q
        · exact e3 x q
        · have := List.mem_singleton.1 q
          subst this
          exact nodeJ_le _ _ (by omega) (by omega)
      · rw [longW_right n m wh hm h hi] at hlen
        have hpos : 0 < p.length := by omega
        have ew : wrap64 ((p.length : Int) - 1) = ((p.length - 1 : Nat) : Int) := by unfold wrap64; omega
        obtain ⟨e1, e2, e3⟩ := ih k (n - halfN n) (m - halfN n) false old p.dropLast (by omega) (by omega) (by omega) (by omega) ho hd (by rw [List.length_dropLast]; omega) (by rw [List.length_dropLast]; omega) (by omega)
        obtain ⟨f1, f2, f3⟩ := rboth_f d k (n - halfN n) (m - halfN n) false old p.dropLast (by omega) (by omega) (by omega) (by omega) ho hd (by rw [List.length_dropLast]; omega) (by rw [List.length_dropLast]; omega) (by omega)
        have hl := hp _ (lastB_mem p hpos)
        rw [List.length_dropLast] at e2
        rw [last_rd p hpos (by omega), ew, if_pos (by omega), if_pos (by omega), if_pos (by omega), if_neg (by omega), Int.toNat_natCast, ← List.dropLast_eq_take,
          show wrap64 ((n : Int) - ((halfN n : Nat) : Int)) = ((n - halfN n : Nat) : Int) by unfold wrap64; omega, show wrap64 ((m : Int) - ((halfN n : Nat) : Int)) = ((m - halfN n : Nat) : Int) by unfold wrap64; omega, f1]
        simp only [bindS]
        rw [e1]
        simp only [bindS]
        rw [rjoin_f k _ _ (by omega) (by omega) (by omega)]
        simp only [bindS]
        rw [if_pos (by omega)]
        try simp only [bindS]
        rw [rjoin_f k _ _ (by omega) (by omega) (by omega)]
        simp only [bindS]
        rw [if_pos (by rw [List.length_append, List.length_cons, List.length_nil]; omega), linkTextsW_right n m wh old p hm h hi]
        refine ⟨rfl, by rw [List.length_append, List.length_append, List.length_cons, List.length_nil, List.length_cons, List.length_nil]; omega, fun x hx => ?_⟩
        rcases List.mem_append.1 hx with q | q
        · rcases List.mem_append.1 q with q | q
          · exact e3 x q
          · have := List.mem_singleton.1 q
            subst this
            exact nodeJ_le _ _ (by omega) (by omega)
        · have := List.mem_singleton.1 q
          subst this
          exact nodeJ_le _ _ (by omega) (by omega)
theorem TreeContinues : ∀ (l0 l1 l2 : List ByteArray), l0.length ≤ 140737488351232 → l1.length ≤ 140737488351232 → l2.length ≤ 140737488351232 → ∃ k, observatorylaw02_TreeContinues.f k l0 l1 l2 = some true := by
  intro a l p ha hl hp
  obtain ⟨k, hk⟩ : ∃ k, k = 2 * a.length + 2 * l.length + 2 * p.length + 3000000 := ⟨_, rfl⟩
  refine ⟨k + 3, ?_⟩
  unfold observatorylaw02_TreeContinues.f
  rw [head_f]
  simp only [bindS]
  rw [good_f _ _ (by omega) (by omega)]
  simp only [bindS]
  by_cases hga : goodB a = true
  · rw [if_pos hga, good_f _ _ (by omega) (by omega)]
    simp only [bindS]
    obtain ⟨a1, a2, a3⟩ := good_out hga
    by_cases hgl : goodB l = true
    · rw [if_pos hgl, few02_f _ _ (by omega) (by omega)]
      simp only [bindS]
      obtain ⟨l1, l2, l3⟩ := good_out hgl
      by_cases hf : few20 p = true
      · obtain ⟨f1, f2⟩ := few20_out hf
        rw [if_pos hf]
        simp only [observatorylaw02_TreeContinues.j0]
        by_cases hal : a.length ≤ l.length
        · rw [if_neg (by rw [decide_eq_true_eq]; omega), rooted_good a (by omega) a1]
          simp only [bindS]
          rw [rooted_good l (by omega) l1]
          simp only [bindS]
          rw [ext_f _ _ _ _ _ (by omega)]
          simp only [bindS]
          by_cases hx : extB (rootB a) (a.length : Int) (rootB l) (l.length : Int) p = true
          · rw [if_pos hx, if_pos (by omega), if_pos (by omega), Int.toNat_natCast, same_f _ _ _ (by omega) (by omega)]
            simp only [bindS, observatorylaw02_TreeContinues.j1]
            by_cases hs : a = l.take a.length
            · rw [decide_eq_true hs, if_pos rfl]
            · rw [decide_eq_false hs, if_neg (by decide)]
              have h0 : 1 ≤ a.length := by
                rcases Nat.eq_zero_or_pos a.length with e | e
                · exact absurd (by rw [e, List.take_zero]; exact List.eq_nil_of_length_eq_zero e) hs
                · exact e
              rw [extB_W] at hx
              split at hx
              · exact absurd hx (by decide)
              split at hx
              · exact absurd hx (by decide)
              split at hx
              · exact absurd hx (by decide)
              split at hx
              · exact absurd hx (by decide)
              rename_i q4
              split at hx
              · exact absurd hx (by decide)
              rename_i q5
              split at hx
              · omega
              rw [Bool.and_eq_true, Bool.and_eq_true, decide_eq_true_eq, decide_eq_true_eq, decide_eq_true_eq, Int.toNat_natCast, Int.toNat_natCast, rootB_pos a h0, rootB_pos l (by omega)] at hx
              obtain ⟨hlen, hb1, hb2⟩ := hx
              have p1 : p.all isB = true := by simpa using q4
              have hll := linkW_length l.length l a.length true (Nat.le_refl _) h0 hal
              rw [link_f _ l _ (by omega) (by omega), if_pos ⟨l1, by omega, by omega⟩]
              have el : linkB l (a.length : Int) = linkW l a.length true := by unfold linkB; rw [if_neg (by omega), Int.toNat_natCast]
              rw [el]
              simp only [bindS, if_true]
              rw [if_pos (by omega)]
              simp only [observatorylaw02_TreeContinues.j2]
              rw [if_neg (by rw [beq_iff_eq]; omega), rtexts_f a.length _ a (Nat.le_refl _) (by omega) a1 (by omega)]
              simp only [bindS]
              rw [rtexts_f l.length _ l (Nat.le_refl _) (by omega) l1 (by omega)]
              simp only [bindS]
              have t1 := textsW_length a.length a (Nat.le_refl _) h0
              have t2 := textsW_length l.length l (Nat.le_refl _) (by omega)
              have ht : (l.take a.length).length = a.length := by rw [List.length_take]; omega
              have t3 := textsW_length (l.take a.length).length (l.take a.length) (Nat.le_refl _) (by omega)
              rw [if_pos (by omega)]
              try simp only [bindS]
              rw [if_pos (by omega), if_pos (by omega), Int.toNat_natCast, rtexts_f a.length _ (l.take a.length) (by omega) (by omega) (all_take l1 _) (by omega)]
              simp only [bindS]
              rw [if_pos (by rw [List.length_append]; omega)]
              simp only [bindS, if_true]
              rw [rooted_good a (by omega) a1, rootB_pos a h0]
              simp only [bindS]
              have r16 := root16 a1 h0
              obtain ⟨e1, e2, e3⟩ := rlinkTexts_f l.length k l.length a.length true (rootW a) p (Nat.le_refl _) h0 hal (by omega) (by omega) f2 hlen (by omega) (by omega)
              rw [e1]
              simp only [bindS]
              have hcoll : Coll (textsW a ++ textsW l ++ textsW (l.take a.length) ++ linkTextsW l.length a.length true (rootW a) p) := by
                rcases links_coll l.length l a.length true (rootW a) p (Nat.le_refl _) h0 hal l1 p1 r16 hlen hb2 with q | q
                · exact q.mono fun x hx => by rcases List.mem_append.1 hx with z | z <;> simp [z]
                · rw [hb1] at q
                  rcases roots_coll a.length a (l.take a.length) (Nat.le_refl _) ht.symm a1 (all_take l1 _) q with z | z
                  · exact z.mono fun x hx => by rcases List.mem_append.1 hx with z | z <;> simp [z]
                  · exact absurd z hs
              rw [if_pos (by rw [List.length_append, List.length_append]; omega), shown_f _ _ (by rw [List.length_append, List.length_append, List.length_append]; omega) (fun x hx => ?_) hcoll (by omega)]
              · rfl
              · rcases List.mem_append.1 hx with z | z
                · rcases List.mem_append.1 z with z | z
                  · rcases List.mem_append.1 z with z | z
                    · exact textsW_le a.length a (Nat.le_refl _) a1 x z
                    · exact textsW_le l.length l (Nat.le_refl _) l1 x z
                  · exact textsW_le _ _ (Nat.le_refl _) (all_take l1 _) x z
                · exact e3 x z
          · rw [if_neg hx]; simp only [observatorylaw02_TreeContinues.j1, if_true]
        · rw [if_pos (by rw [decide_eq_true_eq]; omega)]
      · rw [if_neg hf]; simp only [observatorylaw02_TreeContinues.j0, if_true]
    · rw [if_neg hgl]; simp only [observatorylaw02_TreeContinues.j0, if_true]
  · rw [if_neg hga]; simp only [observatorylaw02_TreeContinues.j0, if_true]

end Go.Proofs.YtapnakfhkdcfeaaDoor.Pure
