/-
  The tree layer's reference in plain terms (part 1): Half, node, root, Texts, Shown.
-/
import Derived.Test.YtapnakfhkdcfeaaDoorPvC
import Derived.Test.YtapnakfhkdcfeaaDoorTpB
import Derived.Test.YtapnakfhkdcfeaaDoorPx7
import Derived.Test.YtapnakfhkdcfeaaDoorPx8
import Derived.Test.YtapnakfhkdcfeaaDoorPx6
set_option linter.unusedVariables false
set_option linter.unusedSimpArgs false
namespace Go.Proofs.YtapnakfhkdcfeaaDoor.Pure
open Go.RowKit Go.Proofs.YtapnakfhkdcfeaaDoor.P Go.Proofs.YtapnakfhkdcfeaaDoor.Dg Go.Proofs.YtapnakfhkdcfeaaDoorW.PrintWords Go.Proofs.YtapnakfhkdcfeaaDoorW.PrintMore
attribute [local irreducible] sumB

theorem rhalf_l0 (n : Nat) (hn : n ≤ 1000000) : ∀ f k K, f < K → 1 ≤ k → k ≤ 1000000 → n ≤ 2 ^ (f + 1) * k → observatoryref02_Half.l0 K (n : Int) (k : Int) = some ((halfTo f k n : Nat) : Int)
  | 0, k, K, hK, h0, h1, h => by
    obtain ⟨K, rfl⟩ : ∃ q, K = q + 1 := ⟨K - 1, by omega⟩
    have : n ≤ 2 * k := by simpa using h
    simp only [observatoryref02_Half.l0, halfTo]
    rw [if_neg (by unfold wrap64; omega)]
  | f + 1, k, K, hK, h0, h1, h => by
    obtain ⟨K, rfl⟩ : ∃ q, K = q + 1 := ⟨K - 1, by omega⟩
    rw [observatoryref02_Half.l0, halfTo, show wrap64 (2 * (k : Int)) = ((2 * k : Nat) : Int) by unfold wrap64; omega]
    by_cases hk : 2 * k < n
    · rw [if_pos (by omega), if_pos hk]
      refine rhalf_l0 n hn f (2 * k) K (by omega) (by omega) (by omega) ?_
      rw [← Nat.mul_assoc, ← Nat.pow_succ]; exact h
    · rw [if_neg (by omega), if_neg hk]
theorem rhalf_f (n : Nat) (hn : n ≤ 1000000) (k : Nat) (hk : 20 < k) : observatoryref02_Half.f k (n : Int) = some ((halfN n : Nat) : Int) :=
  rhalf_l0 n hn 20 1 k hk (by omega) (by omega) (by omega)

theorem few3 (a b c : ByteArray) (ha : a.size ≤ 200) (hb : b.size ≤ 200) (hc : c.size ≤ 200) : fewB [a, b, c] 200 = true := by
  simp [fewB]; omega
theorem few1 (a : ByteArray) (ha : a.size ≤ 200) : fewB [a] 200 = true := by
  simp [fewB]; omega
theorem rnode_f (k : Nat) (a b : ByteArray) (ha : a.size ≤ 200) (hb : b.size ≤ 200) (hk : 14000 < k) : observatoryref02_node.f k a b = some (nodeB a b) := by
  unfold observatoryref02_node.f
  rw [refList_f k _ (few3 _ a b (by decide) ha hb) hk]
  rfl
theorem rjoin_f (k : Nat) (a b : ByteArray) (ha : a.size ≤ 200) (hb : b.size ≤ 200) (hk : 80 < k) : observatoryref01_Joined.f k [(⟨#[110, 111, 100, 101]⟩ : ByteArray), a, b] = some (nodeJ a b) := by
  rw [joined_f k _ (few3 _ a b (by decide) ha hb) hk]; rfl
theorem rempty_f (k : Nat) (hk : 14000 < k) : observatoryref02_Empty.f k = some emptyB := by
  unfold observatoryref02_Empty.f
  rw [refList_f k _ (few1 _ (by decide)) hk]
  rfl

theorem rootW_le (l : List ByteArray) (h : l.all isB = true) : (rootW l).size ≤ 200 := by
  by_cases h1 : 1 ≤ l.length
  · rw [root16 h h1]; omega
  · have : l = [] := List.eq_nil_of_length_eq_zero (by omega)
    subst this; rw [rootW_one [] (by simp)]; exact Nat.zero_le _

theorem rroot_f : ∀ (d k : Nat) (l : List ByteArray), l.length ≤ d → 1 ≤ l.length → l.length ≤ 1000000 → l.all isB = true → 14001 + d < k → observatoryref02_root.f k l = some (rootW l) := by
  intro d
  induction d with
  | zero => intro k l h1 h2; omega
  | succ d ih =>
    intro k l h1 h2 h3 ha hk
    obtain ⟨k, rfl⟩ : ∃ q, k = q + 1 := ⟨k - 1, by omega⟩
    rw [observatoryref02_root.f, if_neg (by omega)]
    by_cases h : l.length ≤ 1
    · rw [if_pos (by omega), if_pos (by omega), rootW_one l h]
      cases l with
      | nil => exact absurd h2 (by simp)
      | cons x l => rfl
    · have hb := half_bounds h
      rw [if_neg (by omega), rhalf_f l.length h3 k (by omega)]
      simp only [bindS, Int.toNat_natCast]
      rw [if_pos (by omega), if_pos (by omega), ih k (l.take (halfN l.length)) (by rw [List.length_take]; omega) (by rw [List.length_take]; omega) (by rw [List.length_take]; omega) (all_take ha _) (by omega)]
      simp only [bindS]
      rw [ih k (l.drop (halfN l.length)) (by rw [List.length_drop]; omega) (by rw [List.length_drop]; omega) (by rw [List.length_drop]; omega) (all_drop ha _) (by omega)]
      simp only [bindS]
      rw [rnode_f k _ _ (rootW_le _ (all_take ha _)) (rootW_le _ (all_drop ha _)) (by omega)]
      simp only [bindS]
      rw [← rootW_node l h]

theorem textsW_length : ∀ (d : Nat) (l : List ByteArray), l.length ≤ d → 1 ≤ l.length → (textsW l).length = l.length - 1 := by
  intro d
  induction d with
  | zero => intro l h1 h2; omega
  | succ d ih =>
    intro l h1 h2
    by_cases h : l.length ≤ 1
    · rw [textsW, dif_pos h, if_neg (by omega)]; simp; omega
    · have hb := half_bounds h
      have a1 := ih (l.take (halfN l.length)) (by rw [List.length_take]; omega) (by rw [List.length_take]; omega)
      have a2 := ih (l.drop (halfN l.length)) (by rw [List.length_drop]; omega) (by rw [List.length_drop]; omega)
      rw [List.length_take] at a1
      rw [List.length_drop] at a2
      rw [textsW_node l h, List.length_append, List.length_append, a1, a2]
      simp only [List.length_cons, List.length_nil]; omega
theorem textsW_few (l : List ByteArray) (h : l.length ≤ 1000000) : (textsW l).length ≤ 1000000 := by
  by_cases h1 : 1 ≤ l.length
  · rw [textsW_length l.length l (Nat.le_refl _) h1]; omega
  · rw [textsW, dif_pos (by omega), if_pos (by omega)]; simp
theorem rtexts_f : ∀ (d k : Nat) (l : List ByteArray), l.length ≤ d → l.length ≤ 1000000 → l.all isB = true → 14002 + d < k → observatoryref02_Texts.f k l = some (textsW l) := by
  intro d
  induction d with
  | zero =>
    intro k l h1 h2 ha hk
    obtain ⟨k, rfl⟩ : ∃ q, k = q + 1 := ⟨k - 1, by omega⟩
    rw [observatoryref02_Texts.f, if_pos (by omega), joined_f k _ (few1 _ (by decide)) (by omega), textsW, dif_pos (by omega), if_pos (by omega)]
    rfl
  | succ d ih =>
    intro k l h1 h3 ha hk
    by_cases h0 : l.length = 0
    · exact ih k l (by omega) h3 ha (by omega)
    obtain ⟨k, rfl⟩ : ∃ q, k = q + 1 := ⟨k - 1, by omega⟩
    rw [observatoryref02_Texts.f, if_neg (by omega)]
    by_cases h : l.length ≤ 1
    · rw [if_pos (by omega), textsW, dif_pos h, if_neg h0]
    · have hb := half_bounds h
      rw [if_neg (by omega), rhalf_f l.length h3 k (by omega)]
      simp only [bindS, Int.toNat_natCast]
      rw [if_pos (by omega), if_pos (by omega), rroot_f d k (l.take (halfN l.length)) (by rw [List.length_take]; omega) (by rw [List.length_take]; omega) (by rw [List.length_take]; omega) (all_take ha _) (by omega)]
      simp only [bindS]
      rw [rroot_f d k (l.drop (halfN l.length)) (by rw [List.length_drop]; omega) (by rw [List.length_drop]; omega) (by rw [List.length_drop]; omega) (all_drop ha _) (by omega)]
      simp only [bindS]
      rw [rjoin_f k _ _ (rootW_le _ (all_take ha _)) (rootW_le _ (all_drop ha _)) (by omega)]
      simp only [bindS]
      have t1 := textsW_few (l.take (halfN l.length)) (by rw [List.length_take]; omega)
      have t2 := textsW_few (l.drop (halfN l.length)) (by rw [List.length_drop]; omega)
      rw [ih k (l.take (halfN l.length)) (by rw [List.length_take]; omega) (by rw [List.length_take]; omega) (all_take ha _) (by omega)]
      simp only [bindS]
      rw [ih k (l.drop (halfN l.length)) (by rw [List.length_drop]; omega) (by rw [List.length_drop]; omega) (all_drop ha _) (by omega)]
      simp only [bindS]
      rw [if_pos (by omega)]
      try simp only [bindS]
      rw [if_pos (by rw [List.length_append, List.length_cons, List.length_nil]; omega), textsW_node l h]

/-! ### Shown -/
theorem wrap_next (j : Nat) (h : j ≤ 1000000000) : wrap64 ((j : Int) + 1) = ((j + 1 : Nat) : Int) := by unfold wrap64; omega
theorem shown_l2_step (x : List ByteArray) (i j k : Nat) (hx : x.length ≤ 1000000) (hi : i < x.length) (hj : j < i) (h : observatoryref02_Shown.l2 k x (x.map sumB) (i : Int) ((j + 1 : Nat) : Int) = some true) :
    observatoryref02_Shown.l2 (k + 1) x (x.map sumB) (i : Int) (j : Int) = some true := by
  have hlm : (x.map sumB).length = x.length := List.length_map _
  have hj2 : j < x.length := by omega
  have e1 : wrap64 ((j : Int) + 1) = ((j + 1 : Nat) : Int) := wrap_next j (by omega)
  simp only [observatoryref02_Shown.l2]
  rw [if_pos (by omega), if_pos (by omega), if_pos (by omega), if_pos (by omega), if_pos (by omega), rdOf_nat _ _ _ (by omega), rdOf_nat _ _ _ (by omega), List.getElem_map, List.getElem_map, e1, h]
  by_cases c : (sumB x[i]).toList = (sumB x[j]).toList
  · rw [if_pos c, if_pos (by omega), if_pos (by omega)]; split <;> rfl
  · rw [if_neg c]
theorem shown_l2_hit (x : List ByteArray) (i j k : Nat) (hx : x.length ≤ 1000000) (hi : i < x.length) (hj : j < i) (hs : sumB (x[i]'hi) = sumB (x[j]'(by omega))) (hn : x[i]'hi ≠ x[j]'(by omega)) :
    observatoryref02_Shown.l2 (k + 1) x (x.map sumB) (i : Int) (j : Int) = some true := by
  have hlm : (x.map sumB).length = x.length := List.length_map _
  have hj2 : j < x.length := by omega
  simp only [observatoryref02_Shown.l2]
  rw [if_pos (by omega), if_pos (by omega), if_pos (by omega), if_pos (by omega), if_pos (by omega), rdOf_nat _ _ _ (by omega), rdOf_nat _ _ _ (by omega), List.getElem_map, List.getElem_map, if_pos (by rw [hs]), if_pos (by omega), if_pos (by omega), rdOf_nat _ _ _ hi, rdOf_nat _ _ _ hj2,
    if_neg (fun h => hn (toL_inj.1 h))]
theorem shown_l2_end (x : List ByteArray) (i k : Nat) (hx : x.length ≤ 1000000) (hi : i < x.length) (h : observatoryref02_Shown.l1 k x (x.map sumB) ((i + 1 : Nat) : Int) = some true) :
    observatoryref02_Shown.l2 (k + 1) x (x.map sumB) (i : Int) (i : Int) = some true := by
  simp only [observatoryref02_Shown.l2]
  rw [if_neg (by omega), wrap_next i (by omega), h]
theorem shown_l1_in (x : List ByteArray) (i k : Nat) (hi : i < x.length) (h : observatoryref02_Shown.l2 k x (x.map sumB) (i : Int) ((0 : Nat) : Int) = some true) : observatoryref02_Shown.l1 (k + 1) x (x.map sumB) (i : Int) = some true := by
  simp only [observatoryref02_Shown.l1]
  rw [if_pos (by omega)]
  exact h
theorem shown_walk (x : List ByteArray) (i : Nat) (hx : x.length ≤ 1000000) (hi : i < x.length) (t b : Nat) (ht : t ≤ i) (h : ∀ k, b ≤ k → observatoryref02_Shown.l2 k x (x.map sumB) (i : Int) (t : Int) = some true) :
    ∀ (e j k : Nat), j + e = t → e + b ≤ k → observatoryref02_Shown.l2 k x (x.map sumB) (i : Int) (j : Int) = some true
  | 0, j, k, hj, hk => by
    obtain rfl : j = t := hj
    exact h k (by omega)
  | e + 1, j, k, hj, hk => by
    obtain ⟨k, rfl⟩ : ∃ m, k = m + 1 := ⟨k - 1, by omega⟩
    exact shown_l2_step x i j k hx hi (by omega) (shown_walk x i hx hi t b ht h e (j + 1) k (by omega) (by omega))
theorem shown_l1 (x : List ByteArray) (p q : Nat) (hx : x.length ≤ 1000000) (hp : p < x.length) (hq : q < p) (hs : sumB (x[p]'hp) = sumB (x[q]'(by omega))) (hn : x[p]'hp ≠ x[q]'(by omega)) :
    ∀ (d i b : Nat), i + d = p → d * (x.length + 3) + x.length + 3 ≤ b → ∀ k, b ≤ k → observatoryref02_Shown.l1 k x (x.map sumB) (i : Int) = some true
  | 0, i, b, hi, hb, k, hk => by
    obtain rfl : i = p := hi
    obtain ⟨k, rfl⟩ : ∃ m, k = m + 1 := ⟨k - 1, by omega⟩
    refine shown_l1_in x i k hp (shown_walk x i hx hp q 1 (Nat.le_of_lt hq) (fun k hk => ?_) q 0 k (Nat.zero_add q) (by omega))
    obtain ⟨k, rfl⟩ : ∃ m, k = m + 1 := ⟨k - 1, by omega⟩
    exact shown_l2_hit x i q k hx hp hq hs hn
  | d + 1, i, b, hi, hb, k, hk => by
    have hd : (d + 1) * (x.length + 3) = d * (x.length + 3) + (x.length + 3) := Nat.succ_mul _ _
    have hi2 : i < x.length := Nat.lt_of_le_of_lt (Nat.le.intro hi) hp
    have ih := shown_l1 x p q hx hp hq hs hn d (i + 1) (d * (x.length + 3) + x.length + 3) (by omega) (Nat.le_refl _)
    rw [hd] at hb
    generalize d * (x.length + 3) = M at hb ih
    obtain ⟨k, rfl⟩ : ∃ m, k = m + 1 := ⟨k - 1, by omega⟩
    refine shown_l1_in x i k hi2 (shown_walk x i hx hi2 i (M + x.length + 4) (Nat.le_refl i) (fun k hk => ?_) i 0 k (Nat.zero_add i) (by omega))
    obtain ⟨k, rfl⟩ : ∃ m, k = m + 1 := ⟨k - 1, by omega⟩
    exact shown_l2_end x i k hx hi2 (ih k (by omega))
theorem shown_l0 (x : List ByteArray) (hx : x.length ≤ 1000) (hs : ∀ s ∈ x, s.size ≤ 4000) : ∀ (d i k : Nat) (acc : List ByteArray), i + d = x.length → acc = (x.take i).map sumB → 9000 + d ≤ k →
    observatoryref02_Shown.l0 k x acc (i : Int) = observatoryref02_Shown.l1 (k - d - 1) x (x.map sumB) ((0 : Nat) : Int) := by
  intro d
  induction d with
  | zero =>
    intro i k acc hi ha hk
    obtain ⟨k, rfl⟩ : ∃ m, k = m + 1 := ⟨k - 1, by omega⟩
    simp only [observatoryref02_Shown.l0]
    rw [if_neg (by omega), ha, List.take_of_length_le (by omega)]
    rfl
  | succ d ih =>
    intro i k acc hi ha hk
    obtain ⟨k, rfl⟩ : ∃ m, k = m + 1 := ⟨k - 1, by omega⟩
    have h : i < x.length := by omega
    have h2 := hs _ (List.getElem_mem h)
    simp only [observatoryref02_Shown.l0]
    rw [if_pos (by omega), if_pos (by omega), rdOf_nat _ _ _ h, refSum_f k _ (by omega) (by omega)]
    simp only [bindS]
    rw [if_pos (by rw [ha, List.length_map, List.length_take]; omega), wrap_next i (by omega), ih (i + 1) k (acc ++ [sumB x[i]]) (by omega) (by rw [ha, List.take_succ_eq_append_getElem h, List.map_append]; rfl) (by omega)]
    congr 1
    omega
theorem shown_bound (t N k : Nat) (ht : t < N) (hN : N ≤ 1000) (hk : 2000000 ≤ k) : t * (N + 3) + N + 3 ≤ k - N - 1 := by
  have h1 : t * (N + 3) ≤ 1000 * (N + 3) := Nat.mul_le_mul_right _ (by omega)
  omega
/-- Shown says true where two different texts have one digest. -/
theorem shown_f (k : Nat) (x : List ByteArray) (hx : x.length ≤ 1000) (hs : ∀ s ∈ x, s.size ≤ 4000) (h : Coll x) (hk : 2000000 ≤ k) : observatoryref02_Shown.f k x = some true := by
  have e := shown_l0 x hx hs x.length 0 k [] (by omega) rfl (by omega)
  obtain ⟨a, ha, b, hb, h1, h2⟩ := h
  obtain ⟨p, hp, rfl⟩ := List.getElem_of_mem ha
  obtain ⟨q, hq, rfl⟩ := List.getElem_of_mem hb
  have hne : p ≠ q := fun e => h2 (by subst e; rfl)
  have key : observatoryref02_Shown.l1 (k - x.length - 1) x (x.map sumB) ((0 : Nat) : Int) = some true := by
    rcases Nat.lt_or_gt_of_ne hne with hlt | hlt
    · exact shown_l1 x q p (by omega) hq hlt h1.symm (Ne.symm h2) q 0 _ (Nat.zero_add q) (shown_bound q x.length k hq hx hk) _ (Nat.le_refl _)
    · exact shown_l1 x p q (by omega) hp hlt h1 h2 p 0 _ (Nat.zero_add p) (shown_bound p x.length k hp hx hk) _ (Nat.le_refl _)
  rw [key] at e
  exact e

theorem nodeJ_le (a b : ByteArray) (ha : a.size ≤ 1000) (hb : b.size ≤ 1000) : (nodeJ a b).size ≤ 4000 := by
  have h := joinL_le 1000 (by omega) [nodeWord, a, b] (fun s hs => by
    simp only [List.mem_cons, List.not_mem_nil, or_false] at hs
    rcases hs with rfl | rfl | rfl
    · decide
    · exact ha
    · exact hb)
  simp only [List.length_cons, List.length_nil] at h
  rw [nodeJ, joinB_size]; omega
theorem textsW_le : ∀ (d : Nat) (l : List ByteArray), l.length ≤ d → l.all isB = true → ∀ s ∈ textsW l, s.size ≤ 4000 := by
  intro d
  induction d with
  | zero =>
    intro l h1 ha s hs
    rw [textsW, dif_pos (by omega), if_pos (by omega)] at hs
    have := List.mem_singleton.1 hs
    subst this
    have h := joinL_le 1000 (by omega) [emptyWord] (fun s hs => by rw [List.mem_singleton] at hs; subst hs; decide)
    rw [joinB_size]
    simp only [List.length_cons, List.length_nil] at h
    omega
  | succ d ih =>
    intro l h1 ha s hs
    by_cases h0 : l.length = 0
    · exact ih l (by omega) ha s hs
    by_cases h : l.length ≤ 1
    · rw [textsW, dif_pos h, if_neg h0] at hs; exact absurd hs (by simp)
    · have hb := half_bounds h
      rw [textsW_node l h] at hs
      rcases List.mem_append.1 hs with hs | hs
      · rcases List.mem_append.1 hs with hs | hs
        · exact ih _ (by rw [List.length_take]; omega) (all_take ha _) s hs
        · exact ih _ (by rw [List.length_drop]; omega) (all_drop ha _) s hs
      · have := List.mem_singleton.1 hs
        subst this
        exact nodeJ_le _ _ (by have := rootW_le _ (all_take ha (halfN l.length)); omega) (by have := rootW_le _ (all_drop ha (halfN l.length)); omega)

end Go.Proofs.YtapnakfhkdcfeaaDoor.Pure
