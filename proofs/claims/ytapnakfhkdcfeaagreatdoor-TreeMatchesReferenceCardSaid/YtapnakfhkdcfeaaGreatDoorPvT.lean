/-
  The tree layer's printed functions in plain terms: half, Reverse, Root, Path, Link, Leaf, Same.
-/
import Derived.Test.YtapnakfhkdcfeaaGreatDoorPvA
import Derived.Test.YtapnakfhkdcfeaaGreatDoorTpA
import Derived.Test.YtapnakfhkdcfeaaGreatDoorPx1
import Derived.Test.YtapnakfhkdcfeaaGreatDoorPx2
set_option linter.unusedVariables false
set_option linter.unusedSimpArgs false
namespace Go.Proofs.YtapnakfhkdcfeaaGreatDoor.Pure
open Go.RowKit Go.Proofs.YtapnakfhkdcfeaaGreatDoor.P Go.Proofs.YtapnakfhkdcfeaaGreatDoor.Dg Go.Proofs.YtapnakfhkdcfeaaGreatDoorW.PrintWords Go.Proofs.YtapnakfhkdcfeaaGreatDoorW.PrintMore
attribute [local irreducible] sumB

theorem phalf_l0 (n : Nat) (hn : n ≤ 1000000) : ∀ f k K, f < K → 1 ≤ k → k ≤ 1000000 → n ≤ 2 ^ (f + 1) * k → tree_half.l0 K (n : Int) (k : Int) = some ((halfTo f k n : Nat) : Int)
  | 0, k, K, hK, h0, h1, h => by
    obtain ⟨K, rfl⟩ : ∃ q, K = q + 1 := ⟨K - 1, by omega⟩
    have : n ≤ 2 * k := by simpa using h
    simp only [tree_half.l0, halfTo]
    rw [if_neg (by unfold wrap64; omega)]
  | f + 1, k, K, hK, h0, h1, h => by
    obtain ⟨K, rfl⟩ : ∃ q, K = q + 1 := ⟨K - 1, by omega⟩
    rw [tree_half.l0, halfTo, show wrap64 ((k : Int) * 2) = ((2 * k : Nat) : Int) by unfold wrap64; omega]
    by_cases hk : 2 * k < n
    · rw [if_pos (by omega), if_pos hk]
      refine phalf_l0 n hn f (2 * k) K (by omega) (by omega) (by omega) ?_
      rw [← Nat.mul_assoc, ← Nat.pow_succ]; exact h
    · rw [if_neg (by omega), if_neg hk]
theorem phalf_f (n : Nat) (hn : n ≤ 1000000) (k : Nat) (hk : 20 < k) : tree_half.f k (n : Int) = some ((halfN n : Nat) : Int) :=
  phalf_l0 n hn 20 1 k hk (by omega) (by omega) (by omega)

theorem rev_l0 : ∀ (d k : Nat) (x : List ByteArray) (i j : Nat), x.length ≤ 1000000 → i + j + 1 = x.length → j ≤ i + 2 * d → d < k →
    ∃ r, slices_Reverse_string_string.l0 k x (i : Int) (j : Int) = some r ∧ r.length = x.length ∧ ∀ t, r[t]? = if i ≤ t ∧ t ≤ j then x[i + j - t]? else x[t]? := by
  intro d
  induction d with
  | zero =>
    intro k x i j hx hij hd hk
    obtain ⟨k, rfl⟩ : ∃ q, k = q + 1 := ⟨k - 1, by omega⟩
    refine ⟨x, by simp only [slices_Reverse_string_string.l0]; rw [if_neg (by omega)], rfl, fun t => ?_⟩
    by_cases ht : i ≤ t ∧ t ≤ j
    · rw [if_pos ht, show i + j - t = t by omega]
    · rw [if_neg ht]
  | succ d ih =>
    intro k x i j hx hij hd hk
    obtain ⟨k, rfl⟩ : ∃ q, k = q + 1 := ⟨k - 1, by omega⟩
    simp only [slices_Reverse_string_string.l0]
    by_cases hlt : i < j
    · have hi : i < x.length := by omega
      have hj : j < x.length := by omega
      rw [if_pos (by omega), if_pos (by omega), if_pos (by omega), if_pos (by omega), if_pos (by omega), rdOf_nat _ _ _ hi, rdOf_nat _ _ _ hj, Int.toNat_natCast, Int.toNat_natCast,
        show wrap64 ((i : Int) + 1) = ((i + 1 : Nat) : Int) by unfold wrap64; omega, show wrap64 ((j : Int) - 1) = ((j - 1 : Nat) : Int) by unfold wrap64; omega]
      obtain ⟨r, h1, h2, h3⟩ := ih k ((x.set i x[j]).set j x[i]) (i + 1) (j - 1) (by simpa using hx) (by simp only [List.length_set]; omega) (by omega) (by omega)
      refine ⟨r, h1, by simpa using h2, fun t => ?_⟩
      rw [h3 t]
      have hset : ∀ q, ((x.set i x[j]).set j x[i])[q]? = if q = j then x[i]? else if q = i then x[j]? else x[q]? := by
        intro q
        rw [List.getElem?_set, List.getElem?_set]
        by_cases q1 : j = q
        · subst q1; rw [if_pos rfl, if_pos (by simpa using hj), if_pos rfl, List.getElem?_eq_getElem hi]
        · rw [if_neg q1, if_neg (Ne.symm q1)]
          by_cases q2 : i = q
          · subst q2; rw [if_pos rfl, if_pos hi, if_pos rfl, List.getElem?_eq_getElem hj]
          · rw [if_neg q2, if_neg (Ne.symm q2)]
      rw [hset, hset]
      by_cases t1 : i + 1 ≤ t ∧ t ≤ j - 1
      · rw [if_pos t1, if_neg (by omega), if_neg (by omega), if_pos (by omega), show i + 1 + (j - 1) - t = i + j - t by omega]
      · rw [if_neg t1]
        by_cases t2 : t = j
        · subst t2; rw [if_pos rfl, if_pos (by omega), show i + t - t = i by omega]
        · rw [if_neg t2]
          by_cases t3 : t = i
          · subst t3; rw [if_pos rfl, if_pos (by omega), show t + j - t = j by omega]
          · rw [if_neg t3, if_neg (by omega)]
    · refine ⟨x, by rw [if_neg (by omega)], rfl, fun t => ?_⟩
      by_cases ht : i ≤ t ∧ t ≤ j
      · rw [if_pos ht, show i + j - t = t by omega]
      · rw [if_neg ht]
theorem rev_f (k : Nat) (l : List ByteArray) (hl : l.length ≤ 1000000) (hk : l.length + 1 < k) : slices_Reverse_string_string.f k l = some l.reverse := by
  unfold slices_Reverse_string_string.f
  by_cases h0 : l.length = 0
  · have : l = [] := List.eq_nil_of_length_eq_zero h0
    subst this
    obtain ⟨k, rfl⟩ : ∃ q, k = q + 1 := ⟨k - 1, by omega⟩
    simp only [slices_Reverse_string_string.l0]
    rw [if_neg (by simp [wrap64])]; rfl
  · obtain ⟨r, h1, h2, h3⟩ := rev_l0 l.length k l 0 (l.length - 1) hl (by omega) (by omega) (by omega)
    rw [show wrap64 ((l.length : Int) - 1) = ((l.length - 1 : Nat) : Int) by unfold wrap64; omega]
    refine Eq.trans h1 (congrArg some ?_)
    refine List.ext_getElem? fun t => ?_
    rw [h3 t]
    by_cases ht : t < l.length
    · rw [if_pos (by omega), List.getElem?_reverse ht]; congr 1; omega
    · rw [if_neg (by omega), List.getElem?_eq_none (by omega), List.getElem?_eq_none (by rw [List.length_reverse]; omega)]

theorem all_size {l : List ByteArray} (h : l.all isB = true) : ∀ s ∈ l, s.size = 16 := fun s hs => isB_size (List.all_eq_true.1 h s hs)
theorem all_size' {l : List ByteArray} (h : l.all isB = true) : ∀ s ∈ l, s.size ≤ 1000 := fun s hs => by rw [all_size h s hs]; omega
theorem total_f (l : List ByteArray) (hl : l.length ≤ 1000000) (hs : ∀ s ∈ l, s.size ≤ 1000) : tree_total.f l = some (rootB l) := if_pos ⟨hl, hs⟩
theorem proper_f (l : List ByteArray) : tree_proper.f l = some (l.all isB) := rfl
theorem root_f (l : List ByteArray) (hl : l.length ≤ 1000000) : tree_Root.f l = some (if l.all isB = true then (rootB l, 0) else (⟨#[]⟩, 1)) := by
  unfold tree_Root.f
  rw [proper_f]
  simp only [bindS]
  by_cases h : l.all isB = true
  · rw [if_pos h, if_pos h, total_f l hl (all_size' h)]; simp only [bindS]
  · rw [if_neg h, if_neg h]
theorem rooted_f (l : List ByteArray) (hl : l.length ≤ 1000000) : observatorylaw02_rooted.f l = some (if l.all isB = true then rootB l else ⟨#[]⟩) := by
  unfold observatorylaw02_rooted.f
  rw [root_f l hl]
  simp only [bindS]
  by_cases h : l.all isB = true
  · rw [if_pos h, if_pos h]; simp
  · rw [if_neg h, if_neg h]; simp
theorem rooted_good (l : List ByteArray) (hl : l.length ≤ 1000000) (h : l.all isB = true) : observatorylaw02_rooted.f l = some (rootB l) := by rw [rooted_f l hl, if_pos h]

theorem path_l0 : ∀ (d k : Nat) (l : List ByteArray) (i : Nat) (acc : List ByteArray), l.length ≤ d → 1 ≤ l.length → i < l.length → l.length + acc.length ≤ 2000 → (∀ s ∈ l, s.size ≤ 1000) → 2100 + d < k →
    tree_Path.l0 k l (i : Int) acc = some (pathW l i ++ acc.reverse, 0) := by
  intro d
  induction d with
  | zero => intro k l i acc h1 h2; omega
  | succ d ih =>
    intro k l i acc hd h1 hi hacc hs hk
    obtain ⟨k, rfl⟩ : ∃ q, k = q + 1 := ⟨k - 1, by omega⟩
    simp only [tree_Path.l0]
    by_cases h2 : l.length ≤ 1
    · rw [if_neg (by omega), rev_f k acc (by omega) (by omega), pathW_one l i h2]
      simp only [bindS, List.nil_append]
    · have hb := half_bounds h2
      have hs1 : ∀ s ∈ l.take (halfN l.length), s.size ≤ 1000 := fun s hx => hs s (List.mem_of_mem_take hx)
      have hs2 : ∀ s ∈ l.drop (halfN l.length), s.size ≤ 1000 := fun s hx => hs s (List.mem_of_mem_drop hx)
      rw [if_pos (by omega), phalf_f l.length (by omega) k (by omega)]
      simp only [bindS, Int.toNat_natCast]
      by_cases hh : i < halfN l.length
      · rw [if_pos (by omega), if_pos (by omega), if_pos (by omega), total_f _ (by rw [List.length_drop]; omega) hs2]
        simp only [bindS]
        rw [if_pos (by omega), ih k (l.take (halfN l.length)) i _ (by rw [List.length_take]; omega) (by rw [List.length_take]; omega) (by rw [List.length_take]; omega) (by rw [List.length_take, List.length_append, List.length_cons, List.length_nil]; omega) hs1 (by omega),
          pathW_left l i h2 hh, rootB_pos _ (by rw [List.length_drop]; omega)]
        simp
      · rw [if_neg (by omega), if_pos (by omega), if_pos (by omega), total_f _ (by rw [List.length_take]; omega) hs1]
        simp only [bindS]
        rw [if_pos (by omega), show wrap64 ((i : Int) - ((halfN l.length : Nat) : Int)) = ((i - halfN l.length : Nat) : Int) by unfold wrap64; omega,
          ih k (l.drop (halfN l.length)) (i - halfN l.length) _ (by rw [List.length_drop]; omega) (by rw [List.length_drop]; omega) (by rw [List.length_drop]; omega) (by rw [List.length_drop, List.length_append, List.length_cons, List.length_nil]; omega) hs2 (by omega),
          pathW_right l i h2 hh, rootB_pos _ (by rw [List.length_take]; omega)]
        simp
theorem path_f (k : Nat) (l : List ByteArray) (i : Int) (hl : l.length ≤ 1000) (hk : 3200 < k) :
    tree_Path.f k l i = some (if l.all isB = true ∧ 0 ≤ i ∧ i < (l.length : Int) then (pathW l i.toNat, 0) else ([], 1)) := by
  obtain ⟨k, rfl⟩ : ∃ q, k = q + 1 := ⟨k - 1, by omega⟩
  unfold tree_Path.f
  rw [proper_f]
  simp only [bindS]
  by_cases h : l.all isB = true
  · rw [if_pos h]
    by_cases h1 : i < 0
    · rw [if_pos h1, if_neg (by omega)]; simp only [tree_Path.j0, if_true]
    · rw [if_neg h1]
      by_cases h2 : i ≥ (l.length : Int)
      · rw [decide_eq_true h2, if_neg (by omega)]; simp only [tree_Path.j0, if_true]
      · rw [decide_eq_false h2, if_pos ⟨h, by omega, by omega⟩]
        simp only [tree_Path.j0, Bool.false_eq_true, if_false]
        obtain ⟨j, rfl⟩ := Int.eq_ofNat_of_zero_le (show 0 ≤ i by omega)
        have := path_l0 l.length k l j [] (Nat.le_refl _) (by omega) (by omega) (by simp only [List.length_nil]; omega) (all_size' h) (by omega)
        rw [this]; simp
  · rw [if_neg h, if_neg (fun e => h e.1)]; simp only [tree_Path.j0, if_true]

theorem link_l0 : ∀ (d k : Nat) (l : List ByteArray) (m : Nat) (acc : List ByteArray) (wh : Bool), l.length ≤ d → 1 ≤ m → m ≤ l.length → l.length + acc.length ≤ 2000 → (∀ s ∈ l, s.size ≤ 1000) → 2100 + d < k →
    tree_Link.l0 k l (m : Int) acc wh = some (linkW l m wh ++ acc.reverse, 0) := by
  intro d
  induction d with
  | zero => intro k l m acc wh h1 h2; omega
  | succ d ih =>
    intro k l m acc wh hd h1 hm hacc hs hk
    obtain ⟨k, rfl⟩ : ∃ q, k = q + 1 := ⟨k - 1, by omega⟩
    simp only [tree_Link.l0]
    by_cases h2 : m = l.length
    · subst h2
      rw [if_neg (by omega), linkW_all]
      cases wh
      · simp only [Bool.false_eq_true, if_false]
        rw [total_f l (by omega) hs]
        simp only [bindS]
        rw [if_pos (by omega), rev_f k _ (by rw [List.length_append, List.length_cons, List.length_nil]; omega) (by rw [List.length_append, List.length_cons, List.length_nil]; omega), rootB_pos l h1]
        simp
      · simp only [if_true]
        rw [rev_f k acc (by omega) (by omega)]
        simp
    · have hn : ¬ l.length ≤ 1 := by omega
      have hb := half_bounds hn
      have hs1 : ∀ s ∈ l.take (halfN l.length), s.size ≤ 1000 := fun s hx => hs s (List.mem_of_mem_take hx)
      have hs2 : ∀ s ∈ l.drop (halfN l.length), s.size ≤ 1000 := fun s hx => hs s (List.mem_of_mem_drop hx)
      rw [if_pos (by omega), phalf_f l.length (by omega) k (by omega)]
      simp only [bindS, Int.toNat_natCast]
      by_cases hh : m ≤ halfN l.length
      · rw [if_pos (by omega), if_pos (by omega), if_pos (by omega), total_f _ (by rw [List.length_drop]; omega) hs2]
        simp only [bindS]
        rw [if_pos (by omega), ih k (l.take (halfN l.length)) m _ wh (by rw [List.length_take]; omega) h1 (by rw [List.length_take]; omega) (by rw [List.length_take, List.length_append, List.length_cons, List.length_nil]; omega) hs1 (by omega),
          linkW_left l m wh h2 hn hh, rootB_pos _ (by rw [List.length_drop]; omega)]
        simp
      · rw [if_neg (by omega), if_pos (by omega), if_pos (by omega), total_f _ (by rw [List.length_take]; omega) hs1]
        simp only [bindS]
        rw [if_pos (by omega), show wrap64 ((m : Int) - ((halfN l.length : Nat) : Int)) = ((m - halfN l.length : Nat) : Int) by unfold wrap64; omega,
          ih k (l.drop (halfN l.length)) (m - halfN l.length) _ false (by rw [List.length_drop]; omega) (by omega) (by rw [List.length_drop]; omega) (by rw [List.length_drop, List.length_append, List.length_cons, List.length_nil]; omega) hs2 (by omega),
          linkW_right l m wh h2 hn hh, rootB_pos _ (by rw [List.length_take]; omega)]
        simp
/-- A link, as the program gives it. -/
def linkB (l : List ByteArray) (m : Int) : List ByteArray := if m = 0 then [] else linkW l m.toNat true
theorem link_f (k : Nat) (l : List ByteArray) (m : Int) (hl : l.length ≤ 1000) (hk : 3200 < k) :
    tree_Link.f k l m = some (if l.all isB = true ∧ 0 ≤ m ∧ m ≤ (l.length : Int) then (linkB l m, 0) else ([], 1)) := by
  obtain ⟨k, rfl⟩ : ∃ q, k = q + 1 := ⟨k - 1, by omega⟩
  unfold tree_Link.f
  rw [proper_f]
  simp only [bindS]
  by_cases h : l.all isB = true
  · rw [if_pos h]
    by_cases h1 : m < 0
    · rw [if_pos h1, if_neg (by omega)]; simp only [tree_Link.j0, if_true]
    · rw [if_neg h1]
      by_cases h2 : m > (l.length : Int)
      · rw [decide_eq_true h2, if_neg (by omega)]; simp only [tree_Link.j0, if_true]
      · rw [decide_eq_false h2, if_pos ⟨h, by omega, by omega⟩]
        simp only [tree_Link.j0, Bool.false_eq_true, if_false, linkB]
        by_cases h0 : m = 0
        · rw [if_pos h0, if_pos h0]
        · rw [if_neg h0, if_neg h0]
          obtain ⟨j, rfl⟩ := Int.eq_ofNat_of_zero_le (show 0 ≤ m by omega)
          have := link_l0 l.length k l j [] true (Nat.le_refl _) (by omega) (by omega) (by simp only [List.length_nil]; omega) (all_size' h) (by omega)
          rw [this]; simp
  · rw [if_neg h, if_neg (fun e => h e.1)]; simp only [tree_Link.j0, if_true]

theorem leaf_f (s : ByteArray) (h : s.size ≤ 1000) : tree_Leaf.f s = some (leafB s) := by
  have hj := joinL_le 1000 (by omega) [leafWord, s] (fun t ht => by
    simp only [List.mem_cons, List.not_mem_nil, or_false] at ht
    rcases ht with rfl | rfl
    · decide
    · exact h)
  unfold tree_Leaf.f
  rw [list_f _ (by simp only [List.length_cons, List.length_nil] at hj; exact Nat.le_trans hj (by decide))]
  simp only [bindS]
  rfl
theorem check_f (root : ByteArray) (n i : Int) (leaf : ByteArray) (l : List ByteArray) (h : l.length ≤ 1000000) : tree_Check.f root n i leaf l = some (checkB root n i leaf l) := if_pos h
theorem ext_f (old : ByteArray) (m : Int) (root : ByteArray) (n : Int) (l : List ByteArray) (h : l.length ≤ 1000000) : tree_Extends.f old m root n l = some (extB old m root n l) := if_pos h

theorem same_l0 (a b : List ByteArray) (hab : a.length = b.length) (ha : a.length ≤ 1000000) (d : Nat) : ∀ (k i : Nat), i + d = a.length → d < k →
    observatoryref01_Same.l0 k a b (i : Int) = some (decide (a.drop i = b.drop i)) := by
  induction d with
  | zero =>
    intro k i hi hk
    obtain ⟨k, rfl⟩ : ∃ q, k = q + 1 := ⟨k - 1, by omega⟩
    simp only [observatoryref01_Same.l0]
    rw [if_neg (by omega), List.drop_eq_nil_of_le (by omega), List.drop_eq_nil_of_le (by omega), decide_eq_true rfl]
  | succ d ih =>
    intro k i hi hk
    obtain ⟨k, rfl⟩ : ∃ q, k = q + 1 := ⟨k - 1, by omega⟩
    have h1 : i < a.length := by omega
    have h2 : i < b.length := by omega
    simp only [observatoryref01_Same.l0]
    rw [if_pos (by omega), if_pos (by omega), if_pos (by omega), rdOf_nat _ _ _ h1, rdOf_nat _ _ _ h2, List.drop_eq_getElem_cons h1, List.drop_eq_getElem_cons h2]
    by_cases e : a[i] = b[i]
    · rw [if_pos (by rw [e]), show wrap64 ((i : Int) + 1) = ((i + 1 : Nat) : Int) by unfold wrap64; omega, ih k (i + 1) (by omega) (by omega), e]
      by_cases q : a.drop (i + 1) = b.drop (i + 1)
      · rw [q, decide_eq_true rfl, decide_eq_true rfl]
      · rw [decide_eq_false q, decide_eq_false (fun z => q (List.cons.inj z).2)]
    · rw [if_neg (fun q => e (toL_inj.1 q)), decide_eq_false (fun q => e (List.cons.inj q).1)]
theorem same_f (k : Nat) (a b : List ByteArray) (ha : a.length ≤ 1000000) (hk : a.length < k) : observatoryref01_Same.f k a b = some (decide (a = b)) := by
  unfold observatoryref01_Same.f
  by_cases h : a.length = b.length
  · rw [if_pos (by omega)]
    have := same_l0 a b h ha a.length k 0 (by omega) hk
    simpa using this
  · rw [if_neg (by omega), decide_eq_false (fun e => h (by rw [e]))]

end Go.Proofs.YtapnakfhkdcfeaaGreatDoor.Pure
