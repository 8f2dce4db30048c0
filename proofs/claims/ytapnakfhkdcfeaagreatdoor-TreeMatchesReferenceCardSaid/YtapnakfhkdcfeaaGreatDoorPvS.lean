/-
  The tree layer's reference in plain terms (part 2): Is, digests, paths, links, Check, Extends: the same as the program's.
-/
import Derived.Test.YtapnakfhkdcfeaaGreatDoorPvF
import Derived.Test.YtapnakfhkdcfeaaGreatDoorPvQ
import Derived.Test.YtapnakfhkdcfeaaGreatDoorPvT
import Derived.Test.YtapnakfhkdcfeaaGreatDoorPx4
import Derived.Test.YtapnakfhkdcfeaaGreatDoorPx6
import Derived.Test.YtapnakfhkdcfeaaGreatDoorPx7
import Derived.Test.YtapnakfhkdcfeaaGreatDoorPx8
set_option linter.unusedVariables false
set_option linter.unusedSimpArgs false
namespace Go.Proofs.YtapnakfhkdcfeaaGreatDoor.Pure
open Go.RowKit Go.Proofs.YtapnakfhkdcfeaaGreatDoor.P Go.Proofs.YtapnakfhkdcfeaaGreatDoor.Dg Go.Proofs.YtapnakfhkdcfeaaGreatDoorW.PrintWords Go.Proofs.YtapnakfhkdcfeaaGreatDoorW.PrintMore
attribute [local irreducible] sumB

theorem hexSet_iff (c : UInt8) : hexSet.contains c = (decide (48 ≤ c.toNat ∧ c.toNat ≤ 57) || decide (97 ≤ c.toNat ∧ c.toNat ≤ 102)) := by
  have key : ∀ n : Nat, n < 256 → hexSet.contains (UInt8.ofNat n) = (decide (48 ≤ n ∧ n ≤ 57) || decide (97 ≤ n ∧ n ≤ 102)) := by decide +kernel
  have := key c.toNat (UInt8.toNat_lt c)
  rwa [UInt8.ofNat_toNat] at this
theorem digit_f (k : Nat) (c : UInt8) (hk : 0 < k) : ∃ v, observatoryref01_Digit.f k (c.toNat : Int) = some v ∧ (decide (v < 0)) = !hexSet.contains c := by
  obtain ⟨k, rfl⟩ : ∃ m, k = m + 1 := ⟨k - 1, by omega⟩
  have hc := UInt8.toNat_lt c
  rw [hexSet_iff]
  unfold observatoryref01_Digit.f
  simp only [observatoryref01_Digit.j0, decide_eq_true_eq, Bool.false_eq_true, if_false]
  by_cases h1 : (c.toNat : Int) ≥ 48
  · rw [if_pos h1]
    by_cases h2 : (c.toNat : Int) ≤ 57
    · rw [if_pos h2]
      refine ⟨_, rfl, ?_⟩
      rw [decide_eq_false (by omega), decide_eq_true (show 48 ≤ c.toNat ∧ c.toNat ≤ 57 by omega)]; rfl
    · rw [if_neg h2]
      by_cases h3 : (c.toNat : Int) ≥ 97
      · rw [if_pos h3]
        by_cases h4 : (c.toNat : Int) ≤ 102
        · rw [if_pos h4]
          refine ⟨_, rfl, ?_⟩
          rw [decide_eq_false (by omega), decide_eq_true (show 97 ≤ c.toNat ∧ c.toNat ≤ 102 by omega)]; simp
        · rw [if_neg h4]
          refine ⟨_, rfl, ?_⟩
          rw [decide_eq_true (by omega), decide_eq_false (show ¬ (48 ≤ c.toNat ∧ c.toNat ≤ 57) by omega), decide_eq_false (show ¬ (97 ≤ c.toNat ∧ c.toNat ≤ 102) by omega)]; rfl
      · rw [if_neg h3]
        refine ⟨_, rfl, ?_⟩
        rw [decide_eq_true (by omega), decide_eq_false (show ¬ (48 ≤ c.toNat ∧ c.toNat ≤ 57) by omega), decide_eq_false (show ¬ (97 ≤ c.toNat ∧ c.toNat ≤ 102) by omega)]; rfl
  · rw [if_neg h1, if_neg (by omega)]
    refine ⟨_, rfl, ?_⟩
    rw [decide_eq_true (by omega), decide_eq_false (show ¬ (48 ≤ c.toNat ∧ c.toNat ≤ 57) by omega), decide_eq_false (show ¬ (97 ≤ c.toNat ∧ c.toNat ≤ 102) by omega)]; rfl

theorem refIs_l0 (s : ByteArray) (d : Nat) : ∀ (k i : Nat), i + d = 16 → 2 * d + 3 < k → observatoryref01_Is.l0 k s (i : Int) = some (((s.data.toList.drop i).take d).all (hexSet.contains ·) && decide (s.size = 16)) := by
  have hl : s.data.toList.length = s.size := (Lib.size_eq s).symm
  have fin : (some ((s.size : Int) == 16) : Option Bool) = some (decide (s.size = 16)) := by
    congr 1
    by_cases h : s.size = 16
    · rw [h]; rfl
    · rw [decide_eq_false h, beq_eq_false_iff_ne]; omega
  induction d with
  | zero =>
    intro k i hi hk
    obtain ⟨k, rfl⟩ : ∃ m, k = m + 2 := ⟨k - 2, by omega⟩
    simp only [observatoryref01_Is.l0, observatoryref01_Is.j1]
    have : decide ((i : Int) < 16) = false := decide_eq_false (by omega)
    rw [this]
    simp only [Bool.false_eq_true, if_false, ite_self, fin, List.take_zero, List.all_nil, Bool.true_and]
  | succ d ih =>
    intro k i hi hk
    obtain ⟨k, rfl⟩ : ∃ m, k = m + 2 := ⟨k - 2, by omega⟩
    simp only [observatoryref01_Is.l0, observatoryref01_Is.j1]
    by_cases h : i < s.size
    · have hi' : i < s.data.toList.length := by omega
      have : decide ((i : Int) < 16) = true := decide_eq_true (by omega)
      rw [if_pos (by omega), this]
      simp only [if_true]
      rw [if_pos (by omega), if_pos (by omega), bt_byteN, show byteN s.data.toList i = (s.data.toList[i]).toNat by simp [byteN, List.getD_eq_getElem?_getD, List.getElem?_eq_getElem hi']]
      obtain ⟨v, hv, hn⟩ := digit_f k s.data.toList[i] (by omega)
      rw [hv]
      simp only [Option.bind_some]
      rw [List.drop_eq_getElem_cons hi', List.take_succ_cons, List.all_cons]
      by_cases h0 : v < 0
      · rw [if_pos h0]
        rw [decide_eq_true h0] at hn
        have : hexSet.contains s.data.toList[i] = false := by simpa using hn.symm
        rw [this]; rfl
      · rw [if_neg h0, show wrap64 ((i : Int) + 1) = ((i + 1 : Nat) : Int) by unfold wrap64; omega, ih k (i + 1) (by omega) (by omega)]
        rw [decide_eq_false h0] at hn
        have : hexSet.contains s.data.toList[i] = true := by simpa using hn.symm
        rw [this]; rfl
    · rw [if_neg (by omega)]
      simp only [Bool.false_eq_true, if_false, fin]
      rw [List.drop_eq_nil_of_le (by omega)]
      rfl
theorem refIs_f (k : Nat) (s : ByteArray) (hk : 40 < k) : observatoryref01_Is.f k s = some (isB s) := by
  have hl : s.data.toList.length = s.size := (Lib.size_eq s).symm
  unfold observatoryref01_Is.f
  have := refIs_l0 s 16 k 0 (by omega) (by omega)
  refine Eq.trans this ?_
  congr 1
  unfold isB
  rw [List.drop_zero]
  by_cases h : s.size = 16
  · rw [List.take_of_length_le (by omega), decide_eq_true h, h, Bool.and_comm]; rfl
  · rw [decide_eq_false h, Bool.and_false]
    have : (s.size == 16) = false := by rw [beq_eq_false_iff_ne]; exact h
    rw [this]; rfl

theorem last_rd (l : List ByteArray) (h : 0 < l.length) (h2 : l.length ≤ 1000000000) : rdOf ByteArray.empty l (wrap64 ((l.length : Int) - 1)) = lastB l := by
  rw [show wrap64 ((l.length : Int) - 1) = ((l.length : Int) - 1) by unfold wrap64; omega]
  exact lastB_at l h
theorem rup_f : ∀ (d k n i : Nat) (s : ByteArray) (p : List ByteArray), n ≤ d → 1 ≤ n → i < n → n ≤ 1000000 → s.size ≤ 100 → (∀ x ∈ p, x.size ≤ 100) → p.length = lenW n i → p.length ≤ 1000000 → 14001 + d < k →
    observatoryref02_up.f k (n : Int) (i : Int) s p = some (upW n i s p) ∧ (upW n i s p).size ≤ 100 := by
  intro d
  induction d with
  | zero => intro k n i s p h1 h2; omega
  | succ d ih =>
    intro k n i s p h1 h2 h3 h4 hs hp hlen hpm hk
    obtain ⟨k, rfl⟩ : ∃ q, k = q + 1 := ⟨k - 1, by omega⟩
    rw [observatoryref02_up.f]
    by_cases h : n ≤ 1
    · rw [if_pos (by omega), upW_one _ _ _ _ h]; exact ⟨rfl, hs⟩
    · have hb := half_bounds h
      have hd : ∀ x ∈ p.dropLast, x.size ≤ 100 := fun x hx => by rw [List.dropLast_eq_take] at hx; exact hp x (List.mem_of_mem_take hx)
      rw [if_neg (by omega), rhalf_f n h4 k (by omega)]
      simp only [bindS]
      by_cases hi : i < halfN n
      · rw [lenW_left n i h hi] at hlen
        have hpos : 0 < p.length := by omega
        have ew : wrap64 ((p.length : Int) - 1) = ((p.length - 1 : Nat) : Int) := by unfold wrap64; omega
        obtain ⟨e1, e2⟩ := ih k (halfN n) i s p.dropLast (by omega) (by omega) hi (by omega) hs hd (by rw [List.length_dropLast]; omega) (by rw [List.length_dropLast]; omega) (by omega)
        have hl := hp _ (lastB_mem p hpos)
        rw [last_rd p hpos (by omega), ew, if_pos (by omega), if_pos (by omega), if_pos (by omega), if_pos (by omega), Int.toNat_natCast, ← List.dropLast_eq_take, e1]
        simp only [bindS]
        rw [rnode_f k _ _ (by omega) (by omega) (by omega), upW_left n i s p h hi]
        exact ⟨rfl, by rw [nodeB_len]; omega⟩
      · rw [lenW_right n i h hi] at hlen
        have hpos : 0 < p.length := by omega
        have ew : wrap64 ((p.length : Int) - 1) = ((p.length - 1 : Nat) : Int) := by unfold wrap64; omega
        obtain ⟨e1, e2⟩ := ih k (n - halfN n) (i - halfN n) s p.dropLast (by omega) (by omega) (by omega) (by omega) hs hd (by rw [List.length_dropLast]; omega) (by rw [List.length_dropLast]; omega) (by omega)
        have hl := hp _ (lastB_mem p hpos)
        rw [last_rd p hpos (by omega), ew, if_pos (by omega), if_pos (by omega), if_pos (by omega), if_neg (by omega), Int.toNat_natCast, ← List.dropLast_eq_take,
          show wrap64 ((n : Int) - ((halfN n : Nat) : Int)) = ((n - halfN n : Nat) : Int) by unfold wrap64; omega, show wrap64 ((i : Int) - ((halfN n : Nat) : Int)) = ((i - halfN n : Nat) : Int) by unfold wrap64; omega, e1]
        simp only [bindS]
        rw [rnode_f k _ _ (by omega) (by omega) (by omega), upW_right n i s p h hi]
        exact ⟨rfl, by rw [nodeB_len]; omega⟩
theorem one_rd (l : List ByteArray) (h : l.length = 1) : rdOf ByteArray.empty l 0 = lastB l := by
  match l, h with
  | [x], _ => rfl
theorem rboth_f : ∀ (d k n m : Nat) (wh : Bool) (old : ByteArray) (p : List ByteArray), n ≤ d → 1 ≤ m → m ≤ n → n ≤ 1000000 → old.size ≤ 100 → (∀ x ∈ p, x.size ≤ 100) → p.length = longW n m wh → p.length ≤ 1000000 → 14001 + d < k →
    observatoryref02_both.f k (n : Int) (m : Int) wh old p = some (bothW n m wh old p) ∧ (bothW n m wh old p).1.size ≤ 100 ∧ (bothW n m wh old p).2.size ≤ 100 := by
  intro d
  induction d with
  | zero => intro k n m wh old p h1 h2; omega
  | succ d ih =>
    intro k n m wh old p h1 h2 h3 h4 ho hp hlen hpm hk
    obtain ⟨k, rfl⟩ : ∃ q, k = q + 1 := ⟨k - 1, by omega⟩
    rw [observatoryref02_both.f]
    by_cases hm : m = n
    · subst hm
      rw [longW_all] at hlen
      rw [if_pos rfl, bothW_all]
      cases wh
      · have h1 : p.length = 1 := by simpa using hlen
        simp only [Bool.false_eq_true, if_false]
        rw [if_pos (by omega), one_rd p h1]
        have := hp _ (lastB_mem p (by omega))
        exact ⟨rfl, this, this⟩
      · simp only [if_true]
        exact ⟨trivial, ho, ho⟩
    · have h : ¬ n ≤ 1 := by omega
      have hb := half_bounds h
      have hd : ∀ x ∈ p.dropLast, x.size ≤ 100 := fun x hx => by rw [List.dropLast_eq_take] at hx; exact hp x (List.mem_of_mem_take hx)
      rw [if_neg (by omega), rhalf_f n h4 k (by omega)]
      simp only [bindS]
      by_cases hi : m ≤ halfN n
      · rw [longW_left n m wh hm h hi] at hlen
        have hpos : 0 < p.length := by omega
        have ew : wrap64 ((p.length : Int) - 1) = ((p.length - 1 : Nat) : Int) := by unfold wrap64; omega
        obtain ⟨e1, e2, e3⟩ := ih k (halfN n) m wh old p.dropLast (by omega) h2 hi (by omega) ho hd (by rw [List.length_dropLast]; omega) (by rw [List.length_dropLast]; omega) (by omega)
        have hl := hp _ (lastB_mem p hpos)
        rw [last_rd p hpos (by omega), ew, if_pos (by omega), if_pos (by omega), if_pos (by omega), if_pos (by omega), Int.toNat_natCast, ← List.dropLast_eq_take, e1]
        simp only [bindS]
        rw [rnode_f k _ _ (by omega) (by omega) (by omega), bothW_left n m wh old p hm h hi]
        exact ⟨rfl, e2, by dsimp only; rw [nodeB_len]; omega⟩
      · rw [longW_right n m wh hm h hi] at hlen
        have hpos : 0 < p.length := by omega
        have ew : wrap64 ((p.length : Int) - 1) = ((p.length - 1 : Nat) : Int) := by unfold wrap64; omega
        obtain ⟨e1, e2, e3⟩ := ih k (n - halfN n) (m - halfN n) false old p.dropLast (by omega) (by omega) (by omega) (by omega) ho hd (by rw [List.length_dropLast]; omega) (by rw [List.length_dropLast]; omega) (by omega)
        have hl := hp _ (lastB_mem p hpos)
        rw [last_rd p hpos (by omega), ew, if_pos (by omega), if_pos (by omega), if_pos (by omega), if_neg (by omega), Int.toNat_natCast, ← List.dropLast_eq_take,
          show wrap64 ((n : Int) - ((halfN n : Nat) : Int)) = ((n - halfN n : Nat) : Int) by unfold wrap64; omega, show wrap64 ((m : Int) - ((halfN n : Nat) : Int)) = ((m - halfN n : Nat) : Int) by unfold wrap64; omega, e1]
        simp only [bindS]
        rw [rnode_f k _ _ (by omega) (by omega) (by omega)]
        simp only [bindS]
        rw [rnode_f k _ _ (by omega) (by omega) (by omega), bothW_right n m wh old p hm h hi]
        exact ⟨rfl, by dsimp only; rw [nodeB_len]; omega, by dsimp only; rw [nodeB_len]; omega⟩

theorem rdig_l0 (l : List ByteArray) (hl : l.length ≤ 9223372036854775806) (d : Nat) : ∀ (k i : Nat), i + d = l.length → 41 + d < k → observatoryref02_digests.l0 k l (i : Int) = some ((l.drop i).all isB) := by
  induction d with
  | zero =>
    intro k i hi hk
    obtain ⟨k, rfl⟩ : ∃ q, k = q + 1 := ⟨k - 1, by omega⟩
    simp only [observatoryref02_digests.l0]
    rw [if_neg (by omega), List.drop_eq_nil_of_le (by omega)]; rfl
  | succ d ih =>
    intro k i hi hk
    obtain ⟨k, rfl⟩ : ∃ q, k = q + 1 := ⟨k - 1, by omega⟩
    have h : i < l.length := by omega
    simp only [observatoryref02_digests.l0]
    rw [if_pos (by omega), if_pos (by omega), rdOf_nat _ _ _ h, refIs_f k _ (by omega), List.drop_eq_getElem_cons h]
    simp only [bindS, List.all_cons]
    by_cases hb : isB l[i] = true
    · rw [if_pos hb, hb, show wrap64 ((i : Int) + 1) = ((i + 1 : Nat) : Int) by unfold wrap64; omega, ih k (i + 1) (by omega) (by omega), Bool.true_and]
    · have : isB l[i] = false := by simpa using hb
      rw [if_neg hb, this]; rfl
theorem rdig_f (k : Nat) (l : List ByteArray) (hl : l.length ≤ 9223372036854775806) (hk : 41 + l.length < k) : observatoryref02_digests.f k l = some (l.all isB) := by
  unfold observatoryref02_digests.f
  have := rdig_l0 l hl l.length k 0 (by omega) hk
  simpa using this
theorem rRoot_f (k : Nat) (l : List ByteArray) (hl : l.length ≤ 1000) (hk : 16000 < k) : observatoryref02_Root.f k l = some (if l.all isB = true then (rootB l, 0) else (⟨#[]⟩, 1)) := by
  obtain ⟨k, rfl⟩ : ∃ q, k = q + 1 := ⟨k - 1, by omega⟩
  unfold observatoryref02_Root.f
  rw [rdig_f _ l (by omega) (by omega)]
  simp only [bindS]
  by_cases h : l.all isB = true
  · rw [if_pos h, if_pos h]
    by_cases h0 : l.length = 0
    · rw [observatoryref02_root.f, if_pos (by omega), rempty_f k (by omega), rootB_W, if_pos h0]; rfl
    · rw [rroot_f l.length (k + 1) l (Nat.le_refl _) (by omega) (by omega) h (by omega), rootB_pos l (by omega)]; rfl
  · rw [if_neg h, if_neg h]
theorem rpath_f : ∀ (d k : Nat) (l : List ByteArray) (i : Nat), l.length ≤ d → i < l.length → l.length ≤ 1000 → l.all isB = true → 14002 + d < k → observatoryref02_path.f k l (i : Int) = some (pathW l i) ∧ (pathW l i).length ≤ l.length := by
  intro d
  induction d with
  | zero => intro k l i h1 h2; omega
  | succ d ih =>
    intro k l i h1 h2 h3 ha hk
    obtain ⟨k, rfl⟩ : ∃ q, k = q + 1 := ⟨k - 1, by omega⟩
    rw [observatoryref02_path.f]
    by_cases h : l.length ≤ 1
    · rw [if_pos (by omega), pathW_one l i h]; exact ⟨rfl, by simp⟩
    · have hb := half_bounds h
      rw [if_neg (by omega), rhalf_f l.length (by omega) k (by omega)]
      simp only [bindS, Int.toNat_natCast]
      by_cases hi : i < halfN l.length
      · obtain ⟨e1, e2⟩ := ih k (l.take (halfN l.length)) i (by rw [List.length_take]; omega) (by rw [List.length_take]; omega) (by rw [List.length_take]; omega) (all_take ha _) (by omega)
        rw [List.length_take] at e2
        rw [if_pos (by omega), if_pos (by omega), if_pos (by omega), e1]
        simp only [bindS]
        rw [rroot_f d k (l.drop (halfN l.length)) (by rw [List.length_drop]; omega) (by rw [List.length_drop]; omega) (by rw [List.length_drop]; omega) (all_drop ha _) (by omega)]
        simp only [bindS]
        rw [if_pos (by omega), pathW_left l i h hi]
        exact ⟨rfl, by rw [List.length_append, List.length_cons, List.length_nil]; omega⟩
      · obtain ⟨e1, e2⟩ := ih k (l.drop (halfN l.length)) (i - halfN l.length) (by rw [List.length_drop]; omega) (by rw [List.length_drop]; omega) (by rw [List.length_drop]; omega) (all_drop ha _) (by omega)
        rw [List.length_drop] at e2
        rw [if_neg (by omega), if_pos (by omega), if_pos (by omega), show wrap64 ((i : Int) - ((halfN l.length : Nat) : Int)) = ((i - halfN l.length : Nat) : Int) by unfold wrap64; omega, e1]
        simp only [bindS]
        rw [rroot_f d k (l.take (halfN l.length)) (by rw [List.length_take]; omega) (by rw [List.length_take]; omega) (by rw [List.length_take]; omega) (all_take ha _) (by omega)]
        simp only [bindS]
        rw [if_pos (by omega), pathW_right l i h hi]
        exact ⟨rfl, by rw [List.length_append, List.length_cons, List.length_nil]; omega⟩
theorem rPath_f (k : Nat) (l : List ByteArray) (i : Int) (hl : l.length ≤ 1000) (hk : 16000 < k) :
    observatoryref02_Path.f k l i = some (if l.all isB = true ∧ 0 ≤ i ∧ i < (l.length : Int) then (pathW l i.toNat, 0) else ([], 1)) := by
  unfold observatoryref02_Path.f
  rw [rdig_f _ l (by omega) (by omega)]
  simp only [bindS]
  by_cases h : l.all isB = true
  · rw [if_pos h]
    by_cases h1 : i < 0
    · rw [if_pos h1, if_neg (by omega)]
    · rw [if_neg h1]
      by_cases h2 : i ≥ (l.length : Int)
      · rw [if_pos h2, if_neg (by omega)]
      · rw [if_neg h2, if_pos ⟨h, by omega, by omega⟩]
        obtain ⟨j, rfl⟩ := Int.eq_ofNat_of_zero_le (show 0 ≤ i by omega)
        rw [(rpath_f l.length k l j (Nat.le_refl _) (by omega) hl h (by omega)).1]; rfl
  · rw [if_neg h, if_neg (fun e => h e.1)]
theorem rlink_f : ∀ (d k : Nat) (l : List ByteArray) (m : Nat) (wh : Bool), l.length ≤ d → 1 ≤ m → m ≤ l.length → l.length ≤ 1000 → l.all isB = true → 14002 + d < k → observatoryref02_link.f k l (m : Int) wh = some (linkW l m wh) ∧ (linkW l m wh).length ≤ l.length := by
  intro d
  induction d with
  | zero => intro k l m wh h1 h2; omega
  | succ d ih =>
    intro k l m wh h1 h2 h3 h4 ha hk
    obtain ⟨k, rfl⟩ : ∃ q, k = q + 1 := ⟨k - 1, by omega⟩
    rw [observatoryref02_link.f]
    by_cases hm : m = l.length
    · subst hm
      rw [if_pos rfl, linkW_all]
      cases wh
      · simp only [Bool.false_eq_true, if_false]
        rw [rroot_f l.length k l (Nat.le_refl _) (by omega) (by omega) ha (by omega)]
        exact ⟨rfl, by simp; omega⟩
      · simp only [if_true]; exact ⟨trivial, by simp⟩
    · have h : ¬ l.length ≤ 1 := by omega
      have hb := half_bounds h
      rw [if_neg (by omega), rhalf_f l.length (by omega) k (by omega)]
      simp only [bindS, Int.toNat_natCast]
      by_cases hi : m ≤ halfN l.length
      · obtain ⟨e1, e2⟩ := ih k (l.take (halfN l.length)) m wh (by rw [List.length_take]; omega) h2 (by rw [List.length_take]; omega) (by rw [List.length_take]; omega) (all_take ha _) (by omega)
        rw [List.length_take] at e2
        rw [if_pos (by omega), if_pos (by omega), if_pos (by omega), e1]
        simp only [bindS]
        rw [rroot_f d k (l.drop (halfN l.length)) (by rw [List.length_drop]; omega) (by rw [List.length_drop]; omega) (by rw [List.length_drop]; omega) (all_drop ha _) (by omega)]
        simp only [bindS]
        rw [if_pos (by omega), linkW_left l m wh hm h hi]
        exact ⟨rfl, by rw [List.length_append, List.length_cons, List.length_nil]; omega⟩
      · obtain ⟨e1, e2⟩ := ih k (l.drop (halfN l.length)) (m - halfN l.length) false (by rw [List.length_drop]; omega) (by omega) (by rw [List.length_drop]; omega) (by rw [List.length_drop]; omega) (all_drop ha _) (by omega)
        rw [List.length_drop] at e2
        rw [if_neg (by omega), if_pos (by omega), if_pos (by omega), show wrap64 ((m : Int) - ((halfN l.length : Nat) : Int)) = ((m - halfN l.length : Nat) : Int) by unfold wrap64; omega, e1]
        simp only [bindS]
        rw [rroot_f d k (l.take (halfN l.length)) (by rw [List.length_take]; omega) (by rw [List.length_take]; omega) (by rw [List.length_take]; omega) (all_take ha _) (by omega)]
        simp only [bindS]
        rw [if_pos (by omega), linkW_right l m wh hm h hi]
        exact ⟨rfl, by rw [List.length_append, List.length_cons, List.length_nil]; omega⟩
theorem rLink_f (k : Nat) (l : List ByteArray) (m : Int) (hl : l.length ≤ 1000) (hk : 16000 < k) :
    observatoryref02_Link.f k l m = some (if l.all isB = true ∧ 0 ≤ m ∧ m ≤ (l.length : Int) then (linkB l m, 0) else ([], 1)) := by
  obtain ⟨k, rfl⟩ : ∃ q, k = q + 1 := ⟨k - 1, by omega⟩
  unfold observatoryref02_Link.f
  rw [rdig_f _ l (by omega) (by omega)]
  simp only [bindS]
  by_cases h : l.all isB = true
  · rw [if_pos h]
    by_cases h1 : m < 0
    · rw [if_pos h1, if_neg (by omega)]; simp only [observatoryref02_Link.j0, if_true]
    · rw [if_neg h1]
      by_cases h2 : m > (l.length : Int)
      · rw [decide_eq_true h2, if_neg (by omega)]; simp only [observatoryref02_Link.j0, if_true]
      · rw [decide_eq_false h2, if_pos ⟨h, by omega, by omega⟩]
        simp only [observatoryref02_Link.j0, Bool.false_eq_true, if_false, linkB]
        by_cases h0 : m = 0
        · rw [if_pos h0, if_pos h0]
        · rw [if_neg h0, if_neg h0]
          obtain ⟨j, rfl⟩ := Int.eq_ofNat_of_zero_le (show 0 ≤ m by omega)
          by_cases he : j = l.length
          · subst he; rw [if_pos rfl, Int.toNat_natCast, linkW_all]; rfl
          · rw [if_neg (by omega), (rlink_f l.length k l j true (Nat.le_refl _) (by omega) (by omega) hl h (by omega)).1]; rfl
  · rw [if_neg h, if_neg (fun e => h e.1)]; simp only [observatoryref02_Link.j0, if_true]
theorem few2 (a b : ByteArray) (ha : a.size ≤ 200) (hb : b.size ≤ 200) : fewB [a, b] 200 = true := by
  simp [fewB]; omega
theorem rLeaf_f (k : Nat) (s : ByteArray) (h : s.size ≤ 200) (hk : 14000 < k) : observatoryref02_Leaf.f k s = some (leafB s) := by
  unfold observatoryref02_Leaf.f
  rw [refList_f k _ (few2 _ s (by decide) h) hk]
  rfl
theorem lenW_le : ∀ (d n i : Nat), n ≤ d → lenW n i ≤ n := by
  intro d
  induction d with
  | zero => intro n i h; rw [lenW_one n i (by omega)]; omega
  | succ d ih =>
    intro n i h
    by_cases h1 : n ≤ 1
    · rw [lenW_one n i h1]; omega
    · have hb := half_bounds h1
      by_cases hi : i < halfN n
      · rw [lenW_left n i h1 hi]; have := ih (halfN n) i (by omega); omega
      · rw [lenW_right n i h1 hi]; have := ih (n - halfN n) (i - halfN n) (by omega); omega
theorem longW_le : ∀ (d n m : Nat) (wh : Bool), n ≤ d → 1 ≤ m → m ≤ n → longW n m wh ≤ n := by
  intro d
  induction d with
  | zero => intro n m wh h; omega
  | succ d ih =>
    intro n m wh h h1 h2
    by_cases hm : m = n
    · subst hm; rw [longW_all]; split <;> omega
    · have hn : ¬ n ≤ 1 := by omega
      have hb := half_bounds hn
      by_cases hi : m ≤ halfN n
      · rw [longW_left n m wh hm hn hi]; have := ih (halfN n) m wh (by omega) h1 hi; omega
      · rw [longW_right n m wh hm hn hi]; have := ih (n - halfN n) (m - halfN n) false (by omega) (by omega) (by omega); omega
theorem rlength_f : ∀ (d k n i : Nat), n ≤ d → 1 ≤ n → i < n → n ≤ 1000000 → 30 + d < k → observatoryref02_length.f k (n : Int) (i : Int) = some ((lenW n i : Nat) : Int) := by
  intro d
  induction d with
  | zero => intro k n i h1 h2; omega
  | succ d ih =>
    intro k n i h1 h2 h3 h4 hk
    obtain ⟨k, rfl⟩ : ∃ q, k = q + 1 := ⟨k - 1, by omega⟩
    rw [observatoryref02_length.f]
    by_cases h : n ≤ 1
    · rw [if_pos (by omega), lenW_one n i h]; rfl
    · have hb := half_bounds h
      rw [if_neg (by omega), rhalf_f n h4 k (by omega)]
      simp only [bindS]
      by_cases hi : i < halfN n
      · have hle := lenW_le (halfN n) (halfN n) i (Nat.le_refl _)
        rw [if_pos (by omega), ih k (halfN n) i (by omega) (by omega) hi (by omega) (by omega), lenW_left n i h hi]
        simp only [bindS]
        congr 1
        unfold wrap64; omega
      · have hle := lenW_le (n - halfN n) (n - halfN n) (i - halfN n) (Nat.le_refl _)
        rw [if_neg (by omega), show wrap64 ((n : Int) - ((halfN n : Nat) : Int)) = ((n - halfN n : Nat) : Int) by unfold wrap64; omega, show wrap64 ((i : Int) - ((halfN n : Nat) : Int)) = ((i - halfN n : Nat) : Int) by unfold wrap64; omega,
          ih k (n - halfN n) (i - halfN n) (by omega) (by omega) (by omega) (by omega) (by omega), lenW_right n i h hi]
        simp only [bindS]
        congr 1
        unfold wrap64; omega
theorem rlong_f : ∀ (d k n m : Nat) (wh : Bool), n ≤ d → 1 ≤ m → m ≤ n → n ≤ 1000000 → 30 + d < k → observatoryref02_long.f k (n : Int) (m : Int) wh = some ((longW n m wh : Nat) : Int) := by
  intro d
  induction d with
  | zero => intro k n m wh h1 h2; omega
  | succ d ih =>
    intro k n m wh h1 h2 h3 h4 hk
    obtain ⟨k, rfl⟩ : ∃ q, k = q + 1 := ⟨k - 1, by omega⟩
    rw [observatoryref02_long.f]
    by_cases hm : m = n
    · subst hm; rw [if_pos rfl, longW_all]; cases wh <;> rfl
    · have h : ¬ n ≤ 1 := by omega
      have hb := half_bounds h
      rw [if_neg (by omega), rhalf_f n h4 k (by omega)]
      simp only [bindS]
      by_cases hi : m ≤ halfN n
      · have hle := longW_le (halfN n) (halfN n) m wh (Nat.le_refl _) h2 hi
        rw [if_pos (by omega), ih k (halfN n) m wh (by omega) h2 hi (by omega) (by omega), longW_left n m wh hm h hi]
        simp only [bindS]
        congr 1
        unfold wrap64; omega
      · have hle := longW_le (n - halfN n) (n - halfN n) (m - halfN n) false (Nat.le_refl _) (by omega) (by omega)
        rw [if_neg (by omega), show wrap64 ((n : Int) - ((halfN n : Nat) : Int)) = ((n - halfN n : Nat) : Int) by unfold wrap64; omega, show wrap64 ((m : Int) - ((halfN n : Nat) : Int)) = ((m - halfN n : Nat) : Int) by unfold wrap64; omega,
          ih k (n - halfN n) (m - halfN n) false (by omega) (by omega) (by omega) (by omega) (by omega), longW_right n m wh hm h hi]
        simp only [bindS]
        congr 1
        unfold wrap64; omega
theorem eq_dec (s t : ByteArray) : (s.toList == t.toList) = decide (s = t) := toL_eq s t
theorem rCheck_f (k : Nat) (root : ByteArray) (n i : Int) (leaf : ByteArray) (p : List ByteArray) (hs : leaf.size ≤ 100) (hp : ∀ x ∈ p, x.size ≤ 100) (hpl : p.length ≤ 1000) (hk : 1100000 < k) :
    observatoryref02_Check.f k root n i leaf p = some (checkB root n i leaf p) := by
  unfold observatoryref02_Check.f
  rw [checkB_W]
  by_cases h1 : n > 1000000
  · rw [if_pos h1, if_pos h1]
  by_cases h2 : i < 0
  · rw [if_neg h1, if_neg h1, if_pos h2, if_pos h2]
  by_cases h3 : i ≥ n
  · rw [if_neg h1, if_neg h1, if_neg h2, if_neg h2, if_pos h3, if_pos h3]
  obtain ⟨N, rfl⟩ := Int.eq_ofNat_of_zero_le (show 0 ≤ n by omega)
  obtain ⟨I, rfl⟩ := Int.eq_ofNat_of_zero_le (show 0 ≤ i by omega)
  rw [if_neg h1, if_neg h1, if_neg h2, if_neg h2, if_neg h3, if_neg h3, rlength_f N k N I (Nat.le_refl _) (by omega) (by omega) (by omega) (by omega), Int.toNat_natCast, Int.toNat_natCast]
  simp only [bindS]
  by_cases h4 : p.length = lenW N I
  · rw [if_pos (by omega), rdig_f k p (by omega) (by omega)]
    simp only [bindS]
    by_cases h5 : p.all isB = true
    · rw [if_pos h5, refIs_f k leaf (by omega), if_neg (by rw [h5]; decide)]
      simp only [bindS]
      by_cases h6 : isB leaf = true
      · rw [if_pos h6, if_neg (by rw [h6]; decide), (rup_f N k N I leaf p (Nat.le_refl _) (by omega) (by omega) (by omega) hs hp h4 (by omega) (by omega)).1]
        simp only [bindS]
        rw [eq_dec, decide_eq_true h4, Bool.true_and]
      · rw [if_neg h6, if_pos (by simpa using h6)]
    · rw [if_neg h5, if_pos (by simpa using h5)]
  · rw [if_neg (by omega), decide_eq_false h4, Bool.false_and]
    split
    · rfl
    · split <;> rfl
theorem rExtends_f (k : Nat) (old : ByteArray) (m : Int) (root : ByteArray) (n : Int) (p : List ByteArray) (hs : old.size ≤ 100) (hp : ∀ x ∈ p, x.size ≤ 100) (hpl : p.length ≤ 1000) (hk : 1100001 < k) :
    observatoryref02_Extends.f k old m root n p = some (extB old m root n p) := by
  obtain ⟨k, rfl⟩ : ∃ q, k = q + 1 := ⟨k - 1, by omega⟩
  unfold observatoryref02_Extends.f
  rw [extB_W]
  by_cases h1 : m < 0
  · rw [if_pos h1, if_pos h1]; simp only [observatoryref02_Extends.j0, if_true]
  by_cases h2 : m > n
  · rw [if_neg h1, if_neg h1, if_pos h2, if_pos h2]; simp only [observatoryref02_Extends.j0, if_true]
  by_cases h3 : n > 1000000
  · rw [if_neg h1, if_neg h1, if_neg h2, if_neg h2, if_pos h3, if_pos h3]; simp only [observatoryref02_Extends.j0, if_true]
  rw [if_neg h1, if_neg h1, if_neg h2, if_neg h2, if_neg h3, if_neg h3, rdig_f (k + 1) [old, root] (by simp) (by simp; omega)]
  simp only [bindS]
  have ea : [old, root].all isB = (isB old && isB root) := by simp
  rw [ea]
  by_cases h5 : (isB old && isB root) = true
  · rw [if_pos h5, rdig_f (k + 1) p (by omega) (by omega)]
    simp only [bindS]
    by_cases h4 : p.all isB = true
    · rw [h4, if_neg (by decide), if_neg (by rw [h5]; decide)]
      simp only [observatoryref02_Extends.j0, Bool.not_true, Bool.false_eq_true, if_false]
      by_cases h6 : m = 0
      · rw [if_pos h6, if_pos h6]
        by_cases h7 : p.length = 0
        · rw [if_pos (by omega), rempty_f k (by omega), decide_eq_true h7, Bool.true_and]
          simp only [bindS]
          by_cases h8 : old = emptyB
          · rw [if_pos (by rw [h8]), decide_eq_true h8, Bool.true_and]
            by_cases h9 : n > 0
            · rw [if_pos h9, decide_eq_true h9, Bool.true_or]
            · rw [if_neg h9, decide_eq_false h9, Bool.false_or, eq_dec]
          · rw [if_neg (fun e => h8 (toL_inj.1 e)), decide_eq_false h8, Bool.false_and]
        · rw [if_neg (by omega), decide_eq_false h7, Bool.false_and]
      · rw [if_neg h6, if_neg h6]
        obtain ⟨N, rfl⟩ := Int.eq_ofNat_of_zero_le (show 0 ≤ n by omega)
        obtain ⟨M, rfl⟩ := Int.eq_ofNat_of_zero_le (show 0 ≤ m by omega)
        rw [Int.toNat_natCast, Int.toNat_natCast]
        by_cases h7 : M = N
        · subst h7
          rw [if_pos rfl, longW_all, bothW_all]
          simp only [if_true]
          simp only [decide_true, Bool.true_and]
          by_cases h8 : p.length = 0
          · rw [if_pos (by omega), eq_dec, decide_eq_true h8, Bool.true_and]
          · rw [if_neg (by omega), decide_eq_false h8, Bool.false_and]
        · rw [if_neg (by omega), rlong_f N k N M true (Nat.le_refl _) (by omega) (by omega) (by omega) (by omega)]
          simp only [bindS]
          by_cases h8 : p.length = longW N M true
          · rw [if_pos (by omega), (rboth_f N k N M true old p (Nat.le_refl _) (by omega) (by omega) (by omega) hs hp h8 (by omega) (by omega)).1, decide_eq_true h8, Bool.true_and]
            simp only [bindS]
            by_cases h9 : (bothW N M true old p).1 = old
            · rw [if_pos (by rw [h9]), decide_eq_true h9, Bool.true_and, eq_dec]
            · rw [if_neg (fun e => h9 (toL_inj.1 e)), decide_eq_false h9, Bool.false_and]
          · rw [if_neg (by omega), decide_eq_false h8, Bool.false_and]
    · have h4' : p.all isB = false := by simpa using h4
      rw [h4', if_pos rfl]
      simp only [observatoryref02_Extends.j0, Bool.not_false, if_true]
  · have h5' : (isB old && isB root) = false := by simpa using h5
    rw [if_neg h5, if_pos h5']
    simp only [observatoryref02_Extends.j0, if_true]
    split <;> rfl

end Go.Proofs.YtapnakfhkdcfeaaGreatDoor.Pure
