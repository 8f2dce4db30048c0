/-
  The law of lists, in plain terms: a list's joined text tells the list; one-element lists that differ behind the sixth byte have different digests.
-/
import Derived.Test.YtdflcicgniediaaDoorPuC
set_option linter.unusedVariables false
set_option linter.unusedSimpArgs false
namespace Go.Proofs.YtdflcicgniediaaDoor.Pure
open Go.RowKit Go.Proofs.YtdflcicgniediaaDoor.P Go.Proofs.YtdflcicgniediaaDoor.Dg Go.Proofs.YtdflcicgniediaaDoorW.PrintWords Go.Proofs.YtdflcicgniediaaDoorW.PrintMore
attribute [local irreducible] sumB

theorem dec_ne (u : Nat) : ∀ c ∈ Lib.decDigits u, c ≠ 58 := by
  have one : ∀ d, d < 10 → UInt8.ofNat (48 + d) ≠ 58 := by decide
  induction u using Nat.strongRecOn with
  | _ u ih =>
    intro c hc
    rw [Lib.decDigits] at hc
    by_cases h : u < 10
    · rw [dif_pos h, List.mem_singleton] at hc
      subst hc; exact one u h
    · rw [dif_neg h, List.mem_append, List.mem_singleton] at hc
      rcases hc with hc | rfl
      · exact ih (u / 10) (by omega) c hc
      · exact one _ (Nat.mod_lt _ (by decide))
def valOf (l : List UInt8) : Nat := l.foldl (fun a c => a * 10 + (c.toNat - 48)) 0
theorem val_dec (u : Nat) : valOf (Lib.decDigits u) = u := by
  have one : ∀ d, d < 10 → (UInt8.ofNat (48 + d)).toNat - 48 = d := by decide
  induction u using Nat.strongRecOn with
  | _ u ih =>
    rw [Lib.decDigits]
    by_cases h : u < 10
    · rw [dif_pos h]
      simp only [valOf, List.foldl_cons, List.foldl_nil]
      rw [one u h]; omega
    · rw [dif_neg h]
      have := ih (u / 10) (by omega)
      unfold valOf at this ⊢
      rw [List.foldl_append, this]
      simp only [List.foldl_cons, List.foldl_nil]
      rw [one _ (Nat.mod_lt _ (by decide))]; omega
theorem dec_inj {a b : Nat} (h : Lib.decDigits a = Lib.decDigits b) : a = b := by rw [← val_dec a, h, val_dec]

theorem split58 : ∀ (D E x y : List UInt8), (∀ c ∈ D, c ≠ 58) → (∀ c ∈ E, c ≠ 58) → D ++ 58 :: x = E ++ 58 :: y → D = E ∧ x = y
  | [], [], x, y, _, _, h => by simpa using h
  | [], e :: E, x, y, _, hE, h => by
    simp at h
    exact absurd h.1.symm (hE e List.mem_cons_self)
  | d :: D, [], x, y, hD, _, h => by
    simp at h
    exact absurd h.1 (hD d List.mem_cons_self)
  | d :: D, e :: E, x, y, hD, hE, h => by
    simp only [List.cons_append, List.cons.injEq] at h
    have := split58 D E x y (fun c hc => hD c (List.mem_cons_of_mem _ hc)) (fun c hc => hE c (List.mem_cons_of_mem _ hc)) h.2
    rw [h.1, this.1, this.2]; exact ⟨rfl, rfl⟩

theorem piece_split (s t : ByteArray) (r q : List UInt8) (h : piece s ++ r = piece t ++ q) : s = t ∧ r = q := by
  unfold piece at h
  rw [Lib.itoa_nonneg, Lib.itoa_nonneg] at h
  have h2 := split58 (Lib.decDigits s.size) (Lib.decDigits t.size) (s.data.toList ++ r) (t.data.toList ++ q) (dec_ne _) (dec_ne _) (by simpa using h)
  have h3 := dec_inj h2.1
  have h4 := List.append_inj h2.2 (by rw [← Lib.size_eq, ← Lib.size_eq, h3])
  exact ⟨bytes_ext h4.1, h4.2⟩
theorem piece_pos (s : ByteArray) : 0 < (piece s).length := by rw [piece_length]; omega
theorem joinL_cons (s : ByteArray) (l : List ByteArray) : joinL (s :: l) = piece s ++ joinL l := by simp [joinL]
theorem joinL_inj : ∀ (l m : List ByteArray), joinL l = joinL m → l = m
  | [], [], _ => rfl
  | [], t :: m, h => by
    have := congrArg List.length h
    rw [joinL_cons, List.length_append] at this
    have h2 := piece_pos t
    simp only [joinL, List.flatMap_nil, List.length_nil] at this
    omega
  | s :: l, [], h => by
    have := congrArg List.length h
    rw [joinL_cons, List.length_append] at this
    have h2 := piece_pos s
    simp only [joinL, List.flatMap_nil, List.length_nil] at this
    omega
  | s :: l, t :: m, h => by
    rw [joinL_cons, joinL_cons] at h
    have h2 := piece_split s t _ _ h
    rw [h2.1, joinL_inj l m h2.2]
theorem joinB_inj {l m : List ByteArray} (h : joinB l = joinB m) : l = m := joinL_inj l m (congrArg (fun s : ByteArray => s.data.toList) h)
theorem joinB_eq (l m : List ByteArray) : ((joinB l).toList == (joinB m).toList) = decide (l = m) := by
  rw [toL_eq]
  by_cases h : l = m
  · rw [decide_eq_true h, decide_eq_true (by rw [h])]
  · rw [decide_eq_false h, decide_eq_false (fun e => h (joinB_inj e))]

theorem same_l0 (l m : List ByteArray) (hlm : l.length = m.length) (hl : l.length ≤ 9223372036854775806) (d : Nat) : ∀ (k i : Nat), i + d = l.length → d < k →
    observatoryref01_Same.l0 k l m (i : Int) = some (decide (l.drop i = m.drop i)) := by
  induction d with
  | zero =>
    intro k i hi hk
    obtain ⟨k, rfl⟩ : ∃ q, k = q + 1 := ⟨k - 1, by omega⟩
    simp only [observatoryref01_Same.l0]
    rw [if_neg (by omega), List.drop_eq_nil_of_le (by omega), List.drop_eq_nil_of_le (by omega)]; rfl
  | succ d ih =>
    intro k i hi hk
    obtain ⟨k, rfl⟩ : ∃ q, k = q + 1 := ⟨k - 1, by omega⟩
    have h1 : i < l.length := by omega
    have h2 : i < m.length := by omega
    simp only [observatoryref01_Same.l0]
    rw [if_pos (by omega), if_pos (by omega), if_pos (by omega), rdOf_nat _ _ _ h1, rdOf_nat _ _ _ h2, List.drop_eq_getElem_cons h1, List.drop_eq_getElem_cons h2]
    by_cases h : l[i] = m[i]
    · rw [if_pos (by rw [h]), show wrap64 ((i : Int) + 1) = ((i + 1 : Nat) : Int) by unfold wrap64; omega, ih k (i + 1) (by omega) (by omega)]
      congr 1
      simp only [List.cons.injEq, h, true_and]
    · rw [if_neg (fun e => h (toL_inj.1 e))]
      congr 1
      simp only [List.cons.injEq, h, false_and, decide_false]
theorem same_f (k : Nat) (l m : List ByteArray) (hl : l.length ≤ 9223372036854775806) (hk : l.length < k) : observatoryref01_Same.f k l m = some (decide (l = m)) := by
  unfold observatoryref01_Same.f
  by_cases h : l.length = m.length
  · rw [if_pos (by omega)]
    exact same_l0 l m h hl l.length k 0 (by omega) hk
  · rw [if_neg (by omega), decide_eq_false (fun e => h (by rw [e]))]

theorem byteN_two (a b : UInt8) (l : List UInt8) (i : Nat) : byteN (a :: b :: l) (i + 2) = byteN l i := rfl

theorem tail_block (L M : List UInt8) (h : L.length = M.length) (hlo : 8 ≤ L.length) (hhi : L.length ≤ 11) (low : ∀ i, i < 8 → byteN L i = byteN M i) (hs : sumL L = sumL M) : L = M := by
  have hb := one_block L M h (by omega) 1 (by omega) (fun k hk => by
    rcases Nat.eq_zero_or_pos k with h0 | h0
    · rw [h0]; exact blockTo_congr _ _ 0 8 fun i hi => by rw [Nat.zero_add]; exact low i hi
    · exact blockTo_congr _ _ (8 * k) 8 fun i hi => by rw [byteN_out L _ (by omega), byteN_out M _ (by omega)]) hs
  have hi2 := blockTo_bytes L M 8 8 8 hb
  refine eq_of_bytes _ _ h fun i hi => ?_
  by_cases h8 : i < 8
  · exact low i h8
  · have := hi2 (i - 8) (by omega)
    rwa [show 8 + (i - 8) = i by omega] at this
theorem low_six (c : UInt8) (x y : List UInt8) (h6 : ∀ i, i < 6 → byteN x i = byteN y i) : ∀ i, i < 8 → byteN (c :: 58 :: x) i = byteN (c :: 58 :: y) i
  | 0, _ => rfl
  | 1, _ => rfl
  | i + 2, hi => h6 i (by omega)

theorem jl1 (z : ByteArray) (hz : z.size ≤ 9) : joinL [z] = UInt8.ofNat (48 + z.size) :: 58 :: z.data.toList := by
  rw [joinL_cons, piece, itoa_small _ (by omega)]
  simp [joinL]
theorem ll1 (z : ByteArray) (hz : z.size ≤ 9) : (joinL [z]).length = z.size + 2 := by
  rw [jl1 z hz, List.length_cons, List.length_cons, ← Lib.size_eq]
theorem joinB_data (l : List ByteArray) : (joinB l).data.toList = joinL l := rfl
theorem sum_join1 (x y : ByteArray) (hs : sumB (joinB [x]) = sumB (joinB [y])) : sumL (joinL [x]) = sumL (joinL [y]) := by
  have := sumB_inj hs
  rw [joinB_data, joinB_data] at this
  exact this
theorem one_elem (x y : ByteArray) (h : x.size = y.size) (h9 : x.size ≤ 9) (h6 : ∀ i, i < 6 → byteN x.data.toList i = byteN y.data.toList i) (hs : sumL (joinL [x]) = sumL (joinL [y])) : joinL [x] = joinL [y] := by
  have hx := ll1 x h9
  have hy := ll1 y (by omega)
  by_cases h5 : x.size ≤ 5
  · exact short_inj _ _ (by omega) (by omega) hs
  · refine tail_block _ _ (by omega) (by omega) (by omega) ?_ hs
    rw [jl1 x h9, jl1 y (by omega), h]
    exact low_six _ _ _ h6
theorem one_elem' (x y : ByteArray) (h : x.size = y.size) (h9 : x.size ≤ 9) (h6 : ∀ i, i < 6 → byteN x.data.toList i = byteN y.data.toList i) (hs : sumB (joinB [x]) = sumB (joinB [y])) : x = y := by
  have h2 := joinL_inj [x] [y] (one_elem x y h h9 h6 (sum_join1 x y hs))
  exact (List.cons.inj h2).1

theorem DigestLists : ∀ (l m : List ByteArray) (a b : ByteArray), l.length ≤ 140737488351232 → m.length ≤ 140737488351232 → a.size ≤ 140737488351232 → b.size ≤ 140737488351232 → ∃ k, observatorylaw01_DigestLists.f k l m a b = some true := by
  intro l m a b hl hm ha hb
  obtain ⟨k, hk⟩ : ∃ k, k = l.length + m.length + 20000 := ⟨_, rfl⟩
  refine ⟨k + 3, ?_⟩
  unfold observatorylaw01_DigestLists.f
  rw [head_ev _ (by omega), bindS, few_f _ _ _ (by omega) (by omega), bindS]
  have skip : ∀ k x, observatorylaw01_DigestLists.j0 (k + 1) l m a b x true = some x := fun k x => by simp only [observatorylaw01_DigestLists.j0, if_true]
  by_cases h1 : fewB l 200 = true
  · rw [if_pos h1, few_f _ _ _ (by omega) (by omega), bindS]
    by_cases h2 : fewB m 200 = true
    · obtain ⟨j1, n1, s1⟩ := fewB_out l 200 (by decide) h1
      obtain ⟨j2, n2, s2⟩ := fewB_out m 200 (by decide) h2
      have z1 := joinB_size l
      have z2 := joinB_size m
      rw [h2, Bool.not_true]
      have last : observatorylaw01_DigestLists.j2 (k + 1) a b true false = some true := by
        obtain ⟨n, hn, h3, h4, h5⟩ : ∃ n : Nat, mn (mn (a.size : Int) (b.size : Int)) 9 = (n : Int) ∧ n ≤ a.size ∧ n ≤ b.size ∧ n ≤ 9 := ⟨min (min a.size b.size) 9, by unfold mn; split <;> split <;> omega, by omega, by omega, by omega⟩
        obtain ⟨p, hp, h6, h7⟩ : ∃ p : Nat, mn (n : Int) 6 = (p : Int) ∧ p ≤ n ∧ (p = n ∨ p = 6) := ⟨min n 6, by unfold mn; split <;> omega, by omega, by omega⟩
        have sX : (a.extract 0 n).size = n := by rw [ByteArray.size_extract]; omega
        have sP : ((a.extract 0 n).extract 0 p).size = p := by rw [ByteArray.size_extract]; omega
        have sQ : (b.extract p n).size = n - p := by rw [ByteArray.size_extract]; omega
        have sY : ((a.extract 0 n).extract 0 p ++ b.extract p n).size = n := by rw [ByteArray.size_append]; omega
        simp only [observatorylaw01_DigestLists.j2, Bool.false_eq_true, if_false, hn, hp, Int.toNat_natCast, if_true]
        rw [if_pos (by omega), if_pos (by omega), if_pos (by omega), if_pos (by omega), if_pos (by omega), if_pos (by omega), if_pos (by omega)]
        have small : ∀ z : ByteArray, z.size = n → (joinL [z]).length ≤ 140737488355328 := by
          intro z hz
          have := join_le [z] 200 (by decide) (fun s hs => by rw [List.mem_singleton] at hs; subst hs; omega)
          simp only [List.length_cons, List.length_nil] at this; omega
        rw [list_f _ (small _ sX), bindS, list_f _ (small _ sY), bindS, toL_eq, toL_eq]
        congr 1
        by_cases e : a.extract 0 n = (a.extract 0 n).extract 0 p ++ b.extract p n
        · rw [← e, decide_eq_true rfl, decide_eq_true rfl]; rfl
        · rw [decide_eq_false e, decide_eq_false (fun h => e (one_elem' _ _ (by omega) (by omega) (fun i hi => ?_) h))]; rfl
          by_cases hin : i < p
          · have d1 : ((a.extract 0 n).extract 0 p ++ b.extract p n).data.toList = (a.extract 0 n).data.toList.take p ++ (b.extract p n).data.toList := by
              rw [ByteArray.data_append, Array.toList_append]
              congr 1
              simp [List.take_take]
            rw [d1]
            have q1 : (a.extract 0 n).data.toList.length = n := by rw [← Lib.size_eq, sX]
            simp only [byteN, List.getD_eq_getElem?_getD]
            rw [List.getElem?_append_left (by rw [List.length_take]; omega), List.getElem?_take, if_pos hin]
          · rw [byteN_out _ _ (by rw [← Lib.size_eq]; omega), byteN_out _ _ (by rw [← Lib.size_eq]; omega)]
      have mid : observatorylaw01_DigestLists.j1 (k + 2) l m a b true (joinB l) (joinB m) false = some true := by
        show observatorylaw01_DigestLists.j1 ((k + 1) + 1) l m a b true (joinB l) (joinB m) false = some true
        simp only [observatorylaw01_DigestLists.j1, Bool.false_eq_true, if_false]
        by_cases q1 : ((joinB l).size : Int) ≤ 7
        · rw [if_pos q1]
          by_cases q2 : ((joinB m).size : Int) ≤ 7
          · rw [if_pos q2, list_f _ (by omega), bindS, list_f _ (by omega), bindS, same_f _ _ _ (by omega) (by omega), bindS, toL_eq]
            have : decide (sumB (joinB l) = sumB (joinB m)) = decide (l = m) := by
              by_cases e : l = m
              · rw [decide_eq_true e, decide_eq_true (by rw [e])]
              · rw [decide_eq_false e, decide_eq_false (fun h => e (joinB_inj (short_eq (by omega) (by omega) h)))]
            rw [this, bne_self_eq_false]; exact last
          · rw [if_neg q2]; exact last
        · rw [if_neg q1]; exact last
      show observatorylaw01_DigestLists.j0 ((k + 2) + 1) l m a b true false = some true
      simp only [observatorylaw01_DigestLists.j0, Bool.false_eq_true, if_false]
      rw [joined_f _ _ h1 (by omega), bindS, joined_f _ _ h2 (by omega), bindS, list_f _ (by omega), bindS, sum_f _ (by omega), bindS, if_pos rfl, same_f _ _ _ (by omega) (by omega), bindS, joinB_eq, bne_self_eq_false]
      exact mid
    · rw [Bool.not_eq_true] at h2; rw [h2]; exact skip _ _
  · rw [if_neg h1]; exact skip _ _

end Go.Proofs.YtdflcicgniediaaDoor.Pure
