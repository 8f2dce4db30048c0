/-
  noise.Tail in plain terms; NoiseTails.
-/
import Derived.Test.YtlhfgjblcckifaaGreatDoorNpA
import Derived.Test.YtlhfgjblcckifaaGreatDoorMgHead
import Derived.Test.YtlhfgjblcckifaaGreatDoorPx8
set_option linter.unusedVariables false
set_option linter.unusedSimpArgs false
namespace Go.Proofs.YtlhfgjblcckifaaGreatDoor.Pure
open Go.RowKit Go.Proofs.YtlhfgjblcckifaaGreatDoor.P Go.Proofs.YtlhfgjblcckifaaGreatDoor.Dg Go.Proofs.YtlhfgjblcckifaaGreatDoorW.PrintWords Go.Proofs.YtlhfgjblcckifaaGreatDoorW.PrintMore

theorem decN_ne (a : Nat) (h : a ≠ 0) : ¬ (decN a).toList = ([48] : List UInt8) := fun e => by
  rw [ByteArray.toList_eq] at e
  have : decN a = decN 0 := by rw [decN_zero]; exact ByteArray.ext (Array.toList_inj.1 e)
  exact h (decN_inj this)
/-- A quotient in lowest terms. -/
theorem low_dec (a b : Nat) (ha : a < 1000000000) (hb1 : 1 ≤ b) (hb : b < 1000000000) : rational_lowest.f false (decN a) (decN b) = some (false, decN (a / Nat.gcd a b), decN (b / Nat.gcd a b)) := by
  by_cases h0 : a = 0
  · subst h0
    rw [low0, Nat.gcd_zero_left, Nat.zero_div, Nat.div_self (by omega)]
  · unfold rational_lowest.f
    have hg1 : 1 ≤ Nat.gcd a b := Nat.gcd_pos_of_pos_right a (by omega)
    have hg : Nat.gcd a b < 1000000000 := Nat.lt_of_le_of_lt (Nat.gcd_le_right a (by omega)) hb
    rw [if_neg (decN_ne a h0), gcd_dec a b ha hb, bindS]
    dsimp only
    rw [div_dec a _ ha hg1 hg, bindS, div_dec b _ hb hg1 hg, bindS]
/-- The counts of the values from x on. -/
def geN (l : List (Int × Nat)) (x : Int) : Nat := (l.map fun p => if p.1 ≥ x then p.2 else 0).sum
def allN (l : List (Int × Nat)) : Nat := (l.map fun p => p.2).sum
theorem geN_le (l : List (Int × Nat)) (x : Int) : geN l x ≤ allN l := by
  unfold geN allN
  induction l with
  | nil => simp
  | cons p l ih =>
    simp only [List.map_cons, List.sum_cons]
    split <;> omega
theorem geN_succ (l : List (Int × Nat)) (x : Int) : geN l (x + 1) ≤ geN l x := by
  unfold geN
  induction l with
  | nil => simp
  | cons p l ih =>
    simp only [List.map_cons, List.sum_cons]
    split <;> split <;> omega
theorem tail_l0 {t : List Int} (ht : validT t = true) (n : Nat) (hn : n ≤ 6) (x : Int) (d : Nat) : ∀ (j s a : Nat), j + d = (Nz.distN t n).length →
    s + geN ((Nz.distN t n).drop j) x = geN (Nz.distN t n) x → a + allN ((Nz.distN t n).drop j) = allN (Nz.distN t n) → s ≤ a →
    ∀ k, noise_Tail.l0 (k + d + 2) x (decN s) (decN a) (outN t n) (((Nz.distN t n).length : Nat) : Int) (j : Int) = some (false, decN (geN (Nz.distN t n) x / Nat.gcd (geN (Nz.distN t n) x) (allN (Nz.distN t n))), decN (allN (Nz.distN t n) / Nat.gcd (geN (Nz.distN t n) x) (allN (Nz.distN t n))), 0) := by
  obtain ⟨h1, h9, htt⟩ := tape_of ht
  have hlen := dist_len t n
  have hall : allN (Nz.distN t n) = t.length ^ n := Nz.total htt n
  have hp := pow_small ht n (by omega)
  have hp1 : 1 ≤ t.length ^ n := Nat.pow_pos (by omega)
  have hge := geN_le (Nz.distN t n) x
  induction d with
  | zero =>
    intro j s a hj hs ha hsa k
    rw [List.drop_eq_nil_of_le (by omega)] at hs ha
    have e1 : s = geN (Nz.distN t n) x := hs
    have e2 : a = allN (Nz.distN t n) := ha
    rw [e1, e2]
    have := tail_end k x (geN (Nz.distN t n) x) (allN (Nz.distN t n)) (outN t n) (by omega) (by omega) (by omega) _ _ _ (low_dec _ _ (by omega) (by omega) (by omega))
    rw [out_len] at this
    rw [show (j : Int) = (((Nz.distN t n).length : Nat) : Int) by omega]
    exact this
  | succ d ih =>
    intro j s a hj hs ha hsa k
    have hj' : j < (Nz.distN t n).length := by omega
    have hget : (outN t n)[j]? = some ⟨(Nz.distN t n)[j].1, decN (Nz.distN t n)[j].2⟩ := by
      unfold outN
      rw [List.getElem?_map, List.getElem?_eq_getElem hj']; rfl
    rw [List.drop_eq_getElem_cons hj'] at hs ha
    unfold geN at hs
    unfold allN at ha
    rw [List.map_cons, List.sum_cons] at hs ha
    have hs' : s + ((if (Nz.distN t n)[j].1 ≥ x then (Nz.distN t n)[j].2 else 0) + geN ((Nz.distN t n).drop (j + 1)) x) = geN (Nz.distN t n) x := hs
    have ha' : a + ((Nz.distN t n)[j].2 + allN ((Nz.distN t n).drop (j + 1))) = allN (Nz.distN t n) := ha
    have hgd := geN_le ((Nz.distN t n).drop (j + 1)) x
    have hsc : s + (Nz.distN t n)[j].2 < 1000000000 := by omega
    have st := tail_step (k + d + 2) x s a (outN t n) j (Nz.distN t n)[j].1 (Nz.distN t n)[j].2 hget (by rw [out_len]; omega) (by omega) hsc
    rw [out_len] at st
    refine st.trans ?_
    refine ih (j + 1) _ _ (by omega) ?_ (by omega) (by split <;> omega) k
    split
    · rename_i h; rw [if_pos h] at hs'; omega
    · rename_i h; rw [if_neg h] at hs'; omega
/-- noise.Tail at a well-formed tape. -/
theorem tail_ok {t : List Int} (ht : validT t = true) (n : Nat) (hn : n ≤ 6) (x : Int) (k : Nat) (hk : 1000 < k) : noise_Tail.f k t (n : Int) x = some (false, decN (geN (Nz.distN t n) x / Nat.gcd (geN (Nz.distN t n) x) (allN (Nz.distN t n))), decN (allN (Nz.distN t n) / Nat.gcd (geN (Nz.distN t n) x) (allN (Nz.distN t n))), 0) := by
  have hlen := dist_len t n
  obtain ⟨q, rfl⟩ : ∃ q, k = q + (Nz.distN t n).length + 2 := ⟨k - (Nz.distN t n).length - 2, by omega⟩
  unfold noise_Tail.f
  rw [dist_ok ht n (by omega), bindS, if_pos rfl]
  dsimp only
  rw [out_len, ← decN_zero]
  exact tail_l0 ht n hn x (Nz.distN t n).length 0 0 0 (by omega) (by rw [List.drop_zero, Nat.zero_add]) (by rw [List.drop_zero, Nat.zero_add]) (Nat.le_refl _) q
theorem tail_bad {t : List Int} {a : Int} (h : validT t = false ∨ a < 0 ∨ 40 < a) (x : Int) (k : Nat) : noise_Tail.f k t a x = some (false, ⟨#[]⟩, ⟨#[]⟩, 1) := by
  unfold noise_Tail.f
  rw [dist_bad h, bindS, if_neg (by simp)]
theorem of_dec (k a b : Nat) (ha : a < 1000000000) (hb1 : 1 ≤ b) (hb : b < 1000000000) (hk : 0 < k) : rational_Of.f k (a : Int) (b : Int) = some (false, decN (a / Nat.gcd a b), decN (b / Nat.gcd a b), 0) := by
  obtain ⟨q, rfl⟩ : ∃ q, k = q + 1 := ⟨k - 1, by omega⟩
  have e1 : rational_abs.f (a : Int) = some (decN a) := by unfold rational_abs.f; rw [if_pos ⟨by omega, by omega⟩, Int.toNat_natCast]
  have e2 : rational_abs.f (b : Int) = some (decN b) := by unfold rational_abs.f; rw [if_pos ⟨by omega, by omega⟩, Int.toNat_natCast]
  unfold rational_Of.f
  rw [e1, bindS, e2, bindS, show (decide ((a : Int) < 0) != decide ((b : Int) < 0)) = false by rw [decide_eq_false (by omega), decide_eq_false (by omega)]; rfl, make_dec q a b ha hb1 hb _ _ _ (low_dec a b ha hb1 hb), bindS]
theorem til_l0 {t : List Int} (ht : validT t = true) (n : Nat) (hn : n ≤ 6) (x : Int) (y1 : Bool) (y2 y3 : ByteArray) (r : Int) (d : Nat) : ∀ (j s a : Nat), j + d = (Nz.distN t n).length →
    s + geN ((Nz.distN t n).drop j) x = geN (Nz.distN t n) x → a + allN ((Nz.distN t n).drop j) = allN (Nz.distN t n) → s ≤ a → rational_Compare.f y1 y2 y3 false (decN (geN (Nz.distN t n) x / Nat.gcd (geN (Nz.distN t n) x) (allN (Nz.distN t n)))) (decN (allN (Nz.distN t n) / Nat.gcd (geN (Nz.distN t n) x) (allN (Nz.distN t n)))) = some r → r ≤ 0 →
    ∀ k, observatorylaw17_NoiseTails.l0 (k + d + 2) x true (outN t n) 0 0 (s : Int) (a : Int) (j : Int) false (decN (geN (Nz.distN t n) x / Nat.gcd (geN (Nz.distN t n) x) (allN (Nz.distN t n)))) (decN (allN (Nz.distN t n) / Nat.gcd (geN (Nz.distN t n) x) (allN (Nz.distN t n)))) y1 y2 y3 = some true := by
  obtain ⟨h1, h9, htt⟩ := tape_of ht
  have hlen := dist_len t n
  have hall : allN (Nz.distN t n) = t.length ^ n := Nz.total htt n
  have hp := pow_small ht n (by omega)
  have hp1 : 1 ≤ t.length ^ n := Nat.pow_pos (by omega)
  have hge := geN_le (Nz.distN t n) x
  induction d with
  | zero =>
    intro j s a hj hs ha hsa hc hr k
    rw [List.drop_eq_nil_of_le (by omega)] at hs ha
    have e1 : s = geN (Nz.distN t n) x := hs
    have e2 : a = allN (Nz.distN t n) := ha
    rw [e1, e2]
    rw [observatorylaw17_NoiseTails.l0, out_len, if_neg (by omega), of_dec _ _ _ (by omega) (by omega) (by omega) (by omega), bindS, if_pos rfl, if_pos rfl, if_pos rfl, if_pos rfl, if_pos (by simp), hc, bindS, decide_eq_true hr]
  | succ d ih =>
    intro j s a hj hs ha hsa hc hr k
    have hj' : j < (Nz.distN t n).length := by omega
    have hI := int_out ht n (by omega) j hj'
    have hV := val_out t n j hj'
    rw [List.drop_eq_getElem_cons hj'] at hs ha
    unfold geN at hs
    unfold allN at ha
    rw [List.map_cons, List.sum_cons] at hs ha
    have hs' : s + ((if (Nz.distN t n)[j].1 ≥ x then (Nz.distN t n)[j].2 else 0) + geN ((Nz.distN t n).drop (j + 1)) x) = geN (Nz.distN t n) x := hs
    have ha' : a + ((Nz.distN t n)[j].2 + allN ((Nz.distN t n).drop (j + 1))) = allN (Nz.distN t n) := ha
    have hgd := geN_le ((Nz.distN t n).drop (j + 1)) x
    have hsc : s + (Nz.distN t n)[j].2 < 1000000000 := by omega
    rw [show k + (d + 1) + 2 = (k + d + 2) + 1 by omega, observatorylaw17_NoiseTails.l0, out_len, if_pos (by omega), if_pos (by omega), hI, bindS, hV, wrap_succ j (by omega),
      show wrap64 ((s : Int) + (((Nz.distN t n)[j].2 : Nat) : Int)) = ((s + (Nz.distN t n)[j].2 : Nat) : Int) by unfold wrap64; omega, show wrap64 ((a : Int) + (((Nz.distN t n)[j].2 : Nat) : Int)) = ((a + (Nz.distN t n)[j].2 : Nat) : Int) by unfold wrap64; omega]
    by_cases h : (Nz.distN t n)[j].1 ≥ x
    · rw [if_pos h] at hs' ⊢
      exact ih (j + 1) _ _ (by omega) (by omega) (by omega) (by omega) hc hr k
    · rw [if_neg h] at hs' ⊢
      exact ih (j + 1) _ _ (by omega) (by omega) (by omega) (by omega) hc hr k
theorem low_low (s a : Nat) (hs : s ≤ a) (ha1 : 1 ≤ a) (ha : a < 1000000000) : Low (s / Nat.gcd s a) (a / Nat.gcd s a) := by
  have hg : 1 ≤ Nat.gcd s a := Nat.gcd_pos_of_pos_right s (by omega)
  have hga : Nat.gcd s a ≤ a := Nat.gcd_le_right s (by omega)
  refine ⟨Nat.lt_of_le_of_lt (Nat.div_le_self _ _) (by omega), (Nat.one_le_div_iff (by omega)).2 hga, Nat.lt_of_le_of_lt (Nat.div_le_self _ _) ha, fun h => ?_, ?_⟩
  · have h0 : s = 0 := by
      have h1 := Nat.div_add_mod s (Nat.gcd s a)
      rw [h, Nat.mul_zero, Nat.zero_add, Nat.mod_eq_zero_of_dvd (Nat.gcd_dvd_left s a)] at h1
      exact h1.symm
    rw [h0, Nat.gcd_zero_left, Nat.div_self (by omega)]
  · rw [Nat.gcd_div (Nat.gcd_dvd_left s a) (Nat.gcd_dvd_right s a), Nat.div_self (by omega)]
theorem low_le (s s' a : Nat) (hs : s' ≤ s) (hsa : s ≤ a) (ha1 : 1 ≤ a) (ha : a < 1000000000) : ratI (s' / Nat.gcd s' a) (a / Nat.gcd s' a) (s / Nat.gcd s a) (a / Nat.gcd s a) ≤ 0 := by
  have l1 := low_low s' a (by omega) ha1 ha
  have l2 := low_low s a hsa ha1 ha
  unfold ratI
  by_cases h : s' / Nat.gcd s' a = s / Nat.gcd s a ∧ a / Nat.gcd s' a = a / Nat.gcd s a
  · rw [if_pos h]; decide
  · rw [if_neg h]
    have hne := cross_ne _ _ _ _ l1 l2 h
    have e1 : s' = s' / Nat.gcd s' a * Nat.gcd s' a := (Nat.div_mul_cancel (Nat.gcd_dvd_left s' a)).symm
    have e2 : a = a / Nat.gcd s' a * Nat.gcd s' a := (Nat.div_mul_cancel (Nat.gcd_dvd_right s' a)).symm
    have e3 : s = s / Nat.gcd s a * Nat.gcd s a := (Nat.div_mul_cancel (Nat.gcd_dvd_left s a)).symm
    have e4 : a = a / Nat.gcd s a * Nat.gcd s a := (Nat.div_mul_cancel (Nat.gcd_dvd_right s a)).symm
    have g1 : 0 < Nat.gcd s' a := Nat.gcd_pos_of_pos_right s' (by omega)
    have g2 : 0 < Nat.gcd s a := Nat.gcd_pos_of_pos_right s (by omega)
    have hle : s' * a ≤ s * a := Nat.mul_le_mul_right _ hs
    have k1 : s' * a = s' / Nat.gcd s' a * (a / Nat.gcd s a) * (Nat.gcd s' a * Nat.gcd s a) := by
      conv => lhs; rw [e1]; rhs; rw [e4]
      generalize s' / Nat.gcd s' a = x
      generalize a / Nat.gcd s a = y
      generalize Nat.gcd s' a = u
      generalize Nat.gcd s a = v
      simp only [Nat.mul_assoc, Nat.mul_comm, Nat.mul_left_comm]
    have k2 : s * a = s / Nat.gcd s a * (a / Nat.gcd s' a) * (Nat.gcd s' a * Nat.gcd s a) := by
      conv => lhs; rw [e3]; rhs; rw [e2]
      generalize s / Nat.gcd s a = x
      generalize a / Nat.gcd s' a = y
      generalize Nat.gcd s' a = u
      generalize Nat.gcd s a = v
      simp only [Nat.mul_assoc, Nat.mul_comm, Nat.mul_left_comm]
    rw [k1, k2] at hle
    have hle2 := Nat.le_of_mul_le_mul_right hle (Nat.mul_pos g1 g2)
    rw [if_pos (Nat.lt_of_le_of_ne hle2 hne)]
    decide

theorem NoiseTails : ∀ (l0 : List Int) (a1 a2 : Int), l0.length ≤ 140737488351232 → (Lit.int .i64 a1).wf = true → (Lit.int .i64 a2).wf = true → ∃ k, observatorylaw17_NoiseTails.f k l0 a1 a2 = some true := by
  intro t a x hl _ _
  obtain ⟨K, hK⟩ : ∃ K, K = 1001 + (Nz.distN t a.toNat).length + 2 := ⟨_, rfl⟩
  refine ⟨K + 1, ?_⟩
  unfold observatorylaw17_NoiseTails.f
  rw [head_f, bindS, few_f, bindS]
  by_cases hf : t.length ≤ 12 ∧ (a ≤ 6 ∨ a > 40)
  · rw [decide_eq_true hf, if_pos rfl]
    by_cases h1 : x < -10000
    · rw [if_pos h1, observatorylaw17_NoiseTails.j0, if_pos rfl]
    · rw [if_neg h1, observatorylaw17_NoiseTails.j0]
      by_cases h2 : x > 10000
      · rw [if_pos (decide_eq_true h2)]
      · rw [if_neg (by rw [decide_eq_false h2]; simp), show wrap64 (x + 1) = x + 1 by unfold wrap64; omega]
        rcases dist_cases t a hf.2 with ⟨e, hbad⟩ | ⟨n, rfl, hn, hv, e⟩
        · rw [e, tail_bad hbad, tail_bad hbad, bindS, bindS, bindS, if_neg (by simp), if_pos rfl, if_pos rfl, if_pos rfl]
          simp [ByteArray.toList_eq]
        · obtain ⟨t1, t9, htt⟩ := tape_of hv
          have hall : allN (Nz.distN t n) = t.length ^ n := Nz.total htt n
          have hp := pow_small hv n (by omega)
          have hp1 : 1 ≤ t.length ^ n := Nat.pow_pos (by omega)
          have g1 := geN_le (Nz.distN t n) x
          have g2 := geN_le (Nz.distN t n) (x + 1)
          have g3 := geN_succ (Nz.distN t n) x
          rw [Int.toNat_natCast] at hK
          rw [e, tail_ok hv n hn x K (by omega), tail_ok hv n hn (x + 1) K (by omega), bindS, bindS, bindS, if_pos rfl]
          dsimp only
          obtain ⟨q, hq⟩ : ∃ q, K = q + (Nz.distN t n).length + 2 := ⟨1001, by omega⟩
          rw [hq]
          exact til_l0 hv n hn x false _ _ _ (Nz.distN t n).length 0 0 0 (by omega) (by rw [List.drop_zero, Nat.zero_add]) (by rw [List.drop_zero, Nat.zero_add]) (Nat.le_refl _)
            (cmp_dec _ _ _ _ (low_low _ _ (by omega) (by omega) (by omega)) (low_low _ _ (by omega) (by omega) (by omega))) (low_le _ _ _ g3 g1 (by omega) (by omega)) q
  · rw [decide_eq_false hf, if_neg (by simp), observatorylaw17_NoiseTails.j0, if_pos rfl]
end Go.Proofs.YtlhfgjblcckifaaGreatDoor.Pure
