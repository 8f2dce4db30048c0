/-
  NoiseCases in plain terms.
-/
import Derived.Test.YtlhfgjblcckifaaGreatDoorNpA
import Derived.Test.YtlhfgjblcckifaaGreatDoorPx6
set_option linter.unusedVariables false
set_option linter.unusedSimpArgs false
namespace Go.Proofs.YtlhfgjblcckifaaGreatDoor.Pure
open Go.RowKit Go.Proofs.YtlhfgjblcckifaaGreatDoor.P Go.Proofs.YtlhfgjblcckifaaGreatDoor.Dg Go.Proofs.YtlhfgjblcckifaaGreatDoorW.PrintWords Go.Proofs.YtlhfgjblcckifaaGreatDoorW.PrintMore

/-- The sum of case c: its digits to the base of the tape's length choose the offsets. -/
def caseSum (t : List Int) : Nat → Nat → Int
  | 0, _ => 0
  | n + 1, c => t.getD (c % t.length) 0 + caseSum t n (c / t.length)
/-- How many of the first N cases have the sum v. -/
def wantN (t : List Int) (n : Nat) (v : Int) : Nat → Nat
  | 0 => 0
  | N + 1 => wantN t n v N + if caseSum t n N = v then 1 else 0

theorem want_block (t : List Int) (n : Nat) (v : Int) (m : Nat) : ∀ j, j ≤ t.length → wantN t (n + 1) v (t.length * m + j) = wantN t (n + 1) v (t.length * m) + ((t.take j).map fun o => if caseSum t n m = v - o then 1 else 0).sum
  | 0, _ => by simp
  | j + 1, h => by
    have ih := want_block t n v m j (by omega)
    have e1 : (t.length * m + j) % t.length = j := by rw [Nat.mul_add_mod]; exact Nat.mod_eq_of_lt (by omega)
    have e2 : (t.length * m + j) / t.length = m := by rw [Nat.mul_add_div (by omega), Nat.div_eq_of_lt (by omega), Nat.add_zero]
    rw [← Nat.add_assoc, wantN, ih, List.take_succ_eq_append_getElem (by omega), List.map_append, List.sum_append, caseSum, e1, e2, List.map_cons, List.map_nil, List.sum_cons, List.sum_nil, List.getD_eq_getElem?_getD, List.getElem?_eq_getElem (by omega), Option.getD_some]
    by_cases e : t[j] + caseSum t n m = v
    · rw [if_pos e, if_pos (by omega)]; omega
    · rw [if_neg e, if_neg (by omega)]; omega
theorem want_mul (t : List Int) (n : Nat) (v : Int) : ∀ m, wantN t (n + 1) v (t.length * m) = (t.map fun o => wantN t n (v - o) m).sum
  | 0 => by
    rw [Nat.mul_zero, wantN, Nz.sum_zero _ t fun o _ => by rw [wantN]]
  | m + 1 => by
    rw [Nat.mul_succ, want_block t n v m t.length (Nat.le_refl _), want_mul t n v m, List.take_length, ← Nz.sum_add]
    refine Nz.sum_congr _ _ t fun o _ => ?_
    rw [wantN]
theorem want_cnt (t : List Int) : ∀ (n : Nat) (v : Int), wantN t n v (t.length ^ n) = Nz.cntN t n v
  | 0, v => by
    show 0 + (if (0 : Int) = v then 1 else 0) = _
    unfold Nz.cntN
    by_cases h : v = 0
    · rw [if_pos h, if_pos h.symm]
    · rw [if_neg h, if_neg (fun e => h e.symm)]
  | n + 1, v => by
    rw [Nat.pow_succ, Nat.mul_comm, want_mul, Nz.cntN]
    exact Nz.sum_congr _ _ t fun o _ => want_cnt t n (v - o)
theorem want_le (t : List Int) (n : Nat) (v : Int) : ∀ N, wantN t n v N ≤ N
  | 0 => Nat.le_refl _
  | N + 1 => by
    have := want_le t n v N
    rw [wantN]
    split <;> omega

theorem tmod_nat (a : Int) (h : 0 ≤ a ∧ a ≤ 255) (n : Nat) (hn : 0 < n) : ∃ i : Nat, Int.tmod (wrap64 a) (n : Int) = (i : Int) ∧ i < n := by
  rw [show wrap64 a = a by unfold wrap64; omega]
  obtain ⟨m, rfl⟩ := Int.eq_ofNat_of_zero_le h.1
  exact ⟨m % n, (Int.ofNat_tmod m n).symm, Nat.mod_lt _ hn⟩

theorem cas_l0 (t : List Int) (n : Nat) (v : Int) (x7 : Bool) (x9 : List S38) (e : Int) (hl1 : 1 ≤ t.length) (hn : n ≤ 9) (d : Nat) : ∀ (i p : Nat), i + d = n → p * t.length ^ d < 1000000000 →
    ∀ k, observatorylaw17_NoiseCases.l0 (k + d + 1) t v x7 (n : Int) x9 e (p : Int) (i : Int) = observatorylaw17_NoiseCases.l1 k t v x7 (n : Int) x9 e ((p * t.length ^ d : Nat) : Int) 0 0 := by
  induction d with
  | zero =>
    intro i p hd hp k
    simp only [observatorylaw17_NoiseCases.l0]
    rw [if_neg (by omega), Nat.pow_zero, Nat.mul_one]
  | succ d ih =>
    intro i p hd hp k
    have e : p * t.length ^ (d + 1) = p * t.length * t.length ^ d := by rw [Nat.pow_succ, Nat.mul_comm (t.length ^ d), Nat.mul_assoc]
    rw [e] at hp ⊢
    show observatorylaw17_NoiseCases.l0 ((k + d + 1) + 1) t v x7 (n : Int) x9 _ (p : Int) (i : Int) = _
    conv => lhs; rw [observatorylaw17_NoiseCases.l0]
    rw [if_pos (by omega), wrap_succ i (by omega), ← ih (i + 1) (p * t.length) (by omega) hp k]
    have hpos : 0 < t.length ^ d := Nat.pow_pos (by omega)
    have hq : p * t.length < 1000000000 := Nat.lt_of_le_of_lt (Nat.le_mul_of_pos_right _ hpos) hp
    rw [show ((p : Int) * (t.length : Int)) = ((p * t.length : Nat) : Int) by rw [Int.natCast_mul], show wrap64 ((p * t.length : Nat) : Int) = ((p * t.length : Nat) : Int) by unfold wrap64; omega]
theorem cas_l2 (t : List Int) (ht : Nz.Tape t) (hl1 : 1 ≤ t.length) (n : Nat) (hn : n ≤ 9) (v : Int) (x7 : Bool) (x9 : List S38) (e x11 : Int) (x13 x14 : Nat) (h13 : x13 < 1000000000) (h14 : x14 < 1000000000) (d : Nat) : ∀ (i c : Nat) (s : Int), i + d = n → c < 1000000000 → -50 * (i : Int) ≤ s → s ≤ 50 * (i : Int) →
    ∀ k, observatorylaw17_NoiseCases.l2 (k + d + 1) t v x7 (n : Int) x9 e x11 (x13 : Int) (x14 : Int) s (c : Int) (i : Int) = observatorylaw17_NoiseCases.l1 k t v x7 (n : Int) x9 e x11 ((x13 + (if s + caseSum t d c = v then 1 else 0) : Nat) : Int) ((x14 + 1 : Nat) : Int) := by
  induction d with
  | zero =>
    intro i c s hd hc h1 h2 k
    simp only [observatorylaw17_NoiseCases.l2]
    rw [if_neg (by omega), caseSum, Int.add_zero, wrap_succ x14 h14, wrap_succ x13 h13]
    by_cases h : s = v
    · rw [if_pos h, if_pos h]
    · rw [if_neg h, if_neg h]; rfl
  | succ d ih =>
    intro i c s hd hc h1 h2 k
    have hm : c % t.length < t.length := Nat.mod_lt _ (by omega)
    have hdv : c / t.length ≤ c := Nat.div_le_self _ _
    have hr : rd t ((c % t.length : Nat) : Int) = t.getD (c % t.length) 0 := by unfold rd; rw [Int.toNat_natCast]
    have hb : -50 ≤ t.getD (c % t.length) 0 ∧ t.getD (c % t.length) 0 ≤ 50 := by
      rw [List.getD_eq_getElem?_getD, List.getElem?_eq_getElem hm]
      exact ht _ (List.getElem_mem hm)
    show observatorylaw17_NoiseCases.l2 ((k + d + 1) + 1) t v x7 (n : Int) x9 e x11 (x13 : Int) (x14 : Int) s (c : Int) (i : Int) = _
    conv => lhs; rw [observatorylaw17_NoiseCases.l2]
    rw [if_pos (by omega), if_neg (by omega), show Int.tmod (c : Int) (t.length : Int) = ((c % t.length : Nat) : Int) from (Int.ofNat_tmod c t.length).symm, show Int.tdiv (c : Int) (t.length : Int) = ((c / t.length : Nat) : Int) from (Int.ofNat_tdiv c t.length).symm, if_pos (by omega), if_pos (by omega), hr, wrap_succ i (by omega)]
    rw [caseSum]
    generalize t.getD (c % t.length) 0 = z at hb
    generalize c / t.length = q at hdv
    rw [show wrap64 (s + z) = s + z by unfold wrap64; omega, show wrap64 ((q : Nat) : Int) = ((q : Nat) : Int) by unfold wrap64; omega, ih (i + 1) q (s + z) (by omega) (by omega) (by omega) (by omega) k, Int.add_assoc]
theorem cas_l1 {t : List Int} (ht : validT t = true) (n : Nat) (hn : n ≤ 9) (v : Int) (d : Nat) : ∀ c, c + d = t.length ^ n →
    ∀ k, 1000 < k → observatorylaw17_NoiseCases.l1 (k + d * (n + 2) + 1) t v true (n : Int) (outN t n) 0 ((t.length ^ n : Nat) : Int) ((wantN t n v c : Nat) : Int) (c : Int) = some true := by
  have hp := pow_small ht n hn
  obtain ⟨h1, h9, htt⟩ := tape_of ht
  induction d with
  | zero =>
    intro c hc k hk
    rw [Nat.add_zero] at hc
    subst hc
    rw [Nat.zero_mul, Nat.add_zero, observatorylaw17_NoiseCases.l1, if_neg (by omega), if_pos rfl, if_pos rfl, count_f ht n hn v k hk, bindS, want_cnt]
    congr 1
    exact beq_self_eq_true _
  | succ d ih =>
    intro c hc k hk
    have hw := want_le t n v c
    rw [Nat.succ_mul, show k + (d * (n + 2) + (n + 2)) + 1 = ((k + d * (n + 2) + 1) + n + 1) + 1 by omega]
    conv => lhs; rw [observatorylaw17_NoiseCases.l1]
    have h2 := cas_l2 t htt h1 n hn v true (outN t n) 0 ((t.length ^ n : Nat) : Int) (wantN t n v c) c (by omega) (by omega) n 0 c 0 (by omega) (by omega) (by omega) (by omega) (k + d * (n + 2) + 1)
    rw [if_pos (by omega)]
    refine h2.trans ?_
    have e : wantN t n v c + (if caseSum t n c = v then 1 else 0) = wantN t n v (c + 1) := by rw [wantN]
    rw [Int.zero_add, e]
    exact ih (c + 1) (by omega) k hk

theorem NoiseCases : ∀ (l0 : List Int) (a1 a2 : Int), l0.length ≤ 140737488351232 → (Lit.int .u8 a1).wf = true → (Lit.int .i64 a2).wf = true → ∃ k, observatorylaw17_NoiseCases.f k l0 a1 a2 = some true := by
  intro t a v hl hw _
  obtain ⟨n, hn, hn5⟩ := tmod_nat a (wf8 hw) 5 (by omega)
  refine ⟨((((1001 + t.length ^ n * (n + 2) + 1) + n + 1)) + 1), ?_⟩
  unfold observatorylaw17_NoiseCases.f
  have hn' : Int.tmod (wrap64 a) 5 = (n : Int) := hn
  rw [head_f, bindS, valid_f, bindS, hn']
  cases hv : validT t with
  | false => rw [if_neg (by simp), observatorylaw17_NoiseCases.j0, if_pos rfl]
  | true =>
    obtain ⟨h1, h9, htt⟩ := tape_of hv
    rw [if_pos rfl, observatorylaw17_NoiseCases.j0, if_neg (by simp; omega), dist_ok hv n (by omega), bindS]
    dsimp only
    rw [show (1 : Int) = ((1 : Nat) : Int) from rfl, show (0 : Int) = ((0 : Nat) : Int) from rfl, cas_l0 t n v true (outN t n) _ h1 (by omega) n 0 1 (by omega) (by rw [Nat.one_mul]; exact pow_small hv n (by omega)), Nat.one_mul]
    have := cas_l1 hv n (by omega) v (t.length ^ n) 0 (by omega) 1001 (by omega)
    exact this
end Go.Proofs.YtlhfgjblcckifaaGreatDoor.Pure
