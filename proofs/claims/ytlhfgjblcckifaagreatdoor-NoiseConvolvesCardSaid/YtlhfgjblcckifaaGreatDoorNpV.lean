/-
  NoiseConvolves in plain terms.
-/
import Derived.Test.YtlhfgjblcckifaaGreatDoorNpC
import Derived.Test.YtlhfgjblcckifaaGreatDoorPx5
set_option linter.unusedVariables false
set_option linter.unusedSimpArgs false
namespace Go.Proofs.YtlhfgjblcckifaaGreatDoor.Pure
open Go.RowKit Go.Proofs.YtlhfgjblcckifaaGreatDoor.P Go.Proofs.YtlhfgjblcckifaaGreatDoor.Dg Go.Proofs.YtlhfgjblcckifaaGreatDoorW.PrintWords Go.Proofs.YtlhfgjblcckifaaGreatDoorW.PrintMore

theorem sums_meet {t : List Int} (ht : Nz.Tape t) (n m : Nat) (x y : Int) (hx : Nz.cntN t n x ≠ 0) (hy : Nz.cntN t m y ≠ 0) : Nz.cntN t (n + m) (x + y) ≠ 0 := by
  rw [Nz.cntN_add]
  have hm : x ∈ Nz.allS t n := by
    rw [Nz.cntN_all] at hx
    exact List.count_pos_iff.1 (Nat.pos_of_ne_zero hx)
  exact Nz.sum_pos _ _ x hm (by rw [show x + y - x = y by omega]; exact hy)

theorem con_l1 {t : List Int} (ht : validT t = true) (n m : Nat) (hn : n ≤ 3) (hm : m ≤ 3) (i : Nat) (hi : i < (Nz.distN t n).length) (d : Nat) : ∀ (j : Nat), j + d = (Nz.distN t m).length →
    ∀ k, 1000 < k → observatorylaw17_NoiseConvolves.l1 (k + d + 1) true (outN t n) (outN t m) (outN t (n + m)) (i : Int) (j : Int) = observatorylaw17_NoiseConvolves.l0 k true (outN t n) (outN t m) (outN t (n + m)) ((i + 1 : Nat) : Int) := by
  have ln := dist_len t n
  have lm := dist_len t m
  induction d with
  | zero =>
    intro j hj k hk
    simp only [observatorylaw17_NoiseConvolves.l1]
    rw [out_len t m, if_neg (by omega), wrap_succ i (by omega)]
  | succ d ih =>
    intro j hj k hk
    have hj' : j < (Nz.distN t m).length := by omega
    obtain ⟨a1, a2, a3, a4, a5⟩ := entry ht n (by omega) i hi
    obtain ⟨b1, b2, b3, b4, b5⟩ := entry ht m (by omega) j hj'
    have hne := sums_meet (tape_of ht).2.2 n m _ _ (by rw [← a1]; exact a2) (by rw [← b1]; exact b2)
    have va := val_out t n i hi
    have vb := val_out t m j hj'
    generalize (Nz.distN t n)[i].1 = x at *
    generalize (Nz.distN t m)[j].1 = y at *
    show observatorylaw17_NoiseConvolves.l1 ((k + d + 1) + 1) true (outN t n) (outN t m) (outN t (n + m)) (i : Int) (j : Int) = _
    conv => lhs; rw [observatorylaw17_NoiseConvolves.l1]
    rw [out_len t m, out_len t n, if_pos (by omega), if_pos (by omega), if_pos (by omega), if_pos (by omega), va, vb, show wrap64 (x + y) = x + y by unfold wrap64; omega, count_f ht (n + m) (by omega) (x + y) _ (by omega), bindS, if_neg (by omega), wrap_succ j (by omega)]
    exact ih (j + 1) (by omega) k hk
theorem con_l0 {t : List Int} (ht : validT t = true) (n m : Nat) (hn : n ≤ 3) (hm : m ≤ 3) (d : Nat) : ∀ (i : Nat), i + d = (Nz.distN t n).length →
    ∀ k, 1000 < k → observatorylaw17_NoiseConvolves.l0 (k + d * ((Nz.distN t m).length + 2) + 1) true (outN t n) (outN t m) (outN t (n + m)) (i : Int) = observatorylaw17_NoiseConvolves.l2 k true (outN t n) (outN t m) (outN t (n + m)) 0 := by
  have ln := dist_len t n
  induction d with
  | zero =>
    intro i hi k hk
    rw [Nat.zero_mul, Nat.add_zero]
    simp only [observatorylaw17_NoiseConvolves.l0]
    rw [out_len t n, if_neg (by omega)]
  | succ d ih =>
    intro i hi k hk
    rw [Nat.succ_mul, show k + (d * ((Nz.distN t m).length + 2) + ((Nz.distN t m).length + 2)) + 1 = ((k + d * ((Nz.distN t m).length + 2) + 1) + (Nz.distN t m).length + 1) + 1 by omega]
    conv => lhs; rw [observatorylaw17_NoiseConvolves.l0]
    rw [out_len t n, if_pos (by omega)]
    refine (con_l1 ht n m hn hm i (by omega) (Nz.distN t m).length 0 (by omega) (k + d * ((Nz.distN t m).length + 2) + 1) (by omega)).trans ?_
    exact ih (i + 1) (by omega) k hk
theorem con_l3 {t : List Int} (ht : validT t = true) (n m : Nat) (hn : n ≤ 3) (hm : m ≤ 3) (j : Nat) (hj : j < (Nz.distN t (n + m)).length) (d : Nat) : ∀ (i s : Nat), i + d = (Nz.distN t n).length →
    s + (((Nz.distN t n).drop i).map fun p => p.2 * Nz.cntN t m ((Nz.distN t (n + m))[j].1 - p.1)).sum = Nz.cntN t (n + m) (Nz.distN t (n + m))[j].1 →
    ∀ k, 1000 < k → observatorylaw17_NoiseConvolves.l3 (k + d + 1) true (outN t n) (outN t m) (outN t (n + m)) (j : Int) (s : Int) (i : Int) = observatorylaw17_NoiseConvolves.l2 k true (outN t n) (outN t m) (outN t (n + m)) ((j + 1 : Nat) : Int) := by
  have ln := dist_len t n
  have lc := dist_len t (n + m)
  obtain ⟨c1, c2, c3, c4, c5⟩ := entry ht (n + m) (by omega) j hj
  have vc := val_out t (n + m) j hj
  have hsm := cnt_small ht (n + m) (by omega) (Nz.distN t (n + m))[j].1
  generalize (Nz.distN t (n + m))[j].1 = v at *
  induction d with
  | zero =>
    intro i s hi hs k hk
    rw [List.drop_eq_nil_of_le (by omega), List.map_nil, List.sum_nil, Nat.add_zero] at hs
    rw [Nat.add_zero]
    conv => lhs; rw [observatorylaw17_NoiseConvolves.l3]
    rw [out_len t n, out_len t (n + m), if_neg (by omega), if_pos (by omega), if_pos (by omega), vc, count_f ht (n + m) (by omega) v _ hk, bindS, hs, if_pos rfl, wrap_succ j (by omega)]
  | succ d ih =>
    intro i s hi hs k hk
    have hi' : i < (Nz.distN t n).length := by omega
    rw [List.drop_eq_getElem_cons hi', List.map_cons, List.sum_cons] at hs
    obtain ⟨a1, a2, a3, a4, a5⟩ := entry ht n (by omega) i hi'
    have va := val_out t n i hi'
    have next := ih (i + 1) (s + (Nz.distN t n)[i].2 * Nz.cntN t m (v - (Nz.distN t n)[i].1)) (by omega) (by omega) k hk
    generalize (Nz.distN t n)[i].1 = x at *
    generalize (Nz.distN t n)[i].2 = c at *
    show observatorylaw17_NoiseConvolves.l3 ((k + d + 1) + 1) true (outN t n) (outN t m) (outN t (n + m)) (j : Int) (s : Int) (i : Int) = _
    conv => lhs; rw [observatorylaw17_NoiseConvolves.l3]
    rw [out_len t n, out_len t (n + m), if_pos (by omega), if_pos (by omega), va, count_f ht n (by omega) x _ (by omega), bindS, if_pos (by omega), if_pos (by omega), vc, show wrap64 (v - x) = v - x by unfold wrap64; omega, count_f ht m (by omega) (v - x) _ (by omega), bindS, ← a1, wrap_succ i (by omega), ← Int.natCast_mul]
    generalize c * Nz.cntN t m (v - x) = q at *
    rw [show wrap64 ((q : Nat) : Int) = ((q : Nat) : Int) by unfold wrap64; omega, show wrap64 ((s : Int) + ((q : Nat) : Int)) = ((s + q : Nat) : Int) by unfold wrap64; omega]
    exact next
theorem con_l2 {t : List Int} (ht : validT t = true) (n m : Nat) (hn : n ≤ 3) (hm : m ≤ 3) (d : Nat) : ∀ (j : Nat), j + d = (Nz.distN t (n + m)).length →
    ∀ k, 1000 < k → observatorylaw17_NoiseConvolves.l2 (k + d * ((Nz.distN t n).length + 2) + 1) true (outN t n) (outN t m) (outN t (n + m)) (j : Int) = some true := by
  have lc := dist_len t (n + m)
  induction d with
  | zero =>
    intro j hj k hk
    rw [Nat.zero_mul, Nat.add_zero]
    simp only [observatorylaw17_NoiseConvolves.l2]
    rw [out_len t (n + m), if_neg (by omega)]
  | succ d ih =>
    intro j hj k hk
    rw [Nat.succ_mul, show k + (d * ((Nz.distN t n).length + 2) + ((Nz.distN t n).length + 2)) + 1 = ((k + d * ((Nz.distN t n).length + 2) + 1) + (Nz.distN t n).length + 1) + 1 by omega]
    conv => lhs; rw [observatorylaw17_NoiseConvolves.l2]
    rw [out_len t (n + m), if_pos (by omega)]
    refine (con_l3 ht n m hn hm j (by omega) (Nz.distN t n).length 0 0 (by omega) (by rw [Nat.zero_add, List.drop_zero, ← Nz.convolve (tape_of ht).2.2]) (k + d * ((Nz.distN t n).length + 2) + 1) (by omega)).trans ?_
    exact ih (j + 1) (by omega) k hk

theorem NoiseConvolves : ∀ (l0 : List Int) (a1 a2 : Int), l0.length ≤ 140737488351232 → (Lit.int .u8 a1).wf = true → (Lit.int .u8 a2).wf = true → ∃ k, observatorylaw17_NoiseConvolves.f k l0 a1 a2 = some true := by
  intro t a b hl hw1 hw2
  obtain ⟨n, hn, hn4⟩ := tmod_nat a (wf8 hw1) 4 (by omega)
  obtain ⟨m, hm, hm4⟩ := tmod_nat b (wf8 hw2) 4 (by omega)
  have hn' : Int.tmod (wrap64 a) 4 = (n : Int) := hn
  have hm' : Int.tmod (wrap64 b) 4 = (m : Int) := hm
  have hs : wrap64 ((n : Int) + (m : Int)) = ((n + m : Nat) : Int) := by unfold wrap64; omega
  refine ⟨((((1001 + (Nz.distN t (n + m)).length * ((Nz.distN t n).length + 2) + 1) + (Nz.distN t n).length * ((Nz.distN t m).length + 2) + 1) + 1) + 1), ?_⟩
  unfold observatorylaw17_NoiseConvolves.f
  rw [head_f, bindS, hn', hm', hs, few_f, bindS, valid_f]
  by_cases hf : t.length ≤ 12 ∧ (((n + m : Nat) : Int) ≤ 6 ∨ ((n + m : Nat) : Int) > 40)
  · rw [decide_eq_true hf, if_pos rfl, bindS]
    cases hv : validT t with
    | false => rw [observatorylaw17_NoiseConvolves.j0, if_pos (by simp)]
    | true =>
      rw [observatorylaw17_NoiseConvolves.j0, if_neg (by simp), dist_ok hv n (by omega), bindS, dist_ok hv m (by omega), bindS, hs, dist_ok hv (n + m) (by omega), bindS, if_pos rfl, if_pos rfl]
      dsimp only
      rw [observatorylaw17_NoiseConvolves.j1, if_neg (by simp)]
      refine (con_l0 hv n m (by omega) (by omega) (Nz.distN t n).length 0 (by omega) (1001 + (Nz.distN t (n + m)).length * ((Nz.distN t n).length + 2) + 1) (by omega)).trans ?_
      exact con_l2 hv n m (by omega) (by omega) (Nz.distN t (n + m)).length 0 (by omega) 1001 (by omega)
  · rw [decide_eq_false hf, if_neg (by simp), observatorylaw17_NoiseConvolves.j0, if_pos rfl]
end Go.Proofs.YtlhfgjblcckifaaGreatDoor.Pure
