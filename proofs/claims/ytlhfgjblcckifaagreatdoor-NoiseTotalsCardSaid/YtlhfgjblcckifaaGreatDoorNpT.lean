/-
  NoiseTotals in plain terms.
-/
import Derived.Test.YtlhfgjblcckifaaGreatDoorNpA
import Derived.Test.YtlhfgjblcckifaaGreatDoorPx3
set_option linter.unusedVariables false
set_option linter.unusedSimpArgs false
namespace Go.Proofs.YtlhfgjblcckifaaGreatDoor.Pure
open Go.RowKit Go.Proofs.YtlhfgjblcckifaaGreatDoor.P Go.Proofs.YtlhfgjblcckifaaGreatDoor.Dg Go.Proofs.YtlhfgjblcckifaaGreatDoorW.PrintWords Go.Proofs.YtlhfgjblcckifaaGreatDoorW.PrintMore

theorem rd_at (l : List Int) (i : Nat) (h : i < l.length) : rd l (i : Int) = l[i] := by
  unfold rd
  rw [Int.toNat_natCast, List.getD_eq_getElem?_getD, List.getElem?_eq_getElem h]; rfl
theorem mn_le (a b : Int) : mn a b ≤ a ∧ mn a b ≤ b ∧ (mn a b = a ∨ mn a b = b) := by unfold mn; split <;> omega
theorem mx_le (a b : Int) : a ≤ mx a b ∧ b ≤ mx a b ∧ (mx a b = a ∨ mx a b = b) := by unfold mx; split <;> omega
theorem tot_l0 (t : List Int) (x1 : Int) (x5 : Bool) (x6 : List S38) (hl : t.length ≤ 9) (d : Nat) : ∀ (i : Nat) (lo hi : Int), i + d = t.length → lo ∈ t → hi ∈ t →
    ∃ lo' hi', lo' ∈ t ∧ hi' ∈ t ∧ lo' ≤ lo ∧ hi ≤ hi' ∧ (∀ j, i ≤ j → (hj : j < t.length) → lo' ≤ t[j] ∧ t[j] ≤ hi') ∧ ∀ k, observatorylaw17_NoiseTotals.l0 (k + d + 1) t x1 x5 x6 lo hi (i : Int) = observatorylaw17_NoiseTotals.l1 k t x1 x5 x6 lo' hi' 1 0 := by
  induction d with
  | zero =>
    intro i lo hi hd h1 h2
    refine ⟨lo, hi, h1, h2, Int.le_refl _, Int.le_refl _, fun j hj hl => by omega, fun k => ?_⟩
    simp only [observatorylaw17_NoiseTotals.l0]
    rw [if_neg (by omega)]
  | succ d ih =>
    intro i lo hi hd h1 h2
    have hi' : i < t.length := by omega
    obtain ⟨m1, m2, m3⟩ := mn_le lo t[i]
    obtain ⟨x1', x2', x3'⟩ := mx_le hi t[i]
    have g1 : mn lo t[i] ∈ t := by rcases m3 with e | e <;> rw [e]; (· exact h1); exact List.getElem_mem hi'
    have g2 : mx hi t[i] ∈ t := by rcases x3' with e | e <;> rw [e]; (· exact h2); exact List.getElem_mem hi'
    obtain ⟨lo', hi2, a1, a2, a3, a4, a5, a6⟩ := ih (i + 1) (mn lo t[i]) (mx hi t[i]) (by omega) g1 g2
    refine ⟨lo', hi2, a1, a2, by omega, by omega, fun j hj hl => ?_, fun k => ?_⟩
    · by_cases e : j = i
      · subst e; omega
      · exact a5 j (by omega) hl
    · rw [← a6 k]
      show observatorylaw17_NoiseTotals.l0 ((k + d + 1) + 1) t x1 x5 x6 lo hi (i : Int) = _
      conv => lhs; rw [observatorylaw17_NoiseTotals.l0]
      rw [if_pos (by omega), if_pos (by omega), rd_at t i hi', wrap_succ i (by omega)]
theorem tot_l1 (t : List Int) (n : Nat) (x5 : Bool) (x6 : List S38) (lo hi : Int) (hl1 : 1 ≤ t.length) (hl : t.length ≤ 9) (hn : n ≤ 9) (d : Nat) : ∀ (i p : Nat), i + d = n → p * t.length ^ d < 1000000000 → 
    ∀ k, observatorylaw17_NoiseTotals.l1 (k + d + 1) t (n : Int) x5 x6 lo hi (p : Int) (i : Int) = observatorylaw17_NoiseTotals.l2 k (n : Int) x5 x6 lo hi ((p * t.length ^ d : Nat) : Int) 0 0 := by
  induction d with
  | zero =>
    intro i p hd hp k
    simp only [observatorylaw17_NoiseTotals.l1]
    rw [if_neg (by omega), Nat.pow_zero, Nat.mul_one]
  | succ d ih =>
    intro i p hd hp k
    have e : p * t.length ^ (d + 1) = p * t.length * t.length ^ d := by rw [Nat.pow_succ, Nat.mul_comm (t.length ^ d), Nat.mul_assoc]
    rw [e] at hp ⊢
    show observatorylaw17_NoiseTotals.l1 ((k + d + 1) + 1) t (n : Int) x5 x6 lo hi (p : Int) (i : Int) = _
    conv => lhs; rw [observatorylaw17_NoiseTotals.l1]
    rw [if_pos (by omega), wrap_succ i (by omega), ← ih (i + 1) (p * t.length) (by omega) hp k]
    have hpos : 0 < t.length ^ d := Nat.pow_pos (by omega)
    have hq : p * t.length < 1000000000 := Nat.lt_of_le_of_lt (Nat.le_mul_of_pos_right _ hpos) hp
    rw [show ((p : Int) * (t.length : Int)) = ((p * t.length : Nat) : Int) by rw [Int.natCast_mul], show wrap64 ((p * t.length : Nat) : Int) = ((p * t.length : Nat) : Int) by unfold wrap64; omega]
theorem tot_l2 {t : List Int} (ht : validT t = true) (n : Nat) (hn : n ≤ 6) (lo hi : Int) (h0 : 0 < (Nz.distN t n).length) (hlo : (Nz.distN t n)[0].1 = n * lo) (hhi : ((Nz.distN t n)[(Nz.distN t n).length - 1]'(by omega)).1 = n * hi) (d : Nat) : ∀ (i s : Nat), i + d = (Nz.distN t n).length → s + (((Nz.distN t n).drop i).map fun p => p.2).sum = t.length ^ n →
    ∀ k, observatorylaw17_NoiseTotals.l2 (k + d + 1) (n : Int) true (outN t n) lo hi ((t.length ^ n : Nat) : Int) (s : Int) (i : Int) = some true := by
  have hpow := pow_small ht n (by omega)
  have hlen := dist_len t n
  have el := entry ht n (by omega) 0 h0
  have eh := entry ht n (by omega) ((Nz.distN t n).length - 1) (by omega)
  rw [hlo] at el
  rw [hhi] at eh
  induction d with
  | zero =>
    intro i s hd hs k
    rw [List.drop_eq_nil_of_le (by omega), List.map_nil, List.sum_nil, Nat.add_zero] at hs
    simp only [observatorylaw17_NoiseTotals.l2]
    have ew : wrap64 (((Nz.distN t n).length : Int) - 1) = (((Nz.distN t n).length - 1 : Nat) : Int) := by unfold wrap64; omega
    rw [out_len, if_neg (by omega), if_pos trivial, hs, if_pos rfl, if_pos (by omega), show (0 : Int) = ((0 : Nat) : Int) from rfl, val_out t n 0 h0, hlo, if_pos (by unfold wrap64; omega), ew, if_pos (by omega), if_pos (by omega), val_out t n _ (by omega), hhi]
    congr 1
    rw [beq_iff_eq]; unfold wrap64; omega
  | succ d ih =>
    intro i s hd hs k
    have hi' : i < (Nz.distN t n).length := by omega
    have e := entry ht n (by omega) i hi'
    rw [List.drop_eq_getElem_cons hi', List.map_cons, List.sum_cons] at hs
    have hI := int_out ht n (by omega) i hi'
    have hV := val_out t n i hi'
    generalize hc : (Nz.distN t n)[i].2 = c at hs hI e
    show observatorylaw17_NoiseTotals.l2 ((k + d + 1) + 1) (n : Int) true (outN t n) lo hi ((t.length ^ n : Nat) : Int) (s : Int) (i : Int) = _
    conv => lhs; rw [observatorylaw17_NoiseTotals.l2]
    have hcp : s + c < 1000000000 := by omega
    rw [out_len, if_pos (by omega), if_pos (by omega), hI, bindS, if_pos rfl, if_neg (by dsimp only; omega), wrap_succ i (by omega), show wrap64 ((s : Int) + ((c : Nat) : Int)) = ((s + c : Nat) : Int) by unfold wrap64; omega]
    have next := ih (i + 1) (s + c) (by omega) (by omega) k
    by_cases hi0 : i = 0
    · rw [if_neg (by omega)]; exact next
    · have ew : wrap64 ((i : Int) - 1) = ((i - 1 : Nat) : Int) := by unfold wrap64; omega
      have hr := List.pairwise_iff_getElem.1 (Nz.dist_rise t n) (i - 1) i (by omega) hi' (by omega)
      rw [if_pos (by omega), ew, if_pos (by omega), if_pos (by omega), hV, val_out t n (i - 1) (by omega), if_neg (by omega)]
      exact next

theorem NoiseTotals : ∀ (l0 : List Int) (a1 : Int), l0.length ≤ 140737488351232 → (Lit.int .i64 a1).wf = true → ∃ k, observatorylaw17_NoiseTotals.f k l0 a1 = some true := by
  intro t a hl hw
  refine ⟨(((((Nz.distN t a.toNat).length + 1) + a.toNat + 1) + t.length + 1) + 1), ?_⟩
  unfold observatorylaw17_NoiseTotals.f
  rw [head_f, bindS, few_f, bindS]
  by_cases hf : t.length ≤ 12 ∧ (a ≤ 6 ∨ a > 40)
  · rw [decide_eq_true hf, if_pos rfl]
    rcases dist_cases t a hf.2 with ⟨e, _⟩ | ⟨n, rfl, hn, hv, e⟩
    · rw [e, bindS, if_neg (by simp), if_pos rfl, if_pos rfl]; rfl
    · obtain ⟨h1, h9, htt⟩ := tape_of hv
      rw [e, bindS, if_pos rfl, Int.toNat_natCast]
      dsimp only
      have h0 : 0 < t.length := by omega
      obtain ⟨lo, hi, m1, m2, m3, m4, m5, m6⟩ := tot_l0 t (n : Int) true (outN t n) h9 t.length 0 t[0] t[0] (by omega) (List.getElem_mem h0) (List.getElem_mem h0)
      have hlo : ∀ o ∈ t, lo ≤ o := fun o ho => by
        obtain ⟨j, hj, rfl⟩ := List.getElem_of_mem ho
        exact (m5 j (by omega) hj).1
      have hhi : ∀ o ∈ t, o ≤ hi := fun o ho => by
        obtain ⟨j, hj, rfl⟩ := List.getElem_of_mem ho
        exact (m5 j (by omega) hj).2
      obtain ⟨mm, hmm⟩ := Nz.head_low _ (Nz.dist_rise t n) (n * lo) (fun p hp => Nz.all_low t lo hlo n p.1 (by have := (Nz.mem_dist htt n p.1 p.2).1 hp; rw [← this.1]; exact this.2)) _ ((Nz.mem_dist htt n _ _).2 ⟨rfl, Nz.all_mem t lo m1 n⟩)
      obtain ⟨mh, hmh⟩ := Nz.last_high _ (Nz.dist_rise t n) (n * hi) (fun p hp => Nz.all_high t hi hhi n p.1 (by have := (Nz.mem_dist htt n p.1 p.2).1 hp; rw [← this.1]; exact this.2)) _ ((Nz.mem_dist htt n _ _).2 ⟨rfl, Nz.all_mem t hi m2 n⟩)
      have hD : 0 < (Nz.distN t n).length := by rw [hmm]; simp
      have g1 : (Nz.distN t n)[0].1 = n * lo := by simp [hmm]
      have g2 : ((Nz.distN t n)[(Nz.distN t n).length - 1]'(by omega)).1 = n * hi := by simp [hmh]
      rw [out_len, if_neg (by omega), show ((t.length : Int) == 0) = false from beq_eq_false_iff_ne.mpr (by omega)]
      rw [observatorylaw17_NoiseTotals.j0, if_neg (by simp), if_pos (by omega), show (0 : Int) = ((0 : Nat) : Int) from rfl, rd_at t 0 h0, m6]
      rw [show (1 : Int) = ((1 : Nat) : Int) from rfl, show (0 : Int) = ((0 : Nat) : Int) from rfl, tot_l1 t n true (outN t n) lo hi h1 h9 (by omega) n 0 1 (by omega) (by rw [Nat.one_mul]; exact pow_small hv n (by omega)), Nat.one_mul]
      have := tot_l2 hv n hn lo hi hD g1 g2 (Nz.distN t n).length 0 0 (by omega) (by rw [Nat.zero_add, List.drop_zero]; exact Nz.total htt n) 0
      rw [Nat.zero_add] at this
      exact this
  · rw [decide_eq_false hf, if_neg (by simp)]
end Go.Proofs.YtlhfgjblcckifaaGreatDoor.Pure
