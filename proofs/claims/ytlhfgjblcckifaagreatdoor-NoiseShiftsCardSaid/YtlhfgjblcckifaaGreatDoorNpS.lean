/-
  NoiseShifts in plain terms.
-/
import Derived.Test.YtlhfgjblcckifaaGreatDoorNpC
import Derived.Test.YtlhfgjblcckifaaGreatDoorMgHead
import Derived.Test.YtlhfgjblcckifaaGreatDoorPx7
set_option linter.unusedVariables false
set_option linter.unusedSimpArgs false
namespace Go.Proofs.YtlhfgjblcckifaaGreatDoor.Pure
open Go.RowKit Go.Proofs.YtlhfgjblcckifaaGreatDoor.P Go.Proofs.YtlhfgjblcckifaaGreatDoor.Dg Go.Proofs.YtlhfgjblcckifaaGreatDoorW.PrintWords Go.Proofs.YtlhfgjblcckifaaGreatDoorW.PrintMore

theorem same_big (k : Nat) (l : List S38) (hl : l.length ≤ 1000000) (hk : l.length < k) : observatoryref17_Same.f k l l = some true := by
  obtain ⟨q, rfl⟩ : ∃ q, k = q + l.length + 1 := ⟨k - l.length - 1, by omega⟩
  unfold observatoryref17_Same.f
  rw [if_pos rfl]
  exact same_go l hl l.length q 0 (by omega) (by omega)
theorem valid_reverse (t : List Int) : validT t.reverse = validT t := by
  rw [Bool.eq_iff_iff, validT_iff, validT_iff, List.length_reverse]
  unfold Nz.Tape
  simp
theorem valid_neg {t : List Int} (h : validT t = true) : validT (t.map fun o => -o) = true := by
  obtain ⟨h1, h9, ht⟩ := tape_of h
  rw [validT_iff, List.length_map]
  refine ⟨h1, h9, fun o ho => ?_⟩
  obtain ⟨x, hx, rfl⟩ := List.mem_map.1 ho
  have := ht x hx
  omega
theorem rd_out' (l : List (Int × Nat)) (i : Nat) (h : i < l.length) : rd_T38 (l.map mkO) (i : Int) = ⟨l[i].1, decN l[i].2⟩ := by
  unfold rd_T38
  rw [Int.toNat_natCast, List.getD_eq_getElem?_getD, List.getElem?_map, List.getElem?_eq_getElem h]; rfl

theorem shi_l0 {t : List Int} (ht : Nz.Tape t) (h9 : t.length ≤ 9) (a s : Int) (hs : -100 ≤ s ∧ s ≤ 100) (x7 : Bool) : ∀ d, d ≤ t.length →
    ∀ k, observatorylaw17_NoiseShifts.l0 (k + d + 1) t a s x7 ((t.drop d).map (· + s)).reverse ((t.drop d).map fun o => -o).reverse (t.drop d).reverse ((d : Int) - 1) =
      observatorylaw17_NoiseShifts.l0 (k + 1) t a s x7 (t.map (· + s)).reverse (t.map fun o => -o).reverse t.reverse (-1)
  | 0, _, k => rfl
  | d + 1, hd, k => by
    have hi : d < t.length := by omega
    have hb := ht t[d] (List.getElem_mem hi)
    have hr : rd t (d : Int) = t[d] := by
      unfold rd
      rw [Int.toNat_natCast, List.getD_eq_getElem?_getD, List.getElem?_eq_getElem hi]; rfl
    rw [← shi_l0 ht h9 a s hs x7 d (by omega) k]
    rw [show k + (d + 1) + 1 = (k + d + 1) + 1 by omega, show (((d + 1 : Nat) : Int) - 1) = (d : Int) by omega]
    conv => lhs; rw [observatorylaw17_NoiseShifts.l0]
    have l1 : ((t.drop (d + 1)).map (· + s)).reverse.length < 17592186044416 := by simp; omega
    have l2 : ((t.drop (d + 1)).map fun o => -o).reverse.length < 17592186044416 := by simp; omega
    have l3 : (t.drop (d + 1)).reverse.length < 17592186044416 := by simp; omega
    rw [if_pos (by omega), if_pos (by omega), if_pos (by omega), if_pos l1, if_pos l2, if_pos l3, hr, List.drop_eq_getElem_cons hi, List.map_cons, List.map_cons, List.reverse_cons, List.reverse_cons, List.reverse_cons,
      show wrap64 (t[d] + s) = t[d] + s by unfold wrap64; omega, show wrap64 (-t[d]) = -t[d] by unfold wrap64; omega, show wrap64 ((d : Int) - 1) = (d : Int) - 1 by unfold wrap64; omega]

theorem shi_l1 {t : List Int} (ht : validT t = true) (n : Nat) (hn : n ≤ 6) (s : Int) (hs : -100 ≤ s ∧ s ≤ 100) (x14 x16 : List S38) (x15 : Int) (hb : x16.length = (Nz.distN t n).length ∧ ∀ i, (h : i < (Nz.distN t n).length) → rd_T38 x16 (((Nz.distN t n).length - 1 - i : Nat) : Int) = ⟨-(Nz.distN t n)[i].1, decN (Nz.distN t n)[i].2⟩)
    (ha : x15 = 0 → x14.length = (Nz.distN t n).length ∧ ∀ i, (h : i < (Nz.distN t n).length) → rd_T38 x14 (i : Int) = ⟨(Nz.distN t n)[i].1 + n * s, decN (Nz.distN t n)[i].2⟩) (d : Nat) : ∀ i, i + d = (Nz.distN t n).length →
    ∀ k, observatorylaw17_NoiseShifts.l1 (k + d + 1) (n : Int) s true (outN t n) x14 x15 x16 (i : Int) = some true := by
  have ln := dist_len t n
  have hns : -600 ≤ (n : Int) * s ∧ (n : Int) * s ≤ 600 := by
    have : n = 0 ∨ n = 1 ∨ n = 2 ∨ n = 3 ∨ n = 4 ∨ n = 5 ∨ n = 6 := by omega
    rcases this with rfl | rfl | rfl | rfl | rfl | rfl | rfl <;> omega
  induction d with
  | zero =>
    intro i hi k
    simp only [observatorylaw17_NoiseShifts.l1]
    rw [out_len, if_neg (by omega)]
  | succ d ih =>
    intro i hi k
    have hi' : i < (Nz.distN t n).length := by omega
    have next := ih (i + 1) (by omega) k
    obtain ⟨e1, e2, e3, e4, e5⟩ := entry ht n (by omega) i hi'
    have hB := hb.2 i hi'
    have hA := fun q => (ha q).2 i hi'
    have hv := rd_out t n i hi'
    unfold mkO at hv
    have hl := hb.1
    have hl2 := fun q => (ha q).1
    generalize (Nz.distN t n)[i].1 = x at *
    generalize (Nz.distN t n)[i].2 = c at *
    clear hb ha ih
    show observatorylaw17_NoiseShifts.l1 ((k + d + 1) + 1) (n : Int) s true (outN t n) x14 x15 x16 (i : Int) = _
    conv => lhs; rw [observatorylaw17_NoiseShifts.l1]
    have ew : wrap64 (wrap64 (((Nz.distN t n).length : Int) - 1) - (i : Int)) = (((Nz.distN t n).length - 1 - i : Nat) : Int) := by unfold wrap64; omega
    have w1 : wrap64 ((n : Int) * s) = (n : Int) * s := by unfold wrap64; omega
    have w2 : wrap64 (x + (n : Int) * s) = x + (n : Int) * s := by unfold wrap64; omega
    have w3 : wrap64 (-x) = -x := by unfold wrap64; omega
    rw [out_len, ew, if_pos (by omega), if_pos (by omega), if_pos (by omega), if_pos (by omega), hB, hv, w3, if_neg (by simp), wrap_succ i (by omega), w1, w2]
    by_cases h15 : x15 = 0
    · rw [if_pos h15, if_pos (by rw [hl2 h15]; omega), hA h15, if_neg (by simp)]
      exact next
    · rw [if_neg h15]
      exact next

theorem NoiseShifts : ∀ (l0 : List Int) (a1 a2 : Int), l0.length ≤ 140737488351232 → (Lit.int .i64 a1).wf = true → (Lit.int .i64 a2).wf = true → ∃ k, observatorylaw17_NoiseShifts.f k l0 a1 a2 = some true := by
  intro t a s hl _ _
  obtain ⟨K, hK⟩ : ∃ K, K = 1001 + (Nz.distN t a.toNat).length + 1 := ⟨_, rfl⟩
  refine ⟨(K + t.length + 1) + 1, ?_⟩
  unfold observatorylaw17_NoiseShifts.f
  rw [head_f, bindS, few_f, bindS]
  by_cases hf : t.length ≤ 12 ∧ (a ≤ 6 ∨ a > 40)
  · rw [decide_eq_true hf, if_pos rfl, valid_f, bindS]
    cases hv : validT t with
    | false => rw [if_neg (by simp), observatorylaw17_NoiseShifts.j0, if_pos rfl]
    | true =>
      rw [if_pos rfl]
      by_cases h1 : s < -100
      · rw [if_pos h1, observatorylaw17_NoiseShifts.j0, if_pos rfl]
      · rw [if_neg h1, observatorylaw17_NoiseShifts.j0]
        by_cases h2 : s > 100
        · rw [if_pos (decide_eq_true h2)]
        · rw [if_neg (by rw [decide_eq_false h2]; simp)]
          obtain ⟨t1, t9, htt⟩ := tape_of hv
          have hs : -100 ≤ s ∧ s ≤ 100 := by omega
          have hgo := shi_l0 htt t9 a s hs true t.length (Nat.le_refl _) K
          rw [List.drop_length, List.map_nil, List.map_nil, List.reverse_nil] at hgo
          rw [show wrap64 ((t.length : Int) - 1) = (t.length : Int) - 1 by unfold wrap64; omega]
          refine hgo.trans ?_
          conv => lhs; rw [observatorylaw17_NoiseShifts.l0]
          rw [if_neg (by omega)]
          rcases dist_cases t a hf.2 with ⟨e, hbad⟩ | ⟨n, rfl, hn, _, e⟩
          · have hb : a < 0 ∨ 40 < a := by rcases hbad with q | q; (rw [hv] at q; cases q); exact q
            rw [e, dist_bad (Or.inr hb), dist_bad (Or.inr hb), dist_bad (Or.inr hb), bindS, bindS, bindS, bindS, if_neg (by simp), if_pos rfl, if_pos rfl]; rfl
          · have eb : noise_Distribution.f (t.map fun o => -o).reverse (n : Int) = some ((((Nz.distN t n).map fun p => (-p.1, p.2)).reverse).map mkO, 0) := by
              rw [dist_ok (by rw [valid_reverse]; exact valid_neg hv) n (by omega)]
              unfold outN
              rw [Nz.dist_reverse, Nz.dist_neg htt]
            have ec : noise_Distribution.f t.reverse (n : Int) = some (outN t n, 0) := by
              rw [dist_ok (by rw [valid_reverse]; exact hv) n (by omega)]
              unfold outN
              rw [Nz.dist_reverse]
            have hlen := dist_len t n
            have hB : ((((Nz.distN t n).map fun p => (-p.1, p.2)).reverse).map mkO).length = (Nz.distN t n).length ∧ ∀ i, (h : i < (Nz.distN t n).length) → rd_T38 ((((Nz.distN t n).map fun p => (-p.1, p.2)).reverse).map mkO) (((Nz.distN t n).length - 1 - i : Nat) : Int) = ⟨-(Nz.distN t n)[i].1, decN (Nz.distN t n)[i].2⟩ := by
              refine ⟨by simp, fun i h => ?_⟩
              rw [rd_out' _ _ (by simp; omega)]
              simp [List.getElem_reverse, show (Nz.distN t n).length - 1 - ((Nz.distN t n).length - 1 - i) = i by omega]
            rw [Int.toNat_natCast] at hK
            rw [e, eb, ec, bindS]
            obtain ⟨q, hq⟩ : ∃ q, K = q + (Nz.distN t n).length + 1 + 1 := ⟨1000, by omega⟩
            have fin : ∀ (x14 : List S38) (x15 : Int), (x15 = 0 → x14.length = (Nz.distN t n).length ∧ ∀ i, (h : i < (Nz.distN t n).length) → rd_T38 x14 (i : Int) = ⟨(Nz.distN t n)[i].1 + n * s, decN (Nz.distN t n)[i].2⟩) →
                observatorylaw17_NoiseShifts.j2 K (n : Int) s true (outN t n) x14 x15 ((((Nz.distN t n).map fun p => (-p.1, p.2)).reverse).map mkO) false = some true := fun x14 x15 hA => by
              rw [hq, observatorylaw17_NoiseShifts.j2, if_neg (by simp)]
              exact shi_l1 hv n hn s hs x14 _ x15 hB hA (Nz.distN t n).length 0 (by omega) q
            cases hM : validT (t.map (· + s)).reverse with
            | true =>
              have hM' : validT (t.map (· + s)) = true := by rw [← valid_reverse]; exact hM
              have ea : noise_Distribution.f (t.map (· + s)).reverse (n : Int) = some (((Nz.distN t n).map fun p => (p.1 + n * s, p.2)).map mkO, 0) := by
                rw [dist_ok hM n (by omega)]
                unfold outN
                rw [Nz.dist_reverse, Nz.dist_shift htt s (tape_of hM').2.2]
              rw [ea, bindS, bindS, bindS, if_pos rfl, if_pos rfl, if_pos rfl, same_big K _ (by rw [out_len]; omega) (by rw [out_len]; omega), bindS, if_pos rfl, hB.1, out_len, if_pos rfl, valid_f, hM, bindS, if_neg (by simp), if_pos rfl]
              dsimp only
              rw [show ((((List.map mkO ((Nz.distN t n).map fun p => (p.1 + n * s, p.2))).length : Nat) : Int) != ((Nz.distN t n).length : Int)) = false by simp]
              exact fin _ 0 fun _ => ⟨by simp, fun i h => by rw [rd_out' _ _ (by simp; omega)]; simp⟩
            | false =>
              rw [dist_bad (Or.inl hM), bindS, bindS, bindS, if_pos rfl, if_pos rfl, if_pos rfl, same_big K _ (by rw [out_len]; omega) (by rw [out_len]; omega), bindS, if_pos rfl, hB.1, out_len, if_pos rfl, valid_f, hM, bindS, if_neg (by simp), if_neg (by simp)]
              exact fin _ 1 fun q => by cases q
  · rw [decide_eq_false hf, if_neg (by simp), observatorylaw17_NoiseShifts.j0, if_pos rfl]
end Go.Proofs.YtlhfgjblcckifaaGreatDoor.Pure
