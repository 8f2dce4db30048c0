/-
  What the printed functions of the digest layer compute, in plain terms (part 2): Few, Chain and Form laws.
-/
import Derived.Test.YtdflcicgniediaaDoorPuA
import Derived.Lib.ItoaLen
set_option linter.unusedVariables false
set_option linter.unusedSimpArgs false
namespace Go.Proofs.YtdflcicgniediaaDoor.Pure
open Go.RowKit Go.Proofs.YtdflcicgniediaaDoor.P Go.Proofs.YtdflcicgniediaaDoor.Dg Go.Proofs.YtdflcicgniediaaDoorW.PrintWords Go.Proofs.YtdflcicgniediaaDoorW.PrintMore
attribute [local irreducible] sumB

theorem rdOf_nat {α : Type} (d : α) (l : List α) (i : Nat) (h : i < l.length) : rdOf d l (i : Int) = l[i] := by
  simp [rdOf, List.getD, List.getElem?_eq_getElem h]

/-- Few, in plain terms. -/
def fewB (l : List ByteArray) (m : Int) : Bool := l.all (fun s => decide ((s.size : Int) ≤ m)) && decide (l.length ≤ 30)

theorem few_l0 (l : List ByteArray) (m : Int) (hl : l.length ≤ 9223372036854775806) (d : Nat) : ∀ (k i : Nat), i + d = l.length → d < k →
    observatoryref01_Few.l0 k l m (i : Int) = some ((l.drop i).all (fun s => decide ((s.size : Int) ≤ m)) && decide (l.length ≤ 30)) := by
  induction d with
  | zero =>
    intro k i hd hk
    obtain ⟨k, rfl⟩ : ∃ q, k = q + 1 := ⟨k - 1, by omega⟩
    simp only [observatoryref01_Few.l0]
    rw [if_neg (by omega), List.drop_eq_nil_of_le (by omega)]
    have : decide ((l.length : Int) ≤ 30) = decide (l.length ≤ 30) := by
      by_cases h : l.length ≤ 30
      · rw [decide_eq_true h, decide_eq_true (by omega)]
      · rw [decide_eq_false h, decide_eq_false (by omega)]
    rw [this]; simp
  | succ d ih =>
    intro k i hd hk
    obtain ⟨k, rfl⟩ : ∃ q, k = q + 1 := ⟨k - 1, by omega⟩
    have hi : i < l.length := by omega
    simp only [observatoryref01_Few.l0]
    rw [if_pos (by omega), if_pos (by omega), rdOf_nat _ _ _ hi, List.drop_eq_getElem_cons hi]
    by_cases hm : ((l[i].size : Int) > m)
    · rw [if_pos hm]
      simp only [List.all_cons]
      rw [decide_eq_false (by omega)]; simp
    · rw [if_neg hm, show wrap64 ((i : Int) + 1) = ((i + 1 : Nat) : Int) by unfold wrap64; omega, ih k (i + 1) (by omega) (by omega)]
      simp only [List.all_cons]
      rw [decide_eq_true (show (l[i].size : Int) ≤ m by omega)]; simp
theorem few_f (k : Nat) (l : List ByteArray) (m : Int) (hl : l.length ≤ 9223372036854775806) (hk : l.length < k) : observatoryref01_Few.f k l m = some (fewB l m) := by
  unfold observatoryref01_Few.f
  have := few_l0 l m hl l.length k 0 (by omega) hk
  simpa [fewB] using this

theorem itoa_le (n : Nat) (h : n ≤ 1000000) : (Lib.itoa (n : Int)).length ≤ 21 := Lib.itoa_length_le n (by omega) (by omega)
theorem join_le (l : List ByteArray) (m : Int) (hm : m ≤ 200) (h : ∀ s ∈ l, (s.size : Int) ≤ m) : (joinL l).length ≤ 222 * l.length := by
  induction l with
  | nil => simp [joinL]
  | cons s l ih =>
    have e : joinL (s :: l) = piece s ++ joinL l := by simp [joinL]
    have i1 := ih fun t ht => h t (List.mem_cons_of_mem _ ht)
    have i2 := h s List.mem_cons_self
    have i3 := itoa_le s.size (by omega)
    rw [e, List.length_append, piece_length, List.length_cons]
    omega
theorem fewB_out (l : List ByteArray) (m : Int) (hm : m ≤ 200) (h : fewB l m = true) : (joinL l).length ≤ 6660 ∧ l.length ≤ 30 ∧ ∀ s ∈ l, (s.size : Int) ≤ m := by
  simp only [fewB, Bool.and_eq_true, List.all_eq_true, decide_eq_true_eq] at h
  obtain ⟨h1, h2⟩ := h
  exact ⟨by have := join_le l m hm h1; omega, h2, h1⟩
theorem joinB_size (l : List ByteArray) : (joinB l).size = (joinL l).length := by rw [Lib.size_eq]; rfl

theorem wf8 {a : Int} (h : (Lit.int .u8 a).wf = true) : 0 ≤ a ∧ a ≤ 255 := by
  simp [Lit.wf, IntKind.min, IntKind.max, IntKind.signed, IntKind.bits] at h
  omega
theorem wf64 {a : Int} (h : (Lit.int .i64 a).wf = true) : -9223372036854775808 ≤ a ∧ a ≤ 9223372036854775807 := by
  simp [Lit.wf, IntKind.min, IntKind.max, IntKind.signed, IntKind.bits] at h
  omega

theorem isB_chain (n : Nat) : ∀ s, isB (chainB s (n + 1)) = true := by
  induction n with
  | zero => intro s; exact isB_sumB s
  | succ n ih => intro s; exact ih (sumB s)

theorem chain_le (n : Nat) (s : ByteArray) : (chainB s n).size ≤ max s.size 16 := by
  induction n generalizing s with
  | zero => exact Nat.le_max_left _ _
  | succ n ih => have := ih (sumB s); rw [sumB_size] at this; exact Nat.le_trans this (by omega)

theorem wrap_tmod (a m : Int) (h : 0 ≤ a ∧ a ≤ 255) : Int.tmod (wrap64 a) m = a % m := by
  rw [show wrap64 a = a by unfold wrap64; omega]; exact Int.tmod_eq_emod_of_nonneg h.1
theorem bindS {α β : Type} (a : α) (f : α → Option β) : (some a).bind f = f a := by rw [Option.bind_some]
theorem is_f (s : ByteArray) : digest_Is.f s = some (isB s) := by rw [digest_Is.f]
theorem isB_chain_pos (n : Nat) (h : 0 < n) (s : ByteArray) : isB (chainB s n) = true := by
  obtain ⟨m, rfl⟩ : ∃ m, n = m + 1 := ⟨n - 1, by omega⟩
  exact isB_chain m s

theorem DigestChains : ∀ (a0 : ByteArray) (a1 a2 : Int), a0.size ≤ 140737488351232 → (Lit.int .u8 a1).wf = true → (Lit.int .u8 a2).wf = true → ∃ k, observatorylaw01_DigestChains.f k a0 a1 a2 = some true := by
  intro s a b hs ha hb
  have ha := wf8 ha
  have hb := wf8 hb
  obtain ⟨k, hk⟩ : ∃ k, k = 1004 := ⟨_, rfl⟩
  refine ⟨k + 1, ?_⟩
  unfold observatorylaw01_DigestChains.f
  rw [head_ev _ (by omega)]
  simp only [Option.bind_some]
  by_cases h1 : (s.size : Int) > 2000
  · rw [if_pos h1]
  · rw [if_neg h1]
    simp only [if_true]
    rw [chain_f _ _ _ (by omega) (by omega)]
    simp only [Option.bind_some]
    rw [chain_f _ _ _ (by have := chain_le (min (Int.tmod (wrap64 a) 51) 1000).toNat s; omega) (by omega)]
    simp only [Option.bind_some]
    rw [chain_f _ _ _ (by omega) (by omega)]
    simp only [Option.bind_some]
    rw [← chainB_add, toL_eq, decide_eq_true]
    congr 1
    rw [wrap_tmod a 51 (by omega), wrap_tmod b 51 (by omega)]
    unfold wrap64
    omega

end Go.Proofs.YtdflcicgniediaaDoor.Pure
