/-
  Plain facts for the later layers: texts, digests, Few.
-/
import Derived.Test.YtapnakfhkdcfeaaGreatDoorPx4
import Derived.Test.YtapnakfhkdcfeaaGreatDoorMgDigest
import Derived.Lib.ItoaLen
set_option linter.unusedVariables false
set_option linter.unusedSimpArgs false
namespace Go.Proofs.YtapnakfhkdcfeaaGreatDoor.Pure
open Go.RowKit Go.Proofs.YtapnakfhkdcfeaaGreatDoor.P Go.Proofs.YtapnakfhkdcfeaaGreatDoor.Dg Go.Proofs.YtapnakfhkdcfeaaGreatDoorW.PrintWords Go.Proofs.YtapnakfhkdcfeaaGreatDoorW.PrintMore
attribute [local irreducible] sumB

theorem toL (s : ByteArray) : s.toList = s.data.toList := ByteArray.toList_eq s
theorem bytes_ext {s t : ByteArray} (h : s.data.toList = t.data.toList) : s = t := by
  cases s with | mk a => cases t with | mk b => cases a; cases b; simp only at h; rw [h]
theorem toL_eq (s t : ByteArray) : (s.toList == t.toList) = decide (s = t) := by
  rw [toL, toL]
  by_cases h : s = t
  · subst h; simp
  · have : ¬ s.data.toList = t.data.toList := fun e => h (bytes_ext e)
    rw [decide_eq_false h, beq_eq_false_iff_ne]; exact this
theorem toL_inj {s t : ByteArray} : s.toList = t.toList ↔ s = t := ⟨fun h => by rw [toL, toL] at h; exact bytes_ext h, fun h => by rw [h]⟩
theorem sumB_size (s : ByteArray) : (sumB s).size = 16 := by rw [Lib.size_eq, sumB_data, sumL_length]
theorem sum_f (s : ByteArray) (h : s.size ≤ 9223372036854775799) : digest_Sum.f s = some (sumB s) := if_pos h
theorem sumB_inj {s t : ByteArray} (h : sumB s = sumB t) : sumL s.data.toList = sumL t.data.toList := by rw [← sumB_data, ← sumB_data, h]
theorem short_eq {s t : ByteArray} (hs : s.size ≤ 7) (ht : t.size ≤ 7) (h : sumB s = sumB t) : s = t :=
  bytes_ext (short_inj _ _ (by rw [← Lib.size_eq]; exact hs) (by rw [← Lib.size_eq]; exact ht) (sumB_inj h))
theorem hexd_mem : ∀ d, d < 16 → hexSet.contains (hexd d) = true := by decide
theorem hexTo_mem (k : Nat) : ∀ n, (hexTo n k).all (hexSet.contains ·) = true := by
  induction k with
  | zero => intro n; rfl
  | succ k ih => intro n; simp only [hexTo, List.all_append, ih, List.all_cons, List.all_nil, hexd_mem _ (Nat.mod_lt n (by decide : 0 < 16)), Bool.and_true]
theorem isB_sumB (s : ByteArray) : isB (sumB s) = true := by
  unfold isB; rw [sumB_size, sumB_data]; unfold sumL; rw [hexTo_mem]; rfl
theorem list_f (l : List ByteArray) (h : (joinL l).length ≤ 140737488355328) : digest_List.f l = some (sumB (joinB l)) := if_pos h
theorem rdOf_nat {α : Type} (d : α) (l : List α) (i : Nat) (h : i < l.length) : rdOf d l (i : Int) = l[i] := by
  simp [rdOf, List.getD, List.getElem?_eq_getElem h]
/-- Few, in plain terms. -/
def fewB (l : List ByteArray) (m : Int) : Bool := l.all (fun s => decide ((s.size : Int) ≤ m)) && decide (l.length ≤ 30)
theorem few_l0 (l : List ByteArray) (m : Int) (hl : l.length ≤ 9223372036854775806) (d : Nat) : ∀ (k i : Nat), i + d = l.length → d < k →
    observatoryref01_Few.l0 k l m (i : Int) = some ((l.drop i).all (fun s => decide ((s.size : Int) ≤ m)) && decide (l.length ≤ 30)) := by
  induction d with
  | zero =>
    intro k i hd hk
    obtain ⟨k, rfl⟩ : ∃ q, k = q + 1 := ⟨k - 1, by omega⟩
    simp only [observatoryref01_Few.l0]
    rw [if_neg (by omega), List.drop_eq_nil_of_le (by omega)]
    have : decide ((l.length : Int) ≤ 30) = decide (l.length ≤ 30) := by
      by_cases h : l.length ≤ 30
      · rw [decide_eq_true h, decide_eq_true (by omega)]
      · rw [decide_eq_false h, decide_eq_false (by omega)]
    rw [this]; simp
  | succ d ih =>
    intro k i hd hk
    obtain ⟨k, rfl⟩ : ∃ q, k = q + 1 := ⟨k - 1, by omega⟩
    have hi : i < l.length := by omega
    simp only [observatoryref01_Few.l0]
    rw [if_pos (by omega), if_pos (by omega), rdOf_nat _ _ _ hi, List.drop_eq_getElem_cons hi]
    by_cases hm : ((l[i].size : Int) > m)
    · rw [if_pos hm]
      simp only [List.all_cons]
      rw [decide_eq_false (by omega)]; simp
    · rw [if_neg hm, show wrap64 ((i : Int) + 1) = ((i + 1 : Nat) : Int) by unfold wrap64; omega, ih k (i + 1) (by omega) (by omega)]
      simp only [List.all_cons]
      rw [decide_eq_true (show (l[i].size : Int) ≤ m by omega)]; simp
theorem few_f (k : Nat) (l : List ByteArray) (m : Int) (hl : l.length ≤ 9223372036854775806) (hk : l.length < k) : observatoryref01_Few.f k l m = some (fewB l m) := by
  unfold observatoryref01_Few.f
  have := few_l0 l m hl l.length k 0 (by omega) hk
  simpa [fewB] using this
theorem itoa_le (n : Nat) (h : n ≤ 1000000) : (Lib.itoa (n : Int)).length ≤ 21 := Lib.itoa_length_le n (by omega) (by omega)
theorem join_le (l : List ByteArray) (m : Int) (hm : m ≤ 200) (h : ∀ s ∈ l, (s.size : Int) ≤ m) : (joinL l).length ≤ 222 * l.length := by
  induction l with
  | nil => simp [joinL]
  | cons s l ih =>
    have e : joinL (s :: l) = piece s ++ joinL l := by simp [joinL]
    have i1 := ih fun t ht => h t (List.mem_cons_of_mem _ ht)
    have i2 := h s List.mem_cons_self
    have i3 := itoa_le s.size (by omega)
    rw [e, List.length_append, piece_length, List.length_cons]
    omega
theorem fewB_out (l : List ByteArray) (m : Int) (hm : m ≤ 200) (h : fewB l m = true) : (joinL l).length ≤ 6660 ∧ l.length ≤ 30 ∧ ∀ s ∈ l, (s.size : Int) ≤ m := by
  simp only [fewB, Bool.and_eq_true, List.all_eq_true, decide_eq_true_eq] at h
  obtain ⟨h1, h2⟩ := h
  exact ⟨by have := join_le l m hm h1; omega, h2, h1⟩
theorem joinB_size (l : List ByteArray) : (joinB l).size = (joinL l).length := by rw [Lib.size_eq]; rfl
theorem wf8 {a : Int} (h : (Lit.int .u8 a).wf = true) : 0 ≤ a ∧ a ≤ 255 := by
  simp [Lit.wf, IntKind.min, IntKind.max, IntKind.signed, IntKind.bits] at h
  omega
theorem wf64 {a : Int} (h : (Lit.int .i64 a).wf = true) : -9223372036854775808 ≤ a ∧ a ≤ 9223372036854775807 := by
  simp [Lit.wf, IntKind.min, IntKind.max, IntKind.signed, IntKind.bits] at h
  omega
theorem bindS {α β : Type} (a : α) (f : α → Option β) : (some a).bind f = f a := by rw [Option.bind_some]
theorem is_f (s : ByteArray) : digest_Is.f s = some (isB s) := by rw [digest_Is.f]

end Go.Proofs.YtapnakfhkdcfeaaGreatDoor.Pure
