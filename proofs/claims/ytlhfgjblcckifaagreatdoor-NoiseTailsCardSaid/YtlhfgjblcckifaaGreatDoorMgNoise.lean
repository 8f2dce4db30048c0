/-
  The noise layer: counts, maps of counts, Valid, the step of Distribution, what the printed texts call.
-/
import Derived.Test.YtlhfgjblcckifaaGreatDoorProg
import Derived.Test.YtlhfgjblcckifaaGreatDoorMgNum
import Derived.Maps.StringElems
import Derived.Maps.Ext
import Derived.Lib.SlKeysI
import Derived.Test.YtlhfgjblcckifaaGreatDoorMgDivs
import Derived.Shelf.SlIterI.Nil
import Derived.Shelf.SortM.Plain
import Derived.Shelf.SortM.SortNone
import Derived.Ground.GgzProg
import Derived.Ground.SlgmProg
set_option linter.unusedVariables false
set_option linter.unusedSimpArgs false
namespace Go.Proofs.YtlhfgjblcckifaaGreatDoor.Nz

/-- How often n offsets have the sum v. -/
def cntN (t : List Int) : Nat → Int → Nat
  | 0, v => if v = 0 then 1 else 0
  | n + 1, v => (t.map fun o => cntN t n (v - o)).sum
def Tape (t : List Int) : Prop := ∀ o ∈ t, -50 ≤ o ∧ o ≤ 50
def span (n : Nat) : List Int := (List.range (100 * n + 1)).map fun k => ((k : Nat) : Int) - 50 * n
/-- The values that n offsets have as their sum, with their counts. -/
def distN (t : List Int) (n : Nat) : List (Int × Nat) := (span n).filterMap fun v => if cntN t n v = 0 then none else some (v, cntN t n v)

theorem sum_zero {α : Type} (f : α → Nat) : ∀ l : List α, (∀ x ∈ l, f x = 0) → (l.map f).sum = 0
  | [], _ => rfl
  | x :: l, h => by
    rw [List.map_cons, List.sum_cons, h x List.mem_cons_self, sum_zero f l fun y hy => h y (List.mem_cons_of_mem _ hy)]
theorem sum_ne {α : Type} (f : α → Nat) (l : List α) (h : (l.map f).sum ≠ 0) : ∃ x, x ∈ l ∧ f x ≠ 0 := by
  refine Classical.byContradiction fun hn => h (sum_zero f l fun x hx => Classical.byContradiction fun hf => hn ⟨x, hx, hf⟩)
theorem support (t : List Int) (ht : Tape t) : ∀ (n : Nat) (v : Int), cntN t n v ≠ 0 → -50 * (n : Int) ≤ v ∧ v ≤ 50 * (n : Int)
  | 0, v, h => by
    unfold cntN at h
    split at h
    · rename_i e; omega
    · exact absurd rfl h
  | n + 1, v, h => by
    unfold cntN at h
    obtain ⟨o, ho, hne⟩ := sum_ne _ t h
    have h1 := support t ht n (v - o) hne
    have h2 := ht o ho
    omega
theorem mem_span (n : Nat) (v : Int) : v ∈ span n ↔ -50 * (n : Int) ≤ v ∧ v ≤ 50 * (n : Int) := by
  unfold span
  rw [List.mem_map]
  constructor
  · rintro ⟨k, hk, rfl⟩
    rw [List.mem_range] at hk
    omega
  · intro h
    exact ⟨(v + 50 * n).toNat, by rw [List.mem_range]; omega, by omega⟩
theorem mem_dist {t : List Int} (ht : Tape t) (n : Nat) (v : Int) (c : Nat) : (v, c) ∈ distN t n ↔ c = cntN t n v ∧ c ≠ 0 := by
  unfold distN
  rw [List.mem_filterMap]
  constructor
  · rintro ⟨u, _, hu⟩
    split at hu
    · exact absurd hu (by simp)
    · rename_i h0
      have := Option.some.inj hu
      simp only [Prod.mk.injEq] at this
      obtain ⟨rfl, rfl⟩ := this
      exact ⟨rfl, h0⟩
  · rintro ⟨rfl, h0⟩
    exact ⟨v, (mem_span n v).2 (support t ht n v h0), by rw [if_neg h0]⟩
/-- The values rise. -/
def Rise (l : List (Int × Nat)) : Prop := l.Pairwise fun p q => p.1 < q.1
theorem span_rise (n : Nat) : (span n).Pairwise fun a b => a < b := by
  unfold span
  rw [List.pairwise_map]
  exact List.Pairwise.imp (fun h => by omega) List.pairwise_lt_range
theorem dist_rise (t : List Int) (n : Nat) : Rise (distN t n) := by
  unfold Rise distN
  rw [List.pairwise_filterMap]
  refine List.Pairwise.imp ?_ (span_rise n)
  intro a b hab p hp q hq
  split at hp
  · exact absurd hp (by simp)
  · split at hq
    · exact absurd hq (by simp)
    · cases hp; cases hq; exact hab
/-- Two rising lists of the same entries are one. -/
theorem rise_ext : ∀ (l m : List (Int × Nat)), Rise l → Rise m → (∀ p, p ∈ l ↔ p ∈ m) → l = m
  | [], [], _, _, _ => rfl
  | [], q :: m, _, _, h => absurd ((h q).2 List.mem_cons_self) (by simp)
  | p :: l, [], _, _, h => absurd ((h p).1 List.mem_cons_self) (by simp)
  | p :: l, q :: m, h1, h2, h => by
    unfold Rise at h1 h2
    rw [List.pairwise_cons] at h1 h2
    have e : p = q := by
      rcases List.mem_cons.1 ((h p).1 List.mem_cons_self) with e | hp
      · exact e
      · rcases List.mem_cons.1 ((h q).2 List.mem_cons_self) with e | hq
        · exact e.symm
        · have a1 := h1.1 q hq
          have a2 := h2.1 p hp
          omega
    subst e
    congr 1
    refine rise_ext l m h1.2 h2.2 fun r => ⟨fun hr => ?_, fun hr => ?_⟩
    · rcases List.mem_cons.1 ((h r).1 (List.mem_cons_of_mem _ hr)) with e | q
      · subst e; exact absurd (h1.1 r hr) (by omega)
      · exact q
    · rcases List.mem_cons.1 ((h r).2 (List.mem_cons_of_mem _ hr)) with e | q
      · subst e; exact absurd (h2.1 r hr) (by omega)
      · exact q

/-! ### what is still to come -/
/-- The count that a list of entries gives a value. -/
def look (l : List (Int × Nat)) (u : Int) : Nat := (l.map fun p => if p.1 = u then p.2 else 0).sum
theorem look_none (u : Int) : ∀ l : List (Int × Nat), (∀ p ∈ l, p.1 ≠ u) → look l u = 0 := fun l h => sum_zero _ l fun p hp => if_neg (h p hp)
theorem look_mem : ∀ (l : List (Int × Nat)), Rise l → ∀ u c, (u, c) ∈ l → look l u = c
  | [], _, u, c, h => absurd h (by simp)
  | p :: l, hr, u, c, h => by
    unfold Rise at hr
    rw [List.pairwise_cons] at hr
    unfold look
    rw [List.map_cons, List.sum_cons]
    rcases List.mem_cons.1 h with e | hm
    · subst e
      have := look_none u l fun q hq => by have := hr.1 q hq; dsimp only at this; omega
      unfold look at this
      rw [this]; simp
    · have h1 := hr.1 _ hm
      dsimp only at h1
      rw [if_neg (by omega)]
      have := look_mem l hr.2 u c hm
      unfold look at this
      rw [this, Nat.zero_add]
theorem look_dist {t : List Int} (ht : Tape t) (n : Nat) (u : Int) : look (distN t n) u = cntN t n u := by
  by_cases h : cntN t n u = 0
  · rw [h]
    refine look_none u _ fun p hp e => ?_
    have := (mem_dist ht n p.1 p.2).1 hp
    rw [e] at this
    omega
  · exact look_mem _ (dist_rise t n) u _ ((mem_dist ht n u _).2 ⟨rfl, h⟩)
theorem sum_add {α : Type} (f g : α → Nat) : ∀ l : List α, (l.map fun x => f x + g x).sum = (l.map f).sum + (l.map g).sum
  | [] => rfl
  | x :: l => by
    simp only [List.map_cons, List.sum_cons, sum_add f g l]; omega
theorem sum_congr {α : Type} (f g : α → Nat) (l : List α) (h : ∀ x ∈ l, f x = g x) : (l.map f).sum = (l.map g).sum := by
  rw [List.map_congr_left h]
/-- The counts of the next sums, entry by entry. -/
theorem next_count (l : List (Int × Nat)) (v : Int) : ∀ t : List Int, (t.map fun o => look l (v - o)).sum = (l.map fun p => p.2 * t.count (v - p.1)).sum
  | [] => by
    rw [sum_zero _ l (fun p _ => by simp)]; rfl
  | o :: t => by
    rw [List.map_cons, List.sum_cons, next_count l v t]
    unfold look
    rw [← sum_add]
    refine sum_congr _ _ l fun p _ => ?_
    rw [List.count_cons]
    by_cases e : p.1 = v - o
    · rw [if_pos e, if_pos (by rw [beq_iff_eq]; omega), Nat.mul_add, Nat.mul_one]; omega
    · rw [if_neg e, if_neg (by rw [beq_iff_eq]; omega), Nat.add_zero, Nat.zero_add]
/-- What the entries that are still to come add to a value's count. -/
def remS (t : List Int) (l : List (Int × Nat)) (left : Int → Bool) (v : Int) : Nat := (l.map fun p => if left p.1 = true then p.2 * t.count (v - p.1) else 0).sum
theorem remS_start {t : List Int} (ht : Tape t) (n : Nat) (left : Int → Bool) (h : ∀ p ∈ distN t n, left p.1 = true) (v : Int) : remS t (distN t n) left v = cntN t (n + 1) v := by
  unfold remS
  rw [sum_congr _ (fun p => p.2 * t.count (v - p.1)) _ (fun p hp => if_pos (h p hp)), ← next_count, cntN]
  exact sum_congr _ _ t fun o _ => look_dist ht n (v - o)
theorem remS_end (t : List Int) (l : List (Int × Nat)) (left : Int → Bool) (h : ∀ x, left x = false) (v : Int) : remS t l left v = 0 :=
  sum_zero _ l fun p _ => by rw [h]; rfl
theorem remS_step (t : List Int) (left : Int → Bool) (x : Int) (c : Nat) (v : Int) (hx : left x = true) : ∀ l : List (Int × Nat), Rise l → (x, c) ∈ l →
    remS t l left v = remS t l (fun z => left z && !(z == x)) v + c * t.count (v - x)
  | [], _, h => absurd h (by simp)
  | p :: l, hr, h => by
    unfold Rise at hr
    rw [List.pairwise_cons] at hr
    unfold remS
    rw [List.map_cons, List.sum_cons, List.map_cons, List.sum_cons]
    dsimp only
    rcases List.mem_cons.1 h with e | hm
    · subst e
      rw [if_pos hx, if_neg (by simp)]
      rw [sum_congr (fun p => if left p.1 = true then p.2 * t.count (v - p.1) else 0) (fun p => if (left p.1 && !(p.1 == x)) = true then p.2 * t.count (v - p.1) else 0) l (fun q hq => by
        have h1 := hr.1 q hq
        dsimp only at h1
        have h2 : (q.1 == x) = false := by rw [beq_eq_false_iff_ne]; omega
        rw [h2]; simp)]
      dsimp only
      omega
    · have ih := remS_step t left x c v hx l hr.2 hm
      unfold remS at ih
      dsimp only at ih
      have h1 := hr.1 _ hm
      dsimp only at h1
      have h2 : (p.1 == x) = false := by rw [beq_eq_false_iff_ne]; omega
      have e3 : ∀ q : Nat, (if (left p.1 && !(p.1 == x)) = true then q else 0) = (if left p.1 = true then q else 0) := fun q => by rw [h2]; simp
      rw [ih, e3]
      omega

/-! ### bounds -/
theorem count_le (t : List Int) : ∀ (n : Nat) (v : Int), cntN t n v ≤ t.length ^ n
  | 0, v => by unfold cntN; split <;> simp
  | n + 1, v => by
    unfold cntN
    have key : ∀ (l : List Int), (l.map fun o => cntN t n (v - o)).sum ≤ l.length * t.length ^ n := by
      intro l
      induction l with
      | nil => simp
      | cons o l ih =>
        have := count_le t n (v - o)
        simp only [List.map_cons, List.sum_cons, List.length_cons, Nat.succ_mul]
        omega
    have := key t
    rw [Nat.pow_succ, Nat.mul_comm]
    exact this

end Go.Proofs.YtlhfgjblcckifaaGreatDoor.Nz

set_option linter.unusedVariables false
set_option linter.unusedSimpArgs false
namespace Go.Proofs.YtlhfgjblcckifaaGreatDoor.Nz

/-- The sums of all cases of n offsets. -/
def allS (t : List Int) : Nat → List Int
  | 0 => [0]
  | n + 1 => t.flatMap fun o => (allS t n).map (o + ·)
theorem count_flat (f : Int → List Int) (v : Int) : ∀ t : List Int, (t.flatMap f).count v = (t.map fun o => (f o).count v).sum
  | [] => rfl
  | o :: t => by rw [List.flatMap_cons, List.count_append, count_flat f v t, List.map_cons, List.sum_cons]
theorem count_shift (o v : Int) : ∀ l : List Int, (l.map (o + ·)).count v = l.count (v - o)
  | [] => rfl
  | x :: l => by
    rw [List.map_cons, List.count_cons, List.count_cons, count_shift o v l]
    congr 1
    by_cases e : o + x = v
    · rw [if_pos (by rw [beq_iff_eq]; exact e), if_pos (by rw [beq_iff_eq]; omega)]
    · rw [if_neg (by rw [beq_iff_eq]; exact e), if_neg (by rw [beq_iff_eq]; omega)]
theorem cntN_all (t : List Int) : ∀ (n : Nat) (v : Int), cntN t n v = (allS t n).count v
  | 0, v => by
    unfold cntN allS
    rw [List.count_cons, List.count_nil]
    by_cases e : v = 0
    · rw [if_pos e, if_pos (by rw [beq_iff_eq]; exact e.symm)]
    · rw [if_neg e, if_neg (by rw [beq_iff_eq]; exact Ne.symm e)]
  | n + 1, v => by
    unfold cntN allS
    rw [count_flat]
    exact sum_congr _ _ t fun o _ => by rw [count_shift, cntN_all t n]
theorem allS_length (t : List Int) : ∀ n, (allS t n).length = t.length ^ n
  | 0 => rfl
  | n + 1 => by
    unfold allS
    rw [List.length_flatMap]
    have : ∀ l : List Int, (l.map fun o => ((allS t n).map (o + ·)).length).sum = l.length * t.length ^ n := by
      intro l
      induction l with
      | nil => simp
      | cons o l ih => rw [List.map_cons, List.sum_cons, ih, List.length_map, allS_length t n, List.length_cons, Nat.succ_mul]; omega
    rw [this, Nat.pow_succ, Nat.mul_comm]
/-- Sums over all cases, and over the different values with their counts. -/
theorem group (g : Int → Nat) (K : List Int) (hK : K.Pairwise (· ≠ ·)) : ∀ A : List Int, (∀ a ∈ A, a ∈ K) → (A.map g).sum = (K.map fun k => A.count k * g k).sum
  | [], _ => by rw [sum_zero _ K fun k _ => by simp]; rfl
  | a :: A, h => by
    rw [List.map_cons, List.sum_cons, group g K hK A fun x hx => h x (List.mem_cons_of_mem _ hx)]
    have key : ∀ K : List Int, K.Pairwise (· ≠ ·) → a ∈ K → (K.map fun k => (a :: A).count k * g k).sum = g a + (K.map fun k => A.count k * g k).sum := by
      intro K
      induction K with
      | nil => intro _ h; exact absurd h (by simp)
      | cons k K ih =>
        intro hp hm
        rw [List.pairwise_cons] at hp
        rw [List.map_cons, List.sum_cons, List.map_cons, List.sum_cons, List.count_cons]
        rcases List.mem_cons.1 hm with e | hm
        · subst e
          have : (K.map fun k => (a :: A).count k * g k).sum = (K.map fun k => A.count k * g k).sum := sum_congr _ _ K fun k hk => by
            have := hp.1 k hk
            rw [List.count_cons, if_neg (by rw [beq_iff_eq]; exact this)]; simp
          rw [this, if_pos (by simp), Nat.add_mul, Nat.one_mul]; omega
        · have := hp.1 a hm
          rw [ih hp.2 hm, if_neg (by rw [beq_iff_eq]; exact Ne.symm this)]; simp only [Nat.add_zero]; omega
    exact (key K hK (h a List.mem_cons_self)).symm
theorem mem_all_span {t : List Int} (ht : Tape t) (n : Nat) : ∀ a ∈ allS t n, a ∈ span n := fun a ha => by
  rw [mem_span]
  exact support t ht n a (by rw [cntN_all]; exact Nat.pos_iff_ne_zero.1 (List.count_pos_iff.2 ha))
theorem span_ne (n : Nat) : (span n).Pairwise (· ≠ ·) := (span_rise n).imp fun h => by omega
/-- Sums over the entries of a distribution are sums over the values that there may be. -/
theorem dist_sum (t : List Int) (n : Nat) (f : Int → Nat → Nat) (hf : ∀ v, f v 0 = 0) : ((distN t n).map fun p => f p.1 p.2).sum = ((span n).map fun v => f v (cntN t n v)).sum := by
  unfold distN
  generalize span n = l
  induction l with
  | nil => rfl
  | cons v l ih =>
    rw [List.filterMap_cons, List.map_cons, List.sum_cons, ← ih]
    by_cases h : cntN t n v = 0
    · rw [if_pos h, h, hf]; simp
    · rw [if_neg h]; simp
theorem dist_group {t : List Int} (ht : Tape t) (n : Nat) (g : Int → Nat) : ((distN t n).map fun p => p.2 * g p.1).sum = ((allS t n).map g).sum := by
  rw [dist_sum t n (fun v c => c * g v) (fun v => Nat.zero_mul _), group g (span n) (span_ne n) (allS t n) (mem_all_span ht n)]
  exact sum_congr _ _ _ fun v _ => by rw [cntN_all]
theorem flat_sum (f : Int → List Int) (g : Int → Nat) : ∀ t : List Int, ((t.flatMap f).map g).sum = (t.map fun o => ((f o).map g).sum).sum
  | [] => rfl
  | o :: t => by rw [List.flatMap_cons, List.map_append, List.sum_append, flat_sum f g t, List.map_cons, List.sum_cons]
/-- Two numbers of offsets together. -/
theorem cntN_add (t : List Int) (m : Nat) : ∀ (n : Nat) (v : Int), cntN t (n + m) v = ((allS t n).map fun u => cntN t m (v - u)).sum
  | 0, v => by
    rw [Nat.zero_add]
    unfold allS
    simp
  | n + 1, v => by
    rw [Nat.succ_add, cntN]
    unfold allS
    rw [flat_sum]
    refine sum_congr _ _ t fun o _ => ?_
    rw [cntN_add t m n, List.map_map]
    refine sum_congr _ _ _ fun u _ => ?_
    show cntN t m (v - o - u) = cntN t m (v - (o + u))
    congr 1
    omega
theorem convolve {t : List Int} (ht : Tape t) (n m : Nat) (v : Int) : cntN t (n + m) v = ((distN t n).map fun p => p.2 * cntN t m (v - p.1)).sum := by
  rw [dist_group ht n fun u => cntN t m (v - u), cntN_add]
theorem total {t : List Int} (ht : Tape t) (n : Nat) : ((distN t n).map fun p => p.2).sum = t.length ^ n := by
  have := dist_group ht n fun _ => 1
  simp only [Nat.mul_one] at this
  rw [this, ← allS_length]
  generalize allS t n = l
  induction l with
  | nil => rfl
  | cons x l ih => rw [List.map_cons, List.sum_cons, ih, List.length_cons]; omega

/-! ### shifts, signs, the opposite order -/
theorem cnt_shift (t : List Int) (s : Int) : ∀ (n : Nat) (v : Int), cntN (t.map (· + s)) n (v + n * s) = cntN t n v
  | 0, v => by unfold cntN; simp
  | n + 1, v => by
    unfold cntN
    rw [List.map_map]
    refine sum_congr _ _ t fun o _ => ?_
    show cntN (t.map (· + s)) n (v + ((n + 1 : Nat) : Int) * s - (o + s)) = cntN t n (v - o)
    rw [← cnt_shift t s n (v - o)]
    congr 1
    rw [Int.natCast_succ, Int.add_mul]; omega
theorem cnt_neg (t : List Int) : ∀ (n : Nat) (v : Int), cntN (t.map (fun o => -o)) n (-v) = cntN t n v
  | 0, v => by
    unfold cntN
    by_cases e : v = 0
    · rw [if_pos e, if_pos (by omega)]
    · rw [if_neg e, if_neg (by omega)]
  | n + 1, v => by
    unfold cntN
    rw [List.map_map]
    refine sum_congr _ _ t fun o _ => ?_
    show cntN (t.map (fun o => -o)) n (-v - -o) = cntN t n (v - o)
    rw [← cnt_neg t n (v - o)]
    congr 1
    omega
theorem sum_reverse (f : Int → Nat) : ∀ l : List Int, (l.reverse.map f).sum = (l.map f).sum
  | [] => rfl
  | x :: l => by rw [List.reverse_cons, List.map_append, List.sum_append, sum_reverse f l, List.map_cons, List.sum_cons, List.map_cons, List.sum_cons, List.map_nil, List.sum_nil]; omega
theorem cnt_reverse (t : List Int) : ∀ (n : Nat) (v : Int), cntN t.reverse n v = cntN t n v
  | 0, v => rfl
  | n + 1, v => by
    unfold cntN
    rw [sum_reverse]
    exact sum_congr _ _ t fun o _ => cnt_reverse t n (v - o)
theorem dist_reverse {t : List Int} (n : Nat) : distN t.reverse n = distN t n := by
  unfold distN
  congr 1
  funext v
  rw [cnt_reverse]
theorem dist_shift {t : List Int} (ht : Tape t) (s : Int) (hs : Tape (t.map (· + s))) (n : Nat) : distN (t.map (· + s)) n = (distN t n).map fun p => (p.1 + n * s, p.2) := by
  refine rise_ext _ _ (dist_rise _ n) ?_ fun p => ?_
  · unfold Rise
    rw [List.pairwise_map]
    exact (dist_rise t n).imp fun h => by dsimp only; omega
  · obtain ⟨v, c⟩ := p
    rw [mem_dist hs, List.mem_map]
    constructor
    · rintro ⟨rfl, h0⟩
      have e := cnt_shift t s n (v - n * s)
      rw [show v - n * s + n * s = v by omega] at e
      exact ⟨(v - n * s, cntN t n (v - n * s)), (mem_dist ht n _ _).2 ⟨rfl, by rw [← e]; exact h0⟩, by rw [← e, show v - n * s + n * s = v by omega]⟩
    · rintro ⟨⟨u, d⟩, hm, he⟩
      have hm := (mem_dist ht n u d).1 hm
      simp only [Prod.mk.injEq] at he
      obtain ⟨rfl, rfl⟩ := he
      rw [cnt_shift]
      exact hm
theorem dist_neg {t : List Int} (ht : Tape t) (n : Nat) : distN (t.map fun o => -o) n = ((distN t n).map fun p => (-p.1, p.2)).reverse := by
  have hs : Tape (t.map fun o => -o) := fun o ho => by
    obtain ⟨x, hx, rfl⟩ := List.mem_map.1 ho
    have := ht x hx
    omega
  refine rise_ext _ _ (dist_rise _ n) ?_ fun p => ?_
  · unfold Rise
    rw [List.pairwise_reverse, List.pairwise_map]
    exact (dist_rise t n).imp fun h => by dsimp only; omega
  · obtain ⟨v, c⟩ := p
    rw [mem_dist hs, List.mem_reverse, List.mem_map]
    constructor
    · rintro ⟨rfl, h0⟩
      have e := cnt_neg t n (-v)
      rw [show - -v = v by omega] at e
      exact ⟨(-v, cntN t n (-v)), (mem_dist ht n _ _).2 ⟨rfl, by rw [← e]; exact h0⟩, by rw [← e, show - -v = v by omega]⟩
    · rintro ⟨⟨u, d⟩, hm, he⟩
      have hm := (mem_dist ht n u d).1 hm
      simp only [Prod.mk.injEq] at he
      obtain ⟨rfl, rfl⟩ := he
      rw [cnt_neg]
      exact hm

/-! ### the least and the greatest value -/
theorem all_low (t : List Int) (lo : Int) (h : ∀ o ∈ t, lo ≤ o) : ∀ (n : Nat) (v : Int), cntN t n v ≠ 0 → n * lo ≤ v
  | 0, v, hv => by
    unfold cntN at hv
    split at hv
    · omega
    · exact absurd rfl hv
  | n + 1, v, hv => by
    unfold cntN at hv
    obtain ⟨o, ho, hne⟩ := sum_ne _ t hv
    have h1 := all_low t lo h n (v - o) hne
    have h2 := h o ho
    rw [Int.natCast_succ, Int.add_mul]; omega
theorem all_high (t : List Int) (hi : Int) (h : ∀ o ∈ t, o ≤ hi) : ∀ (n : Nat) (v : Int), cntN t n v ≠ 0 → v ≤ n * hi
  | 0, v, hv => by
    unfold cntN at hv
    split at hv
    · omega
    · exact absurd rfl hv
  | n + 1, v, hv => by
    unfold cntN at hv
    obtain ⟨o, ho, hne⟩ := sum_ne _ t hv
    have h1 := all_high t hi h n (v - o) hne
    have h2 := h o ho
    rw [Int.natCast_succ, Int.add_mul]; omega
theorem sum_pos {α : Type} (f : α → Nat) (l : List α) (x : α) (hx : x ∈ l) (h : f x ≠ 0) : (l.map f).sum ≠ 0 := by
  induction l with
  | nil => exact absurd hx (by simp)
  | cons y l ih =>
    rw [List.map_cons, List.sum_cons]
    rcases List.mem_cons.1 hx with e | hm
    · subst e; omega
    · have := ih hm; omega
theorem all_mem (t : List Int) (o : Int) (ho : o ∈ t) : ∀ n : Nat, cntN t n (n * o) ≠ 0
  | 0 => by unfold cntN; simp
  | n + 1 => by
    unfold cntN
    refine sum_pos _ t o ho ?_
    rw [show ((n + 1 : Nat) : Int) * o - o = n * o by rw [Int.natCast_succ, Int.add_mul]; omega]
    exact all_mem t o ho n
/-- The first entry of a rising list that holds the least value is at it. -/
theorem head_low (l : List (Int × Nat)) (hr : Rise l) (lo : Int) (hl : ∀ p ∈ l, lo ≤ p.1) (c : Nat) (hm : (lo, c) ∈ l) : ∃ m, l = (lo, c) :: m := by
  match l, hm with
  | p :: m, hm =>
    rcases List.mem_cons.1 hm with e | hq
    · exact ⟨m, by rw [e]⟩
    · unfold Rise at hr
      rw [List.pairwise_cons] at hr
      have h1 := hr.1 _ hq
      have h2 := hl p List.mem_cons_self
      dsimp only at h1
      omega
theorem last_high (l : List (Int × Nat)) (hr : Rise l) (hi : Int) (hl : ∀ p ∈ l, p.1 ≤ hi) (c : Nat) (hm : (hi, c) ∈ l) : ∃ m, l = m ++ [(hi, c)] := by
  rcases List.eq_nil_or_concat l with e | ⟨m, p, e⟩
  · subst e; exact absurd hm (by simp)
  · rw [List.concat_eq_append] at e
    subst e
    rcases List.mem_append.1 hm with hq | hq
    · unfold Rise at hr
      rw [List.pairwise_append] at hr
      have h1 := hr.2.2 _ hq p (by simp)
      have h2 := hl p (by simp)
      dsimp only at h1
      omega
    · rw [List.mem_singleton] at hq
      exact ⟨m, by rw [hq]⟩

end Go.Proofs.YtlhfgjblcckifaaGreatDoor.Nz

set_option linter.unusedVariables false
set_option linter.unusedSimpArgs false
namespace Go.Proofs.YtlhfgjblcckifaaGreatDoor.Dg
open Go.RowKit Go.Shelf Go.Maps
open Go.Proofs.YtlhfgjblcckifaaGreatDoor.PA Go.Proofs.YtlhfgjblcckifaaGreatDoor.Nz

abbrev KI (x : Int) : Lit := .int .i64 x
abbrev DU := DataW Unit
def datN (n : Nat) : DU := .lit (.string (decN n).data.toList)
theorem isKI (x : Int) : WideAt.IsKeyLit (KI x) := trivial
theorem KI_ne {x y : Int} (h : x ≠ y) : KI x ≠ KI y := fun e => h (by injection e)
theorem KI_same (x y : Int) : (KI x).sameKey (KI y) = (x == y) := by
  by_cases h : x = y
  · subst h
    rw [WideAt.sameKey_self (isKI _)]; simp
  · rw [sameKey_ne (KI_ne h)]
    exact (beq_eq_false_iff_ne.2 h).symm
/-- The map holds, for each value, its count; and nothing where the count is nought. -/
structure Cnts (D : DU) (f : Int → Nat) : Prop where
  tidy : Tidy D
  keys : ∀ l, Maps.has D l = true → ∃ x, l = KI x
  has : ∀ x, Maps.has D (KI x) = decide (f x ≠ 0)
  at_ : ∀ x, f x ≠ 0 → ∀ z, D.atKey (KI x) z = datN (f x)
theorem Cnts.empty : Cnts (.map []) (fun _ => 0) where
  tidy := tidy_empty
  keys := fun l h => by cases h
  has := fun x => rfl
  at_ := fun x h => absurd rfl h
theorem Cnts.put {D : DU} {f : Int → Nat} (h : Cnts D f) (v : Int) (c : Nat) (hc : c ≠ 0) : Cnts (D.put (KI v) (datN c)) (fun x => if x = v then c else f x) := by
  refine ⟨h.tidy.put (isKI v) _, fun l hl => ?_, fun x => ?_, fun x hx z => ?_⟩
  · by_cases e : l = KI v
    · exact ⟨v, e⟩
    · rw [has_put_other e] at hl
      exact h.keys l hl
  · by_cases e : x = v
    · subst e
      rw [has_put_same h.tidy.isMap (isKI _), if_pos rfl, decide_eq_true hc]
    · rw [has_put_other (KI_ne e), h.has, if_neg e]
  · by_cases e : x = v
    · subst e
      rw [atKey_put_same h.tidy.isMap (isKI _), if_pos rfl]
    · rw [if_neg e] at hx ⊢
      rw [atKey_put_other (KI_ne e)]
      exact h.at_ x hx z
theorem Cnts.congr {D : DU} {f g : Int → Nat} (h : Cnts D f) (e : ∀ x, f x = g x) : Cnts D g := by
  obtain rfl : f = g := funext e
  exact h
/-- What a key that is there holds. -/
theorem Cnts.val {D : DU} {f : Int → Nat} (h : Cnts D f) {x : Int} {c : ByteArray} (hat : ∀ z, D.atKey (KI x) z = .lit (.string c.data.toList)) : f x ≠ 0 ∧ c = decN (f x) := by
  have h1 : Maps.has D (KI x) = true := has_true_of_atKey hat
  rw [h.has] at h1
  have h2 := of_decide_eq_true h1
  refine ⟨h2, ?_⟩
  have h3 := h.at_ x h2 .nil
  rw [hat] at h3
  unfold datN at h3
  injection h3 with h4
  injection h4 with h5
  exact ByteArray.ext (Array.toList_inj.1 h5)
/-! ### its keys -/
theorem keys_KI {D : DU} {f : Int → Nat} (h : Cnts D f) (hc : Canon D) : ∃ es, D = .map es ∧ es.Pairwise (fun p q => p.1 ≠ q.1) ∧ ∀ p ∈ es, ∃ y, p.1 = KI y := by
  obtain ⟨es, rfl, hp, hk⟩ := hc
  exact ⟨es, rfl, apart_of_rising hp, fun p hpm => h.keys p.1 (List.any_eq_true.2 ⟨p, hpm, WideAt.sameKey_self (hk p hpm)⟩)⟩
theorem keys_mem {D : DU} {f : Int → Nat} (h : Cnts D f) (hc : Canon D) (x : Int) : x ∈ intKeys D ↔ f x ≠ 0 := by
  have hh := h.has x
  obtain ⟨es, rfl, _, hk⟩ := keys_KI h hc
  have h1 : x ∈ intKeys (DataW.map es) ↔ Maps.has (DataW.map es) (KI x) = true := by
    unfold intKeys
    rw [List.mem_map, has_eq, List.any_eq_true]
    constructor
    · rintro ⟨p, hp1, hp2⟩
      obtain ⟨y, hy⟩ := hk p hp1
      rw [hy] at hp2
      refine ⟨p, hp1, ?_⟩
      rw [hy, KI_same]
      exact beq_iff_eq.2 hp2
    · rintro ⟨p, hp1, hp2⟩
      exact ⟨p, hp1, by rw [WideAt.sameKey_eq hp2]; rfl⟩
  rw [h1, hh]
  exact decide_eq_true_iff
theorem keys_apart {D : DU} {f : Int → Nat} (h : Cnts D f) (hc : Canon D) : (intKeys D).Pairwise (· ≠ ·) := by
  obtain ⟨es, rfl, hp, hk⟩ := keys_KI h hc
  unfold intKeys
  rw [List.pairwise_map]
  refine hp.imp_of_mem fun {p q} hpm hqm hne e => ?_
  obtain ⟨y, hy⟩ := hk p hpm
  obtain ⟨z, hz⟩ := hk q hqm
  rw [hy, hz] at e hne
  exact hne (by rw [show y = z from e])
/-- The keys, sorted, are the values of the distribution. -/
theorem keys_sorted {t : List Int} (ht : Nz.Tape t) (n : Nat) {D : DU} (h : Cnts D (cntN t n)) (hc : Canon D) {ss : List Int} (hs : ss.Perm (intKeys D)) :
    ss.mergeSort (fun x y => decide (x ≤ y)) = (distN t n).map (·.1) := by
  have hperm := (List.mergeSort_perm ss (fun x y => decide (x ≤ y))).trans hs
  have h1 : (ss.mergeSort (fun x y => decide (x ≤ y))).Pairwise (fun x y => decide (x ≤ y) = true) :=
    List.pairwise_mergeSort (fun a b c hab hbc => by simp only [decide_eq_true_eq] at *; omega) (fun a b => by simp only [Bool.or_eq_true, decide_eq_true_eq]; omega) ss
  have h2 : (ss.mergeSort (fun x y => decide (x ≤ y))).Pairwise (· ≠ ·) := (hperm.pairwise_iff (fun {_ _} hne => Ne.symm hne)).2 (keys_apart h hc)
  have h3 : (ss.mergeSort (fun x y => decide (x ≤ y))).Pairwise (fun x y => x < y) := (h1.and h2).imp fun {a b} hab => by
    have := of_decide_eq_true hab.1
    have := hab.2
    omega
  have e : (ss.mergeSort (fun x y => decide (x ≤ y))).map (fun v => (v, cntN t n v)) = distN t n := by
    refine rise_ext _ _ ?_ (dist_rise t n) fun p => ?_
    · unfold Rise
      rw [List.pairwise_map]
      exact h3
    · have hm : ∀ v, v ∈ ss.mergeSort (fun x y => decide (x ≤ y)) ↔ cntN t n v ≠ 0 := fun v => (hperm.mem_iff).trans (keys_mem h hc v)
      rw [List.mem_map]
      constructor
      · rintro ⟨v, hv, rfl⟩
        exact (mem_dist ht n _ _).2 ⟨rfl, (hm v).1 hv⟩
      · intro hp
        obtain ⟨h4, h5⟩ := (mem_dist ht n p.1 p.2).1 hp
        exact ⟨p.1, (hm _).2 (by rw [← h4]; exact h5), by rw [← h4]⟩
  rw [← e, List.map_map]
  exact (List.map_id' _).symm
theorem keys_size {t : List Int} (ht : Nz.Tape t) (n : Nat) {D : DU} (h : Cnts D (cntN t n)) (hc : Canon D) : Maps.size D ≤ 100 * n + 1 := by
  have h1 : Maps.size D = (intKeys D).length := by
    obtain ⟨es, rfl, _⟩ := hc
    simp [Maps.size, intKeys]
  have h2 := keys_sorted ht n h hc (List.Perm.refl _)
  have h3 := congrArg List.length h2
  rw [List.length_mergeSort, List.length_map] at h3
  have h4 : (distN t n).length ≤ (span n).length := List.length_filterMap_le _ _
  have h5 : (span n).length = 100 * n + 1 := by unfold span; simp
  omega
end Go.Proofs.YtlhfgjblcckifaaGreatDoor.Dg

set_option linter.unusedVariables false
set_option linter.unusedSimpArgs false
namespace Go.Proofs.YtlhfgjblcckifaaGreatDoor.Dg
open Go.RowKit Go.Shelf Go.Maps
open Go.Proofs.YtlhfgjblcckifaaGreatDoor.PA
open Go.Proofs.YtlhfgjblcckifaaGreatDoorW.PrintWords Go.Proofs.YtlhfgjblcckifaaGreatDoorW.PrintMore Go.Proofs.YtlhfgjblcckifaaGreatDoorW.PrintLast

section
variable {P : Program} (w : World) {ops : Array Oper} {rest : List Oper} {o : Oper} {a : Act} {Q : Exit → Act → World → Prop}
theorem wpList_lookup_cnts (hg : o.guard = none) (m x : Operand) (t : TypeId) (hop : o.op = Op.lookup t m x true)
    (k e : TypeId) (K : Keyed P k) (ht : P.underlying t = some (.map k e)) (he : P.underlying e = some .string) (hz : (zeroValue e).run P w = .ok (.string ⟨#[]⟩) w) (b n : Nat) (D : DU) (g : Int → Nat) (hC : Cnts D g)
    (hm : a.eval m = .map (some b)) (hown : w.ownsMap P k (plainElem P e) b n D) (v : Int) (hx : a.eval x = .int .i64 v) (hkey : keyOf P k (.int .i64 v) = some (KI v))
    (s : ByteArray) (ok : Bool) (hs : (g v = 0 ∧ s = ⟨#[]⟩ ∧ ok = false) ∨ (g v ≠ 0 ∧ s = decN (g v) ∧ ok = true))
    (hK : wpList P ops Q rest (a.put o.dst (.tuple #[.string s, .bool ok])) w) :
    wpList P ops Q (o :: rest) a w :=
  wpList_lookup_own_ok w hg m x t hop k e K ht (plainElem P e) hz (.lit (.string [])) [] (plainElem_string he (Nat.zero_le _)) b n D hm hown (.int .i64 v) (KI v) hx hkey (fun u ps hu => by
    obtain ⟨c, rfl, hc, _⟩ := plainElem_string_inv he hu
    have hc1 := congrArg Prod.fst hc
    dsimp only at hc1
    rcases hs with ⟨h0, rfl, rfl⟩ | ⟨h0, rfl, rfl⟩
    · have hh : Maps.has D (KI v) = false := by rw [hC.has, h0]; rfl
      rw [atKey_of_not_has hh] at hc1
      injection hc1 with hc2
      injection hc2 with hc3
      obtain rfl : c = ⟨#[]⟩ := ByteArray.ext (Array.toList_inj.1 hc3.symm)
      rw [hh]; exact hK
    · have hh : Maps.has D (KI v) = true := by rw [hC.has, decide_eq_true h0]
      rw [hC.at_ v h0] at hc1
      unfold datN at hc1
      injection hc1 with hc2
      injection hc2 with hc3
      obtain rfl : c = decN (g v) := ByteArray.ext (Array.toList_inj.1 hc3.symm)
      rw [hh]; exact hK)
end

theorem law3 : Keyed Tryz.prog 3 := int_keyed Tryz.underlying3
theorem zeroNat (w : World) : (zeroValue 29).run Tryz.prog w = .ok (.string ⟨#[]⟩) w := by kernel_rfl
theorem decN_max (n : Nat) (h : n < 1000000000) : (decN n).size ≤ maxLen := by have := decN_le n h; unfold maxLen; omega

theorem grown_set (W : World) (b : Nat) (v : Value) : W.grownBy (W.setCell ⟨b, 0, none⟩ v) (some b) :=
  have h := (Below.refl 0 W).setCell (p := ⟨b, 0, none⟩) (Nat.zero_le _) v
  ⟨h.os, h.tape, h.output, h.size, fun i _ hi => Below.heap_setCell _ _ _ _ (fun e => hi (by rw [e]))⟩
theorem grownB {W W' : World} (h : Below W.heap.size W W') (row : Option Nat) : W.grownBy W' row := ⟨h.os, h.tape, h.output, h.size, fun i hi _ => h.block i hi⟩
theorem ne_some {a b : Nat} (h : a ≠ b) : (some a : Option Nat) ≠ some b := fun e => h (Option.some.inj e)

/-- The counts with what an entry's first j shifts add. -/
def gJ (t : List Int) (g : Int → Nat) (x : Int) (c j : Nat) (v : Int) : Nat := g v + c * (t.take j).count (v - x)
theorem gJ_zero (t : List Int) (g : Int → Nat) (x : Int) (c : Nat) (v : Int) : gJ t g x c 0 v = g v := by unfold gJ; simp
theorem gJ_step (t : List Int) (g : Int → Nat) (x : Int) (c j : Nat) (hj : j < t.length) (o : Int) (ho : t[j]? = some o) (v : Int) :
    gJ t g x c (j + 1) v = if v = x + o then gJ t g x c j (x + o) + c else gJ t g x c j v := by
  unfold gJ
  rw [List.take_add_one, ho, Option.toList_some, List.count_append, List.count_singleton]
  by_cases e : v = x + o
  · subst e
    rw [if_pos rfl, if_pos (by rw [beq_iff_eq]; omega), Nat.mul_add]
    omega
  · rw [if_neg e, if_neg (by rw [beq_iff_eq]; omega), Nat.add_zero]
theorem gJ_le (t : List Int) (g : Int → Nat) (x : Int) (c j : Nat) (v : Int) : gJ t g x c j v ≤ g v + c * t.count (v - x) := by
  unfold gJ
  have h1 : (t.take j).count (v - x) ≤ t.count (v - x) := (List.take_sublist j t).count_le _
  have := Nat.mul_le_mul_left c h1
  omega
theorem gJ_end (t : List Int) (g : Int → Nat) (x : Int) (c : Nat) (v : Int) : gJ t g x c t.length v = g v + c * t.count (v - x) := by unfold gJ; rw [List.take_length]

set_option maxHeartbeats 8000000 in
set_option maxRecDepth 100000 in
theorem step_calls (t : List Int) (ht : Nz.Tape t) (n : Nat) (hn : n ≤ 40) (hl9 : t.length ≤ 9) (hbig : t.length ^ (n + 1) < 1000000000) (Bt Bx b nn ct : Nat) (At : Option Addr) (D : DU) (w : World)
    (hC : Cnts D (Nz.cntN t n)) (hct : w.heap[Bt]? = some (.cells #[.map (some b)] 46 (0, 0))) (hcx : w.heap[Bx]? = some (.cells #[.slice At t.length ct] 22 (0, 0)))
    (hx : Kd.C (Kd.int .i64) w At t.length t) (hlc : t.length ≤ ct) (hown : w.ownsMap Tryz.prog 3 (plainElem Tryz.prog 29) b nn D) (hT : Tabs w) :
    Calls Tryz.prog 22 #[.pointer (some ⟨Bt, 0, none⟩), .pointer (some ⟨Bx, 0, none⟩)] w fun e w' => e = .returned (.tuple #[]) ∧
      ∃ (b' n' : Nat) (D' : DU), w'.heap[Bt]? = some (.cells #[.map (some b')] 46 (0, 0)) ∧ w'.ownsMap Tryz.prog 3 (plainElem Tryz.prog 29) b' n' D' ∧ Cnts D' (Nz.cntN t (n + 1)) ∧ w.heap.size ≤ b' ∧ w.grownBy w' (some Bt) := by
  have hmm := @run_makeMap Tryz.prog
  have hcanon := hown.canon law3
  have hsD : Maps.size D ≤ 100 * n + 1 := keys_size ht n hC hcanon
  have e1 : (w.alloc (.map #[] 0)).heap.size = w.heap.size + 1 := by simp
  have HT := Lib.hid hT
  have HX := Lib.hid hx
  have HCT := Lib.hid hct
  have HCX := Lib.hid hcx
  have kt : (w.alloc (.map #[] 0)).cell? ⟨Bt, 0, none⟩ = some (.map (some b)) := blk_cell (blk_alloc hct _) 0
  have Bt_lt : Bt < w.heap.size := (Array.getElem?_eq_some_iff.1 hct).1
  have Bx_lt : Bx < w.heap.size := (Array.getElem?_eq_some_iff.1 hcx).1
  clear hT hx hct hcx
  go_enter Tryz.func22, Tryz.ntmps22
  go_wp2_with (first
    | (at_range; refine wpList_range_own _ rfl _ 46 rfl 3 29 law3 Tryz.underlying46 _ b nn _ rfl (hown.alloc _) ?_; intro w0 hrg0 hg0 hs0)
    | fail)
  go_frame
  rw [e1] at hrg0 hs0 ⊢
  have hsz1 := hs0
  go_loopw [12] (fun _ wr => ∃ (left : Lit → Bool) (cnt nd : Nat) (D' : DU) (g : Int → Nat), Hid (wr.ranges Tryz.prog 3 (plainElem Tryz.prog 29) b (w.heap.size + 1) nn D left cnt) ∧ nd + cnt * t.length ≤ Maps.size D * t.length ∧
      Hid (wr.ownsMap Tryz.prog 3 (plainElem Tryz.prog 29) w.heap.size nd D') ∧ Hid (Cnts D' g) ∧ Hid (∀ v, g v + Nz.remS t (Nz.distN t n) (fun x => left (KI x)) v = Nz.cntN t (n + 1) v) ∧ Hid (Below w.heap.size w wr) ∧ w.heap.size + 2 ≤ wr.heap.size)
    (fun _ wr => wr.rangeLeft b (w.heap.size + 1))
  case atStart =>
    refine ⟨_, _, 0, .map [], fun _ => 0, hrg0, by omega, (World.ownsMap_made _ _ _ _).kept hg0 (by simp), Cnts.empty, fun v => ?_, ((Below.refl _ _).alloc (Nat.le_refl _) _).grown hg0 (by simp) (fun j hj => by cases hj), by omega⟩
    rw [Nat.zero_add]
    exact Nz.remS_start ht n _ (fun p hp => by
      have := (Nz.mem_dist ht n p.1 p.2).1 hp
      rw [hC.has, decide_eq_true (by rw [← this.1]; exact this.2)]) v
  case round =>
    obtain ⟨left, cnt, nd, D', g, HR, hnd, HO, HC', HG, HB, hsz⟩ := hrel
    rename World => W0
    have hrg := HR.out
    go_wp2_with (first
      | (at_next; refine wpList_next_ranges_is _ rfl _ rfl 3 29 .i64 law3 Tryz.underlying3 Tryz.underlying29 b (w.heap.size + 1) nn _ _ _ rfl hrg ?_ ?_)
      | fail)
    · intro hc0 hl0
      have hcb := blk_below HCT.out HB.out
      have kb := blk_cell hcb 0
      have kf := blk_frozen hcb 0
      have HCB := Lib.hid hcb
      clear hcb hrg
      go_wp2
      go_end0
      have hg2 : w.grownBy (W0.setCell ⟨Bt, 0, none⟩ (.map (some w.heap.size))) (some Bt) :=
        World.grownBy.andThen (row := some Bt) (row' := some Bt) ⟨HB.out.os, HB.out.tape, HB.out.output, HB.out.size, fun i hi _ => HB.out.block i hi⟩ (grown_set W0 Bt _) (fun j hj => Or.inr hj)
      refine ⟨rfl, w.heap.size, nd, D', blk_set HCB.out 0 _, HO.out.kept (grown_set W0 Bt _) (ne_some (by omega)), HC'.out.congr fun v => ?_, Nat.le_refl _, hg2⟩
      have := HG.out v
      rw [Nz.remS_end t _ _ (fun x => hl0 _)] at this
      exact this
    · intro x c w1 cnt1 hwx hwc hlx hat hrg1 hlt hg1 hs1 hen
      obtain ⟨hfx, hcx⟩ := hC.val hat
      have hxb := Nz.support t ht n x hfx
      obtain ⟨cx, hcxe⟩ : ∃ cx, Nz.cntN t n x = cx := ⟨_, rfl⟩
      rw [hcxe] at hfx hcx
      have HB1 : Hid (Below w.heap.size w w1) := HB.out.grown hg1 (by omega) (fun j hj => by cases hj; omega)
      have kx := blk_cell (blk_below HCX.out HB1.out) 0
      have HO1 := Lib.hid (HO.out.kept hg1 (ne_some (by omega)))
      have HRG1 := Lib.hid hrg1
      have HEN := Lib.hid hen
      have HLT := Lib.hid hlt
      have HAT := Lib.hid hat
      have HLX := Lib.hid hlx
      have HCXE := Lib.hid hcxe
      have HCX2 := Lib.hid hcx
      clear hrg hrg1 hlt hat hlx hg1 hcxe hcx
      go_wp2_with fail
      go_loopw [19] (fun v19 wr => ∃ (j : Nat) (D2 : DU), j ≤ t.length ∧ v19 = .int .i64 (j : Int) ∧ Hid (wr.ranges Tryz.prog 3 (plainElem Tryz.prog 29) b (w.heap.size + 1) nn D (fun z => left z && !z.sameKey (.int .i64 x)) cnt1) ∧
          Hid (wr.ownsMap Tryz.prog 3 (plainElem Tryz.prog 29) w.heap.size (nd + j) D2) ∧ Hid (Cnts D2 (gJ t g x cx j)) ∧ Hid (Below w.heap.size w wr) ∧ w.heap.size + 2 ≤ wr.heap.size)
        (fun v19 _ => (t.length - RowKit.intOf v19).toNat)
      case atStart => exact ⟨0, D', by omega, rfl, HRG1.out, HO1.out, HC'.out.congr fun v => (gJ_zero t g x cx v).symm, HB1.out, by omega⟩
      case round =>
        obtain ⟨j, D2, hj, rfl, HR2, HO2, HC2, HB2, hsz2⟩ := hrel
        rename World => W2
        by_cases hlt : j < t.length
        · obtain ⟨o, ho⟩ : ∃ o, t[j]? = some o := ⟨_, List.getElem?_eq_getElem hlt⟩
          have hob := ht o (List.mem_of_getElem? ho)
          obtain ⟨ad, rfl, hcell⟩ := Kd.at_int (Kd.C_below HX.out HB2.out) (j : Int) (by omega) (by omega)
          have hrd : rd t (j : Int) = o := by unfold rd; rw [Int.toNat_natCast, List.getD_eq_getElem?_getD, ho]; rfl
          rw [hrd, Int.toNat_natCast] at hcell
          have hw : IntKind.i64.wrap (x + o) = x + o := by rw [i64_w]; unfold wrap64; omega
          have hv1 : Nz.cntN t (n + 1) (x + o) < 1000000000 := Nat.lt_of_le_of_lt (Nz.count_le t (n + 1) (x + o)) hbig
          have hsum : gJ t g x cx j (x + o) + cx < 1000000000 := by
            have e2 := gJ_step t g x cx j hlt o ho (x + o)
            rw [if_pos rfl] at e2
            have e3 := gJ_le t g x cx (j + 1) (x + o)
            have e4 := HG.out (x + o)
            rw [Nz.remS_step t (fun x => left (KI x)) x cx (x + o) HLX.out (Nz.distN t n) (Nz.dist_rise t n) ((Nz.mem_dist ht n x cx).2 ⟨HCXE.out.symm, hfx⟩)] at e4
            omega
          have hnj : nd + j < maxLen := by
            have : Maps.size D * t.length ≤ 4001 * 9 := Nat.mul_le_mul (by omega) hl9
            unfold maxLen; omega
          obtain ⟨m, hm⟩ : ∃ m, gJ t g x cx j (x + o) = m := ⟨_, rfl⟩
          rw [hm] at hsum
          have HM := Lib.hid hm
          have HHO := Lib.hid ho
          have HNJ := Lib.hid hnj
          have HS := Lib.hid hsum
          have hkey : keyOf Tryz.prog 3 (.int .i64 (x + o)) = some (KI (x + o)) := keyOf_int_mk Tryz.underlying3 (WalkArith.wf_i64 (by omega))
          have HK := Lib.hid hkey
          have HADD : Hid (natural_Add.f (decN m) c = some (decN (m + cx), 0)) := by
            show _ = _
            rw [HCX2.out]; exact add_dec m cx hsum
          clear hnj hm ho hsum hkey hrd hv1
          have T2 := HT.out.below HB2.out
          have HTT := Lib.hid T2
          clear T2
          by_cases hm0 : m = 0
          · have HADD0 : Hid (natural_Add.f ⟨#[48]⟩ c = some (decN (m + cx), 0)) := by
              have h := HADD.out
              rw [hm0, decN_zero] at h
              rw [hm0]; exact h
            have HM0 := Lib.hid hm0
            clear hm0
            go_wp2_with (first
              | (at_lookup; refine wpList_lookup_cnts _ rfl _ _ 46 rfl 3 29 law3 Tryz.underlying46 Tryz.underlying29 (zeroNat _) w.heap.size (nd + j) D2 _ HC2.out rfl HO2.out (x + o) rfl HK.out ⟨#[]⟩ false (Or.inl ⟨HM.out.trans HM0.out, rfl, rfl⟩) ?_)
              | fail)
            refine (natural_Add.calls _ c _ _ _ HTT.out HADD0.out).mono ?_
            rintro e w3 ⟨rfl, hb3⟩
            have HO3 := Lib.hid (HO2.out.kept (grownB hb3 none) (by simp))
            have HR3 := Lib.hid (HR2.out.kept (grownB hb3 none) (by simp) (by simp))
            have HB3 : Hid (Below w.heap.size w w3) := HB2.out.trans (hb3.mono HB2.out.size)
            have hsz3 : w.heap.size + 2 ≤ w3.heap.size := by have := hb3.size; omega
            have HVW : Hid (plainElem (H := Unit) Tryz.prog 29 (.string (decN (m + cx))) = some (datN (m + cx), [])) := plainElem_string Tryz.underlying29 (decN_max _ HS.out)
            clear hb3
            go_wp2_with (first
              | (at_mapUpdate; refine wpList_mapUpdate_own _ rfl _ _ _ 46 rfl 3 29 law3 Tryz.underlying46 _ w.heap.size _ _ rfl HO3.out HNJ.out _ _ _ rfl rfl HK.out _ [] HVW.out ?_; intro w4 hown4 hg4)
              | fail)
            have HR4 := Lib.hid (HR3.out.kept hg4 (ne_some (by have := hown.lt; omega)) (ne_some (by omega)))
            have HB4 : Hid (Below w.heap.size w w4) := HB3.out.grown hg4 (by omega) (fun j hj => by cases hj; omega)
            have hsz4 : w.heap.size + 2 ≤ w4.heap.size := by have := hg4.size; omega
            have HO4 := Lib.hid hown4
            clear hown4 hg4
            go_roundw
            case rel =>
              refine ⟨j + 1, _, by omega, by go_num, HR4.out, HO4.out, (HC2.out.put (x + o) (m + cx) (by omega)).congr fun v => ?_, HB4.out, hsz4⟩
              rw [gJ_step t g x cx j hlt o HHO.out v, HM.out]
            case measure => simp [RowKit.intOf]; omega
          · go_wp2_with (first
              | (at_lookup; refine wpList_lookup_cnts _ rfl _ _ 46 rfl 3 29 law3 Tryz.underlying46 Tryz.underlying29 (zeroNat _) w.heap.size (nd + j) D2 _ HC2.out rfl HO2.out (x + o) rfl HK.out (decN m) true (Or.inr ⟨by rw [HM.out]; exact hm0, by rw [HM.out], rfl⟩) ?_)
              | fail)
            refine (natural_Add.calls _ c _ _ _ HTT.out HADD.out).mono ?_
            rintro e w3 ⟨rfl, hb3⟩
            have HO3 := Lib.hid (HO2.out.kept (grownB hb3 none) (by simp))
            have HR3 := Lib.hid (HR2.out.kept (grownB hb3 none) (by simp) (by simp))
            have HB3 : Hid (Below w.heap.size w w3) := HB2.out.trans (hb3.mono HB2.out.size)
            have hsz3 : w.heap.size + 2 ≤ w3.heap.size := by have := hb3.size; omega
            have HVW : Hid (plainElem (H := Unit) Tryz.prog 29 (.string (decN (m + cx))) = some (datN (m + cx), [])) := plainElem_string Tryz.underlying29 (decN_max _ HS.out)
            clear hb3
            go_wp2_with (first
              | (at_mapUpdate; refine wpList_mapUpdate_own _ rfl _ _ _ 46 rfl 3 29 law3 Tryz.underlying46 _ w.heap.size _ _ rfl HO3.out HNJ.out _ _ _ rfl rfl HK.out _ [] HVW.out ?_; intro w4 hown4 hg4)
              | fail)
            have HR4 := Lib.hid (HR3.out.kept hg4 (ne_some (by have := hown.lt; omega)) (ne_some (by omega)))
            have HB4 : Hid (Below w.heap.size w w4) := HB3.out.grown hg4 (by omega) (fun j hj => by cases hj; omega)
            have hsz4 : w.heap.size + 2 ≤ w4.heap.size := by have := hg4.size; omega
            have HO4 := Lib.hid hown4
            clear hown4 hg4
            go_roundw
            case rel =>
              refine ⟨j + 1, _, by omega, by go_num, HR4.out, HO4.out, (HC2.out.put (x + o) (m + cx) (by omega)).congr fun v => ?_, HB4.out, hsz4⟩
              rw [gJ_step t g x cx j hlt o HHO.out v, HM.out]
            case measure => simp [RowKit.intOf]; omega
        · obtain rfl : j = t.length := by omega
          go_wp2_with fail
          go_roundw
          case rel =>
            refine ⟨_, cnt1, nd + t.length, D2, _, HR2.out, ?_, HO2.out, HC2.out, fun v => ?_, HB2.out, hsz2⟩
            · have := Nat.mul_le_mul_right t.length HLT.out
              rw [Nat.succ_mul] at this
              omega
            · have e4 := HG.out v
              rw [Nz.remS_step t (fun x => left (KI x)) x cx v HLX.out (Nz.distN t n) (Nz.dist_rise t n) ((Nz.mem_dist ht n x cx).2 ⟨HCXE.out.symm, hfx⟩)] at e4
              rw [gJ_end]
              have e5 : (fun z => left (KI z) && !(KI z).sameKey (.int .i64 x)) = (fun z => left (KI z) && !(z == x)) := funext fun z => by rw [← KI_same]
              rw [e5]
              omega
          case measure => rw [HR2.out.left_eq, HR.out.left_eq]; exact HLT.out
end Go.Proofs.YtlhfgjblcckifaaGreatDoor.Dg

set_option linter.unusedVariables false
set_option linter.unusedSimpArgs false
namespace Go.Proofs.YtlhfgjblcckifaaGreatDoor.Dg
open Go.RowKit Go.Shelf Go.Maps
open Go.Proofs.YtlhfgjblcckifaaGreatDoor.PA
open Go.Proofs.YtlhfgjblcckifaaGreatDoorW.PrintWords Go.Proofs.YtlhfgjblcckifaaGreatDoorW.PrintMore Go.Proofs.YtlhfgjblcckifaaGreatDoorW.PrintLast

theorem C_plain {w : World} {A : Option Addr} {n : Nat} {xs : List Int} (h : Kd.C (Kd.int .i64) w A n xs) (h0 : 0 < n) : ∃ b off, A = some ⟨b, off, none⟩ ∧ ∀ j, j < n → w.cell? ⟨b, off + j, none⟩ = some (.int .i64 (xs.getD j 0)) := by
  obtain ⟨ad, e, hc⟩ := Kd.at_int h 0 (by omega) (by omega)
  obtain ⟨b, off, sp⟩ := ad
  have hs : sp = none := by
    rw [show Addr.add ⟨b, off, sp⟩ ((0 : Int).toNat) = ⟨b, off, sp⟩ from rfl] at hc
    unfold World.cell? at hc
    cases sp with
    | none => rfl
    | some s =>
      split at hc
      · simp at hc
      · cases hc
  subst hs
  refine ⟨b, off, e, fun j hj => ?_⟩
  obtain ⟨ad2, e2, hc2⟩ := Kd.at_int h (j : Int) (by omega) (by omega)
  rw [e] at e2
  cases e2
  rw [Int.toNat_natCast] at hc2
  have : Addr.add ⟨b, off, none⟩ j = ⟨b, off + j, none⟩ := by
    unfold Addr.add
    by_cases hj0 : j = 0
    · subst hj0; rfl
    · rw [if_neg hj0]
  rw [this] at hc2
  rw [hc2]
  unfold rd
  rw [Int.toNat_natCast]
theorem fold_min (l : List Int) : ∀ a : Int, (-50 ≤ l.foldl min a) ↔ (-50 ≤ a ∧ ∀ x ∈ l, -50 ≤ x) := by
  induction l with
  | nil => intro a; simp
  | cons x l ih =>
    intro a
    rw [List.foldl_cons, ih, List.forall_mem_cons]
    constructor
    · rintro ⟨h1, h2⟩; exact ⟨by omega, by omega, h2⟩
    · rintro ⟨h1, h2, h3⟩; exact ⟨by omega, h3⟩
theorem fold_max (l : List Int) : ∀ a : Int, (l.foldl max a ≤ 50) ↔ (a ≤ 50 ∧ ∀ x ∈ l, x ≤ 50) := by
  induction l with
  | nil => intro a; simp
  | cons x l ih =>
    intro a
    rw [List.foldl_cons, ih, List.forall_mem_cons]
    constructor
    · rintro ⟨h1, h2⟩; exact ⟨by omega, by omega, h2⟩
    · rintro ⟨h1, h2, h3⟩; exact ⟨by omega, h3⟩
theorem min_iff (t : List Int) (h : t ≠ []) : -50 ≤ Lib.minOf t ↔ ∀ x ∈ t, -50 ≤ x := by
  unfold Lib.minOf
  match t, h with
  | x :: l, _ =>
    rw [fold_min]
    exact ⟨fun hh => hh.2, fun hh => ⟨hh x List.mem_cons_self, hh⟩⟩
theorem max_iff (t : List Int) (h : t ≠ []) : Lib.maxOf t ≤ 50 ↔ ∀ x ∈ t, x ≤ 50 := by
  unfold Lib.maxOf
  match t, h with
  | x :: l, _ =>
    rw [fold_max]
    exact ⟨fun hh => hh.2, fun hh => ⟨hh x List.mem_cons_self, hh⟩⟩
/-- Is a tape valid? -/
def validT (t : List Int) : Bool := decide (1 ≤ t.length) && decide (t.length ≤ 9) && t.all (fun x => decide (-50 ≤ x) && decide (x ≤ 50))
theorem validT_iff (t : List Int) : validT t = true ↔ 1 ≤ t.length ∧ t.length ≤ 9 ∧ Nz.Tape t := by
  unfold validT Nz.Tape
  simp only [Bool.and_eq_true, decide_eq_true_eq, List.all_eq_true, and_assoc]
theorem validT_of (t : List Int) (h1 : 1 ≤ t.length) (h9 : t.length ≤ 9) : validT t = (decide (-50 ≤ Lib.minOf t) && decide (Lib.maxOf t ≤ 50)) := by
  have hne : t ≠ [] := by intro e; subst e; simp at h1
  rw [Bool.eq_iff_iff, validT_iff, Bool.and_eq_true, decide_eq_true_eq, decide_eq_true_eq, min_iff t hne, max_iff t hne]
  exact ⟨fun h => ⟨fun x hx => (h.2.2 x hx).1, fun x hx => (h.2.2 x hx).2⟩, fun h => ⟨h1, h9, fun x hx => ⟨h.1 x hx, h.2 x hx⟩⟩⟩

set_option maxHeartbeats 4000000 in
set_option maxRecDepth 100000 in
theorem Valid_calls (t : List Int) (A : Option Addr) (c : Nat) (w : World) (hx : Kd.C (Kd.int .i64) w A t.length t) :
    Calls Tryz.prog 15 #[.slice A t.length c] w fun e w' => e = .returned (.bool (validT t)) ∧ w' = w := by
  by_cases h0 : 1 ≤ t.length
  · by_cases h9 : t.length ≤ 9
    · rw [validT_of t h0 h9]
      obtain ⟨b, off, rfl, hc⟩ := C_plain hx (by omega)
      have H1 := Tryz.slices_Min_int b off t.length c t w (by omega) (Nat.le_refl _) (by omega) hc
      have H2 := Tryz.slices_Max_int b off t.length c t w (by omega) (Nat.le_refl _) (by omega) hc
      rw [List.take_length] at H1 H2
      obtain ⟨lo, hlo⟩ : ∃ lo, Lib.minOf t = lo := ⟨_, rfl⟩
      obtain ⟨hi, hhi⟩ : ∃ hi, Lib.maxOf t = hi := ⟨_, rfl⟩
      rw [hlo] at H1 ⊢
      rw [hhi] at H2 ⊢
      obtain ⟨m, hm⟩ : ∃ m, t.length = m := ⟨_, rfl⟩
      rw [hm] at h0 h9 H1 H2 ⊢
      have c1 : decide ((m : Int) < 1) = false := decide_eq_false (by omega)
      have c2 : decide ((m : Int) > 9) = false := decide_eq_false (by omega)
      have HH1 := Lib.hid H1
      have HH2 := Lib.hid H2
      clear H1 H2 hc hx hlo hhi
      by_cases h3 : -50 ≤ lo
      · have c3 : decide (lo ≥ -50) = true := decide_eq_true (by omega)
        rw [decide_eq_true h3]
        go_enter Tryz.func15, Tryz.ntmps15
        go_wp2_with fail
        refine HH1.out.mono ?_
        rintro e w' ⟨rfl, rfl⟩
        go_wp2_with fail
        refine HH2.out.mono ?_
        rintro e w' ⟨rfl, rfl⟩
        go_wp2_with fail
        go_ret
        exact ⟨by simp, rfl⟩
      · have c3 : decide (lo ≥ -50) = false := decide_eq_false (by omega)
        rw [decide_eq_false h3]
        go_enter Tryz.func15, Tryz.ntmps15
        go_wp2_with fail
        refine HH1.out.mono ?_
        rintro e w' ⟨rfl, rfl⟩
        go_wp2_with fail
        go_ret
        exact ⟨by simp, rfl⟩
    · have e : validT t = false := by
        unfold validT
        rw [decide_eq_false h9]; simp
      rw [e]
      obtain ⟨m, hm⟩ : ∃ m, t.length = m := ⟨_, rfl⟩
      rw [hm] at h0 h9 ⊢
      have c1 : decide ((m : Int) < 1) = false := decide_eq_false (by omega)
      have c2 : decide ((m : Int) > 9) = true := decide_eq_true (by omega)
      clear hx e hm
      go_enter Tryz.func15, Tryz.ntmps15
      go_wp2_with fail
      go_ret
      exact ⟨rfl, rfl⟩
  · have e : validT t = false := by
      unfold validT
      rw [decide_eq_false h0]; rfl
    rw [e]
    obtain ⟨m, hm⟩ : ∃ m, t.length = m := ⟨_, rfl⟩
    rw [hm] at h0 ⊢
    have c1 : decide ((m : Int) < 1) = true := decide_eq_true (by omega)
    clear hx e hm
    go_enter Tryz.func15, Tryz.ntmps15
    go_wp2_with fail
    go_ret
    exact ⟨rfl, rfl⟩

def noise_Valid.f (a0 : List Int) : Option Bool := some (validT a0)
theorem noise_Valid.calls (A0 : Option Addr) (c0 : Nat) (a0 : List Int) (r : Bool) (w : World) (hr0 : Kd.C (Kd.int .i64) w A0 a0.length a0) (hc0 : a0.length ≤ c0) (h : noise_Valid.f a0 = some r) :
    Calls Tryz.prog 15 #[.slice A0 a0.length c0] w fun e w' => e = .returned (.bool r) ∧ Below w.heap.size w w' := by
  obtain rfl := Option.some.inj h
  exact (Valid_calls a0 A0 c0 w hr0).mono fun e w' ⟨he, hw⟩ => ⟨he, by rw [hw]; exact Below.refl _ _⟩
end Go.Proofs.YtlhfgjblcckifaaGreatDoor.Dg

set_option linter.unusedVariables false
namespace Go.Proofs.YtlhfgjblcckifaaGreatDoor.Dg
open Go.RowKit Go.Shelf
open Go.Proofs.YtlhfgjblcckifaaGreatDoorW.PrintWords Go.Proofs.YtlhfgjblcckifaaGreatDoorW.PrintMore Go.Proofs.YtlhfgjblcckifaaGreatDoorW.PrintLast

def natural_Valid.f := PA.natural_Valid.f
theorem natural_Valid.calls (a0 : ByteArray) (r : Bool) (w : World) (h : natural_Valid.f a0 = some r) :
    Calls Tryz.prog 32 #[.string a0] w fun e w' => e = .returned (.bool r) ∧ Below w.heap.size w w' := PA.natural_Valid.calls a0 r w h
def natural_Int.f := PA.natural_Int.f
theorem natural_Int.calls (a0 : ByteArray) (r1 r2 : Int) (w : World) (h : natural_Int.f a0 = some (r1, r2)) :
    Calls Tryz.prog 18 #[.string a0] w fun e w' => e = .returned (.tuple #[.int .i64 r1, .int .i64 r2]) ∧ Below w.heap.size w w' := PA.natural_Int.calls a0 r1 r2 w h
/-- natural.Int at what natural writes. -/
theorem int_dec (n : Nat) (h : n < 1000000000) : natural_Int.f (decN n) = some ((n : Int), 0) := by
  unfold natural_Int.f PA.natural_Int.f
  rw [valid_dec n h, atoi_decN n h]
  simp only [Option.bind_some, if_true, Option.isNone_none]
  rw [if_neg (by omega)]
end Go.Proofs.YtlhfgjblcckifaaGreatDoor.Dg

set_option linter.unusedVariables false
namespace Go.Proofs
open Go.RowKit Go.Maps Go.Sort Go.Shelf
shelf_lay_g SlLaysZI.n7 Ggz 7 at Tryz 25 as Tryz.keysA
shelf_lay_g SlLaysZI.n6 Ggz 6 at Tryz 24 as Tryz.sortedA
shelf_lay_g SlLaysM.n5 Slgm 5 at Tryz 42 as Tryz.sortA
theorem Tryz.sortsA (m : Nat) : AnyZI.SortsIn Tryz.prog Tryz.sortedA_ren Fence.wide m :=
  ⟨fun blk off cap ss W hH hblk hsz => callsIn_wide.2 (AnyM.slices_Sort_int Tryz.sortA blk off cap ss W hH hblk hsz),
   fun p cap W => callsIn_wide.2 (AnyM.slices_Sort_int_none Tryz.sortA p cap W)⟩
end Go.Proofs
namespace Go.Proofs.YtlhfgjblcckifaaGreatDoor.Dg
open Go.RowKit Go.Maps Go.Sort Go.Shelf

theorem keys_calls (b : Nat) (w : World) : Calls Tryz.prog 25 #[.map (some b)] w fun e w' => e = .returned (.func (.func 43) #[] #[.pointer (some ⟨w.heap.size, 0, none⟩)]) ∧ w' = w.alloc (.cells #[.map (some b)] 46) :=
  (callsIn_wide (n := 5)).1 (AnyZI.keys_in Tryz.keysA Fence.wide 5 trivial rfl (some b) w)
theorem sorted_calls (b nn : Nat) (D0 : DU) (R : Value → Option (DU × List MemPlace)) (w : World) (hown : w.ownsMap Tryz.prog 3 R b nn D0) (hmax : Maps.size D0 ≤ 100000) :
    Calls Tryz.prog 24 #[.func (.func 43) #[] #[.pointer (some ⟨w.heap.size, 0, none⟩)]] (w.alloc (.cells #[.map (some b)] 46)) fun e w' => ∃ (v : Value) (ss : List Int), e = .returned v ∧ ss.Perm (intKeys D0) ∧
      w'.ownsRow (w.heap.size + 1) 3 1 v ss.length ((ss.mergeSort (fun x y => decide (x ≤ y))).map encZ) ∧ Below (w.heap.size + 1) (w.alloc (.cells #[.map (some b)] 46)) w' := by
  have hbl := hown.lt
  have hseq : SeqGives Fence.wide 2 Tryz.prog 43 #[.pointer (some ⟨w.heap.size, 0, none⟩)] encZ (fun ss => ss.Perm (intKeys D0)) (Maps.size D0) (w.alloc (.cells #[.map (some b)] 46)) :=
    AnyZI.keys_gives (ρ := Tryz.keysA_ren) { Tryz.keysA with } Fence.wide _ trivial rfl (by omega) w.heap.size b nn D0 _ (by simp) (by simp) (by
      obtain ⟨es, clock, hb, Ft, hs, hD⟩ := hown
      exact ⟨es, clock, (Below.heap_alloc _ _ b hbl).trans hb, Ft, hs, hD⟩)
  have cS := AnyZI.sorted_in Tryz.sortedA Fence.wide 5 trivial trivial trivial trivial rfl (by omega) (Tryz.sortsA _) (enters_of Tryz.func42 (by kernel_rfl) rfl) 43 #[.pointer (some ⟨w.heap.size, 0, none⟩)] trivial (enters_of Tryz.func43 (by kernel_rfl) rfl) _ _ (Nat.le_trans hmax (by unfold maxLen; omega)) (by omega) _ hseq
  change CallsIn _ _ Tryz.prog 24 _ _ _ at cS
  refine ((callsIn_wide (n := 5)).1 cS).mono ?_
  rintro e w' ⟨v, ss, rfl, hS, hrow, _, hb⟩
  rw [show (w.alloc (.cells #[.map (some b)] 46)).heap.size = w.heap.size + 1 by simp] at hrow hb
  exact ⟨v, ss, rfl, hS, hrow, hb⟩

theorem wpList_insert_own {H : Type} {P : Program} (w : World) {ops : Array Oper} {rest : List Oper} {o : Oper} {a : Act} {Q : Exit → Act → World → Prop}
    (hg : o.guard = none) (m x v : Operand) (t : TypeId) (hop : o.op = Op.insert t m x v)
    (k e : TypeId) (K : Keyed P k) (ht : P.underlying t = some (.map k e)) (R : Value → Option (DataW H × List MemPlace)) (b n : Nat) (D : DataW H)
    (hm : a.eval m = .map (some b)) (hown : w.ownsMap P k R b n D) (hn : n < maxLen) (key val : Value) (kl : Lit) (hx : a.eval x = key) (hv : a.eval v = val) (hkey : keyOf P k key = some kl)
    (d : DataW H) (ps : List MemPlace) (hval : R val = some (d, ps))
    (hK : ∀ w', w'.ownsMap P k R b (n + 1) (D.put kl d) → w.grownBy w' (some b) → wpList P ops Q rest (a.put o.dst undef) w') :
    wpList P ops Q (o :: rest) a w := by
  refine wpList_plain hg fun K' hK' => ?_
  obtain ⟨w', hrun, r1, r2⟩ := hown.update K ht hn hkey hval
  unfold Oper.wp
  simp [execOp, hop, hm, hx, hv, hrun, Result.andThen]
  exact hK' _ _ (hK w' r1 r2)
end Go.Proofs.YtlhfgjblcckifaaGreatDoor.Dg
