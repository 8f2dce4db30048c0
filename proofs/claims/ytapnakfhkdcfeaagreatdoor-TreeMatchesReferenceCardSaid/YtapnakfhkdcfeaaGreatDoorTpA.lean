/-
  The tree layer in plain terms, without a count of rounds: roots, paths, links, what a proof computes; the program's walks at them.
-/
import Derived.Test.YtapnakfhkdcfeaaGreatDoorMgProof
set_option linter.unusedVariables false
set_option linter.unusedSimpArgs false
namespace Go.Proofs.YtapnakfhkdcfeaaGreatDoor.Dg
attribute [local irreducible] sumB

theorem half_bounds {n : Nat} (h : ¬ n ≤ 1) : 1 ≤ halfN n ∧ halfN n < n := ⟨halfN_ge n, halfN_lt n (by omega)⟩

def rootW (l : List ByteArray) : ByteArray :=
  if h : l.length ≤ 1 then l.headD ByteArray.empty else nodeB (rootW (l.take (halfN l.length))) (rootW (l.drop (halfN l.length)))
termination_by l.length
decreasing_by
  all_goals (have := half_bounds h; simp only [List.length_take, List.length_drop]; omega)
def pathW (l : List ByteArray) (i : Nat) : List ByteArray :=
  if h : l.length ≤ 1 then [] else if i < halfN l.length then pathW (l.take (halfN l.length)) i ++ [rootW (l.drop (halfN l.length))]
  else pathW (l.drop (halfN l.length)) (i - halfN l.length) ++ [rootW (l.take (halfN l.length))]
termination_by l.length
decreasing_by
  all_goals (have := half_bounds h; simp only [List.length_take, List.length_drop]; omega)
def lenW (n i : Nat) : Nat :=
  if h : n ≤ 1 then 0 else if i < halfN n then 1 + lenW (halfN n) i else 1 + lenW (n - halfN n) (i - halfN n)
termination_by n
decreasing_by
  all_goals (have := half_bounds h; omega)
def upW (n i : Nat) (d : ByteArray) (p : List ByteArray) : ByteArray :=
  if h : n ≤ 1 then d else if i < halfN n then nodeB (upW (halfN n) i d p.dropLast) (lastB p) else nodeB (lastB p) (upW (n - halfN n) (i - halfN n) d p.dropLast)
termination_by n
decreasing_by
  all_goals (have := half_bounds h; omega)
def linkW (l : List ByteArray) (m : Nat) (wh : Bool) : List ByteArray :=
  if m = l.length then (if wh then [] else [rootW l]) else if h : l.length ≤ 1 then [] else
  if m ≤ halfN l.length then linkW (l.take (halfN l.length)) m wh ++ [rootW (l.drop (halfN l.length))]
  else linkW (l.drop (halfN l.length)) (m - halfN l.length) false ++ [rootW (l.take (halfN l.length))]
termination_by l.length
decreasing_by
  all_goals (have := half_bounds h; simp only [List.length_take, List.length_drop]; omega)
def longW (n m : Nat) (wh : Bool) : Nat :=
  if m = n then (if wh then 0 else 1) else if h : n ≤ 1 then 0 else if m ≤ halfN n then 1 + longW (halfN n) m wh else 1 + longW (n - halfN n) (m - halfN n) false
termination_by n
decreasing_by
  all_goals (have := half_bounds h; omega)
def bothW (n m : Nat) (wh : Bool) (old : ByteArray) (l : List ByteArray) : ByteArray × ByteArray :=
  if m = n then (if wh then (old, old) else (lastB l, lastB l)) else if h : n ≤ 1 then (old, old) else
  if m ≤ halfN n then ((bothW (halfN n) m wh old l.dropLast).1, nodeB (bothW (halfN n) m wh old l.dropLast).2 (lastB l))
  else (nodeB (lastB l) (bothW (n - halfN n) (m - halfN n) false old l.dropLast).1, nodeB (lastB l) (bothW (n - halfN n) (m - halfN n) false old l.dropLast).2)
termination_by n
decreasing_by
  all_goals (have := half_bounds h; omega)

/-! ### equations -/
theorem rootW_one (l : List ByteArray) (h : l.length ≤ 1) : rootW l = l.headD ByteArray.empty := by rw [rootW, dif_pos h]
theorem rootW_node (l : List ByteArray) (h : ¬ l.length ≤ 1) : rootW l = nodeB (rootW (l.take (halfN l.length))) (rootW (l.drop (halfN l.length))) := by rw [rootW, dif_neg h]
theorem pathW_one (l : List ByteArray) (i : Nat) (h : l.length ≤ 1) : pathW l i = [] := by rw [pathW, dif_pos h]
theorem pathW_left (l : List ByteArray) (i : Nat) (h : ¬ l.length ≤ 1) (hi : i < halfN l.length) : pathW l i = pathW (l.take (halfN l.length)) i ++ [rootW (l.drop (halfN l.length))] := by rw [pathW, dif_neg h, if_pos hi]
theorem pathW_right (l : List ByteArray) (i : Nat) (h : ¬ l.length ≤ 1) (hi : ¬ i < halfN l.length) : pathW l i = pathW (l.drop (halfN l.length)) (i - halfN l.length) ++ [rootW (l.take (halfN l.length))] := by rw [pathW, dif_neg h, if_neg hi]
theorem lenW_one (n i : Nat) (h : n ≤ 1) : lenW n i = 0 := by rw [lenW, dif_pos h]
theorem lenW_left (n i : Nat) (h : ¬ n ≤ 1) (hi : i < halfN n) : lenW n i = 1 + lenW (halfN n) i := by rw [lenW, dif_neg h, if_pos hi]
theorem lenW_right (n i : Nat) (h : ¬ n ≤ 1) (hi : ¬ i < halfN n) : lenW n i = 1 + lenW (n - halfN n) (i - halfN n) := by rw [lenW, dif_neg h, if_neg hi]
theorem upW_one (n i : Nat) (d : ByteArray) (p : List ByteArray) (h : n ≤ 1) : upW n i d p = d := by rw [upW, dif_pos h]
theorem upW_left (n i : Nat) (d : ByteArray) (p : List ByteArray) (h : ¬ n ≤ 1) (hi : i < halfN n) : upW n i d p = nodeB (upW (halfN n) i d p.dropLast) (lastB p) := by rw [upW, dif_neg h, if_pos hi]
theorem upW_right (n i : Nat) (d : ByteArray) (p : List ByteArray) (h : ¬ n ≤ 1) (hi : ¬ i < halfN n) : upW n i d p = nodeB (lastB p) (upW (n - halfN n) (i - halfN n) d p.dropLast) := by rw [upW, dif_neg h, if_neg hi]
theorem linkW_all (l : List ByteArray) (wh : Bool) : linkW l l.length wh = if wh then [] else [rootW l] := by rw [linkW, if_pos rfl]
theorem linkW_left (l : List ByteArray) (m : Nat) (wh : Bool) (hm : m ≠ l.length) (h : ¬ l.length ≤ 1) (hi : m ≤ halfN l.length) : linkW l m wh = linkW (l.take (halfN l.length)) m wh ++ [rootW (l.drop (halfN l.length))] := by rw [linkW, if_neg hm, dif_neg h, if_pos hi]
theorem linkW_right (l : List ByteArray) (m : Nat) (wh : Bool) (hm : m ≠ l.length) (h : ¬ l.length ≤ 1) (hi : ¬ m ≤ halfN l.length) : linkW l m wh = linkW (l.drop (halfN l.length)) (m - halfN l.length) false ++ [rootW (l.take (halfN l.length))] := by rw [linkW, if_neg hm, dif_neg h, if_neg hi]
theorem longW_all (n : Nat) (wh : Bool) : longW n n wh = if wh then 0 else 1 := by rw [longW, if_pos rfl]
theorem longW_left (n m : Nat) (wh : Bool) (hm : m ≠ n) (h : ¬ n ≤ 1) (hi : m ≤ halfN n) : longW n m wh = 1 + longW (halfN n) m wh := by rw [longW, if_neg hm, dif_neg h, if_pos hi]
theorem longW_right (n m : Nat) (wh : Bool) (hm : m ≠ n) (h : ¬ n ≤ 1) (hi : ¬ m ≤ halfN n) : longW n m wh = 1 + longW (n - halfN n) (m - halfN n) false := by rw [longW, if_neg hm, dif_neg h, if_neg hi]
theorem bothW_all (n : Nat) (wh : Bool) (old : ByteArray) (l : List ByteArray) : bothW n n wh old l = if wh then (old, old) else (lastB l, lastB l) := by rw [bothW, if_pos rfl]
theorem bothW_left (n m : Nat) (wh : Bool) (old : ByteArray) (l : List ByteArray) (hm : m ≠ n) (h : ¬ n ≤ 1) (hi : m ≤ halfN n) : bothW n m wh old l = ((bothW (halfN n) m wh old l.dropLast).1, nodeB (bothW (halfN n) m wh old l.dropLast).2 (lastB l)) := by rw [bothW, if_neg hm, dif_neg h, if_pos hi]
theorem bothW_right (n m : Nat) (wh : Bool) (old : ByteArray) (l : List ByteArray) (hm : m ≠ n) (h : ¬ n ≤ 1) (hi : ¬ m ≤ halfN n) : bothW n m wh old l = (nodeB (lastB l) (bothW (n - halfN n) (m - halfN n) false old l.dropLast).1, nodeB (lastB l) (bothW (n - halfN n) (m - halfN n) false old l.dropLast).2) := by rw [bothW, if_neg hm, dif_neg h, if_neg hi]

/-! ### the program's walks -/
theorem rootTo_W : ∀ (f : Nat) (l : List ByteArray), l.length ≤ f → rootTo f l = rootW l
  | 0, l, h => by rw [rootTo, rootW_one l (by omega)]
  | f + 1, l, h => by
    unfold rootTo
    by_cases h1 : l.length ≤ 1
    · rw [if_pos h1, rootW_one l h1]
    · have hb := half_bounds h1
      rw [if_neg h1, rootW_node l h1, rootTo_W f _ (by rw [List.length_take]; omega), rootTo_W f _ (by rw [List.length_drop]; omega)]
theorem rootB_W (l : List ByteArray) : rootB l = if l.length = 0 then emptyB else rootW l := by
  unfold rootB; rw [rootTo_W _ _ (Nat.le_refl _)]
theorem rootB_pos (l : List ByteArray) (h : 1 ≤ l.length) : rootB l = rootW l := by rw [rootB_W, if_neg (by omega)]

theorem lastB_snoc (l : List ByteArray) (x : ByteArray) : lastB (l ++ [x]) = x := by unfold lastB; simp
theorem lastB_mem (l : List ByteArray) (h : 0 < l.length) : lastB l ∈ l := by
  unfold lastB
  rw [List.getLastD_eq_getLast?]
  cases hq : l.getLast? with
  | none => have := List.getLast?_eq_none_iff.1 hq; subst this; exact absurd h (by simp)
  | some x => exact List.mem_of_getLast? hq
theorem snoc_eq (l : List ByteArray) (h : 0 < l.length) : l.dropLast ++ [lastB l] = l := by
  have hne : l ≠ [] := by intro e; subst e; exact absurd h (by simp)
  have : lastB l = l.getLast hne := by unfold lastB; rw [List.getLastD_eq_getLast?, List.getLast?_eq_some_getLast hne]; rfl
  rw [this]; exact List.dropLast_concat_getLast hne
theorem short_step (l : List ByteArray) (sh : Bool) (hs : ∀ s ∈ l, s.size = 16) : (sh || decide ((lastB l).size = 0)) = (sh || decide (l.length = 0)) := by
  by_cases h : l.length = 0
  · have : l = [] := List.eq_nil_of_length_eq_zero h
    subst this; rfl
  · have := hs _ (lastB_mem l (by omega))
    rw [decide_eq_false h, decide_eq_false (by omega)]

theorem upTo_W : ∀ (f n i : Nat) (d : ByteArray) (l : List ByteArray) (sh : Bool), n ≤ f → (∀ s ∈ l, s.size = 16) →
    (upTo f n i d l sh).1 = upW n i d l ∧ (upTo f n i d l sh).2.1.length = l.length - lenW n i ∧ (upTo f n i d l sh).2.2 = (sh || decide (l.length < lenW n i))
  | 0, n, i, d, l, sh, h, hs => by
    rw [upTo, upW_one n i d l (by omega), lenW_one n i (by omega)]
    refine ⟨rfl, rfl, ?_⟩
    rw [decide_eq_false (by omega), Bool.or_false]
  | f + 1, n, i, d, l, sh, h, hs => by
    unfold upTo
    by_cases h1 : n ≤ 1
    · rw [if_pos h1, upW_one n i d l h1, lenW_one n i h1]
      refine ⟨rfl, rfl, ?_⟩
      rw [decide_eq_false (by omega), Bool.or_false]
    · have hb := half_bounds h1
      have hd : ∀ s ∈ l.dropLast, s.size = 16 := fun s hx => by rw [List.dropLast_eq_take] at hx; exact hs s (List.mem_of_mem_take hx)
      rw [if_neg h1]
      by_cases hi : i < halfN n
      · rw [if_pos hi, upW_left n i d l h1 hi, lenW_left n i h1 hi]
        obtain ⟨a1, a2, a3⟩ := upTo_W f (halfN n) i d l.dropLast (sh || decide ((lastB l).size = 0)) (by omega) hd
        refine ⟨by dsimp only; rw [a1], by dsimp only; rw [a2, List.length_dropLast]; omega, ?_⟩
        dsimp only
        rw [a3, short_step l sh hs, List.length_dropLast, Bool.or_assoc]
        congr 1
        by_cases h0 : l.length = 0
        · rw [decide_eq_true h0, Bool.true_or, decide_eq_true (by omega)]
        · rw [decide_eq_false h0, Bool.false_or]; congr 1; exact propext ⟨fun _ => by omega, fun _ => by omega⟩
      · rw [if_neg hi, upW_right n i d l h1 hi, lenW_right n i h1 hi]
        obtain ⟨a1, a2, a3⟩ := upTo_W f (n - halfN n) (i - halfN n) d l.dropLast (sh || decide ((lastB l).size = 0)) (by omega) hd
        refine ⟨by dsimp only; rw [a1], by dsimp only; rw [a2, List.length_dropLast]; omega, ?_⟩
        dsimp only
        rw [a3, short_step l sh hs, List.length_dropLast, Bool.or_assoc]
        congr 1
        by_cases h0 : l.length = 0
        · rw [decide_eq_true h0, Bool.true_or, decide_eq_true (by omega)]
        · rw [decide_eq_false h0, Bool.false_or]; congr 1; exact propext ⟨fun _ => by omega, fun _ => by omega⟩

theorem bothTo_W : ∀ (f n m : Nat) (wh : Bool) (old : ByteArray) (l : List ByteArray) (sh : Bool), n ≤ f → 1 ≤ m → m ≤ n → (∀ s ∈ l, s.size = 16) →
    ((bothTo f n m wh old l sh).1, (bothTo f n m wh old l sh).2.1) = bothW n m wh old l ∧ (bothTo f n m wh old l sh).2.2.1.length = l.length - longW n m wh ∧ (bothTo f n m wh old l sh).2.2.2 = (sh || decide (l.length < longW n m wh))
  | 0, n, m, wh, old, l, sh, h, h1, h2, hs => absurd h (by omega)
  | f + 1, n, m, wh, old, l, sh, h, h1, h2, hs => by
    have hd : ∀ s ∈ l.dropLast, s.size = 16 := fun s hx => by rw [List.dropLast_eq_take] at hx; exact hs s (List.mem_of_mem_take hx)
    unfold bothTo
    by_cases hm : m = n
    · subst hm
      rw [if_pos rfl, bothW_all, longW_all]
      cases wh
      · simp only [Bool.false_eq_true, if_false]
        refine ⟨trivial, by rw [List.length_dropLast], ?_⟩
        rw [short_step l sh hs]
        congr 2
        exact propext ⟨fun _ => by omega, fun _ => by omega⟩
      · simp only [if_true]
        refine ⟨trivial, rfl, ?_⟩
        rw [decide_eq_false (by omega), Bool.or_false]
    · have hn : ¬ n ≤ 1 := by omega
      have hb := half_bounds hn
      rw [if_neg hm]
      by_cases hi : m ≤ halfN n
      · rw [if_pos hi, bothW_left n m wh old l hm hn hi, longW_left n m wh hm hn hi]
        obtain ⟨a1, a2, a3⟩ := bothTo_W f (halfN n) m wh old l.dropLast (sh || decide ((lastB l).size = 0)) (by omega) h1 hi hd
        refine ⟨by dsimp only; rw [← a1], by dsimp only; rw [a2, List.length_dropLast]; omega, ?_⟩
        dsimp only
        rw [a3, short_step l sh hs, List.length_dropLast, Bool.or_assoc]
        congr 1
        by_cases h0 : l.length = 0
        · rw [decide_eq_true h0, Bool.true_or, decide_eq_true (by omega)]
        · rw [decide_eq_false h0, Bool.false_or]; congr 1; exact propext ⟨fun _ => by omega, fun _ => by omega⟩
      · rw [if_neg hi, bothW_right n m wh old l hm hn hi, longW_right n m wh hm hn hi]
        obtain ⟨a1, a2, a3⟩ := bothTo_W f (n - halfN n) (m - halfN n) false old l.dropLast (sh || decide ((lastB l).size = 0)) (by omega) (by omega) (by omega) hd
        refine ⟨by dsimp only; rw [← a1], by dsimp only; rw [a2, List.length_dropLast]; omega, ?_⟩
        dsimp only
        rw [a3, short_step l sh hs, List.length_dropLast, Bool.or_assoc]
        congr 1
        by_cases h0 : l.length = 0
        · rw [decide_eq_true h0, Bool.true_or, decide_eq_true (by omega)]
        · rw [decide_eq_false h0, Bool.false_or]; congr 1; exact propext ⟨fun _ => by omega, fun _ => by omega⟩

/-- Whether a path proves an element, in the reference's terms. -/
theorem checkB_W (root : ByteArray) (n i : Int) (leaf : ByteArray) (l : List ByteArray) :
    checkB root n i leaf l = if n > 1000000 then false else if i < 0 then false else if i ≥ n then false else if l.all isB = false then false else if isB leaf = false then false else
      decide (l.length = lenW n.toNat i.toNat) && decide (upW n.toNat i.toNat leaf l = root) := by
  unfold checkB
  by_cases h1 : n > 1000000
  · rw [if_pos h1, if_pos h1]
  by_cases h2 : i < 0
  · rw [if_neg h1, if_neg h1, if_pos h2, if_pos h2]
  by_cases h3 : i ≥ n
  · rw [if_neg h1, if_neg h1, if_neg h2, if_neg h2, if_pos h3, if_pos h3]
  rw [if_neg h1, if_neg h1, if_neg h2, if_neg h2, if_neg h3, if_neg h3]
  by_cases h4 : l.all isB = false
  · rw [if_pos h4, if_pos h4]
  rw [if_neg h4, if_neg h4]
  by_cases h5 : isB leaf = false
  · rw [if_pos h5, if_pos h5]
  rw [if_neg h5, if_neg h5]
  have hs : ∀ s ∈ l, s.size = 16 := fun s hx => isB_size (List.all_eq_true.1 (by simpa using h4) s hx)
  obtain ⟨a1, a2, a3⟩ := upTo_W n.toNat n.toNat i.toNat leaf l false (Nat.le_refl _) hs
  unfold upOk
  rw [a1, a2, a3, Bool.false_or, Bool.and_comm]
  congr 1
  by_cases h6 : l.length = lenW n.toNat i.toNat
  · rw [decide_eq_true h6, decide_eq_false (by omega), decide_eq_true (by omega)]; rfl
  · rw [decide_eq_false h6]
    by_cases h7 : l.length < lenW n.toNat i.toNat
    · rw [decide_eq_true h7]; rfl
    · rw [decide_eq_false h7, decide_eq_false (by omega)]; rfl
theorem extB_W (old : ByteArray) (m : Int) (root : ByteArray) (n : Int) (l : List ByteArray) :
    extB old m root n l = if m < 0 then false else if m > n then false else if n > 1000000 then false else if l.all isB = false then false else if (isB old && isB root) = false then false else
      if m = 0 then decide (l.length = 0) && (decide (old = emptyB) && (decide (n > 0) || decide (root = old))) else
      decide (l.length = longW n.toNat m.toNat true) && (decide ((bothW n.toNat m.toNat true old l).1 = old) && decide ((bothW n.toNat m.toNat true old l).2 = root)) := by
  unfold extB
  by_cases h1 : m < 0
  · rw [if_pos h1, if_pos h1]
  by_cases h2 : m > n
  · rw [if_neg h1, if_neg h1, if_pos h2, if_pos h2]
  by_cases h3 : n > 1000000
  · rw [if_neg h1, if_neg h1, if_neg h2, if_neg h2, if_pos h3, if_pos h3]
  rw [if_neg h1, if_neg h1, if_neg h2, if_neg h2, if_neg h3, if_neg h3]
  by_cases h4 : l.all isB = false
  · rw [if_pos h4, if_pos h4]
  rw [if_neg h4, if_neg h4]
  by_cases h5 : (isB old && isB root) = false
  · rw [if_pos h5, if_pos h5]
  rw [if_neg h5, if_neg h5]
  by_cases h6 : m = 0
  · rw [if_pos h6, if_pos h6]
  rw [if_neg h6, if_neg h6]
  have hs : ∀ s ∈ l, s.size = 16 := fun s hx => isB_size (List.all_eq_true.1 (by simpa using h4) s hx)
  obtain ⟨a1, a2, a3⟩ := bothTo_W n.toNat n.toNat m.toNat true old l false (Nat.le_refl _) (by omega) (by omega) hs
  unfold bothOk
  rw [← a1, a2, a3, Bool.false_or]
  dsimp only
  have e : (!decide (l.length < longW n.toNat m.toNat true) && decide (l.length - longW n.toNat m.toNat true = 0)) = decide (l.length = longW n.toNat m.toNat true) := by
    by_cases h6 : l.length = longW n.toNat m.toNat true
    · rw [decide_eq_true h6, decide_eq_false (by omega), decide_eq_true (by omega)]; rfl
    · rw [decide_eq_false h6]
      by_cases h7 : l.length < longW n.toNat m.toNat true
      · rw [decide_eq_true h7]; rfl
      · rw [decide_eq_false h7, decide_eq_false (by omega)]; rfl
  rw [e, ← Bool.and_assoc, Bool.and_comm]

end Go.Proofs.YtapnakfhkdcfeaaGreatDoor.Dg
