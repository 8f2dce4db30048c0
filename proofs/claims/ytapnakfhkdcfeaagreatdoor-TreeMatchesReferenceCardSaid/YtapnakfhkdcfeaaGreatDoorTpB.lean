/-
  The tree layer's plain laws: a path proves its element, a link the beginning; texts with one digest where a proof is accepted that is not the own one.
-/
import Derived.Test.YtapnakfhkdcfeaaGreatDoorTpA
set_option linter.unusedVariables false
set_option linter.unusedSimpArgs false
namespace Go.Proofs.YtapnakfhkdcfeaaGreatDoor.Dg
attribute [local irreducible] sumB

theorem isB_sum (s : ByteArray) : isB (sumB s) = true := by
  have hexd_mem : ∀ d, d < 16 → hexSet.contains (hexd d) = true := by decide
  have hexTo_mem : ∀ (k n : Nat), (hexTo n k).all (hexSet.contains ·) = true := by
    intro k
    induction k with
    | zero => intro n; rfl
    | succ k ih => intro n; simp only [hexTo, List.all_append, ih, List.all_cons, List.all_nil, hexd_mem _ (Nat.mod_lt n (by decide : 0 < 16)), Bool.and_true]
  unfold isB; rw [sumB_len, sumB_data]; unfold sumL; rw [hexTo_mem]; rfl
theorem isB_node (a b : ByteArray) : isB (nodeB a b) = true := isB_sum _
theorem all_take {l : List ByteArray} (h : l.all isB = true) (k : Nat) : (l.take k).all isB = true := List.all_eq_true.2 fun x hx => List.all_eq_true.1 h x (List.mem_of_mem_take hx)
theorem all_drop {l : List ByteArray} (h : l.all isB = true) (k : Nat) : (l.drop k).all isB = true := List.all_eq_true.2 fun x hx => List.all_eq_true.1 h x (List.mem_of_mem_drop hx)
theorem all_mem {l : List ByteArray} (h : l.all isB = true) {x : ByteArray} (hx : x ∈ l) : isB x = true := List.all_eq_true.1 h x hx
theorem rootW_isB (l : List ByteArray) (h : l.all isB = true) (h1 : 1 ≤ l.length) : isB (rootW l) = true := by
  by_cases h2 : l.length ≤ 1
  · rw [rootW_one l h2]
    cases l with
    | nil => exact absurd h1 (by simp)
    | cons x l => exact all_mem h List.mem_cons_self
  · rw [rootW_node l h2]; exact isB_node _ _

/-! ### lengths -/
theorem pathW_length : ∀ (d : Nat) (l : List ByteArray) (i : Nat), l.length ≤ d → i < l.length → (pathW l i).length = lenW l.length i := by
  intro d
  induction d with
  | zero => intro l i h1 h2; omega
  | succ d ih =>
    intro l i h1 h2
    by_cases h : l.length ≤ 1
    · rw [pathW_one l i h, lenW_one _ i h]; rfl
    · have hb := half_bounds h
      by_cases hi : i < halfN l.length
      · have := ih (l.take (halfN l.length)) i (by rw [List.length_take]; omega) (by rw [List.length_take]; omega)
        rw [pathW_left l i h hi, lenW_left _ i h hi, List.length_append, this, List.length_take, Nat.min_eq_left (by omega)]
        simp; omega
      · have := ih (l.drop (halfN l.length)) (i - halfN l.length) (by rw [List.length_drop]; omega) (by rw [List.length_drop]; omega)
        rw [pathW_right l i h hi, lenW_right _ i h hi, List.length_append, this, List.length_drop]
        simp; omega
theorem linkW_length : ∀ (d : Nat) (l : List ByteArray) (m : Nat) (wh : Bool), l.length ≤ d → 1 ≤ m → m ≤ l.length → (linkW l m wh).length = longW l.length m wh := by
  intro d
  induction d with
  | zero => intro l m wh h1 h2; omega
  | succ d ih =>
    intro l m wh h1 h2 h3
    by_cases hm : m = l.length
    · subst hm; rw [linkW_all, longW_all]; cases wh <;> rfl
    · have h : ¬ l.length ≤ 1 := by omega
      have hb := half_bounds h
      by_cases hi : m ≤ halfN l.length
      · have := ih (l.take (halfN l.length)) m wh (by rw [List.length_take]; omega) h2 (by rw [List.length_take]; omega)
        rw [linkW_left l m wh hm h hi, longW_left _ m wh hm h hi, List.length_append, this, List.length_take, Nat.min_eq_left (by omega)]
        simp; omega
      · have := ih (l.drop (halfN l.length)) (m - halfN l.length) false (by rw [List.length_drop]; omega) (by omega) (by rw [List.length_drop]; omega)
        rw [linkW_right l m wh hm h hi, longW_right _ m wh hm h hi, List.length_append, this, List.length_drop]
        simp; omega
theorem pathW_isB : ∀ (d : Nat) (l : List ByteArray) (i : Nat), l.length ≤ d → i < l.length → l.all isB = true → (pathW l i).all isB = true := by
  intro d
  induction d with
  | zero => intro l i h1 h2; omega
  | succ d ih =>
    intro l i h1 h2 ha
    by_cases h : l.length ≤ 1
    · rw [pathW_one l i h]; rfl
    · have hb := half_bounds h
      by_cases hi : i < halfN l.length
      · rw [pathW_left l i h hi, List.all_append, ih (l.take (halfN l.length)) i (by rw [List.length_take]; omega) (by rw [List.length_take]; omega) (all_take ha _)]
        simp [rootW_isB _ (all_drop ha (halfN l.length)) (by rw [List.length_drop]; omega)]
      · rw [pathW_right l i h hi, List.all_append, ih (l.drop (halfN l.length)) (i - halfN l.length) (by rw [List.length_drop]; omega) (by rw [List.length_drop]; omega) (all_drop ha _)]
        simp [rootW_isB _ (all_take ha (halfN l.length)) (by rw [List.length_take]; omega)]
theorem linkW_isB : ∀ (d : Nat) (l : List ByteArray) (m : Nat) (wh : Bool), l.length ≤ d → 1 ≤ m → m ≤ l.length → l.all isB = true → (linkW l m wh).all isB = true := by
  intro d
  induction d with
  | zero => intro l m wh h1 h2; omega
  | succ d ih =>
    intro l m wh h1 h2 h3 ha
    by_cases hm : m = l.length
    · subst hm; rw [linkW_all]
      cases wh
      · simp [rootW_isB l ha h2]
      · rfl
    · have h : ¬ l.length ≤ 1 := by omega
      have hb := half_bounds h
      by_cases hi : m ≤ halfN l.length
      · rw [linkW_left l m wh hm h hi, List.all_append, ih (l.take (halfN l.length)) m wh (by rw [List.length_take]; omega) h2 (by rw [List.length_take]; omega) (all_take ha _)]
        simp [rootW_isB _ (all_drop ha (halfN l.length)) (by rw [List.length_drop]; omega)]
      · rw [linkW_right l m wh hm h hi, List.all_append, ih (l.drop (halfN l.length)) (m - halfN l.length) false (by rw [List.length_drop]; omega) (by omega) (by rw [List.length_drop]; omega) (all_drop ha _)]
        simp [rootW_isB _ (all_take ha (halfN l.length)) (by rw [List.length_take]; omega)]

/-! ### the own proofs prove -/
theorem up_path : ∀ (d : Nat) (l : List ByteArray) (i : Nat), l.length ≤ d → (hi : i < l.length) → upW l.length i l[i] (pathW l i) = rootW l := by
  intro d
  induction d with
  | zero => intro l i h1 h2; omega
  | succ d ih =>
    intro l i h1 h2
    by_cases h : l.length ≤ 1
    · rw [upW_one _ _ _ _ h, rootW_one l h]
      cases l with
      | nil => exact absurd h2 (by simp)
      | cons x l =>
        have : i = 0 := by simp at h; subst h; simpa using h2
        subst this; rfl
    · have hb := half_bounds h
      by_cases hi : i < halfN l.length
      · have h3 : i < (l.take (halfN l.length)).length := by rw [List.length_take]; omega
        have := ih (l.take (halfN l.length)) i (by rw [List.length_take]; omega) h3
        rw [List.length_take, Nat.min_eq_left (by omega), List.getElem_take] at this
        rw [upW_left _ _ _ _ h hi, pathW_left l i h hi, List.dropLast_concat, lastB_snoc, this, ← rootW_node l h]
      · have h3 : i - halfN l.length < (l.drop (halfN l.length)).length := by rw [List.length_drop]; omega
        have := ih (l.drop (halfN l.length)) (i - halfN l.length) (by rw [List.length_drop]; omega) h3
        rw [List.length_drop, List.getElem_drop] at this
        have e : l[halfN l.length + (i - halfN l.length)]'(by omega) = l[i] := by congr 1; omega
        rw [e] at this
        rw [upW_right _ _ _ _ h hi, pathW_right l i h hi, List.dropLast_concat, lastB_snoc, this, ← rootW_node l h]

theorem halfTo_big : ∀ (f k n : Nat), k ≤ halfTo f k n
  | 0, k, n => Nat.le_refl _
  | f + 1, k, n => by
    unfold halfTo
    split
    · exact Nat.le_trans (by omega) (halfTo_big f (2 * k) n)
    · exact Nat.le_refl _
theorem halfTo_between : ∀ (f k n m : Nat), halfTo f k n < m → m ≤ n → halfTo f k m = halfTo f k n
  | 0, k, n, m, h1, h2 => rfl
  | f + 1, k, n, m, h1, h2 => by
    unfold halfTo at h1 ⊢
    by_cases h : 2 * k < n
    · rw [if_pos h] at h1 ⊢
      have := halfTo_big f (2 * k) n
      rw [if_pos (by omega)]
      exact halfTo_between f (2 * k) n m h1 h2
    · rw [if_neg h] at h1 ⊢
      rw [if_neg (by omega)]
theorem half_between (n m : Nat) (h1 : halfN n < m) (h2 : m ≤ n) : halfN m = halfN n := halfTo_between 20 1 n m h1 h2

/-- The root of the first elements, more of them than half: the first half's root, and the root of the first ones of the others. -/
theorem root_take (l : List ByteArray) (m : Nat) (h : ¬ l.length ≤ 1) (hi : halfN l.length < m) (hm : m ≤ l.length) :
    rootW (l.take m) = nodeB (rootW (l.take (halfN l.length))) (rootW ((l.drop (halfN l.length)).take (m - halfN l.length))) := by
  have hb := half_bounds h
  have hl : (l.take m).length = m := by rw [List.length_take]; omega
  rw [rootW_node (l.take m) (by omega), hl, half_between _ _ hi hm, List.take_take, Nat.min_eq_left (by omega), List.drop_take]

theorem both_link : ∀ (d : Nat) (l : List ByteArray) (m : Nat) (wh : Bool) (old : ByteArray), l.length ≤ d → 1 ≤ m → m ≤ l.length → (wh = true → old = rootW (l.take m)) →
    bothW l.length m wh old (linkW l m wh) = (rootW (l.take m), rootW l) := by
  intro d
  induction d with
  | zero => intro l m wh old h1 h2; omega
  | succ d ih =>
    intro l m wh old h1 h2 h3 ho
    by_cases hm : m = l.length
    · subst hm
      rw [bothW_all, linkW_all, List.take_length]
      rw [List.take_length] at ho
      cases wh
      · simp only [Bool.false_eq_true, if_false]
        rw [show lastB [rootW l] = rootW l from rfl]
      · simp only [if_true]; rw [ho rfl]
    · have h : ¬ l.length ≤ 1 := by omega
      have hb := half_bounds h
      by_cases hi : m ≤ halfN l.length
      · have := ih (l.take (halfN l.length)) m wh old (by rw [List.length_take]; omega) h2 (by rw [List.length_take]; omega) (fun w => by rw [List.take_take, Nat.min_eq_left hi]; exact ho w)
        rw [List.length_take, Nat.min_eq_left (by omega), List.take_take, Nat.min_eq_left hi] at this
        rw [bothW_left _ _ _ _ _ hm h hi, linkW_left l m wh hm h hi, List.dropLast_concat, lastB_snoc, this, rootW_node l h]
      · have := ih (l.drop (halfN l.length)) (m - halfN l.length) false old (by rw [List.length_drop]; omega) (by omega) (by rw [List.length_drop]; omega) (fun w => by cases w)
        rw [List.length_drop] at this
        rw [bothW_right _ _ _ _ _ hm h hi, linkW_right l m wh hm h hi, List.dropLast_concat, lastB_snoc, this, root_take l m h (by omega) h3, rootW_node l h]

/-! ### texts with one digest -/
/-- Two different texts of a list have one digest. -/
def Coll (l : List ByteArray) : Prop := ∃ x, x ∈ l ∧ ∃ y, y ∈ l ∧ sumB x = sumB y ∧ x ≠ y
theorem Coll.mono {l m : List ByteArray} (h : Coll l) (hs : ∀ x ∈ l, x ∈ m) : Coll m := by
  obtain ⟨x, hx, y, hy, e, n⟩ := h
  exact ⟨x, hs x hx, y, hs y hy, e, n⟩
def nodeJ (a b : ByteArray) : ByteArray := joinB [nodeWord, a, b]
theorem nodeB_J (a b : ByteArray) : nodeB a b = sumB (nodeJ a b) := rfl
theorem piece_16 (x : ByteArray) (h : x.size = 16) : piece x = [49, 54, 58] ++ x.data.toList := by
  have e : Lib.itoa ((16 : Nat) : Int) = [49, 54] := by
    rw [Lib.itoa_nonneg]; unfold Lib.decDigits; rw [dif_neg (by decide)]; unfold Lib.decDigits; rw [dif_pos (by decide)]; rfl
  unfold piece; rw [h, e]; rfl
theorem data_ext {s t : ByteArray} (h : s.data.toList = t.data.toList) : s = t := by
  cases s with | mk a => cases t with | mk b => cases a; cases b; simp only at h; rw [h]
theorem nodeJ_inj {a b c d : ByteArray} (ha : a.size = 16) (hb : b.size = 16) (hc : c.size = 16) (hd : d.size = 16) (h : nodeJ a b = nodeJ c d) : a = c ∧ b = d := by
  have h1 : joinL [nodeWord, a, b] = joinL [nodeWord, c, d] := by
    have := congrArg (fun s : ByteArray => s.data.toList) h
    simpa [nodeJ, joinB] using this
  simp only [joinL, List.flatMap_cons, List.flatMap_nil, List.append_nil] at h1
  have h2 := List.append_cancel_left h1
  rw [piece_16 a ha, piece_16 b hb, piece_16 c hc, piece_16 d hd] at h2
  have h3 := List.append_inj h2 (by rw [List.length_append, List.length_append, ← Lib.size_eq, ← Lib.size_eq, ha, hc])
  exact ⟨data_ext (List.append_cancel_left h3.1), data_ext (List.append_cancel_left h3.2)⟩
/-- Two nodes with one digest: their texts differ, or their parts are the same. -/
theorem node_coll {a b c d : ByteArray} (ha : a.size = 16) (hb : b.size = 16) (hc : c.size = 16) (hd : d.size = 16) (h : nodeB a b = nodeB c d) {l : List ByteArray} (h1 : nodeJ a b ∈ l) (h2 : nodeJ c d ∈ l) : Coll l ∨ (a = c ∧ b = d) := by
  by_cases e : nodeJ a b = nodeJ c d
  · exact Or.inr (nodeJ_inj ha hb hc hd e)
  · exact Or.inl ⟨_, h1, _, h2, h, e⟩

def textsW (l : List ByteArray) : List ByteArray :=
  if h : l.length ≤ 1 then (if l.length = 0 then [joinB [emptyWord]] else []) else textsW (l.take (halfN l.length)) ++ textsW (l.drop (halfN l.length)) ++ [nodeJ (rootW (l.take (halfN l.length))) (rootW (l.drop (halfN l.length)))]
termination_by l.length
decreasing_by
  all_goals (have := half_bounds h; simp only [List.length_take, List.length_drop]; omega)
theorem textsW_node (l : List ByteArray) (h : ¬ l.length ≤ 1) : textsW l = textsW (l.take (halfN l.length)) ++ textsW (l.drop (halfN l.length)) ++ [nodeJ (rootW (l.take (halfN l.length))) (rootW (l.drop (halfN l.length)))] := by rw [textsW, dif_neg h]
def pathTextsW (n i : Nat) (d : ByteArray) (p : List ByteArray) : List ByteArray :=
  if h : n ≤ 1 then [] else if i < halfN n then pathTextsW (halfN n) i d p.dropLast ++ [nodeJ (upW (halfN n) i d p.dropLast) (lastB p)]
  else pathTextsW (n - halfN n) (i - halfN n) d p.dropLast ++ [nodeJ (lastB p) (upW (n - halfN n) (i - halfN n) d p.dropLast)]
termination_by n
decreasing_by
  all_goals (have := half_bounds h; omega)
theorem pathTextsW_one (n i : Nat) (d : ByteArray) (p : List ByteArray) (h : n ≤ 1) : pathTextsW n i d p = [] := by rw [pathTextsW, dif_pos h]
theorem pathTextsW_left (n i : Nat) (d : ByteArray) (p : List ByteArray) (h : ¬ n ≤ 1) (hi : i < halfN n) : pathTextsW n i d p = pathTextsW (halfN n) i d p.dropLast ++ [nodeJ (upW (halfN n) i d p.dropLast) (lastB p)] := by rw [pathTextsW, dif_neg h, if_pos hi]
theorem pathTextsW_right (n i : Nat) (d : ByteArray) (p : List ByteArray) (h : ¬ n ≤ 1) (hi : ¬ i < halfN n) : pathTextsW n i d p = pathTextsW (n - halfN n) (i - halfN n) d p.dropLast ++ [nodeJ (lastB p) (upW (n - halfN n) (i - halfN n) d p.dropLast)] := by rw [pathTextsW, dif_neg h, if_neg hi]
def linkTextsW (n m : Nat) (wh : Bool) (old : ByteArray) (l : List ByteArray) : List ByteArray :=
  if m = n then [] else if h : n ≤ 1 then [] else
  if m ≤ halfN n then linkTextsW (halfN n) m wh old l.dropLast ++ [nodeJ (bothW (halfN n) m wh old l.dropLast).2 (lastB l)]
  else linkTextsW (n - halfN n) (m - halfN n) false old l.dropLast ++ [nodeJ (lastB l) (bothW (n - halfN n) (m - halfN n) false old l.dropLast).1] ++ [nodeJ (lastB l) (bothW (n - halfN n) (m - halfN n) false old l.dropLast).2]
termination_by n
decreasing_by
  all_goals (have := half_bounds h; omega)
theorem linkTextsW_all (n : Nat) (wh : Bool) (old : ByteArray) (l : List ByteArray) : linkTextsW n n wh old l = [] := by rw [linkTextsW, if_pos rfl]
theorem linkTextsW_left (n m : Nat) (wh : Bool) (old : ByteArray) (l : List ByteArray) (hm : m ≠ n) (h : ¬ n ≤ 1) (hi : m ≤ halfN n) : linkTextsW n m wh old l = linkTextsW (halfN n) m wh old l.dropLast ++ [nodeJ (bothW (halfN n) m wh old l.dropLast).2 (lastB l)] := by rw [linkTextsW, if_neg hm, dif_neg h, if_pos hi]
theorem linkTextsW_right (n m : Nat) (wh : Bool) (old : ByteArray) (l : List ByteArray) (hm : m ≠ n) (h : ¬ n ≤ 1) (hi : ¬ m ≤ halfN n) : linkTextsW n m wh old l = linkTextsW (n - halfN n) (m - halfN n) false old l.dropLast ++ [nodeJ (lastB l) (bothW (n - halfN n) (m - halfN n) false old l.dropLast).1] ++ [nodeJ (lastB l) (bothW (n - halfN n) (m - halfN n) false old l.dropLast).2] := by rw [linkTextsW, if_neg hm, dif_neg h, if_neg hi]

theorem root16 {l : List ByteArray} (h : l.all isB = true) (h1 : 1 ≤ l.length) : (rootW l).size = 16 := isB_size (rootW_isB l h h1)
theorem last16 {l : List ByteArray} (h : l.all isB = true) (h1 : 0 < l.length) : (lastB l).size = 16 := isB_size (all_mem h (lastB_mem l h1))
theorem all_dropLast {l : List ByteArray} (h : l.all isB = true) : l.dropLast.all isB = true := by rw [List.dropLast_eq_take]; exact all_take h _

/-- Lists of one length with one root are equal, or two texts of theirs have one digest. -/
theorem roots_coll : ∀ (d : Nat) (a b : List ByteArray), a.length ≤ d → a.length = b.length → a.all isB = true → b.all isB = true → rootW a = rootW b → Coll (textsW a ++ textsW b) ∨ a = b := by
  intro d
  induction d with
  | zero =>
    intro a b h1 h2 _ _ _
    right
    rw [List.eq_nil_of_length_eq_zero (show a.length = 0 by omega), List.eq_nil_of_length_eq_zero (show b.length = 0 by omega)]
  | succ d ih =>
    intro a b h1 h2 ha hb hr
    by_cases h : a.length ≤ 1
    · right
      rw [rootW_one a h, rootW_one b (by omega)] at hr
      match a, b, h2 with
      | [], [], _ => rfl
      | [x], [y], _ => simpa using hr
      | x :: x' :: a, _, _ => simp at h
    · have hh := half_bounds h
      have hk : halfN b.length = halfN a.length := by rw [h2]
      have hb' : ¬ b.length ≤ 1 := by omega
      have ea := textsW_node a h
      have eb := textsW_node b hb'
      rw [rootW_node a h, rootW_node b hb', hk] at hr
      rw [hk] at eb
      have l1 : 1 ≤ (a.take (halfN a.length)).length := by rw [List.length_take]; omega
      have l2 : 1 ≤ (a.drop (halfN a.length)).length := by rw [List.length_drop]; omega
      have l3 : 1 ≤ (b.take (halfN a.length)).length := by rw [List.length_take]; omega
      have l4 : 1 ≤ (b.drop (halfN a.length)).length := by rw [List.length_drop]; omega
      rcases node_coll (l := textsW a ++ textsW b) (root16 (all_take ha _) l1) (root16 (all_drop ha _) l2) (root16 (all_take hb _) l3) (root16 (all_drop hb _) l4) hr (by rw [ea]; simp) (by rw [eb]; simp) with hc | ⟨e1, e2⟩
      · exact Or.inl hc
      · rcases ih (a.take (halfN a.length)) (b.take (halfN a.length)) (by rw [List.length_take]; omega) (by rw [List.length_take, List.length_take, h2]) (all_take ha _) (all_take hb _) e1 with hc | q1
        · exact Or.inl (hc.mono fun x hx => by rw [ea, eb]; rcases List.mem_append.1 hx with q | q <;> simp [q])
        · rcases ih (a.drop (halfN a.length)) (b.drop (halfN a.length)) (by rw [List.length_drop]; omega) (by rw [List.length_drop, List.length_drop, h2]) (all_drop ha _) (all_drop hb _) e2 with hc | q2
          · exact Or.inl (hc.mono fun x hx => by rw [ea, eb]; rcases List.mem_append.1 hx with q | q <;> simp [q])
          · right
            rw [← List.take_append_drop (halfN a.length) a, q1, q2, List.take_append_drop]

theorem upW_16 (n i : Nat) (d : ByteArray) (p : List ByteArray) (h : d.size = 16) : (upW n i d p).size = 16 := by
  by_cases h1 : n ≤ 1
  · rw [upW_one _ _ _ _ h1]; exact h
  · by_cases hi : i < halfN n
    · rw [upW_left _ _ _ _ h1 hi]; exact nodeB_len _ _
    · rw [upW_right _ _ _ _ h1 hi]; exact nodeB_len _ _
/-- A path that proves a digest at an element's place: it is the element, or two texts have one digest. -/
theorem binds_coll : ∀ (d : Nat) (l : List ByteArray) (i : Nat) (s : ByteArray) (p : List ByteArray), l.length ≤ d → (hi : i < l.length) → l.all isB = true → p.all isB = true → isB s = true → p.length = lenW l.length i →
    upW l.length i s p = rootW l → Coll (textsW l ++ pathTextsW l.length i s p) ∨ s = l[i] := by
  intro d
  induction d with
  | zero => intro l i s p h1 h2; omega
  | succ d ih =>
    intro l i s p h1 h2 hl hp hs hlen hr
    by_cases h : l.length ≤ 1
    · right
      rw [upW_one _ _ _ _ h, rootW_one l h] at hr
      match l, h2 with
      | [x], h2 =>
        have : i = 0 := by simpa using h2
        subst this; simpa using hr
      | x :: y :: l, _ => simp at h
    · have hh := half_bounds h
      have el := textsW_node l h
      have l1 : 1 ≤ (l.take (halfN l.length)).length := by rw [List.length_take]; omega
      have l2 : 1 ≤ (l.drop (halfN l.length)).length := by rw [List.length_drop]; omega
      by_cases hi : i < halfN l.length
      · have e1 := pathTextsW_left l.length i s p h hi
        rw [lenW_left _ _ h hi] at hlen
        rw [upW_left _ _ _ _ h hi, rootW_node l h] at hr
        rcases node_coll (l := textsW l ++ pathTextsW l.length i s p) (upW_16 _ _ _ _ (isB_size hs)) (last16 hp (by omega)) (root16 (all_take hl _) l1) (root16 (all_drop hl _) l2) hr (by rw [e1]; simp) (by rw [el]; simp) with hc | ⟨q1, q2⟩
        · exact Or.inl hc
        · have hlt : (l.take (halfN l.length)).length = halfN l.length := by rw [List.length_take]; omega
          have := ih (l.take (halfN l.length)) i s p.dropLast (by rw [List.length_take]; omega) (by rw [hlt]; exact hi) (all_take hl _) (all_dropLast hp) hs (by rw [hlt, List.length_dropLast]; omega) (by rw [hlt]; exact q1)
          rcases this with hc | q
          · rw [hlt] at hc
            exact Or.inl (hc.mono fun x hx => by rw [el, e1]; rcases List.mem_append.1 hx with q | q <;> simp [q])
          · right; rw [q, List.getElem_take]
      · have e1 := pathTextsW_right l.length i s p h hi
        rw [lenW_right _ _ h hi] at hlen
        rw [upW_right _ _ _ _ h hi, rootW_node l h] at hr
        rcases node_coll (l := textsW l ++ pathTextsW l.length i s p) (last16 hp (by omega)) (upW_16 _ _ _ _ (isB_size hs)) (root16 (all_take hl _) l1) (root16 (all_drop hl _) l2) hr (by rw [e1]; simp) (by rw [el]; simp) with hc | ⟨q1, q2⟩
        · exact Or.inl hc
        · have hlt : (l.drop (halfN l.length)).length = l.length - halfN l.length := by rw [List.length_drop]
          have := ih (l.drop (halfN l.length)) (i - halfN l.length) s p.dropLast (by rw [List.length_drop]; omega) (by rw [hlt]; omega) (all_drop hl _) (all_dropLast hp) hs (by rw [hlt, List.length_dropLast]; omega) (by rw [hlt]; exact q2)
          rcases this with hc | q
          · rw [hlt] at hc
            exact Or.inl (hc.mono fun x hx => by rw [el, e1]; rcases List.mem_append.1 hx with q | q <;> simp [q])
          · right
            rw [q, List.getElem_drop]
            congr 1; omega

theorem bothW_16 : ∀ (d n m : Nat) (wh : Bool) (old : ByteArray) (l : List ByteArray), n ≤ d → 1 ≤ m → m ≤ n → old.size = 16 → l.all isB = true → l.length = longW n m wh → (bothW n m wh old l).1.size = 16 ∧ (bothW n m wh old l).2.size = 16 := by
  intro d
  induction d with
  | zero => intro n m wh old l h1 h2; omega
  | succ d ih =>
    intro n m wh old l h1 h2 h3 ho hl hlen
    by_cases hm : m = n
    · subst hm
      rw [longW_all] at hlen
      rw [bothW_all]
      cases wh
      · simp only [Bool.false_eq_true, if_false] at hlen ⊢
        exact ⟨last16 hl (by omega), last16 hl (by omega)⟩
      · exact ⟨ho, ho⟩
    · have h : ¬ n ≤ 1 := by omega
      have hb := half_bounds h
      by_cases hi : m ≤ halfN n
      · rw [longW_left _ _ _ hm h hi] at hlen
        rw [bothW_left _ _ _ _ _ hm h hi]
        exact ⟨(ih (halfN n) m wh old l.dropLast (by omega) h2 hi ho (all_dropLast hl) (by rw [List.length_dropLast]; omega)).1, nodeB_len _ _⟩
      · rw [bothW_right _ _ _ _ _ hm h hi]
        exact ⟨nodeB_len _ _, nodeB_len _ _⟩
/-- A link whose second root is a list's: its first root is that of the first elements, or two texts have one digest. -/
theorem links_coll : ∀ (d : Nat) (l : List ByteArray) (m : Nat) (wh : Bool) (old : ByteArray) (p : List ByteArray), l.length ≤ d → 1 ≤ m → m ≤ l.length → l.all isB = true → p.all isB = true → old.size = 16 → p.length = longW l.length m wh →
    (bothW l.length m wh old p).2 = rootW l → Coll (textsW l ++ linkTextsW l.length m wh old p) ∨ (bothW l.length m wh old p).1 = rootW (l.take m) := by
  intro d
  induction d with
  | zero => intro l m wh old p h1 h2; omega
  | succ d ih =>
    intro l m wh old p h1 h2 h3 hl hp ho hlen hr
    by_cases hm : m = l.length
    · right
      subst hm
      rw [bothW_all] at hr ⊢
      rw [List.take_length]
      cases wh
      · exact hr
      · exact hr
    · have h : ¬ l.length ≤ 1 := by omega
      have hh := half_bounds h
      have el := textsW_node l h
      have l1 : 1 ≤ (l.take (halfN l.length)).length := by rw [List.length_take]; omega
      have l2 : 1 ≤ (l.drop (halfN l.length)).length := by rw [List.length_drop]; omega
      by_cases hi : m ≤ halfN l.length
      · have e1 := linkTextsW_left l.length m wh old p hm h hi
        have e2 := bothW_left l.length m wh old p hm h hi
        rw [longW_left _ _ _ hm h hi] at hlen
        have h16 := (bothW_16 l.length (halfN l.length) m wh old p.dropLast (by omega) h2 hi ho (all_dropLast hp) (by rw [List.length_dropLast]; omega)).2
        rw [e2, rootW_node l h] at hr
        dsimp only at hr
        rcases node_coll (l := textsW l ++ linkTextsW l.length m wh old p) h16 (last16 hp (by omega)) (root16 (all_take hl _) l1) (root16 (all_drop hl _) l2) hr (by rw [e1]; simp) (by rw [el]; simp) with hc | ⟨q1, q2⟩
        · exact Or.inl hc
        · have hlt : (l.take (halfN l.length)).length = halfN l.length := by rw [List.length_take]; omega
          have := ih (l.take (halfN l.length)) m wh old p.dropLast (by rw [List.length_take]; omega) h2 (by rw [hlt]; exact hi) (all_take hl _) (all_dropLast hp) ho (by rw [hlt, List.length_dropLast]; omega) (by rw [hlt]; exact q1)
          rw [hlt] at this
          rcases this with hc | q
          · exact Or.inl (hc.mono fun x hx => by rw [el, e1]; rcases List.mem_append.1 hx with q | q <;> simp [q])
          · right; rw [e2]; dsimp only; rw [q, List.take_take, Nat.min_eq_left hi]
      · have e1 := linkTextsW_right l.length m wh old p hm h hi
        have e2 := bothW_right l.length m wh old p hm h hi
        rw [longW_right _ _ _ hm h hi] at hlen
        have h16 := (bothW_16 l.length (l.length - halfN l.length) (m - halfN l.length) false old p.dropLast (by omega) (by omega) (by omega) ho (all_dropLast hp) (by rw [List.length_dropLast]; omega)).2
        rw [e2, rootW_node l h] at hr
        dsimp only at hr
        rcases node_coll (l := textsW l ++ linkTextsW l.length m wh old p) (last16 hp (by omega)) h16 (root16 (all_take hl _) l1) (root16 (all_drop hl _) l2) hr (by rw [e1]; simp) (by rw [el]; simp) with hc | ⟨q1, q2⟩
        · exact Or.inl hc
        · have hlt : (l.drop (halfN l.length)).length = l.length - halfN l.length := by rw [List.length_drop]
          have := ih (l.drop (halfN l.length)) (m - halfN l.length) false old p.dropLast (by rw [List.length_drop]; omega) (by omega) (by rw [hlt]; omega) (all_drop hl _) (all_dropLast hp) ho (by rw [hlt, List.length_dropLast]; omega) (by rw [hlt]; exact q2)
          rw [hlt] at this
          rcases this with hc | q
          · exact Or.inl (hc.mono fun x hx => by rw [el, e1]; rcases List.mem_append.1 hx with q | q <;> simp [q])
          · right; rw [e2]; dsimp only; rw [q, q1, root_take l m h (by omega) h3]

/-! ### the numbers of elements of the proofs -/
def lenF : Nat → Nat → Nat → Nat
  | 0, _, _ => 0
  | f + 1, n, i => if n ≤ 1 then 0 else if i < halfN n then 1 + lenF f (halfN n) i else 1 + lenF f (n - halfN n) (i - halfN n)
theorem lenF_W : ∀ (f n i : Nat), n ≤ f → lenF f n i = lenW n i
  | 0, n, i, h => by rw [lenF, lenW_one n i (by omega)]
  | f + 1, n, i, h => by
    unfold lenF
    by_cases h1 : n ≤ 1
    · rw [if_pos h1, lenW_one n i h1]
    · have hb := half_bounds h1
      rw [if_neg h1]
      by_cases hi : i < halfN n
      · rw [if_pos hi, lenW_left n i h1 hi, lenF_W f _ _ (by omega)]
      · rw [if_neg hi, lenW_right n i h1 hi, lenF_W f _ _ (by omega)]
def longF : Nat → Nat → Nat → Bool → Nat
  | 0, _, _, _ => 0
  | f + 1, n, m, wh => if m = n then (if wh then 0 else 1) else if n ≤ 1 then 0 else if m ≤ halfN n then 1 + longF f (halfN n) m wh else 1 + longF f (n - halfN n) (m - halfN n) false
theorem longF_W : ∀ (f n m : Nat) (wh : Bool), n ≤ f → 1 ≤ m → m ≤ n → longF f n m wh = longW n m wh
  | 0, n, m, wh, h, h1, h2 => absurd h (by omega)
  | f + 1, n, m, wh, h, h1, h2 => by
    unfold longF
    by_cases hm : m = n
    · subst hm; rw [if_pos rfl, longW_all]
    · have hn : ¬ n ≤ 1 := by omega
      have hb := half_bounds hn
      rw [if_neg hm, if_neg hn]
      by_cases hi : m ≤ halfN n
      · rw [if_pos hi, longW_left n m wh hm hn hi, longF_W f _ _ _ (by omega) h1 hi]
      · rw [if_neg hi, longW_right n m wh hm hn hi, longF_W f _ _ _ (by omega) (by omega) (by omega)]
/-- The number of binary digits. -/
def digF : Nat → Nat → Nat
  | 0, _ => 0
  | f + 1, n => if n = 0 then 0 else 1 + digF f (n / 2)
theorem len_digits : ∀ n, n < 21 → ∀ i, i < n → lenF 20 n i ≤ digF 6 n := by decide +kernel
theorem long_digits : ∀ n, n < 21 → ∀ m, m < n + 1 → longF 20 n m true ≤ digF 6 n + 1 := by decide +kernel
theorem lenW_zero (n i : Nat) : lenW n i = 0 ↔ n ≤ 1 := by
  by_cases h : n ≤ 1
  · rw [lenW_one n i h]; simp [h]
  · by_cases hi : i < halfN n
    · rw [lenW_left n i h hi]; omega
    · rw [lenW_right n i h hi]; omega
theorem longW_zero (n m : Nat) (h1 : 1 ≤ m) (h2 : m ≤ n) : longW n m true = 0 ↔ m = n := by
  by_cases h : m = n
  · subst h; rw [longW_all]; simp
  · have hn : ¬ n ≤ 1 := by omega
    by_cases hi : m ≤ halfN n
    · rw [longW_left n m true h hn hi]; omega
    · rw [longW_right n m true h hn hi]; omega

end Go.Proofs.YtapnakfhkdcfeaaGreatDoor.Dg
