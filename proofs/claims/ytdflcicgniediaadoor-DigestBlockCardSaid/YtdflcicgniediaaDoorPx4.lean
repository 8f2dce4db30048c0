-- printed by wip/tools/oprint.py over the kit's print.py: this session's own program
import Derived.Test.YtdflcicgniediaaDoorPx0
import Derived.Test.YtdflcicgniediaaDoorPx1
import Derived.Test.YtdflcicgniediaaDoorPx2
namespace Go.Proofs.YtdflcicgniediaaDoor.P
open Go.RowKit Go.Proofs.YtdflcicgniediaaDoorW.PrintWords Go.Proofs.YtdflcicgniediaaDoorW.PrintLast Go.Proofs.YtdflcicgniediaaDoorW.PrintMore
attribute [local go_sem] max2_int min2_int max_two min_two max_three min_three max_four min_four   -- for this text's walks alone
set_option linter.unusedVariables false
set_option linter.unusedSimpArgs false
open Go.Proofs.YtdflcicgniediaaDoor.Dg

/-! ### observatoryref01_Same: function 21 -/
def observatoryref01_Same.l0 : Nat → List ByteArray → List ByteArray → Int → Option (Bool)
  | 0, _, _, _ => none
  | k + 1, x0, x1, x5 => if x5 < (x0.length : Int) then (if 0 ≤ x5 then (if x5 < (x1.length : Int) then (if (rdOf ByteArray.empty x0 x5).toList = (rdOf ByteArray.empty x1 x5).toList then (observatoryref01_Same.l0 k x0 x1 (wrap64 (x5 + 1))) else (some false)) else (none)) else (none)) else (some true)
def observatoryref01_Same.f (k : Nat) (l0 : List ByteArray) (l1 : List ByteArray) : Option (Bool) := if (l0.length : Int) = (l1.length : Int) then (observatoryref01_Same.l0 k l0 l1 0) else (some false)
theorem observatoryref01_Same.mono_l : ∀ k, (∀ y0 y1 y2, LeO (observatoryref01_Same.l0 k y0 y1 y2) (observatoryref01_Same.l0 (k + 1) y0 y1 y2))
  | 0 => fun _ _ _ r h => by simp [observatoryref01_Same.l0] at h
  | k + 1 => by
    have ih0 := observatoryref01_Same.mono_l k
    · intro y0 y1 y2
      unfold observatoryref01_Same.l0
      repeat' first
      | (with_reducible exact ih0 _ _ _)
      | (with_reducible exact LeO.refl _)
      | (with_reducible exact LeO.none _)
      | (with_reducible refine LeO.ite ?_ ?_)
      | (with_reducible refine LeO.bind ?_ (fun _ => ?_))
      | exact ih0 _ _ _
      | exact LeO.none _
      | refine LeO.ite ?_ ?_
      | refine LeO.bind ?_ (fun _ => ?_)
theorem observatoryref01_Same.mono : ∀ a0 a1 k, LeO (observatoryref01_Same.f k a0 a1) (observatoryref01_Same.f (k + 1) a0 a1) := by
  intro a0 a1 k
  have ih0 := observatoryref01_Same.mono_l k
  unfold observatoryref01_Same.f
  repeat' first
      | (with_reducible exact ih0 _ _ _)
      | (with_reducible exact LeO.refl _)
      | (with_reducible exact LeO.none _)
      | (with_reducible refine LeO.ite ?_ ?_)
      | (with_reducible refine LeO.bind ?_ (fun _ => ?_))
      | exact ih0 _ _ _
      | exact LeO.none _
      | refine LeO.ite ?_ ?_
      | refine LeO.bind ?_ (fun _ => ?_)
set_option maxHeartbeats 8000000 in
set_option maxRecDepth 100000 in
theorem observatoryref01_Same.calls (k : Nat) (A0 : Option Addr) (c0 : Nat) (l0 : List ByteArray) (A1 : Option Addr) (c1 : Nat) (l1 : List ByteArray) (r : Bool) (w : World) (hr0 : Kd.C Kd.string w A0 l0.length l0) (hc0 : l0.length ≤ c0) (hr1 : Kd.C Kd.string w A1 l1.length l1) (hc1 : l1.length ≤ c1) (h : observatoryref01_Same.f k l0 l1 = some r) :
    Calls Tryd.prog 21 #[.slice A0 l0.length c0, .slice A1 l1.length c1] w fun e w' => e = .returned (.bool r) ∧ Drawn0 w w' := by
  have HR0 := Aside0.mk hr0
  have HC0 := Aside0.mk hc0
  clear hr0 hc0
  have HR1 := Aside0.mk hr1
  have HC1 := Aside0.mk hc1
  clear hr1 hc1
  have H : (if (l0.length : Int) = (l1.length : Int) then (observatoryref01_Same.l0 k l0 l1 0) else (some false)) = some r := h
  clear h
  by_cases c3 : (l0.length : Int) = (l1.length : Int)
  · rw [if_pos c3] at H
    have c3b0 : ((l0.length : Int) == (l1.length : Int)) = true := beq_iff_eq.mpr c3
    have c3b1 : ((l0.length : Int) != (l1.length : Int)) = false := bne_eq_false_iff_eq.mpr c3
    have c3b2 : (l0.length == l1.length) = true := by first | simpa using c3 | (simp at c3 ⊢; omega)
    clear c3
    have H' := Aside0.mk H
    clear H
    go_enter Tryd.func21, Tryd.ntmps21
    go_wp2
    repeat (go_quiet (fail); try go_wp2)
    go_loopg [5] k (fun kq v5 w' => ∃ (x5_1 : Int), v5 = .int .i64 x5_1 ∧ Aside0 (observatoryref01_Same.l0 kq l0 l1 x5_1 = some r) ∧ Aside0 (kq ≤ k) ∧ Drawn0 w w')
    case atStart => exact ⟨(0), (by first | rfl | (simp; done) | (simp [*]; done)), H', ⟨Nat.le_refl _⟩, by repeat (first | exact Drawn0.refl _ | apply Drawn0.step)⟩
    case round =>
      clear H'
      try clear c1
      try clear c2
      try clear p2
      try clear c3
      try clear c3b0
      try clear c3b1
      try clear c3b2
      obtain ⟨x5_1, rfl, HA, HK1, ⟨m1, rfl⟩⟩ := hrel
      cases gk with
      | zero => exact absurd HA.out (by simp [observatoryref01_Same.l0])
      | succ k1 =>
        have H := HA.out
        clear HA
        simp only [observatoryref01_Same.l0] at H
        by_cases c4 : x5_1 < (l0.length : Int)
        · rw [if_pos c4] at H
          have c4b0 : decide (x5_1 < (l0.length : Int)) = true := decide_eq_true c4
          clear c4
          by_cases c5 : 0 ≤ x5_1
          · rw [if_pos c5] at H
            have c5b0 : decide (0 ≤ x5_1) = true := decide_eq_true c5
            clear c5
            by_cases c6 : x5_1 < (l1.length : Int)
            · rw [if_pos c6] at H
              have c6b0 : decide (x5_1 < (l1.length : Int)) = true := decide_eq_true c6
              clear c6
              by_cases c7 : (rdOf ByteArray.empty l0 x5_1).toList = (rdOf ByteArray.empty l1 x5_1).toList
              · rw [if_pos c7] at H
                have c7b0 : ((rdOf ByteArray.empty l0 x5_1).toList == (rdOf ByteArray.empty l1 x5_1).toList) = true := beq_iff_eq.mpr c7
                have c7b1 : ((rdOf ByteArray.empty l0 x5_1).toList != (rdOf ByteArray.empty l1 x5_1).toList) = false := bne_eq_false_iff_eq.mpr c7
                clear c7
                have H' := Aside0.mk H
                clear H
                have p170 : 0 ≤ (x5_1 : Int) := of_decide_eq_true (by first | (with_reducible assumption) | assumption)
                have q170 : x5_1 < (l0.length : Int) := of_decide_eq_true (by first | (with_reducible assumption) | assumption)
                obtain ⟨ad170, e170, hx170_0⟩ := Kd.at_string HR0.out x5_1 p170 q170
                cases e170
                replace p170 := eq_true p170
                replace q170 := eq_true q170
                have p171 : 0 ≤ (x5_1 : Int) := of_decide_eq_true (by first | (with_reducible assumption) | assumption)
                have q171 : x5_1 < (l1.length : Int) := of_decide_eq_true (by first | (with_reducible assumption) | assumption)
                obtain ⟨ad171, e171, hx171_0⟩ := Kd.at_string HR1.out x5_1 p171 q171
                cases e171
                replace p171 := eq_true p171
                replace q171 := eq_true q171
                go_wp2
                repeat (go_quiet (fail); try go_wp2)
                go_roundg k1
                case measure => have := HK1.out; omega
                case rel => exact ⟨(wrap64 (x5_1 + 1)), (by first | rfl | (simp; done) | (simp [*]; done)), H', ⟨by have := HK1.out; omega⟩, by repeat (first | exact Drawn0.refl _ | apply Drawn0.step)⟩
              · rw [if_neg c7] at H
                have c7b0 : ((rdOf ByteArray.empty l0 x5_1).toList == (rdOf ByteArray.empty l1 x5_1).toList) = false := beq_eq_false_iff_ne.mpr c7
                have c7b1 : ((rdOf ByteArray.empty l0 x5_1).toList != (rdOf ByteArray.empty l1 x5_1).toList) = true := bne_iff_ne.mpr c7
                obtain rfl := Option.some.inj H
                have p170 : 0 ≤ (x5_1 : Int) := of_decide_eq_true (by first | (with_reducible assumption) | assumption)
                have q170 : x5_1 < (l0.length : Int) := of_decide_eq_true (by first | (with_reducible assumption) | assumption)
                obtain ⟨ad170, e170, hx170_0⟩ := Kd.at_string HR0.out x5_1 p170 q170
                cases e170
                replace p170 := eq_true p170
                replace q170 := eq_true q170
                have p171 : 0 ≤ (x5_1 : Int) := of_decide_eq_true (by first | (with_reducible assumption) | assumption)
                have q171 : x5_1 < (l1.length : Int) := of_decide_eq_true (by first | (with_reducible assumption) | assumption)
                obtain ⟨ad171, e171, hx171_0⟩ := Kd.at_string HR1.out x5_1 p171 q171
                cases e171
                replace p171 := eq_true p171
                replace q171 := eq_true q171
                go_wp2
                repeat (go_quiet (fail); try go_wp2)
                go_ret
                exact ⟨by first | rfl | (simp; done) | (simp [*]; done), by repeat (first | exact Drawn0.refl _ | apply Drawn0.step)⟩
            · rw [if_neg c6] at H
              exact absurd H (by simp)
          · rw [if_neg c5] at H
            exact absurd H (by simp)
        · rw [if_neg c4] at H
          have c4b0 : decide (x5_1 < (l0.length : Int)) = false := decide_eq_false c4
          clear c4
          obtain rfl := Option.some.inj H
          go_wp2
          repeat (go_quiet (fail); try go_wp2)
          go_ret
          exact ⟨by first | rfl | (simp; done) | (simp [*]; done), by repeat (first | exact Drawn0.refl _ | apply Drawn0.step)⟩
  · rw [if_neg c3] at H
    have c3b0 : ((l0.length : Int) == (l1.length : Int)) = false := beq_eq_false_iff_ne.mpr c3
    have c3b1 : ((l0.length : Int) != (l1.length : Int)) = true := bne_iff_ne.mpr c3
    have c3b2 : (l0.length == l1.length) = false := by first | simpa using c3 | (simp at c3 ⊢; omega)
    obtain rfl := Option.some.inj H
    go_enter Tryd.func21, Tryd.ntmps21
    go_wp2
    repeat (go_quiet (fail); try go_wp2)
    go_ret
    exact ⟨by first | rfl | (simp; done) | (simp [*]; done), by repeat (first | exact Drawn0.refl _ | apply Drawn0.step)⟩

/-! ### observatorylaw01_DigestLists: function 9 -/
mutual
def observatorylaw01_DigestLists.j0 : Nat → List ByteArray → List ByteArray → ByteArray → ByteArray → Bool → Bool → Option (Bool)
  | 0, _, _, _, _, _, _ => none
  | k + 1, x0, x1, x2, x3, x9, x21 => if x21 = true then (some x9) else ((observatoryref01_Joined.f k x0).bind fun t175 => ((observatoryref01_Joined.f k x1).bind fun t176 => ((digest_List.f x0).bind fun t177 => ((digest_Sum.f t175).bind fun t178 => (if t177.toList = t178.toList then ((observatoryref01_Same.f k x0 x1).bind fun t179 => (observatorylaw01_DigestLists.j1 k x0 x1 x2 x3 x9 t175 t176 ((t175.toList == t176.toList) != t179))) else (observatorylaw01_DigestLists.j1 k x0 x1 x2 x3 x9 t175 t176 true))))))
def observatorylaw01_DigestLists.j1 : Nat → List ByteArray → List ByteArray → ByteArray → ByteArray → Bool → ByteArray → ByteArray → Bool → Option (Bool)
  | 0, _, _, _, _, _, _, _, _ => none
  | k + 1, x0, x1, x2, x3, x9, x10, x11, x40 => if x40 = true then (some false) else (if (x10.size : Int) ≤ 7 then (if (x11.size : Int) ≤ 7 then ((digest_List.f x0).bind fun t180 => ((digest_List.f x1).bind fun t181 => ((observatoryref01_Same.f k x0 x1).bind fun t182 => (observatorylaw01_DigestLists.j2 k x2 x3 x9 ((t180.toList == t181.toList) != t182))))) else (observatorylaw01_DigestLists.j2 k x2 x3 x9 false)) else (observatorylaw01_DigestLists.j2 k x2 x3 x9 false))
def observatorylaw01_DigestLists.j2 : Nat → ByteArray → ByteArray → Bool → Bool → Option (Bool)
  | 0, _, _, _, _ => none
  | k + 1, x2, x3, x9, x59 => if x59 = true then (some false) else (if 0 ≤ (mn (mn (x2.size : Int) (x3.size : Int)) 9) then (if (mn (mn (x2.size : Int) (x3.size : Int)) 9) ≤ (x2.size : Int) then (if 0 ≤ (mn (mn (mn (x2.size : Int) (x3.size : Int)) 9) 6) then (if (mn (mn (mn (x2.size : Int) (x3.size : Int)) 9) 6) ≤ ((x2.extract 0 ((mn (mn (x2.size : Int) (x3.size : Int)) 9) : Int).toNat).size : Int) then (if (mn (mn (mn (x2.size : Int) (x3.size : Int)) 9) 6) ≤ (mn (mn (x2.size : Int) (x3.size : Int)) 9) then (if (mn (mn (x2.size : Int) (x3.size : Int)) 9) ≤ (x3.size : Int) then (if ((x2.extract 0 ((mn (mn (x2.size : Int) (x3.size : Int)) 9) : Int).toNat).extract 0 ((mn (mn (mn (x2.size : Int) (x3.size : Int)) 9) 6) : Int).toNat).size + (x3.extract ((mn (mn (mn (x2.size : Int) (x3.size : Int)) 9) 6) : Int).toNat ((mn (mn (x2.size : Int) (x3.size : Int)) 9) : Int).toNat).size ≤ 9223372036854775807 then (if x9 = true then ((digest_List.f (([x2.extract 0 ((mn (mn (x2.size : Int) (x3.size : Int)) 9) : Int).toNat] : List ByteArray))).bind fun t186 => ((digest_List.f (([((x2.extract 0 ((mn (mn (x2.size : Int) (x3.size : Int)) 9) : Int).toNat).extract 0 ((mn (mn (mn (x2.size : Int) (x3.size : Int)) 9) 6) : Int).toNat) ++ (x3.extract ((mn (mn (mn (x2.size : Int) (x3.size : Int)) 9) 6) : Int).toNat ((mn (mn (x2.size : Int) (x3.size : Int)) 9) : Int).toNat)] : List ByteArray))).bind fun t190 => (some ((t186.toList == t190.toList) == ((x2.extract 0 ((mn (mn (x2.size : Int) (x3.size : Int)) 9) : Int).toNat).toList == (((x2.extract 0 ((mn (mn (x2.size : Int) (x3.size : Int)) 9) : Int).toNat).extract 0 ((mn (mn (mn (x2.size : Int) (x3.size : Int)) 9) 6) : Int).toNat) ++ (x3.extract ((mn (mn (mn (x2.size : Int) (x3.size : Int)) 9) 6) : Int).toNat ((mn (mn (x2.size : Int) (x3.size : Int)) 9) : Int).toNat)).toList))))) else (some false)) else (none)) else (none)) else (none)) else (none)) else (none)) else (none)) else (none))
end
def observatorylaw01_DigestLists.f (k : Nat) (l0 : List ByteArray) (l1 : List ByteArray) (a2 : ByteArray) (a3 : ByteArray) : Option (Bool) := (observatorylaw01_head.f k).bind fun t172 => ((observatoryref01_Few.f k l0 200).bind fun t173 => (if t173 = true then ((observatoryref01_Few.f k l1 200).bind fun t174 => (observatorylaw01_DigestLists.j0 k l0 l1 a2 a3 t172 (!t174))) else (observatorylaw01_DigestLists.j0 k l0 l1 a2 a3 t172 true)))
theorem observatorylaw01_DigestLists.mono_l : ∀ k, (∀ y0 y1 y2 y3 y4 y5, LeO (observatorylaw01_DigestLists.j0 k y0 y1 y2 y3 y4 y5) (observatorylaw01_DigestLists.j0 (k + 1) y0 y1 y2 y3 y4 y5)) ∧ (∀ y0 y1 y2 y3 y4 y5 y6 y7, LeO (observatorylaw01_DigestLists.j1 k y0 y1 y2 y3 y4 y5 y6 y7) (observatorylaw01_DigestLists.j1 (k + 1) y0 y1 y2 y3 y4 y5 y6 y7)) ∧ (∀ y0 y1 y2 y3, LeO (observatorylaw01_DigestLists.j2 k y0 y1 y2 y3) (observatorylaw01_DigestLists.j2 (k + 1) y0 y1 y2 y3))
  | 0 => ⟨fun _ _ _ _ _ _ r h => by simp [observatorylaw01_DigestLists.j0] at h, fun _ _ _ _ _ _ _ _ r h => by simp [observatorylaw01_DigestLists.j1] at h, fun _ _ _ _ r h => by simp [observatorylaw01_DigestLists.j2] at h⟩
  | k + 1 => by
    obtain ⟨ih0, ih1, ih2⟩ := observatorylaw01_DigestLists.mono_l k
    refine ⟨?_, ?_, ?_⟩
    · intro y0 y1 y2 y3 y4 y5
      unfold observatorylaw01_DigestLists.j0
      repeat' first
      | (with_reducible exact ih0 _ _ _ _ _ _)
      | (with_reducible exact ih1 _ _ _ _ _ _ _ _)
      | (with_reducible exact ih2 _ _ _ _)
      | (with_reducible exact observatorylaw01_head.mono _)
      | (with_reducible exact observatoryref01_Few.mono _ _ _)
      | (with_reducible exact observatoryref01_Joined.mono _ _)
      | (with_reducible exact observatoryref01_Same.mono _ _ _)
      | (with_reducible exact LeO.refl _)
      | (with_reducible exact LeO.none _)
      | (with_reducible refine LeO.ite ?_ ?_)
      | (with_reducible refine LeO.bind ?_ (fun _ => ?_))
      | exact ih0 _ _ _ _ _ _
      | exact ih1 _ _ _ _ _ _ _ _
      | exact ih2 _ _ _ _
      | exact observatorylaw01_head.mono _
      | exact observatoryref01_Few.mono _ _ _
      | exact observatoryref01_Joined.mono _ _
      | exact observatoryref01_Same.mono _ _ _
      | exact LeO.none _
      | refine LeO.ite ?_ ?_
      | refine LeO.bind ?_ (fun _ => ?_)
    · intro y0 y1 y2 y3 y4 y5 y6 y7
      unfold observatorylaw01_DigestLists.j1
      repeat' first
      | (with_reducible exact ih0 _ _ _ _ _ _)
      | (with_reducible exact ih1 _ _ _ _ _ _ _ _)
      | (with_reducible exact ih2 _ _ _ _)
      | (with_reducible exact observatorylaw01_head.mono _)
      | (with_reducible exact observatoryref01_Few.mono _ _ _)
      | (with_reducible exact observatoryref01_Joined.mono _ _)
      | (with_reducible exact observatoryref01_Same.mono _ _ _)
      | (with_reducible exact LeO.refl _)
      | (with_reducible exact LeO.none _)
      | (with_reducible refine LeO.ite ?_ ?_)
      | (with_reducible refine LeO.bind ?_ (fun _ => ?_))
      | exact ih0 _ _ _ _ _ _
      | exact ih1 _ _ _ _ _ _ _ _
      | exact ih2 _ _ _ _
      | exact observatorylaw01_head.mono _
      | exact observatoryref01_Few.mono _ _ _
      | exact observatoryref01_Joined.mono _ _
      | exact observatoryref01_Same.mono _ _ _
      | exact LeO.none _
      | refine LeO.ite ?_ ?_
      | refine LeO.bind ?_ (fun _ => ?_)
    · intro y0 y1 y2 y3
      unfold observatorylaw01_DigestLists.j2
      repeat' first
      | (with_reducible exact ih0 _ _ _ _ _ _)
      | (with_reducible exact ih1 _ _ _ _ _ _ _ _)
      | (with_reducible exact ih2 _ _ _ _)
      | (with_reducible exact observatorylaw01_head.mono _)
      | (with_reducible exact observatoryref01_Few.mono _ _ _)
      | (with_reducible exact observatoryref01_Joined.mono _ _)
      | (with_reducible exact observatoryref01_Same.mono _ _ _)
      | (with_reducible exact LeO.refl _)
      | (with_reducible exact LeO.none _)
      | (with_reducible refine LeO.ite ?_ ?_)
      | (with_reducible refine LeO.bind ?_ (fun _ => ?_))
      | exact ih0 _ _ _ _ _ _
      | exact ih1 _ _ _ _ _ _ _ _
      | exact ih2 _ _ _ _
      | exact observatorylaw01_head.mono _
      | exact observatoryref01_Few.mono _ _ _
      | exact observatoryref01_Joined.mono _ _
      | exact observatoryref01_Same.mono _ _ _
      | exact LeO.none _
      | refine LeO.ite ?_ ?_
      | refine LeO.bind ?_ (fun _ => ?_)
theorem observatorylaw01_DigestLists.mono : ∀ a0 a1 a2 a3 k, LeO (observatorylaw01_DigestLists.f k a0 a1 a2 a3) (observatorylaw01_DigestLists.f (k + 1) a0 a1 a2 a3) := by
  intro a0 a1 a2 a3 k
  obtain ⟨ih0, ih1, ih2⟩ := observatorylaw01_DigestLists.mono_l k
  unfold observatorylaw01_DigestLists.f
  repeat' first
      | (with_reducible exact ih0 _ _ _ _ _ _)
      | (with_reducible exact ih1 _ _ _ _ _ _ _ _)
      | (with_reducible exact ih2 _ _ _ _)
      | (with_reducible exact observatorylaw01_head.mono _)
      | (with_reducible exact observatoryref01_Few.mono _ _ _)
      | (with_reducible exact observatoryref01_Joined.mono _ _)
      | (with_reducible exact observatoryref01_Same.mono _ _ _)
      | (with_reducible exact LeO.refl _)
      | (with_reducible exact LeO.none _)
      | (with_reducible refine LeO.ite ?_ ?_)
      | (with_reducible refine LeO.bind ?_ (fun _ => ?_))
      | exact ih0 _ _ _ _ _ _
      | exact ih1 _ _ _ _ _ _ _ _
      | exact ih2 _ _ _ _
      | exact observatorylaw01_head.mono _
      | exact observatoryref01_Few.mono _ _ _
      | exact observatoryref01_Joined.mono _ _
      | exact observatoryref01_Same.mono _ _ _
      | exact LeO.none _
      | refine LeO.ite ?_ ?_
      | refine LeO.bind ?_ (fun _ => ?_)
set_option maxHeartbeats 8000000 in
set_option maxRecDepth 100000 in
theorem observatorylaw01_DigestLists.calls (k : Nat) (A0 : Option Addr) (c0 : Nat) (l0 : List ByteArray) (A1 : Option Addr) (c1 : Nat) (l1 : List ByteArray) (a2 : ByteArray) (a3 : ByteArray) (r : Bool) (w : World) (hr0 : Kd.C Kd.string w A0 l0.length l0) (hc0 : l0.length ≤ c0) (hr1 : Kd.C Kd.string w A1 l1.length l1) (hc1 : l1.length ≤ c1) (hT : Tabs w) (h : observatorylaw01_DigestLists.f k l0 l1 a2 a3 = some r) :
    Calls Tryd.prog 9 #[.slice A0 l0.length c0, .slice A1 l1.length c1, .string a2, .string a3] w fun e w' => e = .returned (.bool r) ∧ Below w.heap.size w w' := by
  have HR0 := Aside0.mk hr0
  have HC0 := Aside0.mk hc0
  clear hr0 hc0
  have HR1 := Aside0.mk hr1
  have HC1 := Aside0.mk hc1
  clear hr1 hc1
  have HB := Aside0.mk (Below.refl w.heap.size w)
  have HT := Aside0.mk hT
  clear hT
  have H : ((observatorylaw01_head.f k).bind fun t172 => ((observatoryref01_Few.f k l0 200).bind fun t173 => (if t173 = true then ((observatoryref01_Few.f k l1 200).bind fun t174 => (observatorylaw01_DigestLists.j0 k l0 l1 a2 a3 t172 (!t174))) else (observatorylaw01_DigestLists.j0 k l0 l1 a2 a3 t172 true)))) = some r := h
  clear h
  replace H := Option.bind_eq_some_iff.mp H
  obtain ⟨t172, A50, H⟩ := H
  replace H : ((observatoryref01_Few.f k l0 200).bind fun t173 => (if t173 = true then ((observatoryref01_Few.f k l1 200).bind fun t174 => (observatorylaw01_DigestLists.j0 k l0 l1 a2 a3 t172 (!t174))) else (observatorylaw01_DigestLists.j0 k l0 l1 a2 a3 t172 true))) = some r := H
  have A5 := Aside0.mk A50
  clear A50
  have HC6 := Aside0.mk H
  clear H
  go_enter Tryd.func9, Tryd.ntmps9
  go_upto_region 2 with (first | (go_at_call 10; (with_reducible refine (observatorylaw01_head.calls k  t172 _ ?side1 A5.out).mono ?_); (case side1 => exact HT.out.below (by repeat (first | (with_reducible first | exact HB.out | apply below_alloc | apply pw_below_drewN | apply below_drew1) | exact HB.out))); rintro e w7 ⟨rfl, hb⟩; have n0_ := Aside0.mk (below_step (by repeat (first | (with_reducible first | exact HB.out | apply below_alloc | apply pw_below_drewN | apply below_drew1) | exact HB.out)) hb); clear HB; have HB := n0_; clear n0_; (try clear hb); (try clear hb2); (try clear hk); (try clear hi); (try clear A5)))
  repeat (go_quiet (first | (go_at_call 10; (with_reducible refine (observatorylaw01_head.calls k  t172 _ ?side1 A5.out).mono ?_); (case side1 => exact HT.out.below (by repeat (first | (with_reducible first | exact HB.out | apply below_alloc | apply pw_below_drewN | apply below_drew1) | exact HB.out))); rintro e w7 ⟨rfl, hb⟩; have n0_ := Aside0.mk (below_step (by repeat (first | (with_reducible first | exact HB.out | apply below_alloc | apply pw_below_drewN | apply below_drew1) | exact HB.out)) hb); clear HB; have HB := n0_; clear n0_; (try clear hb); (try clear hb2); (try clear hk); (try clear hi); (try clear A5))); go_upto_region 2 with (first | (go_at_call 10; (with_reducible refine (observatorylaw01_head.calls k  t172 _ ?side1 A5.out).mono ?_); (case side1 => exact HT.out.below (by repeat (first | (with_reducible first | exact HB.out | apply below_alloc | apply pw_below_drewN | apply below_drew1) | exact HB.out))); rintro e w7 ⟨rfl, hb⟩; have n0_ := Aside0.mk (below_step (by repeat (first | (with_reducible first | exact HB.out | apply below_alloc | apply pw_below_drewN | apply below_drew1) | exact HB.out)) hb); clear HB; have HB := n0_; clear n0_; (try clear hb); (try clear hb2); (try clear hk); (try clear hi); (try clear A5))))
  (try simp only [Act.put, List.setIfInBounds_toArray, List.set_cons_zero, List.set_cons_succ])
  go_cut [21] (fun v21 wc => ∃ (kq : Nat) (x21_5 : Bool), v21 = .bool x21_5 ∧ Aside0 (observatorylaw01_DigestLists.j0 kq l0 l1 a2 a3 t172 x21_5 = some r) ∧ Aside0 (kq ≤ k) ∧ Aside0 (Below w.heap.size w wc))
  case first =>
    have H := HC6.out
    clear HC6
    replace H := Option.bind_eq_some_iff.mp H
    obtain ⟨t173, A80, H⟩ := H
    replace H : (if t173 = true then ((observatoryref01_Few.f k l1 200).bind fun t174 => (observatorylaw01_DigestLists.j0 k l0 l1 a2 a3 t172 (!t174))) else (observatorylaw01_DigestLists.j0 k l0 l1 a2 a3 t172 true)) = some r := H
    have A8 := Aside0.mk A80
    clear A80
    by_cases c9 : t173 = true
    · subst c9
      have H1 : ((observatoryref01_Few.f k l1 200).bind fun t174 => (observatorylaw01_DigestLists.j0 k l0 l1 a2 a3 t172 (!t174))) = some r := by rw [if_pos rfl] at H; exact H
      clear H
      have H := H1
      clear H1
      replace H := Option.bind_eq_some_iff.mp H
      obtain ⟨t174, A100, H⟩ := H
      replace H : (observatorylaw01_DigestLists.j0 k l0 l1 a2 a3 t172 (!t174)) = some r := H
      have A10 := Aside0.mk A100
      clear A100
      have H' := Aside0.mk H
      clear H
      go_wp2_with (first | (go_at_call 11; (with_reducible refine (observatoryref01_Few.calls k _ _ l0 200 true _ ?side1 ?side2 A8.out).mono ?_); (case side1 => repeat (first | exact (Kd.C_below HR0.out HB.out) | (with_reducible refine Kd.C_alloc ?_ _) | (with_reducible refine Kd.C_drewN ?_ _) | (with_reducible refine Kd.C_drew ?_))); (case side2 => exact HC0.out); rintro e w' ⟨rfl, ⟨nd, rfl⟩⟩; (try clear A8); (try first | exact ⟨rfl, _, World.drewN_drewN _ _ _⟩ | exact ⟨rfl, _, Eq.trans (World.drewN_drewN _ _ _) (congrArg (World.drewN _) (Nat.add_assoc _ _ _))⟩)) | (go_at_call 11; (with_reducible refine (observatoryref01_Few.calls k _ _ l1 200 t174 _ ?side1 ?side2 A10.out).mono ?_); (case side1 => repeat (first | exact (Kd.C_below HR1.out (by repeat (first | (with_reducible first | exact HB.out | apply below_alloc | apply pw_below_drewN | apply below_drew1) | exact HB.out))) | (with_reducible refine Kd.C_alloc ?_ _) | (with_reducible refine Kd.C_drewN ?_ _) | (with_reducible refine Kd.C_drew ?_))); (case side2 => exact HC1.out); rintro e w' ⟨rfl, ⟨nd, rfl⟩⟩; (try clear A10); (try first | exact ⟨rfl, _, World.drewN_drewN _ _ _⟩ | exact ⟨rfl, _, Eq.trans (World.drewN_drewN _ _ _) (congrArg (World.drewN _) (Nat.add_assoc _ _ _))⟩)))
      repeat (go_quiet (first | (go_at_call 11; (with_reducible refine (observatoryref01_Few.calls k _ _ l0 200 true _ ?side1 ?side2 A8.out).mono ?_); (case side1 => repeat (first | exact (Kd.C_below HR0.out HB.out) | (with_reducible refine Kd.C_alloc ?_ _) | (with_reducible refine Kd.C_drewN ?_ _) | (with_reducible refine Kd.C_drew ?_))); (case side2 => exact HC0.out); rintro e w' ⟨rfl, ⟨nd, rfl⟩⟩; (try clear A8); (try first | exact ⟨rfl, _, World.drewN_drewN _ _ _⟩ | exact ⟨rfl, _, Eq.trans (World.drewN_drewN _ _ _) (congrArg (World.drewN _) (Nat.add_assoc _ _ _))⟩)) | (go_at_call 11; (with_reducible refine (observatoryref01_Few.calls k _ _ l1 200 t174 _ ?side1 ?side2 A10.out).mono ?_); (case side1 => repeat (first | exact (Kd.C_below HR1.out (by repeat (first | (with_reducible first | exact HB.out | apply below_alloc | apply pw_below_drewN | apply below_drew1) | exact HB.out))) | (with_reducible refine Kd.C_alloc ?_ _) | (with_reducible refine Kd.C_drewN ?_ _) | (with_reducible refine Kd.C_drew ?_))); (case side2 => exact HC1.out); rintro e w' ⟨rfl, ⟨nd, rfl⟩⟩; (try clear A10); (try first | exact ⟨rfl, _, World.drewN_drewN _ _ _⟩ | exact ⟨rfl, _, Eq.trans (World.drewN_drewN _ _ _) (congrArg (World.drewN _) (Nat.add_assoc _ _ _))⟩))); try go_wp2_with (first | (go_at_call 11; (with_reducible refine (observatoryref01_Few.calls k _ _ l0 200 true _ ?side1 ?side2 A8.out).mono ?_); (case side1 => repeat (first | exact (Kd.C_below HR0.out HB.out) | (with_reducible refine Kd.C_alloc ?_ _) | (with_reducible refine Kd.C_drewN ?_ _) | (with_reducible refine Kd.C_drew ?_))); (case side2 => exact HC0.out); rintro e w' ⟨rfl, ⟨nd, rfl⟩⟩; (try clear A8); (try first | exact ⟨rfl, _, World.drewN_drewN _ _ _⟩ | exact ⟨rfl, _, Eq.trans (World.drewN_drewN _ _ _) (congrArg (World.drewN _) (Nat.add_assoc _ _ _))⟩)) | (go_at_call 11; (with_reducible refine (observatoryref01_Few.calls k _ _ l1 200 t174 _ ?side1 ?side2 A10.out).mono ?_); (case side1 => repeat (first | exact (Kd.C_below HR1.out (by repeat (first | (with_reducible first | exact HB.out | apply below_alloc | apply pw_below_drewN | apply below_drew1) | exact HB.out))) | (with_reducible refine Kd.C_alloc ?_ _) | (with_reducible refine Kd.C_drewN ?_ _) | (with_reducible refine Kd.C_drew ?_))); (case side2 => exact HC1.out); rintro e w' ⟨rfl, ⟨nd, rfl⟩⟩; (try clear A10); (try first | exact ⟨rfl, _, World.drewN_drewN _ _ _⟩ | exact ⟨rfl, _, Eq.trans (World.drewN_drewN _ _ _) (congrArg (World.drewN _) (Nat.add_assoc _ _ _))⟩))))
      go_meet
      case rel => exact ⟨_, (!t174), (by first | rfl | (simp; done) | (simp [*]; done)), H', ⟨by first | omega | exact Nat.le_refl _⟩, ⟨by repeat (first | (with_reducible first | exact HB.out | apply below_alloc | apply pw_below_drewN | apply below_drew1) | exact HB.out)⟩⟩
    · replace c9 := Bool.eq_false_iff.mpr c9
      subst c9
      have H1 : (observatorylaw01_DigestLists.j0 k l0 l1 a2 a3 t172 true) = some r := by rw [if_neg (show ¬ (false = true) by decide)] at H; exact H
      clear H
      have H := H1
      clear H1
      have H' := Aside0.mk H
      clear H
      go_wp2_with (first | (go_at_call 11; (with_reducible refine (observatoryref01_Few.calls k _ _ l0 200 false _ ?side1 ?side2 A8.out).mono ?_); (case side1 => repeat (first | exact (Kd.C_below HR0.out HB.out) | (with_reducible refine Kd.C_alloc ?_ _) | (with_reducible refine Kd.C_drewN ?_ _) | (with_reducible refine Kd.C_drew ?_))); (case side2 => exact HC0.out); rintro e w' ⟨rfl, ⟨nd, rfl⟩⟩; (try clear A8); (try first | exact ⟨rfl, _, World.drewN_drewN _ _ _⟩ | exact ⟨rfl, _, Eq.trans (World.drewN_drewN _ _ _) (congrArg (World.drewN _) (Nat.add_assoc _ _ _))⟩)))
      repeat (go_quiet (first | (go_at_call 11; (with_reducible refine (observatoryref01_Few.calls k _ _ l0 200 false _ ?side1 ?side2 A8.out).mono ?_); (case side1 => repeat (first | exact (Kd.C_below HR0.out HB.out) | (with_reducible refine Kd.C_alloc ?_ _) | (with_reducible refine Kd.C_drewN ?_ _) | (with_reducible refine Kd.C_drew ?_))); (case side2 => exact HC0.out); rintro e w' ⟨rfl, ⟨nd, rfl⟩⟩; (try clear A8); (try first | exact ⟨rfl, _, World.drewN_drewN _ _ _⟩ | exact ⟨rfl, _, Eq.trans (World.drewN_drewN _ _ _) (congrArg (World.drewN _) (Nat.add_assoc _ _ _))⟩))); try go_wp2_with (first | (go_at_call 11; (with_reducible refine (observatoryref01_Few.calls k _ _ l0 200 false _ ?side1 ?side2 A8.out).mono ?_); (case side1 => repeat (first | exact (Kd.C_below HR0.out HB.out) | (with_reducible refine Kd.C_alloc ?_ _) | (with_reducible refine Kd.C_drewN ?_ _) | (with_reducible refine Kd.C_drew ?_))); (case side2 => exact HC0.out); rintro e w' ⟨rfl, ⟨nd, rfl⟩⟩; (try clear A8); (try first | exact ⟨rfl, _, World.drewN_drewN _ _ _⟩ | exact ⟨rfl, _, Eq.trans (World.drewN_drewN _ _ _) (congrArg (World.drewN _) (Nat.add_assoc _ _ _))⟩))))
      go_meet
      case rel => exact ⟨_, (true), (by first | rfl | (simp; done) | (simp [*]; done)), H', ⟨by first | omega | exact Nat.le_refl _⟩, ⟨by repeat (first | (with_reducible first | exact HB.out | apply below_alloc | apply pw_below_drewN | apply below_drew1) | exact HB.out)⟩⟩
  case rest =>
    clear HC6
    try clear c1
    try clear p2
    try clear c9
    obtain ⟨kq, x21_5, rfl, HA, HJ5, HB⟩ := hcut
    cases kq with
    | zero => exact absurd HA.out (by simp [observatorylaw01_DigestLists.j0])
    | succ kj5 =>
      have H := HA.out
      clear HA
      simp only [observatorylaw01_DigestLists.j0] at H
      by_cases c11 : x21_5 = true
      · subst c11
        have H1 : (some t172) = some r := by rw [if_pos rfl] at H; exact H
        clear H
        have H := H1
        clear H1
        obtain rfl := Option.some.inj H
        go_wp2
        repeat (go_quiet (fail); try go_wp2)
        go_ret
        exact ⟨by first | rfl | (simp [errW_none, errW_some] <;> rfl) | (simp [*, errW_none, errW_some] <;> rfl), by repeat (first | (with_reducible first | exact HB.out | apply below_alloc | apply pw_below_drewN | apply below_drew1) | exact HB.out)⟩
      · replace c11 := Bool.eq_false_iff.mpr c11
        subst c11
        have H1 : ((observatoryref01_Joined.f kj5 l0).bind fun t175 => ((observatoryref01_Joined.f kj5 l1).bind fun t176 => ((digest_List.f l0).bind fun t177 => ((digest_Sum.f t175).bind fun t178 => (if t177.toList = t178.toList then ((observatoryref01_Same.f kj5 l0 l1).bind fun t179 => (observatorylaw01_DigestLists.j1 kj5 l0 l1 a2 a3 t172 t175 t176 ((t175.toList == t176.toList) != t179))) else (observatorylaw01_DigestLists.j1 kj5 l0 l1 a2 a3 t172 t175 t176 true)))))) = some r := by rw [if_neg (show ¬ (false = true) by decide)] at H; exact H
        clear H
        have H := H1
        clear H1
        replace H := Option.bind_eq_some_iff.mp H
        obtain ⟨t175, A120, H⟩ := H
        replace H : ((observatoryref01_Joined.f kj5 l1).bind fun t176 => ((digest_List.f l0).bind fun t177 => ((digest_Sum.f t175).bind fun t178 => (if t177.toList = t178.toList then ((observatoryref01_Same.f kj5 l0 l1).bind fun t179 => (observatorylaw01_DigestLists.j1 kj5 l0 l1 a2 a3 t172 t175 t176 ((t175.toList == t176.toList) != t179))) else (observatorylaw01_DigestLists.j1 kj5 l0 l1 a2 a3 t172 t175 t176 true))))) = some r := H
        have A12 := Aside0.mk A120
        clear A120
        replace H := Option.bind_eq_some_iff.mp H
        obtain ⟨t176, A130, H⟩ := H
        replace H : ((digest_List.f l0).bind fun t177 => ((digest_Sum.f t175).bind fun t178 => (if t177.toList = t178.toList then ((observatoryref01_Same.f kj5 l0 l1).bind fun t179 => (observatorylaw01_DigestLists.j1 kj5 l0 l1 a2 a3 t172 t175 t176 ((t175.toList == t176.toList) != t179))) else (observatorylaw01_DigestLists.j1 kj5 l0 l1 a2 a3 t172 t175 t176 true)))) = some r := H
        have A13 := Aside0.mk A130
        clear A130
        have HC14 := Aside0.mk H
        clear H
        go_upto_region 6 with (first | (go_at_call 20; (with_reducible refine (observatoryref01_Joined.calls kj5 _ _ l0 t175 _ ?side1 ?side2 A12.out).mono ?_); (case side1 => repeat (first | exact (Kd.C_below HR0.out HB.out) | (with_reducible refine Kd.C_alloc ?_ _) | (with_reducible refine Kd.C_drewN ?_ _) | (with_reducible refine Kd.C_drew ?_))); (case side2 => exact HC0.out); rintro e w15 ⟨rfl, hb⟩; have n0_ := Aside0.mk (below_step (by repeat (first | (with_reducible first | exact HB.out | apply below_alloc | apply pw_below_drewN | apply below_drew1) | exact HB.out)) hb); clear HB; have HB := n0_; clear n0_; (try clear hb); (try clear hb2); (try clear hk); (try clear hi); (try clear A12)) | (go_at_call 20; (with_reducible refine (observatoryref01_Joined.calls kj5 _ _ l1 t176 _ ?side1 ?side2 A13.out).mono ?_); (case side1 => repeat (first | exact (Kd.C_below HR1.out HB.out) | (with_reducible refine Kd.C_alloc ?_ _) | (with_reducible refine Kd.C_drewN ?_ _) | (with_reducible refine Kd.C_drew ?_))); (case side2 => exact HC1.out); rintro e w16 ⟨rfl, hb⟩; have n0_ := Aside0.mk (below_step (by repeat (first | (with_reducible first | exact HB.out | apply below_alloc | apply pw_below_drewN | apply below_drew1) | exact HB.out)) hb); clear HB; have HB := n0_; clear n0_; (try clear hb); (try clear hb2); (try clear hk); (try clear hi); (try clear A13)))
        repeat (go_quiet (first | (go_at_call 20; (with_reducible refine (observatoryref01_Joined.calls kj5 _ _ l0 t175 _ ?side1 ?side2 A12.out).mono ?_); (case side1 => repeat (first | exact (Kd.C_below HR0.out HB.out) | (with_reducible refine Kd.C_alloc ?_ _) | (with_reducible refine Kd.C_drewN ?_ _) | (with_reducible refine Kd.C_drew ?_))); (case side2 => exact HC0.out); rintro e w15 ⟨rfl, hb⟩; have n0_ := Aside0.mk (below_step (by repeat (first | (with_reducible first | exact HB.out | apply below_alloc | apply pw_below_drewN | apply below_drew1) | exact HB.out)) hb); clear HB; have HB := n0_; clear n0_; (try clear hb); (try clear hb2); (try clear hk); (try clear hi); (try clear A12)) | (go_at_call 20; (with_reducible refine (observatoryref01_Joined.calls kj5 _ _ l1 t176 _ ?side1 ?side2 A13.out).mono ?_); (case side1 => repeat (first | exact (Kd.C_below HR1.out HB.out) | (with_reducible refine Kd.C_alloc ?_ _) | (with_reducible refine Kd.C_drewN ?_ _) | (with_reducible refine Kd.C_drew ?_))); (case side2 => exact HC1.out); rintro e w16 ⟨rfl, hb⟩; have n0_ := Aside0.mk (below_step (by repeat (first | (with_reducible first | exact HB.out | apply below_alloc | apply pw_below_drewN | apply below_drew1) | exact HB.out)) hb); clear HB; have HB := n0_; clear n0_; (try clear hb); (try clear hb2); (try clear hk); (try clear hi); (try clear A13))); go_upto_region 6 with (first | (go_at_call 20; (with_reducible refine (observatoryref01_Joined.calls kj5 _ _ l0 t175 _ ?side1 ?side2 A12.out).mono ?_); (case side1 => repeat (first | exact (Kd.C_below HR0.out HB.out) | (with_reducible refine Kd.C_alloc ?_ _) | (with_reducible refine Kd.C_drewN ?_ _) | (with_reducible refine Kd.C_drew ?_))); (case side2 => exact HC0.out); rintro e w15 ⟨rfl, hb⟩; have n0_ := Aside0.mk (below_step (by repeat (first | (with_reducible first | exact HB.out | apply below_alloc | apply pw_below_drewN | apply below_drew1) | exact HB.out)) hb); clear HB; have HB := n0_; clear n0_; (try clear hb); (try clear hb2); (try clear hk); (try clear hi); (try clear A12)) | (go_at_call 20; (with_reducible refine (observatoryref01_Joined.calls kj5 _ _ l1 t176 _ ?side1 ?side2 A13.out).mono ?_); (case side1 => repeat (first | exact (Kd.C_below HR1.out HB.out) | (with_reducible refine Kd.C_alloc ?_ _) | (with_reducible refine Kd.C_drewN ?_ _) | (with_reducible refine Kd.C_drew ?_))); (case side2 => exact HC1.out); rintro e w16 ⟨rfl, hb⟩; have n0_ := Aside0.mk (below_step (by repeat (first | (with_reducible first | exact HB.out | apply below_alloc | apply pw_below_drewN | apply below_drew1) | exact HB.out)) hb); clear HB; have HB := n0_; clear n0_; (try clear hb); (try clear hb2); (try clear hk); (try clear hi); (try clear A13))))
        (try simp only [Act.put, List.setIfInBounds_toArray, List.set_cons_zero, List.set_cons_succ])
        go_cut [40] (fun v40 wc => ∃ (kq : Nat) (x40_13 : Bool), v40 = .bool x40_13 ∧ Aside0 (observatorylaw01_DigestLists.j1 kq l0 l1 a2 a3 t172 t175 t176 x40_13 = some r) ∧ Aside0 (kq ≤ kj5) ∧ Aside0 (Below w.heap.size w wc))
        case first =>
          have H := HC14.out
          clear HC14
          replace H := Option.bind_eq_some_iff.mp H
          obtain ⟨t177, A170, H⟩ := H
          replace H : ((digest_Sum.f t175).bind fun t178 => (if t177.toList = t178.toList then ((observatoryref01_Same.f kj5 l0 l1).bind fun t179 => (observatorylaw01_DigestLists.j1 kj5 l0 l1 a2 a3 t172 t175 t176 ((t175.toList == t176.toList) != t179))) else (observatorylaw01_DigestLists.j1 kj5 l0 l1 a2 a3 t172 t175 t176 true))) = some r := H
          have A17 := Aside0.mk A170
          clear A170
          replace H := Option.bind_eq_some_iff.mp H
          obtain ⟨t178, A180, H⟩ := H
          replace H : (if t177.toList = t178.toList then ((observatoryref01_Same.f kj5 l0 l1).bind fun t179 => (observatorylaw01_DigestLists.j1 kj5 l0 l1 a2 a3 t172 t175 t176 ((t175.toList == t176.toList) != t179))) else (observatorylaw01_DigestLists.j1 kj5 l0 l1 a2 a3 t172 t175 t176 true)) = some r := H
          have A18 := Aside0.mk A180
          clear A180
          by_cases c19 : t177.toList = t178.toList
          · rw [if_pos c19] at H
            have c19b0 : (t177.toList == t178.toList) = true := beq_iff_eq.mpr c19
            have c19b1 : (t177.toList != t178.toList) = false := bne_eq_false_iff_eq.mpr c19
            clear c19
            (first | rw [c19b0] | (simp only [i64_w, i32_w]; rw [c19b0]) | skip)
            replace H := Option.bind_eq_some_iff.mp H
            obtain ⟨t179, A200, H⟩ := H
            replace H : (observatorylaw01_DigestLists.j1 kj5 l0 l1 a2 a3 t172 t175 t176 ((t175.toList == t176.toList) != t179)) = some r := H
            have A20 := Aside0.mk A200
            clear A200
            have H' := Aside0.mk H
            clear H
            go_wp2_with (first | (go_at_call 14; (with_reducible refine (digest_List.calls _ _ l0 t177 _ ?side1 ?side2 ?side3 A17.out).mono ?_); (case side1 => repeat (first | exact (Kd.C_below HR0.out HB.out) | (with_reducible refine Kd.C_alloc ?_ _) | (with_reducible refine Kd.C_drewN ?_ _) | (with_reducible refine Kd.C_drew ?_))); (case side2 => exact HC0.out); (case side3 => exact HT.out.below (by repeat (first | (with_reducible first | exact HB.out | apply below_alloc | apply pw_below_drewN | apply below_drew1) | exact HB.out))); rintro e w21 ⟨rfl, hb⟩; have n0_ := Aside0.mk (below_step (by repeat (first | (with_reducible first | exact HB.out | apply below_alloc | apply pw_below_drewN | apply below_drew1) | exact HB.out)) hb); clear HB; have HB := n0_; clear n0_; (try clear hb); (try clear hb2); (try clear hk); (try clear hi); (try clear A17)) | (go_at_call 12; (with_reducible refine (digest_Sum.calls t175 t178 _ ?side1 A18.out).mono ?_); (case side1 => exact HT.out.below (by repeat (first | (with_reducible first | exact HB.out | apply below_alloc | apply pw_below_drewN | apply below_drew1) | exact HB.out))); rintro e w22 ⟨rfl, hb⟩; have n0_ := Aside0.mk (below_step (by repeat (first | (with_reducible first | exact HB.out | apply below_alloc | apply pw_below_drewN | apply below_drew1) | exact HB.out)) hb); clear HB; have HB := n0_; clear n0_; (try clear hb); (try clear hb2); (try clear hk); (try clear hi); (try clear A18)) | (go_at_call 21; (with_reducible refine (observatoryref01_Same.calls kj5 _ _ l0 _ _ l1 t179 _ ?side1 ?side2 ?side3 ?side4 A20.out).mono ?_); (case side1 => repeat (first | exact (Kd.C_below HR0.out HB.out) | (with_reducible refine Kd.C_alloc ?_ _) | (with_reducible refine Kd.C_drewN ?_ _) | (with_reducible refine Kd.C_drew ?_))); (case side2 => exact HC0.out); (case side3 => repeat (first | exact (Kd.C_below HR1.out HB.out) | (with_reducible refine Kd.C_alloc ?_ _) | (with_reducible refine Kd.C_drewN ?_ _) | (with_reducible refine Kd.C_drew ?_))); (case side4 => exact HC1.out); rintro e w' ⟨rfl, ⟨nd, rfl⟩⟩; (try clear A20); (try first | exact ⟨rfl, _, World.drewN_drewN _ _ _⟩ | exact ⟨rfl, _, Eq.trans (World.drewN_drewN _ _ _) (congrArg (World.drewN _) (Nat.add_assoc _ _ _))⟩)))
            repeat (go_quiet (first | (go_at_call 14; (with_reducible refine (digest_List.calls _ _ l0 t177 _ ?side1 ?side2 ?side3 A17.out).mono ?_); (case side1 => repeat (first | exact (Kd.C_below HR0.out HB.out) | (with_reducible refine Kd.C_alloc ?_ _) | (with_reducible refine Kd.C_drewN ?_ _) | (with_reducible refine Kd.C_drew ?_))); (case side2 => exact HC0.out); (case side3 => exact HT.out.below (by repeat (first | (with_reducible first | exact HB.out | apply below_alloc | apply pw_below_drewN | apply below_drew1) | exact HB.out))); rintro e w21 ⟨rfl, hb⟩; have n0_ := Aside0.mk (below_step (by repeat (first | (with_reducible first | exact HB.out | apply below_alloc | apply pw_below_drewN | apply below_drew1) | exact HB.out)) hb); clear HB; have HB := n0_; clear n0_; (try clear hb); (try clear hb2); (try clear hk); (try clear hi); (try clear A17)) | (go_at_call 12; (with_reducible refine (digest_Sum.calls t175 t178 _ ?side1 A18.out).mono ?_); (case side1 => exact HT.out.below (by repeat (first | (with_reducible first | exact HB.out | apply below_alloc | apply pw_below_drewN | apply below_drew1) | exact HB.out))); rintro e w22 ⟨rfl, hb⟩; have n0_ := Aside0.mk (below_step (by repeat (first | (with_reducible first | exact HB.out | apply below_alloc | apply pw_below_drewN | apply below_drew1) | exact HB.out)) hb); clear HB; have HB := n0_; clear n0_; (try clear hb); (try clear hb2); (try clear hk); (try clear hi); (try clear A18)) | (go_at_call 21; (with_reducible refine (observatoryref01_Same.calls kj5 _ _ l0 _ _ l1 t179 _ ?side1 ?side2 ?side3 ?side4 A20.out).mono ?_); (case side1 => repeat (first | exact (Kd.C_below HR0.out HB.out) | (with_reducible refine Kd.C_alloc ?_ _) | (with_reducible refine Kd.C_drewN ?_ _) | (with_reducible refine Kd.C_drew ?_))); (case side2 => exact HC0.out); (case side3 => repeat (first | exact (Kd.C_below HR1.out HB.out) | (with_reducible refine Kd.C_alloc ?_ _) | (with_reducible refine Kd.C_drewN ?_ _) | (with_reducible refine Kd.C_drew ?_))); (case side4 => exact HC1.out); rintro e w' ⟨rfl, ⟨nd, rfl⟩⟩; (try clear A20); (try first | exact ⟨rfl, _, World.drewN_drewN _ _ _⟩ | exact ⟨rfl, _, Eq.trans (World.drewN_drewN _ _ _) (congrArg (World.drewN _) (Nat.add_assoc _ _ _))⟩))); try go_wp2_with (first | (go_at_call 14; (with_reducible refine (digest_List.calls _ _ l0 t177 _ ?side1 ?side2 ?side3 A17.out).mono ?_); (case side1 => repeat (first | exact (Kd.C_below HR0.out HB.out) | (with_reducible refine Kd.C_alloc ?_ _) | (with_reducible refine Kd.C_drewN ?_ _) | (with_reducible refine Kd.C_drew ?_))); (case side2 => exact HC0.out); (case side3 => exact HT.out.below (by repeat (first | (with_reducible first | exact HB.out | apply below_alloc | apply pw_below_drewN | apply below_drew1) | exact HB.out))); rintro e w21 ⟨rfl, hb⟩; have n0_ := Aside0.mk (below_step (by repeat (first | (with_reducible first | exact HB.out | apply below_alloc | apply pw_below_drewN | apply below_drew1) | exact HB.out)) hb); clear HB; have HB := n0_; clear n0_; (try clear hb); (try clear hb2); (try clear hk); (try clear hi); (try clear A17)) | (go_at_call 12; (with_reducible refine (digest_Sum.calls t175 t178 _ ?side1 A18.out).mono ?_); (case side1 => exact HT.out.below (by repeat (first | (with_reducible first | exact HB.out | apply below_alloc | apply pw_below_drewN | apply below_drew1) | exact HB.out))); rintro e w22 ⟨rfl, hb⟩; have n0_ := Aside0.mk (below_step (by repeat (first | (with_reducible first | exact HB.out | apply below_alloc | apply pw_below_drewN | apply below_drew1) | exact HB.out)) hb); clear HB; have HB := n0_; clear n0_; (try clear hb); (try clear hb2); (try clear hk); (try clear hi); (try clear A18)) | (go_at_call 21; (with_reducible refine (observatoryref01_Same.calls kj5 _ _ l0 _ _ l1 t179 _ ?side1 ?side2 ?side3 ?side4 A20.out).mono ?_); (case side1 => repeat (first | exact (Kd.C_below HR0.out HB.out) | (with_reducible refine Kd.C_alloc ?_ _) | (with_reducible refine Kd.C_drewN ?_ _) | (with_reducible refine Kd.C_drew ?_))); (case side2 => exact HC0.out); (case side3 => repeat (first | exact (Kd.C_below HR1.out HB.out) | (with_reducible refine Kd.C_alloc ?_ _) | (with_reducible refine Kd.C_drewN ?_ _) | (with_reducible refine Kd.C_drew ?_))); (case side4 => exact HC1.out); rintro e w' ⟨rfl, ⟨nd, rfl⟩⟩; (try clear A20); (try first | exact ⟨rfl, _, World.drewN_drewN _ _ _⟩ | exact ⟨rfl, _, Eq.trans (World.drewN_drewN _ _ _) (congrArg (World.drewN _) (Nat.add_assoc _ _ _))⟩))))
            go_meet
            case rel => exact ⟨_, (((t175.toList == t176.toList) != t179)), (by first | rfl | (simp; done) | (simp [*]; done)), H', ⟨by have := HJ5.out; first | omega | exact Nat.le_refl _⟩, ⟨by repeat (first | (with_reducible first | exact HB.out | apply below_alloc | apply pw_below_drewN | apply below_drew1) | exact HB.out)⟩⟩
          · rw [if_neg c19] at H
            have c19b0 : (t177.toList == t178.toList) = false := beq_eq_false_iff_ne.mpr c19
            have c19b1 : (t177.toList != t178.toList) = true := bne_iff_ne.mpr c19
            (first | rw [c19b0] | (simp only [i64_w, i32_w]; rw [c19b0]) | skip)
            have H' := Aside0.mk H
            clear H
            go_wp2_with (first | (go_at_call 14; (with_reducible refine (digest_List.calls _ _ l0 t177 _ ?side1 ?side2 ?side3 A17.out).mono ?_); (case side1 => repeat (first | exact (Kd.C_below HR0.out HB.out) | (with_reducible refine Kd.C_alloc ?_ _) | (with_reducible refine Kd.C_drewN ?_ _) | (with_reducible refine Kd.C_drew ?_))); (case side2 => exact HC0.out); (case side3 => exact HT.out.below (by repeat (first | (with_reducible first | exact HB.out | apply below_alloc | apply pw_below_drewN | apply below_drew1) | exact HB.out))); rintro e w23 ⟨rfl, hb⟩; have n0_ := Aside0.mk (below_step (by repeat (first | (with_reducible first | exact HB.out | apply below_alloc | apply pw_below_drewN | apply below_drew1) | exact HB.out)) hb); clear HB; have HB := n0_; clear n0_; (try clear hb); (try clear hb2); (try clear hk); (try clear hi); (try clear A17)) | (go_at_call 12; (with_reducible refine (digest_Sum.calls t175 t178 _ ?side1 A18.out).mono ?_); (case side1 => exact HT.out.below (by repeat (first | (with_reducible first | exact HB.out | apply below_alloc | apply pw_below_drewN | apply below_drew1) | exact HB.out))); rintro e w24 ⟨rfl, hb⟩; have n0_ := Aside0.mk (below_step (by repeat (first | (with_reducible first | exact HB.out | apply below_alloc | apply pw_below_drewN | apply below_drew1) | exact HB.out)) hb); clear HB; have HB := n0_; clear n0_; (try clear hb); (try clear hb2); (try clear hk); (try clear hi); (try clear A18)))
            repeat (go_quiet (first | (go_at_call 14; (with_reducible refine (digest_List.calls _ _ l0 t177 _ ?side1 ?side2 ?side3 A17.out).mono ?_); (case side1 => repeat (first | exact (Kd.C_below HR0.out HB.out) | (with_reducible refine Kd.C_alloc ?_ _) | (with_reducible refine Kd.C_drewN ?_ _) | (with_reducible refine Kd.C_drew ?_))); (case side2 => exact HC0.out); (case side3 => exact HT.out.below (by repeat (first | (with_reducible first | exact HB.out | apply below_alloc | apply pw_below_drewN | apply below_drew1) | exact HB.out))); rintro e w23 ⟨rfl, hb⟩; have n0_ := Aside0.mk (below_step (by repeat (first | (with_reducible first | exact HB.out | apply below_alloc | apply pw_below_drewN | apply below_drew1) | exact HB.out)) hb); clear HB; have HB := n0_; clear n0_; (try clear hb); (try clear hb2); (try clear hk); (try clear hi); (try clear A17)) | (go_at_call 12; (with_reducible refine (digest_Sum.calls t175 t178 _ ?side1 A18.out).mono ?_); (case side1 => exact HT.out.below (by repeat (first | (with_reducible first | exact HB.out | apply below_alloc | apply pw_below_drewN | apply below_drew1) | exact HB.out))); rintro e w24 ⟨rfl, hb⟩; have n0_ := Aside0.mk (below_step (by repeat (first | (with_reducible first | exact HB.out | apply below_alloc | apply pw_below_drewN | apply below_drew1) | exact HB.out)) hb); clear HB; have HB := n0_; clear n0_; (try clear hb); (try clear hb2); (try clear hk); (try clear hi); (try clear A18))); try go_wp2_with (first | (go_at_call 14; (with_reducible refine (digest_List.calls _ _ l0 t177 _ ?side1 ?side2 ?side3 A17.out).mono ?_); (case side1 => repeat (first | exact (Kd.C_below HR0.out HB.out) | (with_reducible refine Kd.C_alloc ?_ _) | (with_reducible refine Kd.C_drewN ?_ _) | (with_reducible refine Kd.C_drew ?_))); (case side2 => exact HC0.out); (case side3 => exact HT.out.below (by repeat (first | (with_reducible first | exact HB.out | apply below_alloc | apply pw_below_drewN | apply below_drew1) | exact HB.out))); rintro e w23 ⟨rfl, hb⟩; have n0_ := Aside0.mk (below_step (by repeat (first | (with_reducible first | exact HB.out | apply below_alloc | apply pw_below_drewN | apply below_drew1) | exact HB.out)) hb); clear HB; have HB := n0_; clear n0_; (try clear hb); (try clear hb2); (try clear hk); (try clear hi); (try clear A17)) | (go_at_call 12; (with_reducible refine (digest_Sum.calls t175 t178 _ ?side1 A18.out).mono ?_); (case side1 => exact HT.out.below (by repeat (first | (with_reducible first | exact HB.out | apply below_alloc | apply pw_below_drewN | apply below_drew1) | exact HB.out))); rintro e w24 ⟨rfl, hb⟩; have n0_ := Aside0.mk (below_step (by repeat (first | (with_reducible first | exact HB.out | apply below_alloc | apply pw_below_drewN | apply below_drew1) | exact HB.out)) hb); clear HB; have HB := n0_; clear n0_; (try clear hb); (try clear hb2); (try clear hk); (try clear hi); (try clear A18))))
            go_meet
            case rel => exact ⟨_, (true), (by first | rfl | (simp; done) | (simp [*]; done)), H', ⟨by have := HJ5.out; first | omega | exact Nat.le_refl _⟩, ⟨by repeat (first | (with_reducible first | exact HB.out | apply below_alloc | apply pw_below_drewN | apply below_drew1) | exact HB.out)⟩⟩
        case rest =>
          clear HC14
          try clear c1
          try clear p2
          try clear c9
          try clear c11
          try clear c19
          try clear c19b0
          try clear c19b1
          try clear p2
          obtain ⟨kq, x40_13, rfl, HA, HJ13, HB⟩ := hcut
          cases kq with
          | zero => exact absurd HA.out (by simp [observatorylaw01_DigestLists.j1])
          | succ kj13 =>
            have H := HA.out
            clear HA
            simp only [observatorylaw01_DigestLists.j1] at H
            by_cases c25 : x40_13 = true
            · subst c25
              have H1 : (some false) = some r := by rw [if_pos rfl] at H; exact H
              clear H
              have H := H1
              clear H1
              obtain rfl := Option.some.inj H
              go_wp2
              repeat (go_quiet (fail); try go_wp2)
              go_ret
              exact ⟨by first | rfl | (simp [errW_none, errW_some] <;> rfl) | (simp [*, errW_none, errW_some] <;> rfl), by repeat (first | (with_reducible first | exact HB.out | apply below_alloc | apply pw_below_drewN | apply below_drew1) | exact HB.out)⟩
            · replace c25 := Bool.eq_false_iff.mpr c25
              subst c25
              have H1 : (if (t175.size : Int) ≤ 7 then (if (t176.size : Int) ≤ 7 then ((digest_List.f l0).bind fun t180 => ((digest_List.f l1).bind fun t181 => ((observatoryref01_Same.f kj13 l0 l1).bind fun t182 => (observatorylaw01_DigestLists.j2 kj13 a2 a3 t172 ((t180.toList == t181.toList) != t182))))) else (observatorylaw01_DigestLists.j2 kj13 a2 a3 t172 false)) else (observatorylaw01_DigestLists.j2 kj13 a2 a3 t172 false)) = some r := by rw [if_neg (show ¬ (false = true) by decide)] at H; exact H
              clear H
              have H := H1
              clear H1
              have HC26 := Aside0.mk H
              clear H
              go_upto_region 8 with (fail)
              repeat (go_quiet (fail); go_upto_region 8 with (fail))
              go_cut [59] (fun v59 wc => ∃ (kq : Nat) (x59_25 : Bool), v59 = .bool x59_25 ∧ Aside0 (observatorylaw01_DigestLists.j2 kq a2 a3 t172 x59_25 = some r) ∧ Aside0 (kq ≤ kj13) ∧ Aside0 (Below w.heap.size w wc))
              case first =>
                have H := HC26.out
                clear HC26
                by_cases c27 : (t175.size : Int) ≤ 7
                · rw [if_pos c27] at H
                  have c27b0 : decide ((t175.size : Int) ≤ 7) = true := decide_eq_true c27
                  have c27b1 : decide (t175.size ≤ 7) = true := decide_eq_true (by omega)
                  clear c27
                  (first | rw [c27b0] | (simp only [i64_w, i32_w]; rw [c27b0]) | skip)
                  by_cases c28 : (t176.size : Int) ≤ 7
                  · rw [if_pos c28] at H
                    have c28b0 : decide ((t176.size : Int) ≤ 7) = true := decide_eq_true c28
                    have c28b1 : decide (t176.size ≤ 7) = true := decide_eq_true (by omega)
                    clear c28
                    replace H := Option.bind_eq_some_iff.mp H
                    obtain ⟨t180, A290, H⟩ := H
                    replace H : ((digest_List.f l1).bind fun t181 => ((observatoryref01_Same.f kj13 l0 l1).bind fun t182 => (observatorylaw01_DigestLists.j2 kj13 a2 a3 t172 ((t180.toList == t181.toList) != t182)))) = some r := H
                    have A29 := Aside0.mk A290
                    clear A290
                    replace H := Option.bind_eq_some_iff.mp H
                    obtain ⟨t181, A300, H⟩ := H
                    replace H : ((observatoryref01_Same.f kj13 l0 l1).bind fun t182 => (observatorylaw01_DigestLists.j2 kj13 a2 a3 t172 ((t180.toList == t181.toList) != t182))) = some r := H
                    have A30 := Aside0.mk A300
                    clear A300
                    replace H := Option.bind_eq_some_iff.mp H
                    obtain ⟨t182, A310, H⟩ := H
                    replace H : (observatorylaw01_DigestLists.j2 kj13 a2 a3 t172 ((t180.toList == t181.toList) != t182)) = some r := H
                    have A31 := Aside0.mk A310
                    clear A310
                    have H' := Aside0.mk H
                    clear H
                    go_wp2_with (first | (go_at_call 14; (with_reducible refine (digest_List.calls _ _ l0 t180 _ ?side1 ?side2 ?side3 A29.out).mono ?_); (case side1 => repeat (first | exact (Kd.C_below HR0.out HB.out) | (with_reducible refine Kd.C_alloc ?_ _) | (with_reducible refine Kd.C_drewN ?_ _) | (with_reducible refine Kd.C_drew ?_))); (case side2 => exact HC0.out); (case side3 => exact HT.out.below (by repeat (first | (with_reducible first | exact HB.out | apply below_alloc | apply pw_below_drewN | apply below_drew1) | exact HB.out))); rintro e w32 ⟨rfl, hb⟩; have n0_ := Aside0.mk (below_step (by repeat (first | (with_reducible first | exact HB.out | apply below_alloc | apply pw_below_drewN | apply below_drew1) | exact HB.out)) hb); clear HB; have HB := n0_; clear n0_; (try clear hb); (try clear hb2); (try clear hk); (try clear hi); (try clear A29)) | (go_at_call 14; (with_reducible refine (digest_List.calls _ _ l1 t181 _ ?side1 ?side2 ?side3 A30.out).mono ?_); (case side1 => repeat (first | exact (Kd.C_below HR1.out HB.out) | (with_reducible refine Kd.C_alloc ?_ _) | (with_reducible refine Kd.C_drewN ?_ _) | (with_reducible refine Kd.C_drew ?_))); (case side2 => exact HC1.out); (case side3 => exact HT.out.below (by repeat (first | (with_reducible first | exact HB.out | apply below_alloc | apply pw_below_drewN | apply below_drew1) | exact HB.out))); rintro e w33 ⟨rfl, hb⟩; have n0_ := Aside0.mk (below_step (by repeat (first | (with_reducible first | exact HB.out | apply below_alloc | apply pw_below_drewN | apply below_drew1) | exact HB.out)) hb); clear HB; have HB := n0_; clear n0_; (try clear hb); (try clear hb2); (try clear hk); (try clear hi); (try clear A30)) | (go_at_call 21; (with_reducible refine (observatoryref01_Same.calls kj13 _ _ l0 _ _ l1 t182 _ ?side1 ?side2 ?side3 ?side4 A31.out).mono ?_); (case side1 => repeat (first | exact (Kd.C_below HR0.out HB.out) | (with_reducible refine Kd.C_alloc ?_ _) | (with_reducible refine Kd.C_drewN ?_ _) | (with_reducible refine Kd.C_drew ?_))); (case side2 => exact HC0.out); (case side3 => repeat (first | exact (Kd.C_below HR1.out HB.out) | (with_reducible refine Kd.C_alloc ?_ _) | (with_reducible refine Kd.C_drewN ?_ _) | (with_reducible refine Kd.C_drew ?_))); (case side4 => exact HC1.out); rintro e w' ⟨rfl, ⟨nd, rfl⟩⟩; (try clear A31); (try first | exact ⟨rfl, _, World.drewN_drewN _ _ _⟩ | exact ⟨rfl, _, Eq.trans (World.drewN_drewN _ _ _) (congrArg (World.drewN _) (Nat.add_assoc _ _ _))⟩)))
                    repeat (go_quiet (first | (go_at_call 14; (with_reducible refine (digest_List.calls _ _ l0 t180 _ ?side1 ?side2 ?side3 A29.out).mono ?_); (case side1 => repeat (first | exact (Kd.C_below HR0.out HB.out) | (with_reducible refine Kd.C_alloc ?_ _) | (with_reducible refine Kd.C_drewN ?_ _) | (with_reducible refine Kd.C_drew ?_))); (case side2 => exact HC0.out); (case side3 => exact HT.out.below (by repeat (first | (with_reducible first | exact HB.out | apply below_alloc | apply pw_below_drewN | apply below_drew1) | exact HB.out))); rintro e w32 ⟨rfl, hb⟩; have n0_ := Aside0.mk (below_step (by repeat (first | (with_reducible first | exact HB.out | apply below_alloc | apply pw_below_drewN | apply below_drew1) | exact HB.out)) hb); clear HB; have HB := n0_; clear n0_; (try clear hb); (try clear hb2); (try clear hk); (try clear hi); (try clear A29)) | (go_at_call 14; (with_reducible refine (digest_List.calls _ _ l1 t181 _ ?side1 ?side2 ?side3 A30.out).mono ?_); (case side1 => repeat (first | exact (Kd.C_below HR1.out HB.out) | (with_reducible refine Kd.C_alloc ?_ _) | (with_reducible refine Kd.C_drewN ?_ _) | (with_reducible refine Kd.C_drew ?_))); (case side2 => exact HC1.out); (case side3 => exact HT.out.below (by repeat (first | (with_reducible first | exact HB.out | apply below_alloc | apply pw_below_drewN | apply below_drew1) | exact HB.out))); rintro e w33 ⟨rfl, hb⟩; have n0_ := Aside0.mk (below_step (by repeat (first | (with_reducible first | exact HB.out | apply below_alloc | apply pw_below_drewN | apply below_drew1) | exact HB.out)) hb); clear HB; have HB := n0_; clear n0_; (try clear hb); (try clear hb2); (try clear hk); (try clear hi); (try clear A30)) | (go_at_call 21; (with_reducible refine (observatoryref01_Same.calls kj13 _ _ l0 _ _ l1 t182 _ ?side1 ?side2 ?side3 ?side4 A31.out).mono ?_); (case side1 => repeat (first | exact (Kd.C_below HR0.out HB.out) | (with_reducible refine Kd.C_alloc ?_ _) | (with_reducible refine Kd.C_drewN ?_ _) | (with_reducible refine Kd.C_drew ?_))); (case side2 => exact HC0.out); (case side3 => repeat (first | exact (Kd.C_below HR1.out HB.out) | (with_reducible refine Kd.C_alloc ?_ _) | (with_reducible refine Kd.C_drewN ?_ _) | (with_reducible refine Kd.C_drew ?_))); (case side4 => exact HC1.out); rintro e w' ⟨rfl, ⟨nd, rfl⟩⟩; (try clear A31); (try first | exact ⟨rfl, _, World.drewN_drewN _ _ _⟩ | exact ⟨rfl, _, Eq.trans (World.drewN_drewN _ _ _) (congrArg (World.drewN _) (Nat.add_assoc _ _ _))⟩))); try go_wp2_with (first | (go_at_call 14; (with_reducible refine (digest_List.calls _ _ l0 t180 _ ?side1 ?side2 ?side3 A29.out).mono ?_); (case side1 => repeat (first | exact (Kd.C_below HR0.out HB.out) | (with_reducible refine Kd.C_alloc ?_ _) | (with_reducible refine Kd.C_drewN ?_ _) | (with_reducible refine Kd.C_drew ?_))); (case side2 => exact HC0.out); (case side3 => exact HT.out.below (by repeat (first | (with_reducible first | exact HB.out | apply below_alloc | apply pw_below_drewN | apply below_drew1) | exact HB.out))); rintro e w32 ⟨rfl, hb⟩; have n0_ := Aside0.mk (below_step (by repeat (first | (with_reducible first | exact HB.out | apply below_alloc | apply pw_below_drewN | apply below_drew1) | exact HB.out)) hb); clear HB; have HB := n0_; clear n0_; (try clear hb); (try clear hb2); (try clear hk); (try clear hi); (try clear A29)) | (go_at_call 14; (with_reducible refine (digest_List.calls _ _ l1 t181 _ ?side1 ?side2 ?side3 A30.out).mono ?_); (case side1 => repeat (first | exact (Kd.C_below HR1.out HB.out) | (with_reducible refine Kd.C_alloc ?_ _) | (with_reducible refine Kd.C_drewN ?_ _) | (with_reducible refine Kd.C_drew ?_))); (case side2 => exact HC1.out); (case side3 => exact HT.out.below (by repeat (first | (with_reducible first | exact HB.out | apply below_alloc | apply pw_below_drewN | apply below_drew1) | exact HB.out))); rintro e w33 ⟨rfl, hb⟩; have n0_ := Aside0.mk (below_step (by repeat (first | (with_reducible first | exact HB.out | apply below_alloc | apply pw_below_drewN | apply below_drew1) | exact HB.out)) hb); clear HB; have HB := n0_; clear n0_; (try clear hb); (try clear hb2); (try clear hk); (try clear hi); (try clear A30)) | (go_at_call 21; (with_reducible refine (observatoryref01_Same.calls kj13 _ _ l0 _ _ l1 t182 _ ?side1 ?side2 ?side3 ?side4 A31.out).mono ?_); (case side1 => repeat (first | exact (Kd.C_below HR0.out HB.out) | (with_reducible refine Kd.C_alloc ?_ _) | (with_reducible refine Kd.C_drewN ?_ _) | (with_reducible refine Kd.C_drew ?_))); (case side2 => exact HC0.out); (case side3 => repeat (first | exact (Kd.C_below HR1.out HB.out) | (with_reducible refine Kd.C_alloc ?_ _) | (with_reducible refine Kd.C_drewN ?_ _) | (with_reducible refine Kd.C_drew ?_))); (case side4 => exact HC1.out); rintro e w' ⟨rfl, ⟨nd, rfl⟩⟩; (try clear A31); (try first | exact ⟨rfl, _, World.drewN_drewN _ _ _⟩ | exact ⟨rfl, _, Eq.trans (World.drewN_drewN _ _ _) (congrArg (World.drewN _) (Nat.add_assoc _ _ _))⟩))))
                    go_meet
                    case rel => exact ⟨_, (((t180.toList == t181.toList) != t182)), (by first | rfl | (simp; done) | (simp [*]; done)), H', ⟨by have := HJ5.out; have := HJ13.out; first | omega | exact Nat.le_refl _⟩, ⟨by repeat (first | (with_reducible first | exact HB.out | apply below_alloc | apply pw_below_drewN | apply below_drew1) | exact HB.out)⟩⟩
                  · rw [if_neg c28] at H
                    have c28b0 : decide ((t176.size : Int) ≤ 7) = false := decide_eq_false c28
                    have c28b1 : decide (t176.size ≤ 7) = false := decide_eq_false (by omega)
                    clear c28
                    have H' := Aside0.mk H
                    clear H
                    go_wp2
                    repeat (go_quiet (fail); try go_wp2)
                    go_meet
                    case rel => exact ⟨_, (false), (by first | rfl | (simp; done) | (simp [*]; done)), H', ⟨by have := HJ5.out; have := HJ13.out; first | omega | exact Nat.le_refl _⟩, ⟨by repeat (first | (with_reducible first | exact HB.out | apply below_alloc | apply pw_below_drewN | apply below_drew1) | exact HB.out)⟩⟩
                · rw [if_neg c27] at H
                  have c27b0 : decide ((t175.size : Int) ≤ 7) = false := decide_eq_false c27
                  have c27b1 : decide (t175.size ≤ 7) = false := decide_eq_false (by omega)
                  clear c27
                  (first | rw [c27b0] | (simp only [i64_w, i32_w]; rw [c27b0]) | skip)
                  have H' := Aside0.mk H
                  clear H
                  go_wp2
                  repeat (go_quiet (fail); try go_wp2)
                  go_meet
                  case rel => exact ⟨_, (false), (by first | rfl | (simp; done) | (simp [*]; done)), H', ⟨by have := HJ5.out; have := HJ13.out; first | omega | exact Nat.le_refl _⟩, ⟨by repeat (first | (with_reducible first | exact HB.out | apply below_alloc | apply pw_below_drewN | apply below_drew1) | exact HB.out)⟩⟩
              case rest =>
                clear HC26
                try clear c1
                try clear c2
                try clear p2
                try clear c9
                try clear c11
                try clear c19
                try clear c19b0
                try clear c19b1
                try clear c25
                try clear c27
                try clear c27b0
                try clear c27b1
                try clear c28
                try clear c28b0
                try clear c28b1
                try clear p2
                obtain ⟨kq, x59_25, rfl, HA, HJ25, HB⟩ := hcut
                cases kq with
                | zero => exact absurd HA.out (by simp [observatorylaw01_DigestLists.j2])
                | succ kj25 =>
                  have H := HA.out
                  clear HA
                  simp only [observatorylaw01_DigestLists.j2] at H
                  by_cases c34 : x59_25 = true
                  · subst c34
                    have H1 : (some false) = some r := by rw [if_pos rfl] at H; exact H
                    clear H
                    have H := H1
                    clear H1
                    obtain rfl := Option.some.inj H
                    go_wp2
                    repeat (go_quiet (fail); try go_wp2)
                    go_ret
                    exact ⟨by first | rfl | (simp [errW_none, errW_some] <;> rfl) | (simp [*, errW_none, errW_some] <;> rfl), by repeat (first | (with_reducible first | exact HB.out | apply below_alloc | apply pw_below_drewN | apply below_drew1) | exact HB.out)⟩
                  · replace c34 := Bool.eq_false_iff.mpr c34
                    subst c34
                    have H1 : (if 0 ≤ (mn (mn (a2.size : Int) (a3.size : Int)) 9) then (if (mn (mn (a2.size : Int) (a3.size : Int)) 9) ≤ (a2.size : Int) then (if 0 ≤ (mn (mn (mn (a2.size : Int) (a3.size : Int)) 9) 6) then (if (mn (mn (mn (a2.size : Int) (a3.size : Int)) 9) 6) ≤ ((a2.extract 0 ((mn (mn (a2.size : Int) (a3.size : Int)) 9) : Int).toNat).size : Int) then (if (mn (mn (mn (a2.size : Int) (a3.size : Int)) 9) 6) ≤ (mn (mn (a2.size : Int) (a3.size : Int)) 9) then (if (mn (mn (a2.size : Int) (a3.size : Int)) 9) ≤ (a3.size : Int) then (if ((a2.extract 0 ((mn (mn (a2.size : Int) (a3.size : Int)) 9) : Int).toNat).extract 0 ((mn (mn (mn (a2.size : Int) (a3.size : Int)) 9) 6) : Int).toNat).size + (a3.extract ((mn (mn (mn (a2.size : Int) (a3.size : Int)) 9) 6) : Int).toNat ((mn (mn (a2.size : Int) (a3.size : Int)) 9) : Int).toNat).size ≤ 9223372036854775807 then (if t172 = true then ((digest_List.f (([a2.extract 0 ((mn (mn (a2.size : Int) (a3.size : Int)) 9) : Int).toNat] : List ByteArray))).bind fun t186 => ((digest_List.f (([((a2.extract 0 ((mn (mn (a2.size : Int) (a3.size : Int)) 9) : Int).toNat).extract 0 ((mn (mn (mn (a2.size : Int) (a3.size : Int)) 9) 6) : Int).toNat) ++ (a3.extract ((mn (mn (mn (a2.size : Int) (a3.size : Int)) 9) 6) : Int).toNat ((mn (mn (a2.size : Int) (a3.size : Int)) 9) : Int).toNat)] : List ByteArray))).bind fun t190 => (some ((t186.toList == t190.toList) == ((a2.extract 0 ((mn (mn (a2.size : Int) (a3.size : Int)) 9) : Int).toNat).toList == (((a2.extract 0 ((mn (mn (a2.size : Int) (a3.size : Int)) 9) : Int).toNat).extract 0 ((mn (mn (mn (a2.size : Int) (a3.size : Int)) 9) 6) : Int).toNat) ++ (a3.extract ((mn (mn (mn (a2.size : Int) (a3.size : Int)) 9) 6) : Int).toNat ((mn (mn (a2.size : Int) (a3.size : Int)) 9) : Int).toNat)).toList))))) else (some false)) else (none)) else (none)) else (none)) else (none)) else (none)) else (none)) else (none)) = some r := by rw [if_neg (show ¬ (false = true) by decide)] at H; exact H
                    clear H
                    have H := H1
                    clear H1
                    obtain ⟨ji35, hji35⟩ : ∃ j_ : Int, (mn (a2.size : Int) (a3.size : Int)) = j_ := ⟨_, rfl⟩
                    replace H : (if 0 ≤ (mn (ji35) 9) then (if (mn (ji35) 9) ≤ (a2.size : Int) then (if 0 ≤ (mn (mn (ji35) 9) 6) then (if (mn (mn (ji35) 9) 6) ≤ ((a2.extract 0 ((mn (ji35) 9) : Int).toNat).size : Int) then (if (mn (mn (ji35) 9) 6) ≤ (mn (ji35) 9) then (if (mn (ji35) 9) ≤ (a3.size : Int) then (if ((a2.extract 0 ((mn (ji35) 9) : Int).toNat).extract 0 ((mn (mn (ji35) 9) 6) : Int).toNat).size + (a3.extract ((mn (mn (ji35) 9) 6) : Int).toNat ((mn (ji35) 9) : Int).toNat).size ≤ 9223372036854775807 then (if t172 = true then ((digest_List.f (([a2.extract 0 ((mn (ji35) 9) : Int).toNat] : List ByteArray))).bind fun t186 => ((digest_List.f (([((a2.extract 0 ((mn (ji35) 9) : Int).toNat).extract 0 ((mn (mn (ji35) 9) 6) : Int).toNat) ++ (a3.extract ((mn (mn (ji35) 9) 6) : Int).toNat ((mn (ji35) 9) : Int).toNat)] : List ByteArray))).bind fun t190 => (some ((t186.toList == t190.toList) == ((a2.extract 0 ((mn (ji35) 9) : Int).toNat).toList == (((a2.extract 0 ((mn (ji35) 9) : Int).toNat).extract 0 ((mn (mn (ji35) 9) 6) : Int).toNat) ++ (a3.extract ((mn (mn (ji35) 9) 6) : Int).toNat ((mn (ji35) 9) : Int).toNat)).toList))))) else (some false)) else (none)) else (none)) else (none)) else (none)) else (none)) else (none)) else (none)) = some r := by first | (rw [hji35] at H; exact H) | (simp only [hji35] at H ⊢; exact H)
                    have hji35n : (if a3.size < a2.size then (a3.size : Int) else (a2.size : Int)) = ji35 := by (rw [← hji35]; unfold mn; (repeat' split) <;> omega)
                    have hji35_ : (if (a3.size : Int) < (a2.size : Int) then (a3.size : Int) else (a2.size : Int)) = ji35 := hji35
                    obtain ⟨ji36, hji36⟩ : ∃ j_ : Int, (mn (ji35) 9) = j_ := ⟨_, rfl⟩
                    replace H : (if 0 ≤ (ji36) then (if (ji36) ≤ (a2.size : Int) then (if 0 ≤ (mn (ji36) 6) then (if (mn (ji36) 6) ≤ ((a2.extract 0 ((ji36) : Int).toNat).size : Int) then (if (mn (ji36) 6) ≤ (ji36) then (if (ji36) ≤ (a3.size : Int) then (if ((a2.extract 0 ((ji36) : Int).toNat).extract 0 ((mn (ji36) 6) : Int).toNat).size + (a3.extract ((mn (ji36) 6) : Int).toNat ((ji36) : Int).toNat).size ≤ 9223372036854775807 then (if t172 = true then ((digest_List.f (([a2.extract 0 ((ji36) : Int).toNat] : List ByteArray))).bind fun t186 => ((digest_List.f (([((a2.extract 0 ((ji36) : Int).toNat).extract 0 ((mn (ji36) 6) : Int).toNat) ++ (a3.extract ((mn (ji36) 6) : Int).toNat ((ji36) : Int).toNat)] : List ByteArray))).bind fun t190 => (some ((t186.toList == t190.toList) == ((a2.extract 0 ((ji36) : Int).toNat).toList == (((a2.extract 0 ((ji36) : Int).toNat).extract 0 ((mn (ji36) 6) : Int).toNat) ++ (a3.extract ((mn (ji36) 6) : Int).toNat ((ji36) : Int).toNat)).toList))))) else (some false)) else (none)) else (none)) else (none)) else (none)) else (none)) else (none)) else (none)) = some r := by first | (rw [hji36] at H; exact H) | (simp only [hji36] at H ⊢; exact H)
                    have hji36_ : (if 9 < (ji35) then 9 else (ji35)) = ji36 := hji36
                    by_cases c37 : 0 ≤ (ji36)
                    · rw [if_pos c37] at H
                      have c37b0 := eq_true c37
                      have c37b1 : decide (0 ≤ (ji36)) = true := decide_eq_true c37
                      clear c37
                      by_cases c38 : (ji36) ≤ (a2.size : Int)
                      · rw [if_pos c38] at H
                        have c38b0 := eq_true c38
                        have c38b1 : decide ((ji36) ≤ (a2.size : Int)) = true := decide_eq_true c38
                        clear c38
                        obtain ⟨ji39, hji39⟩ : ∃ j_ : Int, (mn (ji36) 6) = j_ := ⟨_, rfl⟩
                        replace H : (if 0 ≤ (ji39) then (if (ji39) ≤ ((a2.extract 0 ((ji36) : Int).toNat).size : Int) then (if (ji39) ≤ (ji36) then (if (ji36) ≤ (a3.size : Int) then (if ((a2.extract 0 ((ji36) : Int).toNat).extract 0 ((ji39) : Int).toNat).size + (a3.extract ((ji39) : Int).toNat ((ji36) : Int).toNat).size ≤ 9223372036854775807 then (if t172 = true then ((digest_List.f (([a2.extract 0 ((ji36) : Int).toNat] : List ByteArray))).bind fun t186 => ((digest_List.f (([((a2.extract 0 ((ji36) : Int).toNat).extract 0 ((ji39) : Int).toNat) ++ (a3.extract ((ji39) : Int).toNat ((ji36) : Int).toNat)] : List ByteArray))).bind fun t190 => (some ((t186.toList == t190.toList) == ((a2.extract 0 ((ji36) : Int).toNat).toList == (((a2.extract 0 ((ji36) : Int).toNat).extract 0 ((ji39) : Int).toNat) ++ (a3.extract ((ji39) : Int).toNat ((ji36) : Int).toNat)).toList))))) else (some false)) else (none)) else (none)) else (none)) else (none)) else (none)) = some r := by first | (rw [hji39] at H; exact H) | (simp only [hji39] at H ⊢; exact H)
                        have hji39_ : (if 6 < (ji36) then 6 else (ji36)) = ji39 := hji39
                        by_cases c40 : 0 ≤ (ji39)
                        · rw [if_pos c40] at H
                          have c40b0 := eq_true c40
                          have c40b1 : decide (0 ≤ (ji39)) = true := decide_eq_true c40
                          clear c40
                          by_cases c41 : (ji39) ≤ ((a2.extract 0 ((ji36) : Int).toNat).size : Int)
                          · rw [if_pos c41] at H
                            have c41b0 := eq_true c41
                            have c41b1 : decide ((ji39) ≤ ((a2.extract 0 ((ji36) : Int).toNat).size : Int)) = true := decide_eq_true c41
                            clear c41
                            have c42b0 := eq_true (of_decide_eq_true (by first | (with_reducible assumption) | assumption) : 0 ≤ (ji39))
                            by_cases c43 : (ji39) ≤ (ji36)
                            · rw [if_pos c43] at H
                              have c43b0 := eq_true c43
                              have c43b1 : decide ((ji39) ≤ (ji36)) = true := decide_eq_true c43
                              clear c43
                              by_cases c44 : (ji36) ≤ (a3.size : Int)
                              · rw [if_pos c44] at H
                                have c44b0 := eq_true c44
                                have c44b1 : decide ((ji36) ≤ (a3.size : Int)) = true := decide_eq_true c44
                                clear c44
                                by_cases c45 : ((a2.extract 0 ((ji36) : Int).toNat).extract 0 ((ji39) : Int).toNat).size + (a3.extract ((ji39) : Int).toNat ((ji36) : Int).toNat).size ≤ 9223372036854775807
                                · rw [if_pos c45] at H
                                  have c45b0 := eq_true c45
                                  have c45b1 : decide (((a2.extract 0 ((ji36) : Int).toNat).extract 0 ((ji39) : Int).toNat).size + (a3.extract ((ji39) : Int).toNat ((ji36) : Int).toNat).size ≤ 9223372036854775807) = true := decide_eq_true c45
                                  try have c45b2 : (9223372036854775807 < ((a2.extract 0 ((ji36) : Int).toNat).extract 0 ((ji39) : Int).toNat).size + (a3.extract ((ji39) : Int).toNat ((ji36) : Int).toNat).size) = False := eq_false (Nat.not_lt.2 c45)
                                  by_cases c46 : t172 = true
                                  · subst c46
                                    have H1 : ((digest_List.f (([a2.extract 0 ((ji36) : Int).toNat] : List ByteArray))).bind fun t186 => ((digest_List.f (([((a2.extract 0 ((ji36) : Int).toNat).extract 0 ((ji39) : Int).toNat) ++ (a3.extract ((ji39) : Int).toNat ((ji36) : Int).toNat)] : List ByteArray))).bind fun t190 => (some ((t186.toList == t190.toList) == ((a2.extract 0 ((ji36) : Int).toNat).toList == (((a2.extract 0 ((ji36) : Int).toNat).extract 0 ((ji39) : Int).toNat) ++ (a3.extract ((ji39) : Int).toNat ((ji36) : Int).toNat)).toList))))) = some r := by rw [if_pos rfl] at H; exact H
                                    clear H
                                    have H := H1
                                    clear H1
                                    obtain ⟨y183, hy183⟩ : ∃ y_ : List ByteArray, y_ = (([a2.extract 0 ((ji36) : Int).toNat] : List ByteArray)) := ⟨_, rfl⟩
                                    replace H : ((digest_List.f y183).bind fun t186 => ((digest_List.f (([((a2.extract 0 ((ji36) : Int).toNat).extract 0 ((ji39) : Int).toNat) ++ (a3.extract ((ji39) : Int).toNat ((ji36) : Int).toNat)] : List ByteArray))).bind fun t190 => (some ((t186.toList == t190.toList) == ((a2.extract 0 ((ji36) : Int).toNat).toList == (((a2.extract 0 ((ji36) : Int).toNat).extract 0 ((ji39) : Int).toNat) ++ (a3.extract ((ji39) : Int).toNat ((ji36) : Int).toNat)).toList))))) = some r := by first | (rw [hy183]; with_reducible exact H) | (have H2_ := (Option.bind_some _ _).symm.trans H; rw [hy183]; with_reducible exact H2_) | (have H2_ := (Option.bind_some _ _).symm.trans H; with_reducible exact H2_) | with_reducible exact H | (rw [hy183]; exact H) | exact H
                                    have Ny183 := Aside0.mk hy183
                                    clear hy183
                                    replace H := Option.bind_eq_some_iff.mp H
                                    obtain ⟨t186, A470, H⟩ := H
                                    replace H : ((digest_List.f (([((a2.extract 0 ((ji36) : Int).toNat).extract 0 ((ji39) : Int).toNat) ++ (a3.extract ((ji39) : Int).toNat ((ji36) : Int).toNat)] : List ByteArray))).bind fun t190 => (some ((t186.toList == t190.toList) == ((a2.extract 0 ((ji36) : Int).toNat).toList == (((a2.extract 0 ((ji36) : Int).toNat).extract 0 ((ji39) : Int).toNat) ++ (a3.extract ((ji39) : Int).toNat ((ji36) : Int).toNat)).toList)))) = some r := H
                                    have A47 := Aside0.mk A470
                                    clear A470
                                    obtain ⟨y187, hy187⟩ : ∃ y_ : List ByteArray, y_ = (([((a2.extract 0 ((ji36) : Int).toNat).extract 0 ((ji39) : Int).toNat) ++ (a3.extract ((ji39) : Int).toNat ((ji36) : Int).toNat)] : List ByteArray)) := ⟨_, rfl⟩
                                    replace H : ((digest_List.f y187).bind fun t190 => (some ((t186.toList == t190.toList) == ((a2.extract 0 ((ji36) : Int).toNat).toList == (((a2.extract 0 ((ji36) : Int).toNat).extract 0 ((ji39) : Int).toNat) ++ (a3.extract ((ji39) : Int).toNat ((ji36) : Int).toNat)).toList)))) = some r := by first | (rw [hy187]; with_reducible exact H) | (have H2_ := (Option.bind_some _ _).symm.trans H; rw [hy187]; with_reducible exact H2_) | (have H2_ := (Option.bind_some _ _).symm.trans H; with_reducible exact H2_) | with_reducible exact H | (rw [hy187]; exact H) | exact H
                                    have Ny187 := Aside0.mk hy187
                                    clear hy187
                                    replace H := Option.bind_eq_some_iff.mp H
                                    obtain ⟨t190, A480, H⟩ := H
                                    replace H : (some ((t186.toList == t190.toList) == ((a2.extract 0 ((ji36) : Int).toNat).toList == (((a2.extract 0 ((ji36) : Int).toNat).extract 0 ((ji39) : Int).toNat) ++ (a3.extract ((ji39) : Int).toNat ((ji36) : Int).toNat)).toList))) = some r := H
                                    have A48 := Aside0.mk A480
                                    clear A480
                                    obtain rfl := Option.some.inj H
                                    go_wp2_with (first | ((with_reducible refine gate_dst (N := 81) rfl ?_); (try (refine gate_guard (by rfl) ?_; dsimp only)); refine Kd.R_lit Kd.string _ 9 ?hg (N := 81) ?hd (xs := ([a2.extract 0 ((ji36) : Int).toNat] : List ByteArray)) (inner := [.string (a2.extract 0 ((ji36) : Int).toNat)]) (ok := fun _ => True) (okp := fun _ => True) ?hr ?hp (fun _ hk => hk) trivial (Below.refl _ _) (Nat.le_refl _) (by simp) ?_; (case hd => rfl); (case hg => rfl); (case hr => first | (go_simp; done) | (go_simp; rfl)); (case hp => exact (Reps.one (show Kd.M Kd.string _ _ _ (a2.extract 0 ((ji36) : Int).toNat) [.string (a2.extract 0 ((ji36) : Int).toNat)] from rfl) (Reps.none _ _))); intro v184 w49 ho50 hb hg_ hnew_; clear hg_ hnew_; (first | rw [← Ny183.out] at ho50 | (simp only [Int.reduceToNat] at ho50; rw [← Ny183.out] at ho50)); have n0_ := Aside0.mk (Kd.R_lower ho50 (below_size (by repeat (first | (with_reducible first | exact HB.out | apply below_alloc | apply pw_below_drewN | apply below_drew1) | exact HB.out)))); have n1_ := Aside0.mk (below_step (by repeat (first | (with_reducible first | exact HB.out | apply below_alloc | apply pw_below_drewN | apply below_drew1) | exact HB.out)) hb); clear HB; have HO185 := n0_; have HB := n1_; clear n0_ n1_; clear hb ho50; obtain ⟨Ao51, co51, eo51⟩ := Kd.R_slice HO185.out; subst eo51) | (go_at_call 14; (with_reducible refine (digest_List.calls _ _ y183 t186 _ ?side1 ?side2 ?side3 A47.out).mono ?_); (case side1 => repeat (first | exact (Kd.R_reads' HO185.out).2.2 | (with_reducible refine Kd.C_alloc ?_ _) | (with_reducible refine Kd.C_drewN ?_ _) | (with_reducible refine Kd.C_drew ?_))); (case side2 => exact (Kd.R_reads' HO185.out).2.1); (case side3 => exact HT.out.below (by repeat (first | (with_reducible first | exact HB.out | apply below_alloc | apply pw_below_drewN | apply below_drew1) | exact HB.out))); rintro e w52 ⟨rfl, hb⟩; have n0_ := Aside0.mk (Kd.R_below (by (with_reducible repeat (first | apply Kd.R_alloc | apply Kd.R_drewN | apply Kd.R_drew)); exact HO185.out) hb); have n1_ := Aside0.mk (below_step (by repeat (first | (with_reducible first | exact HB.out | apply below_alloc | apply pw_below_drewN | apply below_drew1) | exact HB.out)) hb); clear HO185; clear HB; have HO185 := n0_; have HB := n1_; clear n0_ n1_; (try clear hb); (try clear hb2); (try clear hk); (try clear hi); (try clear A47)) | ((with_reducible refine gate_dst (N := 84) rfl ?_); (try (refine gate_guard (by rfl) ?_; dsimp only)); refine Kd.R_lit Kd.string _ 9 ?hg (N := 84) ?hd (xs := ([((a2.extract 0 ((ji36) : Int).toNat).extract 0 ((ji39) : Int).toNat) ++ (a3.extract ((ji39) : Int).toNat ((ji36) : Int).toNat)] : List ByteArray)) (inner := [.string (((a2.extract 0 ((ji36) : Int).toNat).extract 0 ((ji39) : Int).toNat) ++ (a3.extract ((ji39) : Int).toNat ((ji36) : Int).toNat))]) (ok := fun _ => True) (okp := fun _ => True) ?hr ?hp (fun _ hk => hk) trivial (Below.refl _ _) (Nat.le_refl _) (by simp) ?_; (case hd => rfl); (case hg => rfl); (case hr => first | (go_simp; done) | (go_simp; rfl)); (case hp => exact (Reps.one (show Kd.M Kd.string _ _ _ (((a2.extract 0 ((ji36) : Int).toNat).extract 0 ((ji39) : Int).toNat) ++ (a3.extract ((ji39) : Int).toNat ((ji36) : Int).toNat)) [.string (((a2.extract 0 ((ji36) : Int).toNat).extract 0 ((ji39) : Int).toNat) ++ (a3.extract ((ji39) : Int).toNat ((ji36) : Int).toNat))] from rfl) (Reps.none _ _))); intro v188 w53 ho54 hb hg_ hnew_; clear hg_ hnew_; (first | rw [← Ny187.out] at ho54 | (simp only [Int.reduceToNat] at ho54; rw [← Ny187.out] at ho54)); have n0_ := Aside0.mk (Kd.R_elder' (by (with_reducible repeat (first | apply Kd.R_alloc | apply Kd.R_drewN | apply Kd.R_drew)); exact HO185.out) (Kd.R_base ho54) hb); have n1_ := Aside0.mk (Kd.R_lower (Kd.R_new' ho54 (Kd.R_lt (by (with_reducible repeat (first | apply Kd.R_alloc | apply Kd.R_drewN | apply Kd.R_drew)); exact HO185.out))) (below_size (by repeat (first | (with_reducible first | exact HB.out | apply below_alloc | apply pw_below_drewN | apply below_drew1) | exact HB.out)))); have n2_ := Aside0.mk (below_step (by repeat (first | (with_reducible first | exact HB.out | apply below_alloc | apply pw_below_drewN | apply below_drew1) | exact HB.out)) hb); clear HO185; clear HB; have HO185 := n0_; have HO189 := n1_; have HB := n2_; clear n0_ n1_ n2_; clear hb ho54; obtain ⟨Ao55, co55, eo55⟩ := Kd.R_slice HO189.out; subst eo55) | (go_at_call 14; (with_reducible refine (digest_List.calls _ _ y187 t190 _ ?side1 ?side2 ?side3 A48.out).mono ?_); (case side1 => repeat (first | exact (Kd.R_reads' HO189.out).2.2 | (with_reducible refine Kd.C_alloc ?_ _) | (with_reducible refine Kd.C_drewN ?_ _) | (with_reducible refine Kd.C_drew ?_))); (case side2 => exact (Kd.R_reads' HO189.out).2.1); (case side3 => exact HT.out.below (by repeat (first | (with_reducible first | exact HB.out | apply below_alloc | apply pw_below_drewN | apply below_drew1) | exact HB.out))); rintro e w56 ⟨rfl, hb⟩; have n0_ := Aside0.mk (Kd.R_below (by (with_reducible repeat (first | apply Kd.R_alloc | apply Kd.R_drewN | apply Kd.R_drew)); exact HO185.out) hb); have n1_ := Aside0.mk (Kd.R_below (by (with_reducible repeat (first | apply Kd.R_alloc | apply Kd.R_drewN | apply Kd.R_drew)); exact HO189.out) hb); have n2_ := Aside0.mk (below_step (by repeat (first | (with_reducible first | exact HB.out | apply below_alloc | apply pw_below_drewN | apply below_drew1) | exact HB.out)) hb); clear HO185; clear HO189; clear HB; have HO185 := n0_; have HO189 := n1_; have HB := n2_; clear n0_ n1_ n2_; (try clear hb); (try clear hb2); (try clear hk); (try clear hi); (try clear A48)))
                                    repeat (go_quiet (first | ((with_reducible refine gate_dst (N := 81) rfl ?_); (try (refine gate_guard (by rfl) ?_; dsimp only)); refine Kd.R_lit Kd.string _ 9 ?hg (N := 81) ?hd (xs := ([a2.extract 0 ((ji36) : Int).toNat] : List ByteArray)) (inner := [.string (a2.extract 0 ((ji36) : Int).toNat)]) (ok := fun _ => True) (okp := fun _ => True) ?hr ?hp (fun _ hk => hk) trivial (Below.refl _ _) (Nat.le_refl _) (by simp) ?_; (case hd => rfl); (case hg => rfl); (case hr => first | (go_simp; done) | (go_simp; rfl)); (case hp => exact (Reps.one (show Kd.M Kd.string _ _ _ (a2.extract 0 ((ji36) : Int).toNat) [.string (a2.extract 0 ((ji36) : Int).toNat)] from rfl) (Reps.none _ _))); intro v184 w49 ho50 hb hg_ hnew_; clear hg_ hnew_; (first | rw [← Ny183.out] at ho50 | (simp only [Int.reduceToNat] at ho50; rw [← Ny183.out] at ho50)); have n0_ := Aside0.mk (Kd.R_lower ho50 (below_size (by repeat (first | (with_reducible first | exact HB.out | apply below_alloc | apply pw_below_drewN | apply below_drew1) | exact HB.out)))); have n1_ := Aside0.mk (below_step (by repeat (first | (with_reducible first | exact HB.out | apply below_alloc | apply pw_below_drewN | apply below_drew1) | exact HB.out)) hb); clear HB; have HO185 := n0_; have HB := n1_; clear n0_ n1_; clear hb ho50; obtain ⟨Ao51, co51, eo51⟩ := Kd.R_slice HO185.out; subst eo51) | (go_at_call 14; (with_reducible refine (digest_List.calls _ _ y183 t186 _ ?side1 ?side2 ?side3 A47.out).mono ?_); (case side1 => repeat (first | exact (Kd.R_reads' HO185.out).2.2 | (with_reducible refine Kd.C_alloc ?_ _) | (with_reducible refine Kd.C_drewN ?_ _) | (with_reducible refine Kd.C_drew ?_))); (case side2 => exact (Kd.R_reads' HO185.out).2.1); (case side3 => exact HT.out.below (by repeat (first | (with_reducible first | exact HB.out | apply below_alloc | apply pw_below_drewN | apply below_drew1) | exact HB.out))); rintro e w52 ⟨rfl, hb⟩; have n0_ := Aside0.mk (Kd.R_below (by (with_reducible repeat (first | apply Kd.R_alloc | apply Kd.R_drewN | apply Kd.R_drew)); exact HO185.out) hb); have n1_ := Aside0.mk (below_step (by repeat (first | (with_reducible first | exact HB.out | apply below_alloc | apply pw_below_drewN | apply below_drew1) | exact HB.out)) hb); clear HO185; clear HB; have HO185 := n0_; have HB := n1_; clear n0_ n1_; (try clear hb); (try clear hb2); (try clear hk); (try clear hi); (try clear A47)) | ((with_reducible refine gate_dst (N := 84) rfl ?_); (try (refine gate_guard (by rfl) ?_; dsimp only)); refine Kd.R_lit Kd.string _ 9 ?hg (N := 84) ?hd (xs := ([((a2.extract 0 ((ji36) : Int).toNat).extract 0 ((ji39) : Int).toNat) ++ (a3.extract ((ji39) : Int).toNat ((ji36) : Int).toNat)] : List ByteArray)) (inner := [.string (((a2.extract 0 ((ji36) : Int).toNat).extract 0 ((ji39) : Int).toNat) ++ (a3.extract ((ji39) : Int).toNat ((ji36) : Int).toNat))]) (ok := fun _ => True) (okp := fun _ => True) ?hr ?hp (fun _ hk => hk) trivial (Below.refl _ _) (Nat.le_refl _) (by simp) ?_; (case hd => rfl); (case hg => rfl); (case hr => first | (go_simp; done) | (go_simp; rfl)); (case hp => exact (Reps.one (show Kd.M Kd.string _ _ _ (((a2.extract 0 ((ji36) : Int).toNat).extract 0 ((ji39) : Int).toNat) ++ (a3.extract ((ji39) : Int).toNat ((ji36) : Int).toNat)) [.string (((a2.extract 0 ((ji36) : Int).toNat).extract 0 ((ji39) : Int).toNat) ++ (a3.extract ((ji39) : Int).toNat ((ji36) : Int).toNat))] from rfl) (Reps.none _ _))); intro v188 w53 ho54 hb hg_ hnew_; clear hg_ hnew_; (first | rw [← Ny187.out] at ho54 | (simp only [Int.reduceToNat] at ho54; rw [← Ny187.out] at ho54)); have n0_ := Aside0.mk (Kd.R_elder' (by (with_reducible repeat (first | apply Kd.R_alloc | apply Kd.R_drewN | apply Kd.R_drew)); exact HO185.out) (Kd.R_base ho54) hb); have n1_ := Aside0.mk (Kd.R_lower (Kd.R_new' ho54 (Kd.R_lt (by (with_reducible repeat (first | apply Kd.R_alloc | apply Kd.R_drewN | apply Kd.R_drew)); exact HO185.out))) (below_size (by repeat (first | (with_reducible first | exact HB.out | apply below_alloc | apply pw_below_drewN | apply below_drew1) | exact HB.out)))); have n2_ := Aside0.mk (below_step (by repeat (first | (with_reducible first | exact HB.out | apply below_alloc | apply pw_below_drewN | apply below_drew1) | exact HB.out)) hb); clear HO185; clear HB; have HO185 := n0_; have HO189 := n1_; have HB := n2_; clear n0_ n1_ n2_; clear hb ho54; obtain ⟨Ao55, co55, eo55⟩ := Kd.R_slice HO189.out; subst eo55) | (go_at_call 14; (with_reducible refine (digest_List.calls _ _ y187 t190 _ ?side1 ?side2 ?side3 A48.out).mono ?_); (case side1 => repeat (first | exact (Kd.R_reads' HO189.out).2.2 | (with_reducible refine Kd.C_alloc ?_ _) | (with_reducible refine Kd.C_drewN ?_ _) | (with_reducible refine Kd.C_drew ?_))); (case side2 => exact (Kd.R_reads' HO189.out).2.1); (case side3 => exact HT.out.below (by repeat (first | (with_reducible first | exact HB.out | apply below_alloc | apply pw_below_drewN | apply below_drew1) | exact HB.out))); rintro e w56 ⟨rfl, hb⟩; have n0_ := Aside0.mk (Kd.R_below (by (with_reducible repeat (first | apply Kd.R_alloc | apply Kd.R_drewN | apply Kd.R_drew)); exact HO185.out) hb); have n1_ := Aside0.mk (Kd.R_below (by (with_reducible repeat (first | apply Kd.R_alloc | apply Kd.R_drewN | apply Kd.R_drew)); exact HO189.out) hb); have n2_ := Aside0.mk (below_step (by repeat (first | (with_reducible first | exact HB.out | apply below_alloc | apply pw_below_drewN | apply below_drew1) | exact HB.out)) hb); clear HO185; clear HO189; clear HB; have HO185 := n0_; have HO189 := n1_; have HB := n2_; clear n0_ n1_ n2_; (try clear hb); (try clear hb2); (try clear hk); (try clear hi); (try clear A48))); try go_wp2_with (first | ((with_reducible refine gate_dst (N := 81) rfl ?_); (try (refine gate_guard (by rfl) ?_; dsimp only)); refine Kd.R_lit Kd.string _ 9 ?hg (N := 81) ?hd (xs := ([a2.extract 0 ((ji36) : Int).toNat] : List ByteArray)) (inner := [.string (a2.extract 0 ((ji36) : Int).toNat)]) (ok := fun _ => True) (okp := fun _ => True) ?hr ?hp (fun _ hk => hk) trivial (Below.refl _ _) (Nat.le_refl _) (by simp) ?_; (case hd => rfl); (case hg => rfl); (case hr => first | (go_simp; done) | (go_simp; rfl)); (case hp => exact (Reps.one (show Kd.M Kd.string _ _ _ (a2.extract 0 ((ji36) : Int).toNat) [.string (a2.extract 0 ((ji36) : Int).toNat)] from rfl) (Reps.none _ _))); intro v184 w49 ho50 hb hg_ hnew_; clear hg_ hnew_; (first | rw [← Ny183.out] at ho50 | (simp only [Int.reduceToNat] at ho50; rw [← Ny183.out] at ho50)); have n0_ := Aside0.mk (Kd.R_lower ho50 (below_size (by repeat (first | (with_reducible first | exact HB.out | apply below_alloc | apply pw_below_drewN | apply below_drew1) | exact HB.out)))); have n1_ := Aside0.mk (below_step (by repeat (first | (with_reducible first | exact HB.out | apply below_alloc | apply pw_below_drewN | apply below_drew1) | exact HB.out)) hb); clear HB; have HO185 := n0_; have HB := n1_; clear n0_ n1_; clear hb ho50; obtain ⟨Ao51, co51, eo51⟩ := Kd.R_slice HO185.out; subst eo51) | (go_at_call 14; (with_reducible refine (digest_List.calls _ _ y183 t186 _ ?side1 ?side2 ?side3 A47.out).mono ?_); (case side1 => repeat (first | exact (Kd.R_reads' HO185.out).2.2 | (with_reducible refine Kd.C_alloc ?_ _) | (with_reducible refine Kd.C_drewN ?_ _) | (with_reducible refine Kd.C_drew ?_))); (case side2 => exact (Kd.R_reads' HO185.out).2.1); (case side3 => exact HT.out.below (by repeat (first | (with_reducible first | exact HB.out | apply below_alloc | apply pw_below_drewN | apply below_drew1) | exact HB.out))); rintro e w52 ⟨rfl, hb⟩; have n0_ := Aside0.mk (Kd.R_below (by (with_reducible repeat (first | apply Kd.R_alloc | apply Kd.R_drewN | apply Kd.R_drew)); exact HO185.out) hb); have n1_ := Aside0.mk (below_step (by repeat (first | (with_reducible first | exact HB.out | apply below_alloc | apply pw_below_drewN | apply below_drew1) | exact HB.out)) hb); clear HO185; clear HB; have HO185 := n0_; have HB := n1_; clear n0_ n1_; (try clear hb); (try clear hb2); (try clear hk); (try clear hi); (try clear A47)) | ((with_reducible refine gate_dst (N := 84) rfl ?_); (try (refine gate_guard (by rfl) ?_; dsimp only)); refine Kd.R_lit Kd.string _ 9 ?hg (N := 84) ?hd (xs := ([((a2.extract 0 ((ji36) : Int).toNat).extract 0 ((ji39) : Int).toNat) ++ (a3.extract ((ji39) : Int).toNat ((ji36) : Int).toNat)] : List ByteArray)) (inner := [.string (((a2.extract 0 ((ji36) : Int).toNat).extract 0 ((ji39) : Int).toNat) ++ (a3.extract ((ji39) : Int).toNat ((ji36) : Int).toNat))]) (ok := fun _ => True) (okp := fun _ => True) ?hr ?hp (fun _ hk => hk) trivial (Below.refl _ _) (Nat.le_refl _) (by simp) ?_; (case hd => rfl); (case hg => rfl); (case hr => first | (go_simp; done) | (go_simp; rfl)); (case hp => exact (Reps.one (show Kd.M Kd.string _ _ _ (((a2.extract 0 ((ji36) : Int).toNat).extract 0 ((ji39) : Int).toNat) ++ (a3.extract ((ji39) : Int).toNat ((ji36) : Int).toNat)) [.string (((a2.extract 0 ((ji36) : Int).toNat).extract 0 ((ji39) : Int).toNat) ++ (a3.extract ((ji39) : Int).toNat ((ji36) : Int).toNat))] from rfl) (Reps.none _ _))); intro v188 w53 ho54 hb hg_ hnew_; clear hg_ hnew_; (first | rw [← Ny187.out] at ho54 | (simp only [Int.reduceToNat] at ho54; rw [← Ny187.out] at ho54)); have n0_ := Aside0.mk (Kd.R_elder' (by (with_reducible repeat (first | apply Kd.R_alloc | apply Kd.R_drewN | apply Kd.R_drew)); exact HO185.out) (Kd.R_base ho54) hb); have n1_ := Aside0.mk (Kd.R_lower (Kd.R_new' ho54 (Kd.R_lt (by (with_reducible repeat (first | apply Kd.R_alloc | apply Kd.R_drewN | apply Kd.R_drew)); exact HO185.out))) (below_size (by repeat (first | (with_reducible first | exact HB.out | apply below_alloc | apply pw_below_drewN | apply below_drew1) | exact HB.out)))); have n2_ := Aside0.mk (below_step (by repeat (first | (with_reducible first | exact HB.out | apply below_alloc | apply pw_below_drewN | apply below_drew1) | exact HB.out)) hb); clear HO185; clear HB; have HO185 := n0_; have HO189 := n1_; have HB := n2_; clear n0_ n1_ n2_; clear hb ho54; obtain ⟨Ao55, co55, eo55⟩ := Kd.R_slice HO189.out; subst eo55) | (go_at_call 14; (with_reducible refine (digest_List.calls _ _ y187 t190 _ ?side1 ?side2 ?side3 A48.out).mono ?_); (case side1 => repeat (first | exact (Kd.R_reads' HO189.out).2.2 | (with_reducible refine Kd.C_alloc ?_ _) | (with_reducible refine Kd.C_drewN ?_ _) | (with_reducible refine Kd.C_drew ?_))); (case side2 => exact (Kd.R_reads' HO189.out).2.1); (case side3 => exact HT.out.below (by repeat (first | (with_reducible first | exact HB.out | apply below_alloc | apply pw_below_drewN | apply below_drew1) | exact HB.out))); rintro e w56 ⟨rfl, hb⟩; have n0_ := Aside0.mk (Kd.R_below (by (with_reducible repeat (first | apply Kd.R_alloc | apply Kd.R_drewN | apply Kd.R_drew)); exact HO185.out) hb); have n1_ := Aside0.mk (Kd.R_below (by (with_reducible repeat (first | apply Kd.R_alloc | apply Kd.R_drewN | apply Kd.R_drew)); exact HO189.out) hb); have n2_ := Aside0.mk (below_step (by repeat (first | (with_reducible first | exact HB.out | apply below_alloc | apply pw_below_drewN | apply below_drew1) | exact HB.out)) hb); clear HO185; clear HO189; clear HB; have HO185 := n0_; have HO189 := n1_; have HB := n2_; clear n0_ n1_ n2_; (try clear hb); (try clear hb2); (try clear hk); (try clear hi); (try clear A48))))
                                    go_ret
                                    exact ⟨by first | rfl | (simp [errW_none, errW_some] <;> rfl) | (simp only [← hji35, ← hji36, ← hji39]; first | rfl | (simp [errW_none, errW_some] <;> rfl)) | (simp [*, errW_none, errW_some] <;> rfl), by repeat (first | (with_reducible first | exact HB.out | apply below_alloc | apply pw_below_drewN | apply below_drew1) | exact HB.out)⟩
                                  · replace c46 := Bool.eq_false_iff.mpr c46
                                    subst c46
                                    have H1 : (some false) = some r := by rw [if_neg (show ¬ (false = true) by decide)] at H; exact H
                                    clear H
                                    have H := H1
                                    clear H1
                                    obtain rfl := Option.some.inj H
                                    go_wp2
                                    repeat (go_quiet (fail); try go_wp2)
                                    go_ret
                                    exact ⟨by first | rfl | (simp [errW_none, errW_some] <;> rfl) | (simp only [← hji35, ← hji36, ← hji39]; first | rfl | (simp [errW_none, errW_some] <;> rfl)) | (simp [*, errW_none, errW_some] <;> rfl), by repeat (first | (with_reducible first | exact HB.out | apply below_alloc | apply pw_below_drewN | apply below_drew1) | exact HB.out)⟩
                                · rw [if_neg c45] at H
                                  exact absurd H (by simp)
                              · rw [if_neg c44] at H
                                exact absurd H (by simp)
                            · rw [if_neg c43] at H
                              exact absurd H (by simp)
                          · rw [if_neg c41] at H
                            exact absurd H (by simp)
                        · rw [if_neg c40] at H
                          exact absurd H (by simp)
                      · rw [if_neg c38] at H
                        exact absurd H (by simp)
                    · rw [if_neg c37] at H
                      exact absurd H (by simp)

end Go.Proofs.YtdflcicgniediaaDoor.P
