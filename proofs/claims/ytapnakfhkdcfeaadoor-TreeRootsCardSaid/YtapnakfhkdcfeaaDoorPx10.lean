-- printed by wip/tools/oprint.py over the kit's print.py: this session's own program
import Derived.Test.YtapnakfhkdcfeaaDoorPx0
import Derived.Test.YtapnakfhkdcfeaaDoorPx1
import Derived.Test.YtapnakfhkdcfeaaDoorPx2
import Derived.Test.YtapnakfhkdcfeaaDoorPx3
import Derived.Test.YtapnakfhkdcfeaaDoorPx4
import Derived.Test.YtapnakfhkdcfeaaDoorPx6
import Derived.Test.YtapnakfhkdcfeaaDoorPx8
namespace Go.Proofs.YtapnakfhkdcfeaaDoor.P
open Go.RowKit Go.Proofs.YtapnakfhkdcfeaaDoorW.PrintWords Go.Proofs.YtapnakfhkdcfeaaDoorW.PrintLast Go.Proofs.YtapnakfhkdcfeaaDoorW.PrintMore
attribute [local go_sem] max2_int min2_int max_two min_two max_three min_three max_four min_four   -- for this text's walks alone
set_option linter.unusedVariables false
set_option linter.unusedSimpArgs false
open Go.Proofs.YtapnakfhkdcfeaaDoor.Dg

/-! ### observatorylaw02_TreeRoots: function 5 -/
mutual
def observatorylaw02_TreeRoots.j0 : Nat → List ByteArray → List ByteArray → Bool → Bool → Option (Bool)
 | 0, _, _, _, _ => none
 | k + 1, x0, x1, x5, x25 => if x25 = true then (some x5) else ((tree_Root.f x0).bind fun bt421 => ((tree_Root.f x1).bind fun bt423 => ((observatorylaw02_good.f k x0).bind fun t425 => (if ((bt421.2 == 0) != t425) = true then (observatorylaw02_TreeRoots.j1 k x0 x1 x5 bt421.1 bt421.2 bt423.1 bt423.2 true) else ((observatorylaw02_good.f k x1).bind fun t426 => (if ((bt423.2 == 0) != t426) = true then (observatorylaw02_TreeRoots.j1 k x0 x1 x5 bt421.1 bt421.2 bt423.1 bt423.2 true) else (if bt421.2 = 0 then (observatorylaw02_TreeRoots.j1 k x0 x1 x5 bt421.1 bt421.2 bt423.1 bt423.2 false) else (if bt421.2 = 1 then (observatorylaw02_TreeRoots.j1 k x0 x1 x5 bt421.1 bt421.2 bt423.1 bt423.2 (bt421.1.toList != ([] : List UInt8))) else (observatorylaw02_TreeRoots.j1 k x0 x1 x5 bt421.1 bt421.2 bt423.1 bt423.2 true)))))))))
def observatorylaw02_TreeRoots.j1 : Nat → List ByteArray → List ByteArray → Bool → ByteArray → Int → ByteArray → Int → Bool → Option (Bool)
 | 0, _, _, _, _, _, _, _, _ => none
 | k + 1, x0, x1, x5, x6, x7, x8, x9, x60 => if x60 = true then (some false) else (if x7 = 0 then (observatorylaw02_TreeRoots.j2 k x0 x1 x5 x6 x8 (x9 != 0)) else (observatorylaw02_TreeRoots.j2 k x0 x1 x5 x6 x8 true))
def observatorylaw02_TreeRoots.j2 : Nat → List ByteArray → List ByteArray → Bool → ByteArray → ByteArray → Bool → Option (Bool)
 | 0, _, _, _, _, _, _ => none
 | k + 1, x0, x1, x5, x6, x8, x66 => if x66 = true then (some x5) else ((observatoryref01_Same.f k x0 x1).bind fun t427 => (if t427 = true then (if x5 = true then (some (x6.toList == x8.toList)) else (some false)) else (if x5 = true then (if x6.toList = x8.toList then ((observatoryref02_Texts.f k x0).bind fun t428 => ((observatoryref02_Texts.f k x1).bind fun t431 => (if t428.length + t431.length < 8796093022208 then ((observatoryref02_Shown.f k (t428 ++ t431)).bind fun t437 => (some t437)) else (none)))) else (some true)) else (some false))))
end
def observatorylaw02_TreeRoots.f (k : Nat) (l0 : List ByteArray) (l1 : List ByteArray) : Option (Bool) := (observatorylaw02_head.f k).bind fun t418 => ((observatorylaw02_few.f k l0).bind fun t419 => (if t419 = true then ((observatorylaw02_few.f k l1).bind fun t420 => (if t420 = true then (observatorylaw02_TreeRoots.j0 k l0 l1 t418 ((l0.length : Int) != (l1.length : Int))) else (observatorylaw02_TreeRoots.j0 k l0 l1 t418 true))) else (observatorylaw02_TreeRoots.j0 k l0 l1 t418 true)))
theorem observatorylaw02_TreeRoots.mono_l : ∀ k, (∀ y0 y1 y2 y3, LeO (observatorylaw02_TreeRoots.j0 k y0 y1 y2 y3) (observatorylaw02_TreeRoots.j0 (k + 1) y0 y1 y2 y3)) ∧ (∀ y0 y1 y2 y3 y4 y5 y6 y7, LeO (observatorylaw02_TreeRoots.j1 k y0 y1 y2 y3 y4 y5 y6 y7) (observatorylaw02_TreeRoots.j1 (k + 1) y0 y1 y2 y3 y4 y5 y6 y7)) ∧ (∀ y0 y1 y2 y3 y4 y5, LeO (observatorylaw02_TreeRoots.j2 k y0 y1 y2 y3 y4 y5) (observatorylaw02_TreeRoots.j2 (k + 1) y0 y1 y2 y3 y4 y5))
 | 0 => ⟨fun _ _ _ _ r h => by simp [observatorylaw02_TreeRoots.j0] at h, fun _ _ _ _ _ _ _ _ r h => by simp [observatorylaw02_TreeRoots.j1] at h, fun _ _ _ _ _ _ r h => by simp [observatorylaw02_TreeRoots.j2] at h⟩
 | k + 1 => by
  obtain ⟨ih0, ih1, ih2⟩ := observatorylaw02_TreeRoots.mono_l k
  refine ⟨?_, ?_, ?_⟩
  ·
   intro y0 y1 y2 y3
   unfold observatorylaw02_TreeRoots.j0
   repeat' first
   | (with_reducible exact ih0 _ _ _ _)
   | (with_reducible exact ih1 _ _ _ _ _ _ _ _)
   | (with_reducible exact ih2 _ _ _ _ _ _)
   | (with_reducible exact observatorylaw02_few.mono _ _)
   | (with_reducible exact observatorylaw02_good.mono _ _)
   | (with_reducible exact observatorylaw02_head.mono _)
   | (with_reducible exact observatoryref01_Same.mono _ _ _)
   | (with_reducible exact observatoryref02_Shown.mono _ _)
   | (with_reducible exact observatoryref02_Texts.mono _ _)
   | (with_reducible exact LeO.refl _)
   | (with_reducible exact LeO.none _)
   | (with_reducible refine LeO.ite ?_ ?_)
   | (with_reducible refine LeO.bind ?_ (fun _ => ?_))
   | exact ih0 _ _ _ _
   | exact ih1 _ _ _ _ _ _ _ _
   | exact ih2 _ _ _ _ _ _
   | exact observatorylaw02_few.mono _ _
   | exact observatorylaw02_good.mono _ _
   | exact observatorylaw02_head.mono _
   | exact observatoryref01_Same.mono _ _ _
   | exact observatoryref02_Shown.mono _ _
   | exact observatoryref02_Texts.mono _ _
   | exact LeO.none _
   | refine LeO.ite ?_ ?_
   | refine LeO.bind ?_ (fun _ => ?_)
  ·
   intro y0 y1 y2 y3 y4 y5 y6 y7
   unfold observatorylaw02_TreeRoots.j1
   repeat' first
   | (with_reducible exact ih0 _ _ _ _)
   | (with_reducible exact ih1 _ _ _ _ _ _ _ _)
   | (with_reducible exact ih2 _ _ _ _ _ _)
   | (with_reducible exact observatorylaw02_few.mono _ _)
   | (with_reducible exact observatorylaw02_good.mono _ _)
   | (with_reducible exact observatorylaw02_head.mono _)
   | (with_reducible exact observatoryref01_Same.mono _ _ _)
   | (with_reducible exact observatoryref02_Shown.mono _ _)
   | (with_reducible exact observatoryref02_Texts.mono _ _)
   | (with_reducible exact LeO.refl _)
   | (with_reducible exact LeO.none _)
   | (with_reducible refine LeO.ite ?_ ?_)
   | (with_reducible refine LeO.bind ?_ (fun _ => ?_))
   | exact ih0 _ _ _ _
   | exact ih1 _ _ _ _ _ _ _ _
   | exact ih2 _ _ _ _ _ _
   | exact observatorylaw02_few.mono _ _
   | exact observatorylaw02_good.mono _ _
   | exact observatorylaw02_head.mono _
   | exact observatoryref01_Same.mono _ _ _
   | exact observatoryref02_Shown.mono _ _
   | exact observatoryref02_Texts.mono _ _
   | exact LeO.none _
   | refine LeO.ite ?_ ?_
   | refine LeO.bind ?_ (fun _ => ?_)
  ·
   intro y0 y1 y2 y3 y4 y5
   unfold observatorylaw02_TreeRoots.j2
   repeat' first
   | (with_reducible exact ih0 _ _ _ _)
   | (with_reducible exact ih1 _ _ _ _ _ _ _ _)
   | (with_reducible exact ih2 _ _ _ _ _ _)
   | (with_reducible exact observatorylaw02_few.mono _ _)
   | (with_reducible exact observatorylaw02_good.mono _ _)
   | (with_reducible exact observatorylaw02_head.mono _)
   | (with_reducible exact observatoryref01_Same.mono _ _ _)
   | (with_reducible exact observatoryref02_Shown.mono _ _)
   | (with_reducible exact observatoryref02_Texts.mono _ _)
   | (with_reducible exact LeO.refl _)
   | (with_reducible exact LeO.none _)
   | (with_reducible refine LeO.ite ?_ ?_)
   | (with_reducible refine LeO.bind ?_ (fun _ => ?_))
   | exact ih0 _ _ _ _
   | exact ih1 _ _ _ _ _ _ _ _
   | exact ih2 _ _ _ _ _ _
   | exact observatorylaw02_few.mono _ _
   | exact observatorylaw02_good.mono _ _
   | exact observatorylaw02_head.mono _
   | exact observatoryref01_Same.mono _ _ _
   | exact observatoryref02_Shown.mono _ _
   | exact observatoryref02_Texts.mono _ _
   | exact LeO.none _
   | refine LeO.ite ?_ ?_
   | refine LeO.bind ?_ (fun _ => ?_)
theorem observatorylaw02_TreeRoots.mono : ∀ a0 a1 k, LeO (observatorylaw02_TreeRoots.f k a0 a1) (observatorylaw02_TreeRoots.f (k + 1) a0 a1) := by
 intro a0 a1 k
 obtain ⟨ih0, ih1, ih2⟩ := observatorylaw02_TreeRoots.mono_l k
 unfold observatorylaw02_TreeRoots.f
 repeat' first
   | (with_reducible exact ih0 _ _ _ _)
   | (with_reducible exact ih1 _ _ _ _ _ _ _ _)
   | (with_reducible exact ih2 _ _ _ _ _ _)
   | (with_reducible exact observatorylaw02_few.mono _ _)
   | (with_reducible exact observatorylaw02_good.mono _ _)
   | (with_reducible exact observatorylaw02_head.mono _)
   | (with_reducible exact observatoryref01_Same.mono _ _ _)
   | (with_reducible exact observatoryref02_Shown.mono _ _)
   | (with_reducible exact observatoryref02_Texts.mono _ _)
   | (with_reducible exact LeO.refl _)
   | (with_reducible exact LeO.none _)
   | (with_reducible refine LeO.ite ?_ ?_)
   | (with_reducible refine LeO.bind ?_ (fun _ => ?_))
   | exact ih0 _ _ _ _
   | exact ih1 _ _ _ _ _ _ _ _
   | exact ih2 _ _ _ _ _ _
   | exact observatorylaw02_few.mono _ _
   | exact observatorylaw02_good.mono _ _
   | exact observatorylaw02_head.mono _
   | exact observatoryref01_Same.mono _ _ _
   | exact observatoryref02_Shown.mono _ _
   | exact observatoryref02_Texts.mono _ _
   | exact LeO.none _
   | refine LeO.ite ?_ ?_
   | refine LeO.bind ?_ (fun _ => ?_)
set_option maxHeartbeats 8000000 in
set_option maxRecDepth 100000 in
theorem observatorylaw02_TreeRoots.calls (k : Nat) (A0 : Option Addr) (c0 : Nat) (l0 : List ByteArray) (A1 : Option Addr) (c1 : Nat) (l1 : List ByteArray) (r : Bool) (w : World) (hr0 : Kd.C Kd.string w A0 l0.length l0) (hc0 : l0.length ≤ c0) (hr1 : Kd.C Kd.string w A1 l1.length l1) (hc1 : l1.length ≤ c1) (hT : Tabs w) (h : observatorylaw02_TreeRoots.f k l0 l1 = some r) (hr : Aside0 (r = true)) :
  Calls Tryd.prog 5 #[.slice A0 l0.length c0, .slice A1 l1.length c1] w fun e w' => e = .returned (.bool r) ∧ Below w.heap.size w w' := by
 have HR0 := Aside0.mk hr0
 have HC0 := Aside0.mk hc0
 clear hr0 hc0
 have HR1 := Aside0.mk hr1
 have HC1 := Aside0.mk hc1
 clear hr1 hc1
 have HB := Aside0.mk (Below.refl w.heap.size w)
 have HT := Aside0.mk hT
 clear hT
 have H : ((observatorylaw02_head.f k).bind fun t418 => ((observatorylaw02_few.f k l0).bind fun t419 => (if t419 = true then ((observatorylaw02_few.f k l1).bind fun t420 => (if t420 = true then (observatorylaw02_TreeRoots.j0 k l0 l1 t418 ((l0.length : Int) != (l1.length : Int))) else (observatorylaw02_TreeRoots.j0 k l0 l1 t418 true))) else (observatorylaw02_TreeRoots.j0 k l0 l1 t418 true)))) = some r := h
 clear h
 replace H := Option.bind_eq_some_iff.mp H
 obtain ⟨t418, A30, H⟩ := H
 replace H : ((observatorylaw02_few.f k l0).bind fun t419 => (if t419 = true then ((observatorylaw02_few.f k l1).bind fun t420 => (if t420 = true then (observatorylaw02_TreeRoots.j0 k l0 l1 t418 ((l0.length : Int) != (l1.length : Int))) else (observatorylaw02_TreeRoots.j0 k l0 l1 t418 true))) else (observatorylaw02_TreeRoots.j0 k l0 l1 t418 true))) = some r := H
 have A3 := Aside0.mk A30
 clear A30
 have HC4 := Aside0.mk H
 clear H
 go_enter Tryd.func5, Tryd.ntmps5
 go_upto_region 2 with (first | ((with_reducible refine gate_callee (f := 8) rfl ?_); refine goesL_ (some 10) rfl rfl Tryd.func8 (by kernel_rfl) rfl #[] rfl (by (try simp only [List.map_toArray, List.map_cons, List.map_nil]); first | done | rfl | (simp only [List.length_drop, List.length_take]; rfl)) ?_; (with_reducible refine (observatorylaw02_head.calls k  t418 _ ?side1 A3.out).mono ?_); (case side1 => exact HT.out.below (by repeat (first | (with_reducible first | exact HB.out | apply below_alloc | apply pw_below_drewN | apply below_drew1) | exact HB.out))); rintro e w5 ⟨rfl, hb⟩; refine ⟨_, rfl, ?_⟩; have n0_ := Aside0.mk (below_step (by repeat (first | (with_reducible first | exact HB.out | apply below_alloc | apply pw_below_drewN | apply below_drew1) | exact HB.out)) hb); clear HB; have HB := n0_; clear n0_; (try clear hb); (try clear hb2); (try clear hk); (try clear hi); (try clear A3)))
 (try simp only [Act.put, List.setIfInBounds_toArray, List.set_cons_zero, List.set_cons_succ])
 go_cut [25] (fun v25 wc => ∃ (kq : Nat) (x25_3 : Bool), v25 = .bool x25_3 ∧ Aside0 (observatorylaw02_TreeRoots.j0 kq l0 l1 t418 x25_3 = some r) ∧ Aside0 (kq ≤ k) ∧ Aside0 (Below w.heap.size w wc))
 case first =>
  have H := HC4.out
  clear HC4
  replace H := Option.bind_eq_some_iff.mp H
  obtain ⟨t419, A60, H⟩ := H
  replace H : (if t419 = true then ((observatorylaw02_few.f k l1).bind fun t420 => (if t420 = true then (observatorylaw02_TreeRoots.j0 k l0 l1 t418 ((l0.length : Int) != (l1.length : Int))) else (observatorylaw02_TreeRoots.j0 k l0 l1 t418 true))) else (observatorylaw02_TreeRoots.j0 k l0 l1 t418 true)) = some r := H
  have A6 := Aside0.mk A60
  clear A60
  by_cases c7 : t419 = true
  ·
   subst c7
   have H1 : ((observatorylaw02_few.f k l1).bind fun t420 => (if t420 = true then (observatorylaw02_TreeRoots.j0 k l0 l1 t418 ((l0.length : Int) != (l1.length : Int))) else (observatorylaw02_TreeRoots.j0 k l0 l1 t418 true))) = some r := by rw [if_pos rfl] at H; exact H
   clear H
   have H := H1
   clear H1
   replace H := Option.bind_eq_some_iff.mp H
   obtain ⟨t420, A80, H⟩ := H
   replace H : (if t420 = true then (observatorylaw02_TreeRoots.j0 k l0 l1 t418 ((l0.length : Int) != (l1.length : Int))) else (observatorylaw02_TreeRoots.j0 k l0 l1 t418 true)) = some r := H
   have A8 := Aside0.mk A80
   clear A80
   by_cases c9 : t420 = true
   ·
    subst c9
    have H1 : (observatorylaw02_TreeRoots.j0 k l0 l1 t418 ((l0.length : Int) != (l1.length : Int))) = some r := by rw [if_pos rfl] at H; exact H
    clear H
    have H := H1
    clear H1
    have H' := Aside0.mk H
    clear H
    go_wp2_with (first | ((with_reducible refine gate_callee (f := 13) rfl ?_); refine goesL_ (some 12) rfl rfl Tryd.func13 (by kernel_rfl) rfl #[.slice A0 l0.length c0] rfl (by (try simp only [List.map_toArray, List.map_cons, List.map_nil]); first | done | rfl | (simp only [List.length_drop, List.length_take]; rfl)) ?_; (with_reducible refine (observatorylaw02_few.calls k _ _ l0 true _ ?side1 ?side2 A6.out).mono ?_); (case side1 => repeat (first | exact (Kd.C_below HR0.out HB.out) | (with_reducible refine Kd.C_alloc ?_ _) | (with_reducible refine Kd.C_drewN ?_ _) | (with_reducible refine Kd.C_drew ?_))); (case side2 => exact HC0.out); rintro e w' ⟨rfl, ⟨nd, rfl⟩⟩; refine ⟨_, rfl, ?_⟩; (try clear A6)) | (go_at_call 13; (with_reducible refine (observatorylaw02_few.calls k _ _ l1 true _ ?side1 ?side2 A8.out).mono ?_); (case side1 => repeat (first | exact (Kd.C_below HR1.out (by repeat (first | (with_reducible first | exact HB.out | apply below_alloc | apply pw_below_drewN | apply below_drew1) | exact HB.out))) | (with_reducible refine Kd.C_alloc ?_ _) | (with_reducible refine Kd.C_drewN ?_ _) | (with_reducible refine Kd.C_drew ?_))); (case side2 => exact HC1.out); rintro e w' ⟨rfl, ⟨nd, rfl⟩⟩; (try clear A8)))
    go_meet
    case rel => exact ⟨_, (((l0.length : Int) != (l1.length : Int))), (by first | rfl | (simp; done) | (simp [*]; done)), H', ⟨by first | omega | exact Nat.le_refl _⟩, ⟨by repeat (first | (with_reducible first | exact HB.out | apply below_alloc | apply pw_below_drewN | apply below_drew1) | exact HB.out)⟩⟩
   ·
    replace c9 := Bool.eq_false_iff.mpr c9
    subst c9
    have H1 : (observatorylaw02_TreeRoots.j0 k l0 l1 t418 true) = some r := by rw [if_neg (show ¬ (false = true) by decide)] at H; exact H
    clear H
    have H := H1
    clear H1
    have H' := Aside0.mk H
    clear H
    go_wp2_with (first | ((with_reducible refine gate_callee (f := 13) rfl ?_); refine goesL_ (some 12) rfl rfl Tryd.func13 (by kernel_rfl) rfl #[.slice A0 l0.length c0] rfl (by (try simp only [List.map_toArray, List.map_cons, List.map_nil]); first | done | rfl | (simp only [List.length_drop, List.length_take]; rfl)) ?_; (with_reducible refine (observatorylaw02_few.calls k _ _ l0 true _ ?side1 ?side2 A6.out).mono ?_); (case side1 => repeat (first | exact (Kd.C_below HR0.out HB.out) | (with_reducible refine Kd.C_alloc ?_ _) | (with_reducible refine Kd.C_drewN ?_ _) | (with_reducible refine Kd.C_drew ?_))); (case side2 => exact HC0.out); rintro e w' ⟨rfl, ⟨nd, rfl⟩⟩; refine ⟨_, rfl, ?_⟩; (try clear A6)) | (go_at_call 13; (with_reducible refine (observatorylaw02_few.calls k _ _ l1 false _ ?side1 ?side2 A8.out).mono ?_); (case side1 => repeat (first | exact (Kd.C_below HR1.out (by repeat (first | (with_reducible first | exact HB.out | apply below_alloc | apply pw_below_drewN | apply below_drew1) | exact HB.out))) | (with_reducible refine Kd.C_alloc ?_ _) | (with_reducible refine Kd.C_drewN ?_ _) | (with_reducible refine Kd.C_drew ?_))); (case side2 => exact HC1.out); rintro e w' ⟨rfl, ⟨nd, rfl⟩⟩; (try clear A8)))
    go_meet
    case rel => exact ⟨_, (true), (by first | rfl | (simp; done) | (simp [*]; done)), H', ⟨by first | omega | exact Nat.le_refl _⟩, ⟨by repeat (first | (with_reducible first | exact HB.out | apply below_alloc | apply pw_below_drewN | apply below_drew1) | exact HB.out)⟩⟩
  ·
   replace c7 := Bool.eq_false_iff.mpr c7
   subst c7
   have H1 : (observatorylaw02_TreeRoots.j0 k l0 l1 t418 true) = some r := by rw [if_neg (show ¬ (false = true) by decide)] at H; exact H
   clear H
   have H := H1
   clear H1
   have H' := Aside0.mk H
   clear H
   go_wp2_with (first | ((with_reducible refine gate_callee (f := 13) rfl ?_); refine goesL_ (some 12) rfl rfl Tryd.func13 (by kernel_rfl) rfl #[.slice A0 l0.length c0] rfl (by (try simp only [List.map_toArray, List.map_cons, List.map_nil]); first | done | rfl | (simp only [List.length_drop, List.length_take]; rfl)) ?_; (with_reducible refine (observatorylaw02_few.calls k _ _ l0 false _ ?side1 ?side2 A6.out).mono ?_); (case side1 => repeat (first | exact (Kd.C_below HR0.out HB.out) | (with_reducible refine Kd.C_alloc ?_ _) | (with_reducible refine Kd.C_drewN ?_ _) | (with_reducible refine Kd.C_drew ?_))); (case side2 => exact HC0.out); rintro e w' ⟨rfl, ⟨nd, rfl⟩⟩; refine ⟨_, rfl, ?_⟩; (try clear A6)))
   go_meet
   case rel => exact ⟨_, (true), (by first | rfl | (simp; done) | (simp [*]; done)), H', ⟨by first | omega | exact Nat.le_refl _⟩, ⟨by repeat (first | (with_reducible first | exact HB.out | apply below_alloc | apply pw_below_drewN | apply below_drew1) | exact HB.out)⟩⟩
 case rest =>
  clear HC4
  try clear c1
  try clear p2
  try clear c5
  try clear c7
  try clear c8
  try clear c9
  obtain ⟨kq, x25_3, rfl, HA, HJ3, HB⟩ := hcut
  cases kq with
  | zero => exact absurd HA.out (by simp [observatorylaw02_TreeRoots.j0])
  | succ kj3 =>
   have H := HA.out
   clear HA
   simp only [observatorylaw02_TreeRoots.j0] at H
   by_cases c10 : x25_3 = true
   ·
    subst c10
    have H1 : (some t418) = some r := by rw [if_pos rfl] at H; exact H
    clear H
    have H := H1
    clear H1
    obtain rfl := Option.some.inj H
    go_wp2
    go_ret
    exact ⟨by first | rfl | (simp [errW_none, errW_some] <;> rfl) | (simp [*, errW_none, errW_some] <;> rfl), by repeat (first | (with_reducible first | exact HB.out | apply below_alloc | apply pw_below_drewN | apply below_drew1) | exact HB.out)⟩
   ·
    replace c10 := Bool.eq_false_iff.mpr c10
    subst c10
    have H1 : ((tree_Root.f l0).bind fun bt421 => ((tree_Root.f l1).bind fun bt423 => ((observatorylaw02_good.f kj3 l0).bind fun t425 => (if ((bt421.2 == 0) != t425) = true then (observatorylaw02_TreeRoots.j1 kj3 l0 l1 t418 bt421.1 bt421.2 bt423.1 bt423.2 true) else ((observatorylaw02_good.f kj3 l1).bind fun t426 => (if ((bt423.2 == 0) != t426) = true then (observatorylaw02_TreeRoots.j1 kj3 l0 l1 t418 bt421.1 bt421.2 bt423.1 bt423.2 true) else (if bt421.2 = 0 then (observatorylaw02_TreeRoots.j1 kj3 l0 l1 t418 bt421.1 bt421.2 bt423.1 bt423.2 false) else (if bt421.2 = 1 then (observatorylaw02_TreeRoots.j1 kj3 l0 l1 t418 bt421.1 bt421.2 bt423.1 bt423.2 (bt421.1.toList != ([] : List UInt8))) else (observatorylaw02_TreeRoots.j1 kj3 l0 l1 t418 bt421.1 bt421.2 bt423.1 bt423.2 true))))))))) = some r := by rw [if_neg (show ¬ (false = true) by decide)] at H; exact H
    clear H
    have H := H1
    clear H1
    replace H := Option.bind_eq_some_iff.mp H
    obtain ⟨⟨t421, t422⟩, A110, H⟩ := H
    replace H : ((tree_Root.f l1).bind fun bt423 => ((observatorylaw02_good.f kj3 l0).bind fun t425 => (if ((t422 == 0) != t425) = true then (observatorylaw02_TreeRoots.j1 kj3 l0 l1 t418 t421 t422 bt423.1 bt423.2 true) else ((observatorylaw02_good.f kj3 l1).bind fun t426 => (if ((bt423.2 == 0) != t426) = true then (observatorylaw02_TreeRoots.j1 kj3 l0 l1 t418 t421 t422 bt423.1 bt423.2 true) else (if t422 = 0 then (observatorylaw02_TreeRoots.j1 kj3 l0 l1 t418 t421 t422 bt423.1 bt423.2 false) else (if t422 = 1 then (observatorylaw02_TreeRoots.j1 kj3 l0 l1 t418 t421 t422 bt423.1 bt423.2 (t421.toList != ([] : List UInt8))) else (observatorylaw02_TreeRoots.j1 kj3 l0 l1 t418 t421 t422 bt423.1 bt423.2 true)))))))) = some r := H
    have A11 := Aside0.mk A110
    clear A110
    replace H := Option.bind_eq_some_iff.mp H
    obtain ⟨⟨t423, t424⟩, A120, H⟩ := H
    replace H : ((observatorylaw02_good.f kj3 l0).bind fun t425 => (if ((t422 == 0) != t425) = true then (observatorylaw02_TreeRoots.j1 kj3 l0 l1 t418 t421 t422 t423 t424 true) else ((observatorylaw02_good.f kj3 l1).bind fun t426 => (if ((t424 == 0) != t426) = true then (observatorylaw02_TreeRoots.j1 kj3 l0 l1 t418 t421 t422 t423 t424 true) else (if t422 = 0 then (observatorylaw02_TreeRoots.j1 kj3 l0 l1 t418 t421 t422 t423 t424 false) else (if t422 = 1 then (observatorylaw02_TreeRoots.j1 kj3 l0 l1 t418 t421 t422 t423 t424 (t421.toList != ([] : List UInt8))) else (observatorylaw02_TreeRoots.j1 kj3 l0 l1 t418 t421 t422 t423 t424 true))))))) = some r := H
    have A12 := Aside0.mk A120
    clear A120
    have HC13 := Aside0.mk H
    clear H
    go_upto_region 6 with (first | ((with_reducible refine gate_callee (f := 17) rfl ?_); refine goesL_ (some 29) rfl rfl Tryd.func17 (by kernel_rfl) rfl #[.slice A0 l0.length c0] rfl (by (try simp only [List.map_toArray, List.map_cons, List.map_nil]); first | done | rfl | (simp only [List.length_drop, List.length_take]; rfl)) ?_; (with_reducible refine (tree_Root.calls _ _ l0 t421 t422 _ ?side1 ?side2 ?side3 A11.out).mono ?_); (case side1 => repeat (first | exact (Kd.C_below HR0.out HB.out) | (with_reducible refine Kd.C_alloc ?_ _) | (with_reducible refine Kd.C_drewN ?_ _) | (with_reducible refine Kd.C_drew ?_))); (case side2 => exact HC0.out); (case side3 => exact HT.out.below (by repeat (first | (with_reducible first | exact HB.out | apply below_alloc | apply pw_below_drewN | apply below_drew1) | exact HB.out))); rintro e w14 ⟨rfl, hb⟩; refine ⟨_, rfl, ?_⟩; have n0_ := Aside0.mk (below_step (by repeat (first | (with_reducible first | exact HB.out | apply below_alloc | apply pw_below_drewN | apply below_drew1) | exact HB.out)) hb); clear HB; have HB := n0_; clear n0_; (try clear hb); (try clear hb2); (try clear hk); (try clear hi); (try clear A11)) | ((with_reducible refine gate_callee (f := 17) rfl ?_); refine goesL_ (some 34) rfl rfl Tryd.func17 (by kernel_rfl) rfl #[.slice A1 l1.length c1] rfl (by (try simp only [List.map_toArray, List.map_cons, List.map_nil]); first | done | rfl | (simp only [List.length_drop, List.length_take]; rfl)) ?_; (with_reducible refine (tree_Root.calls _ _ l1 t423 t424 _ ?side1 ?side2 ?side3 A12.out).mono ?_); (case side1 => repeat (first | exact (Kd.C_below HR1.out HB.out) | (with_reducible refine Kd.C_alloc ?_ _) | (with_reducible refine Kd.C_drewN ?_ _) | (with_reducible refine Kd.C_drew ?_))); (case side2 => exact HC1.out); (case side3 => exact HT.out.below (by repeat (first | (with_reducible first | exact HB.out | apply below_alloc | apply pw_below_drewN | apply below_drew1) | exact HB.out))); rintro e w15 ⟨rfl, hb⟩; refine ⟨_, rfl, ?_⟩; have n0_ := Aside0.mk (below_step (by repeat (first | (with_reducible first | exact HB.out | apply below_alloc | apply pw_below_drewN | apply below_drew1) | exact HB.out)) hb); clear HB; have HB := n0_; clear n0_; (try clear hb); (try clear hb2); (try clear hk); (try clear hi); (try clear A12)))
    (try simp only [Act.put, List.setIfInBounds_toArray, List.set_cons_zero, List.set_cons_succ])
    go_cut [60] (fun v60 wc => ∃ (kq : Nat) (x60_12 : Bool), v60 = .bool x60_12 ∧ Aside0 (observatorylaw02_TreeRoots.j1 kq l0 l1 t418 t421 t422 t423 t424 x60_12 = some r) ∧ Aside0 (kq ≤ kj3) ∧ Aside0 (Below w.heap.size w wc))
    case first =>
     have H := HC13.out
     clear HC13
     replace H := Option.bind_eq_some_iff.mp H
     obtain ⟨t425, A160, H⟩ := H
     replace H : (if ((t422 == 0) != t425) = true then (observatorylaw02_TreeRoots.j1 kj3 l0 l1 t418 t421 t422 t423 t424 true) else ((observatorylaw02_good.f kj3 l1).bind fun t426 => (if ((t424 == 0) != t426) = true then (observatorylaw02_TreeRoots.j1 kj3 l0 l1 t418 t421 t422 t423 t424 true) else (if t422 = 0 then (observatorylaw02_TreeRoots.j1 kj3 l0 l1 t418 t421 t422 t423 t424 false) else (if t422 = 1 then (observatorylaw02_TreeRoots.j1 kj3 l0 l1 t418 t421 t422 t423 t424 (t421.toList != ([] : List UInt8))) else (observatorylaw02_TreeRoots.j1 kj3 l0 l1 t418 t421 t422 t423 t424 true)))))) = some r := H
     have A16 := Aside0.mk A160
     clear A160
     by_cases c17 : ((t422 == 0) != t425) = true
     ·
      rw [if_pos c17] at H
      have c17b0 : ((t422 == 0) != t425) = true := c17
      (try (have c17b1 : decide ((t422 == 0) = t425) = false := by simpa using c17))
      (try (have c17b2 : ((t422 == 0) == t425) = false := by simpa using c17))
      (try (have c17b3 : ¬ ((t422 == 0) = t425) := by simpa using c17))
      clear c17
      (first | rw [c17b0] | (simp only [i64_w, i32_w]; rw [c17b0]) | skip)
      exact absurd (H.trans (congrArg some hr.out)) (by cases kj3 <;> simp [observatorylaw02_TreeRoots.j1])
     ·
      rw [if_neg c17] at H
      have c17b0 : ((t422 == 0) != t425) = false := by simpa using c17
      (try (have c17b1 : decide ((t422 == 0) = t425) = true := by simpa using c17))
      (try (have c17b2 : ((t422 == 0) == t425) = true := by simpa using c17))
      clear c17
      (first | rw [c17b0] | (simp only [i64_w, i32_w]; rw [c17b0]) | skip)
      replace H := Option.bind_eq_some_iff.mp H
      obtain ⟨t426, A190, H⟩ := H
      replace H : (if ((t424 == 0) != t426) = true then (observatorylaw02_TreeRoots.j1 kj3 l0 l1 t418 t421 t422 t423 t424 true) else (if t422 = 0 then (observatorylaw02_TreeRoots.j1 kj3 l0 l1 t418 t421 t422 t423 t424 false) else (if t422 = 1 then (observatorylaw02_TreeRoots.j1 kj3 l0 l1 t418 t421 t422 t423 t424 (t421.toList != ([] : List UInt8))) else (observatorylaw02_TreeRoots.j1 kj3 l0 l1 t418 t421 t422 t423 t424 true)))) = some r := H
      have A19 := Aside0.mk A190
      clear A190
      by_cases c20 : ((t424 == 0) != t426) = true
      ·
       rw [if_pos c20] at H
       have c20b0 : ((t424 == 0) != t426) = true := c20
       (try (have c20b1 : decide ((t424 == 0) = t426) = false := by simpa using c20))
       (try (have c20b2 : ((t424 == 0) == t426) = false := by simpa using c20))
       (try (have c20b3 : ¬ ((t424 == 0) = t426) := by simpa using c20))
       clear c20
       exact absurd (H.trans (congrArg some hr.out)) (by cases kj3 <;> simp [observatorylaw02_TreeRoots.j1])
      ·
       rw [if_neg c20] at H
       have c20b0 : ((t424 == 0) != t426) = false := by simpa using c20
       (try (have c20b1 : decide ((t424 == 0) = t426) = true := by simpa using c20))
       (try (have c20b2 : ((t424 == 0) == t426) = true := by simpa using c20))
       clear c20
       by_cases c23 : t422 = 0
       ·
        rw [if_pos c23] at H
        have c23b0 : (t422 == 0) = true := beq_iff_eq.mpr c23
        (try have e_c23 : t425 = true := by have h_ := c17b0; rw [c23b0] at h_; simpa using h_)
        have c23b1 : (t422 != 0) = false := bne_eq_false_iff_eq.mpr c23
        clear c23
        have H' := Aside0.mk H
        clear H
        go_wp2_with (first | ((with_reducible refine gate_callee (f := 9) rfl ?_); refine goesL_ (some 40) rfl rfl Tryd.func9 (by kernel_rfl) rfl #[.slice A0 l0.length c0] rfl (by (try simp only [List.map_toArray, List.map_cons, List.map_nil]); first | done | rfl | (simp only [List.length_drop, List.length_take]; rfl)) ?_; (with_reducible refine (observatorylaw02_good.calls kj3 _ _ l0 t425 _ ?side1 ?side2 A16.out).mono ?_); (case side1 => repeat (first | exact (Kd.C_below HR0.out HB.out) | (with_reducible refine Kd.C_alloc ?_ _) | (with_reducible refine Kd.C_drewN ?_ _) | (with_reducible refine Kd.C_drew ?_))); (case side2 => exact HC0.out); rintro e w24 ⟨rfl, hb⟩; refine ⟨_, rfl, ?_⟩; have n0_ := Aside0.mk (below_step (by repeat (first | (with_reducible first | exact HB.out | apply below_alloc | apply pw_below_drewN | apply below_drew1) | exact HB.out)) hb); clear HB; have HB := n0_; clear n0_; (try clear hb); (try clear hb2); (try clear hk); (try clear hi); (try clear A16)) | (go_at_call 9; (with_reducible refine (observatorylaw02_good.calls kj3 _ _ l1 t426 _ ?side1 ?side2 A19.out).mono ?_); (case side1 => repeat (first | exact (Kd.C_below HR1.out HB.out) | (with_reducible refine Kd.C_alloc ?_ _) | (with_reducible refine Kd.C_drewN ?_ _) | (with_reducible refine Kd.C_drew ?_))); (case side2 => exact HC1.out); rintro e w25 ⟨rfl, hb⟩; have n0_ := Aside0.mk (below_step (by repeat (first | (with_reducible first | exact HB.out | apply below_alloc | apply pw_below_drewN | apply below_drew1) | exact HB.out)) hb); clear HB; have HB := n0_; clear n0_; (try clear hb); (try clear hb2); (try clear hk); (try clear hi); (try clear A19)))
        go_meet
        case rel => exact ⟨_, (false), (by first | rfl | (simp; done) | (simp [*]; done)), H', ⟨by have := HJ3.out; first | omega | exact Nat.le_refl _⟩, ⟨by repeat (first | (with_reducible first | exact HB.out | apply below_alloc | apply pw_below_drewN | apply below_drew1) | exact HB.out)⟩⟩
       ·
        rw [if_neg c23] at H
        have c23b0 : (t422 == 0) = false := beq_eq_false_iff_ne.mpr c23
        (try have e_c23 : t425 = false := by have h_ := c17b0; rw [c23b0] at h_; simpa using h_)
        have c23b1 : (t422 != 0) = true := bne_iff_ne.mpr c23
        by_cases c26 : t422 = 1
        ·
         rw [if_pos c26] at H
         have c26b0 : (t422 == 1) = true := beq_iff_eq.mpr c26
         have c26b1 : (t422 != 1) = false := bne_eq_false_iff_eq.mpr c26
         clear c26
         have H' := Aside0.mk H
         clear H
         go_wp2_with (first | ((with_reducible refine gate_callee (f := 9) rfl ?_); refine goesL_ (some 40) rfl rfl Tryd.func9 (by kernel_rfl) rfl #[.slice A0 l0.length c0] rfl (by (try simp only [List.map_toArray, List.map_cons, List.map_nil]); first | done | rfl | (simp only [List.length_drop, List.length_take]; rfl)) ?_; (with_reducible refine (observatorylaw02_good.calls kj3 _ _ l0 t425 _ ?side1 ?side2 A16.out).mono ?_); (case side1 => repeat (first | exact (Kd.C_below HR0.out HB.out) | (with_reducible refine Kd.C_alloc ?_ _) | (with_reducible refine Kd.C_drewN ?_ _) | (with_reducible refine Kd.C_drew ?_))); (case side2 => exact HC0.out); rintro e w27 ⟨rfl, hb⟩; refine ⟨_, rfl, ?_⟩; have n0_ := Aside0.mk (below_step (by repeat (first | (with_reducible first | exact HB.out | apply below_alloc | apply pw_below_drewN | apply below_drew1) | exact HB.out)) hb); clear HB; have HB := n0_; clear n0_; (try clear hb); (try clear hb2); (try clear hk); (try clear hi); (try clear A16)) | (go_at_call 9; (with_reducible refine (observatorylaw02_good.calls kj3 _ _ l1 t426 _ ?side1 ?side2 A19.out).mono ?_); (case side1 => repeat (first | exact (Kd.C_below HR1.out HB.out) | (with_reducible refine Kd.C_alloc ?_ _) | (with_reducible refine Kd.C_drewN ?_ _) | (with_reducible refine Kd.C_drew ?_))); (case side2 => exact HC1.out); rintro e w28 ⟨rfl, hb⟩; have n0_ := Aside0.mk (below_step (by repeat (first | (with_reducible first | exact HB.out | apply below_alloc | apply pw_below_drewN | apply below_drew1) | exact HB.out)) hb); clear HB; have HB := n0_; clear n0_; (try clear hb); (try clear hb2); (try clear hk); (try clear hi); (try clear A19)))
         go_meet
         case rel => exact ⟨_, ((t421.toList != ([] : List UInt8))), (by first | rfl | (simp; done) | (simp [*]; done) | (congr 1; cases t421.toList <;> rfl)), H', ⟨by have := HJ3.out; first | omega | exact Nat.le_refl _⟩, ⟨by repeat (first | (with_reducible first | exact HB.out | apply below_alloc | apply pw_below_drewN | apply below_drew1) | exact HB.out)⟩⟩
        ·
         rw [if_neg c26] at H
         have c26b0 : (t422 == 1) = false := beq_eq_false_iff_ne.mpr c26
         have c26b1 : (t422 != 1) = true := bne_iff_ne.mpr c26
         exact absurd (H.trans (congrArg some hr.out)) (by cases kj3 <;> simp [observatorylaw02_TreeRoots.j1])
    case rest =>
     clear HC13
     try clear c1
     try clear c2
     try clear p2
     try clear c5
     try clear c7
     try clear c8
     try clear c9
     try clear c10
     try clear c13
     try clear c17
     try clear c17b0
     try clear c17b1
     try clear c17b2
     try clear c20
     try clear c20b0
     try clear c20b1
     try clear c20b2
     try clear c23
     try clear c23b0
     try clear c23b1
     try clear c26
     try clear c26b0
     try clear c26b1
     try clear p2
     obtain ⟨kq, x60_12, rfl, HA, HJ12, HB⟩ := hcut
     cases kq with
     | zero => exact absurd HA.out (by simp [observatorylaw02_TreeRoots.j1])
     | succ kj12 =>
      have H := HA.out
      clear HA
      simp only [observatorylaw02_TreeRoots.j1] at H
      by_cases c31 : x60_12 = true
      ·
       subst c31
       have H1 : (some false) = some r := by rw [if_pos rfl] at H; exact H
       clear H
       have H := H1
       clear H1
       exact absurd ((Option.some.inj H).trans hr.out) (by decide)
      ·
       replace c31 := Bool.eq_false_iff.mpr c31
       subst c31
       have H1 : (if t422 = 0 then (observatorylaw02_TreeRoots.j2 kj12 l0 l1 t418 t421 t423 (t424 != 0)) else (observatorylaw02_TreeRoots.j2 kj12 l0 l1 t418 t421 t423 true)) = some r := by rw [if_neg (show ¬ (false = true) by decide)] at H; exact H
       clear H
       have H := H1
       clear H1
       have HC32 := Aside0.mk H
       clear H
       go_upto_region 8 with (fail)
       go_cut [66] (fun v66 wc => ∃ (kq : Nat) (x66_31 : Bool), v66 = .bool x66_31 ∧ Aside0 (observatorylaw02_TreeRoots.j2 kq l0 l1 t418 t421 t423 x66_31 = some r) ∧ Aside0 (kq ≤ kj12) ∧ Aside0 (Below w.heap.size w wc))
       case first =>
        have H := HC32.out
        clear HC32
        by_cases c33 : t422 = 0
        ·
         rw [if_pos c33] at H
         have c33b0 : (t422 == 0) = true := beq_iff_eq.mpr c33
         have c33b1 : (t422 != 0) = false := bne_eq_false_iff_eq.mpr c33
         clear c33
         (first | rw [c33b0] | (simp only [i64_w, i32_w]; rw [c33b0]) | skip)
         have H' := Aside0.mk H
         clear H
         go_wp2
         go_meet
         case rel => exact ⟨_, ((t424 != 0)), (by first | rfl | (simp; done) | (simp [*]; done)), H', ⟨by have := HJ3.out; have := HJ12.out; first | omega | exact Nat.le_refl _⟩, ⟨by repeat (first | (with_reducible first | exact HB.out | apply below_alloc | apply pw_below_drewN | apply below_drew1) | exact HB.out)⟩⟩
        ·
         rw [if_neg c33] at H
         have c33b0 : (t422 == 0) = false := beq_eq_false_iff_ne.mpr c33
         have c33b1 : (t422 != 0) = true := bne_iff_ne.mpr c33
         (first | rw [c33b0] | (simp only [i64_w, i32_w]; rw [c33b0]) | skip)
         have H' := Aside0.mk H
         clear H
         go_wp2
         go_meet
         case rel => exact ⟨_, (true), (by first | rfl | (simp; done) | (simp [*]; done)), H', ⟨by have := HJ3.out; have := HJ12.out; first | omega | exact Nat.le_refl _⟩, ⟨by repeat (first | (with_reducible first | exact HB.out | apply below_alloc | apply pw_below_drewN | apply below_drew1) | exact HB.out)⟩⟩
       case rest =>
        clear HC32
        try clear c1
        try clear c2
        try clear p2
        try clear c3
        try clear c5
        try clear c7
        try clear c8
        try clear c9
        try clear c10
        try clear c13
        try clear c17
        try clear c17b0
        try clear c17b1
        try clear c17b2
        try clear c20
        try clear c20b0
        try clear c20b1
        try clear c20b2
        try clear c23
        try clear c23b0
        try clear c23b1
        try clear c26
        try clear c26b0
        try clear c26b1
        try clear c31
        try clear c33
        try clear c33b0
        try clear c33b1
        try clear p2
        obtain ⟨kq, x66_31, rfl, HA, HJ31, HB⟩ := hcut
        cases kq with
        | zero => exact absurd HA.out (by simp [observatorylaw02_TreeRoots.j2])
        | succ kj31 =>
         have H := HA.out
         clear HA
         simp only [observatorylaw02_TreeRoots.j2] at H
         by_cases c34 : x66_31 = true
         ·
          subst c34
          have H1 : (some t418) = some r := by rw [if_pos rfl] at H; exact H
          clear H
          have H := H1
          clear H1
          obtain rfl := Option.some.inj H
          go_wp2
          go_ret
          exact ⟨by first | rfl | (simp [errW_none, errW_some] <;> rfl) | (simp [*, errW_none, errW_some] <;> rfl), by repeat (first | (with_reducible first | exact HB.out | apply below_alloc | apply pw_below_drewN | apply below_drew1) | exact HB.out)⟩
         ·
          replace c34 := Bool.eq_false_iff.mpr c34
          subst c34
          have H1 : ((observatoryref01_Same.f kj31 l0 l1).bind fun t427 => (if t427 = true then (if t418 = true then (some (t421.toList == t423.toList)) else (some false)) else (if t418 = true then (if t421.toList = t423.toList then ((observatoryref02_Texts.f kj31 l0).bind fun t428 => ((observatoryref02_Texts.f kj31 l1).bind fun t431 => (if t428.length + t431.length < 8796093022208 then ((observatoryref02_Shown.f kj31 (t428 ++ t431)).bind fun t437 => (some t437)) else (none)))) else (some true)) else (some false)))) = some r := by rw [if_neg (show ¬ (false = true) by decide)] at H; exact H
          clear H
          have H := H1
          clear H1
          replace H := Option.bind_eq_some_iff.mp H
          obtain ⟨t427, A350, H⟩ := H
          replace H : (if t427 = true then (if t418 = true then (some (t421.toList == t423.toList)) else (some false)) else (if t418 = true then (if t421.toList = t423.toList then ((observatoryref02_Texts.f kj31 l0).bind fun t428 => ((observatoryref02_Texts.f kj31 l1).bind fun t431 => (if t428.length + t431.length < 8796093022208 then ((observatoryref02_Shown.f kj31 (t428 ++ t431)).bind fun t437 => (some t437)) else (none)))) else (some true)) else (some false))) = some r := H
          have A35 := Aside0.mk A350
          clear A350
          by_cases c36 : t427 = true
          ·
           subst c36
           have H1 : (if t418 = true then (some (t421.toList == t423.toList)) else (some false)) = some r := by rw [if_pos rfl] at H; exact H
           clear H
           have H := H1
           clear H1
           by_cases c37 : t418 = true
           ·
            subst c37
            have H1 : (some (t421.toList == t423.toList)) = some r := by rw [if_pos rfl] at H; exact H
            clear H
            have H := H1
            clear H1
            obtain rfl := Option.some.inj H
            go_wp2_with (first | ((with_reducible refine gate_callee (f := 18) rfl ?_); refine goesL_ (some 70) rfl rfl Tryd.func18 (by kernel_rfl) rfl #[.slice A0 l0.length c0, .slice A1 l1.length c1] rfl (by (try simp only [List.map_toArray, List.map_cons, List.map_nil]); first | done | rfl | (simp only [List.length_drop, List.length_take]; rfl)) ?_; (with_reducible refine (observatoryref01_Same.calls kj31 _ _ l0 _ _ l1 true _ ?side1 ?side2 ?side3 ?side4 A35.out).mono ?_); (case side1 => repeat (first | exact (Kd.C_below HR0.out HB.out) | (with_reducible refine Kd.C_alloc ?_ _) | (with_reducible refine Kd.C_drewN ?_ _) | (with_reducible refine Kd.C_drew ?_))); (case side2 => exact HC0.out); (case side3 => repeat (first | exact (Kd.C_below HR1.out HB.out) | (with_reducible refine Kd.C_alloc ?_ _) | (with_reducible refine Kd.C_drewN ?_ _) | (with_reducible refine Kd.C_drew ?_))); (case side4 => exact HC1.out); rintro e w' ⟨rfl, ⟨nd, rfl⟩⟩; refine ⟨_, rfl, ?_⟩; (try clear A35)))
            go_ret
            exact ⟨by first | rfl | (simp [errW_none, errW_some] <;> rfl) | (simp [*, errW_none, errW_some] <;> rfl), by repeat (first | (with_reducible first | exact HB.out | apply below_alloc | apply pw_below_drewN | apply below_drew1) | exact HB.out)⟩
           ·
            replace c37 := Bool.eq_false_iff.mpr c37
            subst c37
            have H1 : (some false) = some r := by rw [if_neg (show ¬ (false = true) by decide)] at H; exact H
            clear H
            have H := H1
            clear H1
            exact absurd ((Option.some.inj H).trans hr.out) (by decide)
          ·
           replace c36 := Bool.eq_false_iff.mpr c36
           subst c36
           have H1 : (if t418 = true then (if t421.toList = t423.toList then ((observatoryref02_Texts.f kj31 l0).bind fun t428 => ((observatoryref02_Texts.f kj31 l1).bind fun t431 => (if t428.length + t431.length < 8796093022208 then ((observatoryref02_Shown.f kj31 (t428 ++ t431)).bind fun t437 => (some t437)) else (none)))) else (some true)) else (some false)) = some r := by rw [if_neg (show ¬ (false = true) by decide)] at H; exact H
           clear H
           have H := H1
           clear H1
           by_cases c38 : t418 = true
           ·
            subst c38
            have H1 : (if t421.toList = t423.toList then ((observatoryref02_Texts.f kj31 l0).bind fun t428 => ((observatoryref02_Texts.f kj31 l1).bind fun t431 => (if t428.length + t431.length < 8796093022208 then ((observatoryref02_Shown.f kj31 (t428 ++ t431)).bind fun t437 => (some t437)) else (none)))) else (some true)) = some r := by rw [if_pos rfl] at H; exact H
            clear H
            have H := H1
            clear H1
            by_cases c39 : t421.toList = t423.toList
            ·
             rw [if_pos c39] at H
             have c39b0 : (t421.toList == t423.toList) = true := beq_iff_eq.mpr c39
             have c39b1 : (t421.toList != t423.toList) = false := bne_eq_false_iff_eq.mpr c39
             clear c39
             replace H := Option.bind_eq_some_iff.mp H
             obtain ⟨t428, A400, H⟩ := H
             replace H : ((observatoryref02_Texts.f kj31 l1).bind fun t431 => (if t428.length + t431.length < 8796093022208 then ((observatoryref02_Shown.f kj31 (t428 ++ t431)).bind fun t437 => (some t437)) else (none))) = some r := H
             have A40 := Aside0.mk A400
             clear A400
             replace H := Option.bind_eq_some_iff.mp H
             obtain ⟨t431, A410, H⟩ := H
             replace H : (if t428.length + t431.length < 8796093022208 then ((observatoryref02_Shown.f kj31 (t428 ++ t431)).bind fun t437 => (some t437)) else (none)) = some r := H
             have A41 := Aside0.mk A410
             clear A410
             by_cases c42 : t428.length + t431.length < 8796093022208
             ·
              rw [if_pos c42] at H
              have LMc42 := Aside0.mk c42
              clear c42
              obtain ⟨y434, hy434⟩ : ∃ y_ : List ByteArray, y_ = (t428 ++ t431) := ⟨_, rfl⟩
              replace H : ((observatoryref02_Shown.f kj31 y434).bind fun t437 => (some t437)) = some r := by first | (rw [hy434]; with_reducible exact H) | (have H2_ := (Option.bind_some _ _).symm.trans H; rw [hy434]; with_reducible exact H2_) | (have H2_ := (Option.bind_some _ _).symm.trans H; with_reducible exact H2_) | with_reducible exact H | (rw [hy434]; exact H) | exact H
              have Ny434 := Aside0.mk hy434
              clear hy434
              replace H := Option.bind_eq_some_iff.mp H
              obtain ⟨t437, A430, H⟩ := H
              replace H : (some t437) = some r := H
              have A43 := Aside0.mk A430
              clear A430
              obtain rfl := Option.some.inj H
              go_wp2_with (first | ((with_reducible refine gate_callee (f := 18) rfl ?_); refine goesL_ (some 70) rfl rfl Tryd.func18 (by kernel_rfl) rfl #[.slice A0 l0.length c0, .slice A1 l1.length c1] rfl (by (try simp only [List.map_toArray, List.map_cons, List.map_nil]); first | done | rfl | (simp only [List.length_drop, List.length_take]; rfl)) ?_; (with_reducible refine (observatoryref01_Same.calls kj31 _ _ l0 _ _ l1 false _ ?side1 ?side2 ?side3 ?side4 A35.out).mono ?_); (case side1 => repeat (first | exact (Kd.C_below HR0.out HB.out) | (with_reducible refine Kd.C_alloc ?_ _) | (with_reducible refine Kd.C_drewN ?_ _) | (with_reducible refine Kd.C_drew ?_))); (case side2 => exact HC0.out); (case side3 => repeat (first | exact (Kd.C_below HR1.out HB.out) | (with_reducible refine Kd.C_alloc ?_ _) | (with_reducible refine Kd.C_drewN ?_ _) | (with_reducible refine Kd.C_drew ?_))); (case side4 => exact HC1.out); rintro e w' ⟨rfl, ⟨nd, rfl⟩⟩; refine ⟨_, rfl, ?_⟩; (try clear A35)) | (go_at_call 15; (with_reducible refine (observatoryref02_Texts.calls kj31 _ _ l0 t428 _ ?side1 ?side2 A40.out).mono ?_); (case side1 => repeat (first | exact (Kd.C_below HR0.out (by repeat (first | (with_reducible first | exact HB.out | apply below_alloc | apply pw_below_drewN | apply below_drew1) | exact HB.out))) | (with_reducible refine Kd.C_alloc ?_ _) | (with_reducible refine Kd.C_drewN ?_ _) | (with_reducible refine Kd.C_drew ?_))); (case side2 => exact HC0.out); rintro e w44 ⟨v429, rfl, ho0, hb⟩; have n0_ := Aside0.mk (Kd.R_lower ho0 (below_size (by repeat (first | (with_reducible first | exact HB.out | apply below_alloc | apply pw_below_drewN | apply below_drew1) | exact HB.out)))); have n1_ := Aside0.mk (below_step (by repeat (first | (with_reducible first | exact HB.out | apply below_alloc | apply pw_below_drewN | apply below_drew1) | exact HB.out)) hb); clear HB; have HO430 := n0_; have HB := n1_; clear n0_ n1_; (try clear hb); (try clear hb2); (try clear hk); (try clear hi); (try clear ho0); (try clear A40)) | (go_at_call 15; (with_reducible refine (observatoryref02_Texts.calls kj31 _ _ l1 t431 _ ?side1 ?side2 A41.out).mono ?_); (case side1 => repeat (first | exact (Kd.C_below HR1.out HB.out) | (with_reducible refine Kd.C_alloc ?_ _) | (with_reducible refine Kd.C_drewN ?_ _) | (with_reducible refine Kd.C_drew ?_))); (case side2 => exact HC1.out); rintro e w45 ⟨v432, rfl, ho0, hb⟩; have n0_ := Aside0.mk (Kd.R_elder' (by (with_reducible repeat (first | apply Kd.R_alloc | apply Kd.R_drewN | apply Kd.R_drew)); exact HO430.out) (Kd.R_base ho0) hb); have n1_ := Aside0.mk (Kd.R_lower (Kd.R_new' ho0 (Kd.R_lt (by (with_reducible repeat (first | apply Kd.R_alloc | apply Kd.R_drewN | apply Kd.R_drew)); exact HO430.out))) (below_size (by repeat (first | (with_reducible first | exact HB.out | apply below_alloc | apply pw_below_drewN | apply below_drew1) | exact HB.out)))); have n2_ := Aside0.mk (below_step (by repeat (first | (with_reducible first | exact HB.out | apply below_alloc | apply pw_below_drewN | apply below_drew1) | exact HB.out)) hb); clear HO430; clear HB; have HO430 := n0_; have HO433 := n1_; have HB := n2_; clear n0_ n1_ n2_; (try clear hb); (try clear hb2); (try clear hk); (try clear hi); (try clear ho0); (try clear A41); obtain ⟨Ao47, co47, eo47⟩ := Kd.R_slice HO433.out; subst eo47) | ((with_reducible refine gate_builtin (b := .append) (xs := #[.tmp 84, .tmp 86]) rfl ?_); (try (refine gate_guard (by rfl) ?_; dsimp only)); at_builtin; refine Kd.R_append_rows Kd.string (w0 := w) w.heap.size rfl (.tmp 84) (.tmp 86) 22 9 (.string ⟨#[]⟩) 16 rfl Tryd.underlying22 info9 rfl (by decide) (by omega) v429 t428 t431 _ _ _ (fun k_ => some k_ ≠ (.slice Ao47 t431.length co47 : Value).ownBlock) (fun _ => False) rfl rfl ?aO ?aR (fun _ _ h => h) (fun _ h => h.elim) ?aF ?aB ?aS ?aL ?_; (case aR => repeat (first | exact (Kd.R_reads' HO433.out).2.2 | (with_reducible refine Kd.C_alloc ?_ _) | (with_reducible refine Kd.C_drewN ?_ _) | (with_reducible refine Kd.C_drew ?_))); (case aB => exact (by repeat (first | (with_reducible first | exact HB.out | apply below_alloc | apply pw_below_drewN | apply below_drew1) | exact HB.out))); (case aF => exact (fun k_ hk => Kd.fresh' (Kd.R_lt (by (with_reducible repeat (first | apply Kd.R_alloc | apply Kd.R_drewN | apply Kd.R_drew)); exact HO433.out)) k_ hk)); (case aO => exact (by (with_reducible repeat (first | apply Kd.R_alloc | apply Kd.R_drewN | apply Kd.R_drew)); exact Kd.R_mono HO430.out (fun _ hk => hk.2))); (case aS => exact (below_size (by repeat (first | (with_reducible first | exact HB.out | apply below_alloc | apply pw_below_drewN | apply below_drew1) | exact HB.out)))); (case aL => have := LMc42.out; omega); intro v435 w46 ho hb hg hat; rw [← Ny434.out] at ho; have n0_ := Aside0.mk (Kd.R_after (ok := (fun _ => True)) (by (with_reducible repeat (first | apply Kd.R_alloc | apply Kd.R_drewN | apply Kd.R_drew)); exact HO433.out) hg hat); have n1_ := Aside0.mk (hb); have n2_ := Aside0.mk (ho); clear HO433; clear HB; clear HO430; have HO433 := n0_; have HB := n1_; have HO436 := n2_; clear n0_ n1_ n2_; clear ho hb hg hat; obtain ⟨Ao48, co48, eo48⟩ := Kd.R_slice HO436.out; subst eo48) | (go_at_call 14; (with_reducible refine (observatoryref02_Shown.calls kj31 _ _ y434 t437 _ ?side1 ?side2 A43.out).mono ?_); (case side1 => repeat (first | exact (Kd.R_reads' HO436.out).2.2 | (with_reducible refine Kd.C_alloc ?_ _) | (with_reducible refine Kd.C_drewN ?_ _) | (with_reducible refine Kd.C_drew ?_))); (case side2 => exact (Kd.R_reads' HO436.out).2.1); rintro e w49 ⟨rfl, hb⟩; have n0_ := Aside0.mk (Kd.R_below (by (with_reducible repeat (first | apply Kd.R_alloc | apply Kd.R_drewN | apply Kd.R_drew)); exact HO433.out) hb); have n1_ := Aside0.mk (Kd.R_below (by (with_reducible repeat (first | apply Kd.R_alloc | apply Kd.R_drewN | apply Kd.R_drew)); exact HO436.out) hb); have n2_ := Aside0.mk (below_step (by repeat (first | (with_reducible first | exact HB.out | apply below_alloc | apply pw_below_drewN | apply below_drew1) | exact HB.out)) hb); clear HO433; clear HO436; clear HB; have HO433 := n0_; have HO436 := n1_; have HB := n2_; clear n0_ n1_ n2_; (try clear hb); (try clear hb2); (try clear hk); (try clear hi); (try clear A43)))
              go_ret
              exact ⟨by first | rfl | (simp [errW_none, errW_some] <;> rfl) | (simp [*, errW_none, errW_some] <;> rfl), by repeat (first | (with_reducible first | exact HB.out | apply below_alloc | apply pw_below_drewN | apply below_drew1) | exact HB.out)⟩
             ·
              rw [if_neg c42] at H
              exact absurd H (by simp)
            ·
             rw [if_neg c39] at H
             have c39b0 : (t421.toList == t423.toList) = false := beq_eq_false_iff_ne.mpr c39
             have c39b1 : (t421.toList != t423.toList) = true := bne_iff_ne.mpr c39
             obtain rfl := Option.some.inj H
             go_wp2_with (first | ((with_reducible refine gate_callee (f := 18) rfl ?_); refine goesL_ (some 70) rfl rfl Tryd.func18 (by kernel_rfl) rfl #[.slice A0 l0.length c0, .slice A1 l1.length c1] rfl (by (try simp only [List.map_toArray, List.map_cons, List.map_nil]); first | done | rfl | (simp only [List.length_drop, List.length_take]; rfl)) ?_; (with_reducible refine (observatoryref01_Same.calls kj31 _ _ l0 _ _ l1 false _ ?side1 ?side2 ?side3 ?side4 A35.out).mono ?_); (case side1 => repeat (first | exact (Kd.C_below HR0.out HB.out) | (with_reducible refine Kd.C_alloc ?_ _) | (with_reducible refine Kd.C_drewN ?_ _) | (with_reducible refine Kd.C_drew ?_))); (case side2 => exact HC0.out); (case side3 => repeat (first | exact (Kd.C_below HR1.out HB.out) | (with_reducible refine Kd.C_alloc ?_ _) | (with_reducible refine Kd.C_drewN ?_ _) | (with_reducible refine Kd.C_drew ?_))); (case side4 => exact HC1.out); rintro e w' ⟨rfl, ⟨nd, rfl⟩⟩; refine ⟨_, rfl, ?_⟩; (try clear A35)))
             go_ret
             exact ⟨by first | rfl | (simp [errW_none, errW_some] <;> rfl) | (simp [*, errW_none, errW_some] <;> rfl), by repeat (first | (with_reducible first | exact HB.out | apply below_alloc | apply pw_below_drewN | apply below_drew1) | exact HB.out)⟩
           ·
            replace c38 := Bool.eq_false_iff.mpr c38
            subst c38
            have H1 : (some false) = some r := by rw [if_neg (show ¬ (false = true) by decide)] at H; exact H
            clear H
            have H := H1
            clear H1
            exact absurd ((Option.some.inj H).trans hr.out) (by decide)
/-! ### observatorylaw02_TreeGrows: function 6 -/
def observatorylaw02_TreeGrows.l0 : Nat → List ByteArray → Bool → Int → List ByteArray → Int → Int → Int → Option (Bool)
 | 0, _, _, _, _, _, _, _ => none
 | k + 1, x0, x5, x6, x7, x8, x9, x10 => if x10 > 0 then (observatorylaw02_TreeGrows.l0 k x0 x5 x6 x7 x8 (wrap64 (x9 + 1)) (wrap64 (Int.tdiv x10 2))) else (if x5 = true then (if x8 = 0 then (if 0 ≤ x6 then (if x6 ≤ (x0.length : Int) then ((observatorylaw02_rooted.f (x0.take (x6 : Int).toNat)).bind fun t445 => ((observatorylaw02_rooted.f x0).bind fun t446 => ((tree_Extends.f t445 x6 t446 (x0.length : Int) x7).bind fun t447 => (if t447 = true then (if (x7.length : Int) ≤ (wrap64 (x9 + 1)) then (if x6 = 0 then (some (((x7.length : Int) == 0) == true)) else (some (((x7.length : Int) == 0) == (x6 == (x0.length : Int))))) else (some false)) else (some false))))) else (none)) else (none)) else (some false)) else (some false))
def observatorylaw02_TreeGrows.f (k : Nat) (l0 : List ByteArray) (a1 : Int) : Option (Bool) := (observatorylaw02_head.f k).bind fun t438 => ((observatorylaw02_good.f k l0).bind fun t439 => (if t439 = true then (if (wrap64 ((l0.length : Int) + 1)) = 0 then (none) else ((tree_Link.f k l0 (Int.tmod (wrap64 (a1)) (wrap64 ((l0.length : Int) + 1)))).bind fun bt440 => (observatorylaw02_TreeGrows.l0 k l0 t438 (Int.tmod (wrap64 (a1)) (wrap64 ((l0.length : Int) + 1))) bt440.1 bt440.2 0 (l0.length : Int)))) else (some t438)))
theorem observatorylaw02_TreeGrows.mono_l : ∀ k, (∀ y0 y1 y2 y3 y4 y5 y6, LeO (observatorylaw02_TreeGrows.l0 k y0 y1 y2 y3 y4 y5 y6) (observatorylaw02_TreeGrows.l0 (k + 1) y0 y1 y2 y3 y4 y5 y6))
 | 0 => fun _ _ _ _ _ _ _ r h => by simp [observatorylaw02_TreeGrows.l0] at h
 | k + 1 => by
  have ih0 := observatorylaw02_TreeGrows.mono_l k
  ·
   intro y0 y1 y2 y3 y4 y5 y6
   unfold observatorylaw02_TreeGrows.l0
   repeat' first
   | (with_reducible exact ih0 _ _ _ _ _ _ _)
   | (with_reducible exact observatorylaw02_good.mono _ _)
   | (with_reducible exact observatorylaw02_head.mono _)
   | (with_reducible exact tree_Link.mono _ _ _)
   | (with_reducible exact LeO.refl _)
   | (with_reducible exact LeO.none _)
   | (with_reducible refine LeO.ite ?_ ?_)
   | (with_reducible refine LeO.bind ?_ (fun _ => ?_))
   | exact ih0 _ _ _ _ _ _ _
   | exact observatorylaw02_good.mono _ _
   | exact observatorylaw02_head.mono _
   | exact tree_Link.mono _ _ _
   | exact LeO.none _
   | refine LeO.ite ?_ ?_
   | refine LeO.bind ?_ (fun _ => ?_)
theorem observatorylaw02_TreeGrows.mono : ∀ a0 a1 k, LeO (observatorylaw02_TreeGrows.f k a0 a1) (observatorylaw02_TreeGrows.f (k + 1) a0 a1) := by
 intro a0 a1 k
 have ih0 := observatorylaw02_TreeGrows.mono_l k
 unfold observatorylaw02_TreeGrows.f
 repeat' first
   | (with_reducible exact ih0 _ _ _ _ _ _ _)
   | (with_reducible exact observatorylaw02_good.mono _ _)
   | (with_reducible exact observatorylaw02_head.mono _)
   | (with_reducible exact tree_Link.mono _ _ _)
   | (with_reducible exact LeO.refl _)
   | (with_reducible exact LeO.none _)
   | (with_reducible refine LeO.ite ?_ ?_)
   | (with_reducible refine LeO.bind ?_ (fun _ => ?_))
   | exact ih0 _ _ _ _ _ _ _
   | exact observatorylaw02_good.mono _ _
   | exact observatorylaw02_head.mono _
   | exact tree_Link.mono _ _ _
   | exact LeO.none _
   | refine LeO.ite ?_ ?_
   | refine LeO.bind ?_ (fun _ => ?_)
set_option maxHeartbeats 8000000 in
set_option maxRecDepth 100000 in
theorem observatorylaw02_TreeGrows.calls (k : Nat) (A0 : Option Addr) (c0 : Nat) (l0 : List ByteArray) (a1 : Int) (r : Bool) (w : World) (hr0 : Kd.C Kd.string w A0 l0.length l0) (hc0 : l0.length ≤ c0) (hT : Tabs w) (h : observatorylaw02_TreeGrows.f k l0 a1 = some r) (hr : Aside0 (r = true)) :
  Calls Tryd.prog 6 #[.slice A0 l0.length c0, .int .u8 a1] w fun e w' => e = .returned (.bool r) ∧ Below w.heap.size w w' := by
 have HR0 := Aside0.mk hr0
 have HC0 := Aside0.mk hc0
 clear hr0 hc0
 have HB := Aside0.mk (Below.refl w.heap.size w)
 have HT := Aside0.mk hT
 clear hT
 have H : ((observatorylaw02_head.f k).bind fun t438 => ((observatorylaw02_good.f k l0).bind fun t439 => (if t439 = true then (if (wrap64 ((l0.length : Int) + 1)) = 0 then (none) else ((tree_Link.f k l0 (Int.tmod (wrap64 (a1)) (wrap64 ((l0.length : Int) + 1)))).bind fun bt440 => (observatorylaw02_TreeGrows.l0 k l0 t438 (Int.tmod (wrap64 (a1)) (wrap64 ((l0.length : Int) + 1))) bt440.1 bt440.2 0 (l0.length : Int)))) else (some t438)))) = some r := h
 clear h
 replace H := Option.bind_eq_some_iff.mp H
 obtain ⟨t438, A30, H⟩ := H
 replace H : ((observatorylaw02_good.f k l0).bind fun t439 => (if t439 = true then (if (wrap64 ((l0.length : Int) + 1)) = 0 then (none) else ((tree_Link.f k l0 (Int.tmod (wrap64 (a1)) (wrap64 ((l0.length : Int) + 1)))).bind fun bt440 => (observatorylaw02_TreeGrows.l0 k l0 t438 (Int.tmod (wrap64 (a1)) (wrap64 ((l0.length : Int) + 1))) bt440.1 bt440.2 0 (l0.length : Int)))) else (some t438))) = some r := H
 have A3 := Aside0.mk A30
 clear A30
 replace H := Option.bind_eq_some_iff.mp H
 obtain ⟨t439, A40, H⟩ := H
 replace H : (if t439 = true then (if (wrap64 ((l0.length : Int) + 1)) = 0 then (none) else ((tree_Link.f k l0 (Int.tmod (wrap64 (a1)) (wrap64 ((l0.length : Int) + 1)))).bind fun bt440 => (observatorylaw02_TreeGrows.l0 k l0 t438 (Int.tmod (wrap64 (a1)) (wrap64 ((l0.length : Int) + 1))) bt440.1 bt440.2 0 (l0.length : Int)))) else (some t438)) = some r := H
 have A4 := Aside0.mk A40
 clear A40
 by_cases c5 : t439 = true
 ·
  subst c5
  have H1 : (if (wrap64 ((l0.length : Int) + 1)) = 0 then (none) else ((tree_Link.f k l0 (Int.tmod (wrap64 (a1)) (wrap64 ((l0.length : Int) + 1)))).bind fun bt440 => (observatorylaw02_TreeGrows.l0 k l0 t438 (Int.tmod (wrap64 (a1)) (wrap64 ((l0.length : Int) + 1))) bt440.1 bt440.2 0 (l0.length : Int)))) = some r := by rw [if_pos rfl] at H; exact H
  clear H
  have H := H1
  clear H1
  by_cases c6 : (wrap64 ((l0.length : Int) + 1)) = 0
  ·
   rw [if_pos c6] at H
   exact absurd H (by simp)
  ·
   rw [if_neg c6] at H
   have c6b0 : ((wrap64 ((l0.length : Int) + 1)) == 0) = false := beq_eq_false_iff_ne.mpr c6
   have c6b1 : ((wrap64 ((l0.length : Int) + 1)) != 0) = true := bne_iff_ne.mpr c6
   replace H := Option.bind_eq_some_iff.mp H
   obtain ⟨⟨t440, t443⟩, A70, H⟩ := H
   replace H : (observatorylaw02_TreeGrows.l0 k l0 t438 (Int.tmod (wrap64 (a1)) (wrap64 ((l0.length : Int) + 1))) t440 t443 0 (l0.length : Int)) = some r := H
   have A7 := Aside0.mk A70
   clear A70
   have H' := Aside0.mk H
   clear H
   go_enter Tryd.func6, Tryd.ntmps6
   go_wp2_with (first | ((with_reducible refine gate_callee (f := 8) rfl ?_); refine goesL_ (some 11) rfl rfl Tryd.func8 (by kernel_rfl) rfl #[] rfl (by (try simp only [List.map_toArray, List.map_cons, List.map_nil]); first | done | rfl | (simp only [List.length_drop, List.length_take]; rfl)) ?_; (with_reducible refine (observatorylaw02_head.calls k  t438 _ ?side1 A3.out).mono ?_); (case side1 => exact HT.out.below (by repeat (first | (with_reducible first | exact HB.out | apply below_alloc | apply pw_below_drewN | apply below_drew1) | exact HB.out))); rintro e w8 ⟨rfl, hb⟩; refine ⟨_, rfl, ?_⟩; have n0_ := Aside0.mk (below_step (by repeat (first | (with_reducible first | exact HB.out | apply below_alloc | apply pw_below_drewN | apply below_drew1) | exact HB.out)) hb); clear HB; have HB := n0_; clear n0_; (try clear hb); (try clear hb2); (try clear hk); (try clear hi); (try clear A3)) | ((with_reducible refine gate_callee (f := 9) rfl ?_); refine goesL_ (some 13) rfl rfl Tryd.func9 (by kernel_rfl) rfl #[.slice A0 l0.length c0] rfl (by (try simp only [List.map_toArray, List.map_cons, List.map_nil]); first | done | rfl | (simp only [List.length_drop, List.length_take]; rfl)) ?_; (with_reducible refine (observatorylaw02_good.calls k _ _ l0 true _ ?side1 ?side2 A4.out).mono ?_); (case side1 => repeat (first | exact (Kd.C_below HR0.out HB.out) | (with_reducible refine Kd.C_alloc ?_ _) | (with_reducible refine Kd.C_drewN ?_ _) | (with_reducible refine Kd.C_drew ?_))); (case side2 => exact HC0.out); rintro e w9 ⟨rfl, hb⟩; refine ⟨_, rfl, ?_⟩; have n0_ := Aside0.mk (below_step (by repeat (first | (with_reducible first | exact HB.out | apply below_alloc | apply pw_below_drewN | apply below_drew1) | exact HB.out)) hb); clear HB; have HB := n0_; clear n0_; (try clear hb); (try clear hb2); (try clear hk); (try clear hi); (try clear A4)) | ((with_reducible refine gate_callee (f := 19) rfl ?_); refine goesL_ (some 25) rfl rfl Tryd.func19 (by kernel_rfl) rfl #[.slice A0 l0.length c0, .int .i64 (Int.tmod (wrap64 (a1)) (wrap64 ((l0.length : Int) + 1)))] rfl (by (try simp only [List.map_toArray, List.map_cons, List.map_nil]); first | done | rfl | (simp only [List.length_drop, List.length_take]; rfl)) ?_; (with_reducible refine (tree_Link.calls k (fun k_ => k_ < w.heap.size) _ _ l0 (Int.tmod (wrap64 (a1)) (wrap64 ((l0.length : Int) + 1))) t440 t443 _ ?side1 ?side2 A7.out).mono ?_); (case side1 => exact Kd.V_mk HC0.out (Kd.F_below (Kd.C_F Kd.heap_string HR0.out) (by repeat (first | (with_reducible first | exact HB.out | apply below_alloc | apply pw_below_drewN | apply below_drew1) | exact HB.out)))); (case side2 => exact HT.out.below (by repeat (first | (with_reducible first | exact HB.out | apply below_alloc | apply pw_below_drewN | apply below_drew1) | exact HB.out))); rintro e w10 ⟨v441, rfl, ho0, hb⟩; refine ⟨_, rfl, ?_⟩; have n0_ := Aside0.mk (Kd.R_lower (Kd.R_mono (ok' := fun k_ => True) ho0 (fun _ hk_ => trivial)) (below_size (by repeat (first | (with_reducible first | exact HB.out | apply below_alloc | apply pw_below_drewN | apply below_drew1) | exact HB.out)))); have n1_ := Aside0.mk (below_step (by repeat (first | (with_reducible first | exact HB.out | apply below_alloc | apply pw_below_drewN | apply below_drew1) | exact HB.out)) hb); clear HB; have HO442 := n0_; have HB := n1_; clear n0_ n1_; (try clear hb); (try clear hb2); (try clear hk); (try clear hi); (try clear ho0); (try clear A7)))
   go_loopg [9, 10] k (fun kq v9 v10 w' => ∃ (x9_1 : Int) (x10_1 : Int), v9 = .int .i64 x9_1 ∧ v10 = .int .i64 x10_1 ∧ Aside0 (observatorylaw02_TreeGrows.l0 kq l0 t438 (Int.tmod (wrap64 (a1)) (wrap64 ((l0.length : Int) + 1))) t440 t443 x9_1 x10_1 = some r) ∧ Aside0 (kq ≤ k) ∧ Aside0 (Kd.R Kd.string 9 w' w.heap.size (fun _ => True) v441 t440) ∧ Aside0 (Below w.heap.size w w'))
   case atStart => exact ⟨(0), ((l0.length : Int)), (by first | rfl | (simp; done) | (simp [*]; done)), (by first | rfl | (simp; done) | (simp [*]; done)), H', ⟨Nat.le_refl _⟩, ⟨by (with_reducible repeat (first | apply Kd.R_alloc | apply Kd.R_drewN | apply Kd.R_drew)); exact HO442.out⟩, ⟨by repeat (first | (with_reducible first | exact HB.out | apply below_alloc | apply pw_below_drewN | apply below_drew1) | exact HB.out)⟩⟩
   case round =>
    clear H'
    try clear c1
    try clear p2
    try clear c5
    try clear c6
    try clear c6b0
    try clear c6b1
    try clear p6
    try clear c8
    try clear c9
    obtain ⟨x9_1, x10_1, rfl, rfl, HA, HK1, HO_7, HB⟩ := hrel
    cases gk with
    | zero => exact absurd HA.out (by simp [observatorylaw02_TreeGrows.l0])
    | succ k1 =>
     have H := HA.out
     clear HA
     simp only [observatorylaw02_TreeGrows.l0] at H
     by_cases c11 : x10_1 > 0
     ·
      rw [if_pos c11] at H
      have c11b0 : decide (0 < x10_1) = true := decide_eq_true c11
      clear c11
      have H' := Aside0.mk H
      clear H
      go_wp2
      go_roundg k1
      case measure => have := HK1.out; omega
      case rel => exact ⟨(wrap64 (x9_1 + 1)), (wrap64 (Int.tdiv x10_1 2)), (by first | rfl | (simp; done) | (simp [*]; done)), (by first | rfl | (simp; done) | (simp [*]; done)), H', ⟨by have := HK1.out; omega⟩, ⟨by (with_reducible repeat (first | apply Kd.R_alloc | apply Kd.R_drewN | apply Kd.R_drew)); exact HO_7.out⟩, ⟨by repeat (first | (with_reducible first | exact HB.out | apply below_alloc | apply pw_below_drewN | apply below_drew1) | exact HB.out)⟩⟩
     ·
      rw [if_neg c11] at H
      have c11b0 : decide (0 < x10_1) = false := decide_eq_false c11
      clear c11
      by_cases c12 : t438 = true
      ·
       subst c12
       have H1 : (if t443 = 0 then (if 0 ≤ (Int.tmod (wrap64 (a1)) (wrap64 ((l0.length : Int) + 1))) then (if (Int.tmod (wrap64 (a1)) (wrap64 ((l0.length : Int) + 1))) ≤ (l0.length : Int) then ((observatorylaw02_rooted.f (l0.take ((Int.tmod (wrap64 (a1)) (wrap64 ((l0.length : Int) + 1))) : Int).toNat)).bind fun t445 => ((observatorylaw02_rooted.f l0).bind fun t446 => ((tree_Extends.f t445 (Int.tmod (wrap64 (a1)) (wrap64 ((l0.length : Int) + 1))) t446 (l0.length : Int) t440).bind fun t447 => (if t447 = true then (if (t440.length : Int) ≤ (wrap64 (x9_1 + 1)) then (if (Int.tmod (wrap64 (a1)) (wrap64 ((l0.length : Int) + 1))) = 0 then (some (((t440.length : Int) == 0) == true)) else (some (((t440.length : Int) == 0) == ((Int.tmod (wrap64 (a1)) (wrap64 ((l0.length : Int) + 1))) == (l0.length : Int))))) else (some false)) else (some false))))) else (none)) else (none)) else (some false)) = some r := by rw [if_pos rfl] at H; exact H
       clear H
       have H := H1
       clear H1
       by_cases c13 : t443 = 0
       ·
        rw [if_pos c13] at H
        have c13b0 : (t443 == 0) = true := beq_iff_eq.mpr c13
        have c13b1 : (t443 != 0) = false := bne_eq_false_iff_eq.mpr c13
        clear c13
        obtain ⟨ji14, hji14⟩ : ∃ j_ : Int, (Int.tmod (wrap64 (a1)) (wrap64 ((l0.length : Int) + 1))) = j_ := ⟨_, rfl⟩
        replace H : (if 0 ≤ (ji14) then (if (ji14) ≤ (l0.length : Int) then ((observatorylaw02_rooted.f (l0.take ((ji14) : Int).toNat)).bind fun t445 => ((observatorylaw02_rooted.f l0).bind fun t446 => ((tree_Extends.f t445 (ji14) t446 (l0.length : Int) t440).bind fun t447 => (if t447 = true then (if (t440.length : Int) ≤ (wrap64 (x9_1 + 1)) then (if (ji14) = 0 then (some (((t440.length : Int) == 0) == true)) else (some (((t440.length : Int) == 0) == ((ji14) == (l0.length : Int))))) else (some false)) else (some false))))) else (none)) else (none)) = some r := by first | (rw [hji14] at H; exact H) | (simp only [hji14] at H ⊢; exact H)
        by_cases c15 : 0 ≤ (ji14)
        ·
         rw [if_pos c15] at H
         have c15b0 := eq_true c15
         have c15b1 : decide (0 ≤ (ji14)) = true := decide_eq_true c15
         clear c15
         by_cases c16 : (ji14) ≤ (l0.length : Int)
         ·
          rw [if_pos c16] at H
          have c16b0 := eq_true c16
          have c16b1 : decide ((ji14) ≤ (l0.length : Int)) = true := decide_eq_true c16
          clear c16
          replace H := Option.bind_eq_some_iff.mp H
          obtain ⟨t445, A170, H⟩ := H
          replace H : ((observatorylaw02_rooted.f l0).bind fun t446 => ((tree_Extends.f t445 (ji14) t446 (l0.length : Int) t440).bind fun t447 => (if t447 = true then (if (t440.length : Int) ≤ (wrap64 (x9_1 + 1)) then (if (ji14) = 0 then (some (((t440.length : Int) == 0) == true)) else (some (((t440.length : Int) == 0) == ((ji14) == (l0.length : Int))))) else (some false)) else (some false)))) = some r := H
          have A17 := Aside0.mk A170
          clear A170
          replace H := Option.bind_eq_some_iff.mp H
          obtain ⟨t446, A180, H⟩ := H
          replace H : ((tree_Extends.f t445 (ji14) t446 (l0.length : Int) t440).bind fun t447 => (if t447 = true then (if (t440.length : Int) ≤ (wrap64 (x9_1 + 1)) then (if (ji14) = 0 then (some (((t440.length : Int) == 0) == true)) else (some (((t440.length : Int) == 0) == ((ji14) == (l0.length : Int))))) else (some false)) else (some false))) = some r := H
          have A18 := Aside0.mk A180
          clear A180
          replace H := Option.bind_eq_some_iff.mp H
          obtain ⟨t447, A190, H⟩ := H
          replace H : (if t447 = true then (if (t440.length : Int) ≤ (wrap64 (x9_1 + 1)) then (if (ji14) = 0 then (some (((t440.length : Int) == 0) == true)) else (some (((t440.length : Int) == 0) == ((ji14) == (l0.length : Int))))) else (some false)) else (some false)) = some r := H
          have A19 := Aside0.mk A190
          clear A190
          by_cases c20 : t447 = true
          ·
           subst c20
           have H1 : (if (t440.length : Int) ≤ (wrap64 (x9_1 + 1)) then (if (ji14) = 0 then (some (((t440.length : Int) == 0) == true)) else (some (((t440.length : Int) == 0) == ((ji14) == (l0.length : Int))))) else (some false)) = some r := by rw [if_pos rfl] at H; exact H
           clear H
           have H := H1
           clear H1
           by_cases c21 : (t440.length : Int) ≤ (wrap64 (x9_1 + 1))
           ·
            rw [if_pos c21] at H
            have c21b0 : decide ((t440.length : Int) ≤ (wrap64 (x9_1 + 1))) = true := decide_eq_true c21
            clear c21
            by_cases c22 : (ji14) = 0
            ·
             rw [if_pos c22] at H
             have c22b0 : ((ji14) == 0) = true := beq_iff_eq.mpr c22
             have c22b1 : ((ji14) != 0) = false := bne_eq_false_iff_eq.mpr c22
             clear c22
             obtain rfl := Option.some.inj H
             obtain ⟨i023, hi023, _, hsz23, _⟩ := info_parts info9
             obtain ⟨hcut23, hA23, hC23⟩ := print_take_of (P := Tryd.prog) Value.string (⟨#[]⟩ : ByteArray) 22 9 .i64 Tryd.underlying22 hi023 hsz23 A0 c0 l0 (ji14) (of_decide_eq_true (by first | (with_reducible assumption) | assumption)) (of_decide_eq_true (by first | (with_reducible assumption) | assumption)) HC0.out
             have HR444 := Aside0.mk (Kd.C_of_reads (h1 := fun _ => rfl) (hA23 _ (Kd.reads_of_C HR0.out)))
             have HC444 := Aside0.mk hC23
             clear hA23 hC23 hi023 hsz23
             have hlen_ : (l0.take ((ji14) : Int).toNat).length = ji14.toNat := by (rw [List.length_take]; (try simp only [eq_iff_iff, iff_true, decide_eq_true_eq] at *); omega)
             go_wp2_with (first | (go_at_call 10; refine calls_of_args (args' := #[.slice _ (l0.take ((ji14) : Int).toNat).length _]) (by rw [hlen_]) ?_; (with_reducible refine (observatorylaw02_rooted.calls _ _ (l0.take ((ji14) : Int).toNat) t445 _ ?side1 ?side2 ?side3 A17.out).mono ?_); (case side1 => repeat (first | exact (Kd.C_below HR444.out HB.out) | (with_reducible refine Kd.C_alloc ?_ _) | (with_reducible refine Kd.C_drewN ?_ _) | (with_reducible refine Kd.C_drew ?_))); (case side2 => exact HC444.out); (case side3 => exact HT.out.below (by repeat (first | (with_reducible first | exact HB.out | apply below_alloc | apply pw_below_drewN | apply below_drew1) | exact HB.out))); rintro e w24 ⟨rfl, hb⟩; have n0_ := Aside0.mk (Kd.R_below (by (with_reducible repeat (first | apply Kd.R_alloc | apply Kd.R_drewN | apply Kd.R_drew)); exact HO_7.out) hb); have n1_ := Aside0.mk (below_step (by repeat (first | (with_reducible first | exact HB.out | apply below_alloc | apply pw_below_drewN | apply below_drew1) | exact HB.out)) hb); clear HO_7; clear HB; have HO_7 := n0_; have HB := n1_; clear n0_ n1_; (try clear hb); (try clear hb2); (try clear hk); (try clear hi); (try clear A17)) | (go_at_call 10; (with_reducible refine (observatorylaw02_rooted.calls _ _ l0 t446 _ ?side1 ?side2 ?side3 A18.out).mono ?_); (case side1 => repeat (first | exact (Kd.C_below HR0.out HB.out) | (with_reducible refine Kd.C_alloc ?_ _) | (with_reducible refine Kd.C_drewN ?_ _) | (with_reducible refine Kd.C_drew ?_))); (case side2 => exact HC0.out); (case side3 => exact HT.out.below (by repeat (first | (with_reducible first | exact HB.out | apply below_alloc | apply pw_below_drewN | apply below_drew1) | exact HB.out))); rintro e w25 ⟨rfl, hb⟩; have n0_ := Aside0.mk (Kd.R_below (by (with_reducible repeat (first | apply Kd.R_alloc | apply Kd.R_drewN | apply Kd.R_drew)); exact HO_7.out) hb); have n1_ := Aside0.mk (below_step (by repeat (first | (with_reducible first | exact HB.out | apply below_alloc | apply pw_below_drewN | apply below_drew1) | exact HB.out)) hb); clear HO_7; clear HB; have HO_7 := n0_; have HB := n1_; clear n0_ n1_; (try clear hb); (try clear hb2); (try clear hk); (try clear hi); (try clear A18); obtain ⟨Ao26, co26, eo26⟩ := Kd.R_slice HO_7.out; subst eo26) | (go_at_call 20; (with_reducible refine (tree_Extends.calls t445 (ji14) t446 (l0.length : Int) _ _ t440 true _ ?side1 ?side2 ?side3 A19.out).mono ?_); (case side1 => repeat (first | exact (Kd.R_reads' HO_7.out).2.2 | (with_reducible refine Kd.C_alloc ?_ _) | (with_reducible refine Kd.C_drewN ?_ _) | (with_reducible refine Kd.C_drew ?_))); (case side2 => exact (Kd.R_reads' HO_7.out).2.1); (case side3 => exact HT.out.below (by repeat (first | (with_reducible first | exact HB.out | apply below_alloc | apply pw_below_drewN | apply below_drew1) | exact HB.out))); rintro e w27 ⟨rfl, hb⟩; have n0_ := Aside0.mk (Kd.R_below (by (with_reducible repeat (first | apply Kd.R_alloc | apply Kd.R_drewN | apply Kd.R_drew)); exact HO_7.out) hb); have n1_ := Aside0.mk (below_step (by repeat (first | (with_reducible first | exact HB.out | apply below_alloc | apply pw_below_drewN | apply below_drew1) | exact HB.out)) hb); clear HO_7; clear HB; have HO_7 := n0_; have HB := n1_; clear n0_ n1_; (try clear hb); (try clear hb2); (try clear hk); (try clear hi); (try clear A19)))
             go_ret
             exact ⟨by first | rfl | (simp [errW_none, errW_some] <;> rfl) | (simp only [← hji14]; first | rfl | (simp [errW_none, errW_some] <;> rfl)) | (simp [*, errW_none, errW_some] <;> rfl), by repeat (first | (with_reducible first | exact HB.out | apply below_alloc | apply pw_below_drewN | apply below_drew1) | exact HB.out)⟩
            ·
             rw [if_neg c22] at H
             have c22b0 : ((ji14) == 0) = false := beq_eq_false_iff_ne.mpr c22
             have c22b1 : ((ji14) != 0) = true := bne_iff_ne.mpr c22
             obtain rfl := Option.some.inj H
             obtain ⟨i028, hi028, _, hsz28, _⟩ := info_parts info9
             obtain ⟨hcut28, hA28, hC28⟩ := print_take_of (P := Tryd.prog) Value.string (⟨#[]⟩ : ByteArray) 22 9 .i64 Tryd.underlying22 hi028 hsz28 A0 c0 l0 (ji14) (of_decide_eq_true (by first | (with_reducible assumption) | assumption)) (of_decide_eq_true (by first | (with_reducible assumption) | assumption)) HC0.out
             have HR444 := Aside0.mk (Kd.C_of_reads (h1 := fun _ => rfl) (hA28 _ (Kd.reads_of_C HR0.out)))
             have HC444 := Aside0.mk hC28
             clear hA28 hC28 hi028 hsz28
             have hlen_ : (l0.take ((ji14) : Int).toNat).length = ji14.toNat := by (rw [List.length_take]; (try simp only [eq_iff_iff, iff_true, decide_eq_true_eq] at *); omega)
             go_wp2_with (first | (go_at_call 10; refine calls_of_args (args' := #[.slice _ (l0.take ((ji14) : Int).toNat).length _]) (by rw [hlen_]) ?_; (with_reducible refine (observatorylaw02_rooted.calls _ _ (l0.take ((ji14) : Int).toNat) t445 _ ?side1 ?side2 ?side3 A17.out).mono ?_); (case side1 => repeat (first | exact (Kd.C_below HR444.out HB.out) | (with_reducible refine Kd.C_alloc ?_ _) | (with_reducible refine Kd.C_drewN ?_ _) | (with_reducible refine Kd.C_drew ?_))); (case side2 => exact HC444.out); (case side3 => exact HT.out.below (by repeat (first | (with_reducible first | exact HB.out | apply below_alloc | apply pw_below_drewN | apply below_drew1) | exact HB.out))); rintro e w29 ⟨rfl, hb⟩; have n0_ := Aside0.mk (Kd.R_below (by (with_reducible repeat (first | apply Kd.R_alloc | apply Kd.R_drewN | apply Kd.R_drew)); exact HO_7.out) hb); have n1_ := Aside0.mk (below_step (by repeat (first | (with_reducible first | exact HB.out | apply below_alloc | apply pw_below_drewN | apply below_drew1) | exact HB.out)) hb); clear HO_7; clear HB; have HO_7 := n0_; have HB := n1_; clear n0_ n1_; (try clear hb); (try clear hb2); (try clear hk); (try clear hi); (try clear A17)) | (go_at_call 10; (with_reducible refine (observatorylaw02_rooted.calls _ _ l0 t446 _ ?side1 ?side2 ?side3 A18.out).mono ?_); (case side1 => repeat (first | exact (Kd.C_below HR0.out HB.out) | (with_reducible refine Kd.C_alloc ?_ _) | (with_reducible refine Kd.C_drewN ?_ _) | (with_reducible refine Kd.C_drew ?_))); (case side2 => exact HC0.out); (case side3 => exact HT.out.below (by repeat (first | (with_reducible first | exact HB.out | apply below_alloc | apply pw_below_drewN | apply below_drew1) | exact HB.out))); rintro e w30 ⟨rfl, hb⟩; have n0_ := Aside0.mk (Kd.R_below (by (with_reducible repeat (first | apply Kd.R_alloc | apply Kd.R_drewN | apply Kd.R_drew)); exact HO_7.out) hb); have n1_ := Aside0.mk (below_step (by repeat (first | (with_reducible first | exact HB.out | apply below_alloc | apply pw_below_drewN | apply below_drew1) | exact HB.out)) hb); clear HO_7; clear HB; have HO_7 := n0_; have HB := n1_; clear n0_ n1_; (try clear hb); (try clear hb2); (try clear hk); (try clear hi); (try clear A18); obtain ⟨Ao31, co31, eo31⟩ := Kd.R_slice HO_7.out; subst eo31) | (go_at_call 20; (with_reducible refine (tree_Extends.calls t445 (ji14) t446 (l0.length : Int) _ _ t440 true _ ?side1 ?side2 ?side3 A19.out).mono ?_); (case side1 => repeat (first | exact (Kd.R_reads' HO_7.out).2.2 | (with_reducible refine Kd.C_alloc ?_ _) | (with_reducible refine Kd.C_drewN ?_ _) | (with_reducible refine Kd.C_drew ?_))); (case side2 => exact (Kd.R_reads' HO_7.out).2.1); (case side3 => exact HT.out.below (by repeat (first | (with_reducible first | exact HB.out | apply below_alloc | apply pw_below_drewN | apply below_drew1) | exact HB.out))); rintro e w32 ⟨rfl, hb⟩; have n0_ := Aside0.mk (Kd.R_below (by (with_reducible repeat (first | apply Kd.R_alloc | apply Kd.R_drewN | apply Kd.R_drew)); exact HO_7.out) hb); have n1_ := Aside0.mk (below_step (by repeat (first | (with_reducible first | exact HB.out | apply below_alloc | apply pw_below_drewN | apply below_drew1) | exact HB.out)) hb); clear HO_7; clear HB; have HO_7 := n0_; have HB := n1_; clear n0_ n1_; (try clear hb); (try clear hb2); (try clear hk); (try clear hi); (try clear A19)))
             go_ret
             exact ⟨by first | rfl | (simp [errW_none, errW_some] <;> rfl) | (simp only [← hji14]; first | rfl | (simp [errW_none, errW_some] <;> rfl)) | (simp [*, errW_none, errW_some] <;> rfl), by repeat (first | (with_reducible first | exact HB.out | apply below_alloc | apply pw_below_drewN | apply below_drew1) | exact HB.out)⟩
           ·
            rw [if_neg c21] at H
            have c21b0 : decide ((t440.length : Int) ≤ (wrap64 (x9_1 + 1))) = false := decide_eq_false c21
            clear c21
            exact absurd ((Option.some.inj H).trans hr.out) (by decide)
          ·
           replace c20 := Bool.eq_false_iff.mpr c20
           subst c20
           have H1 : (some false) = some r := by rw [if_neg (show ¬ (false = true) by decide)] at H; exact H
           clear H
           have H := H1
           clear H1
           exact absurd ((Option.some.inj H).trans hr.out) (by decide)
         ·
          rw [if_neg c16] at H
          exact absurd H (by simp)
        ·
         rw [if_neg c15] at H
         exact absurd H (by simp)
       ·
        rw [if_neg c13] at H
        have c13b0 : (t443 == 0) = false := beq_eq_false_iff_ne.mpr c13
        have c13b1 : (t443 != 0) = true := bne_iff_ne.mpr c13
        exact absurd ((Option.some.inj H).trans hr.out) (by decide)
      ·
       replace c12 := Bool.eq_false_iff.mpr c12
       subst c12
       have H1 : (some false) = some r := by rw [if_neg (show ¬ (false = true) by decide)] at H; exact H
       clear H
       have H := H1
       clear H1
       exact absurd ((Option.some.inj H).trans hr.out) (by decide)
 ·
  replace c5 := Bool.eq_false_iff.mpr c5
  subst c5
  have H1 : (some t438) = some r := by rw [if_neg (show ¬ (false = true) by decide)] at H; exact H
  clear H
  have H := H1
  clear H1
  obtain rfl := Option.some.inj H
  go_enter Tryd.func6, Tryd.ntmps6
  go_wp2_with (first | ((with_reducible refine gate_callee (f := 8) rfl ?_); refine goesL_ (some 11) rfl rfl Tryd.func8 (by kernel_rfl) rfl #[] rfl (by (try simp only [List.map_toArray, List.map_cons, List.map_nil]); first | done | rfl | (simp only [List.length_drop, List.length_take]; rfl)) ?_; (with_reducible refine (observatorylaw02_head.calls k  t438 _ ?side1 A3.out).mono ?_); (case side1 => exact HT.out.below (by repeat (first | (with_reducible first | exact HB.out | apply below_alloc | apply pw_below_drewN | apply below_drew1) | exact HB.out))); rintro e w43 ⟨rfl, hb⟩; refine ⟨_, rfl, ?_⟩; have n0_ := Aside0.mk (below_step (by repeat (first | (with_reducible first | exact HB.out | apply below_alloc | apply pw_below_drewN | apply below_drew1) | exact HB.out)) hb); clear HB; have HB := n0_; clear n0_; (try clear hb); (try clear hb2); (try clear hk); (try clear hi); (try clear A3)) | ((with_reducible refine gate_callee (f := 9) rfl ?_); refine goesL_ (some 13) rfl rfl Tryd.func9 (by kernel_rfl) rfl #[.slice A0 l0.length c0] rfl (by (try simp only [List.map_toArray, List.map_cons, List.map_nil]); first | done | rfl | (simp only [List.length_drop, List.length_take]; rfl)) ?_; (with_reducible refine (observatorylaw02_good.calls k _ _ l0 false _ ?side1 ?side2 A4.out).mono ?_); (case side1 => repeat (first | exact (Kd.C_below HR0.out HB.out) | (with_reducible refine Kd.C_alloc ?_ _) | (with_reducible refine Kd.C_drewN ?_ _) | (with_reducible refine Kd.C_drew ?_))); (case side2 => exact HC0.out); rintro e w44 ⟨rfl, hb⟩; refine ⟨_, rfl, ?_⟩; have n0_ := Aside0.mk (below_step (by repeat (first | (with_reducible first | exact HB.out | apply below_alloc | apply pw_below_drewN | apply below_drew1) | exact HB.out)) hb); clear HB; have HB := n0_; clear n0_; (try clear hb); (try clear hb2); (try clear hk); (try clear hi); (try clear A4)))
  go_ret
  exact ⟨by first | rfl | (simp [errW_none, errW_some] <;> rfl) | (simp [*, errW_none, errW_some] <;> rfl), by repeat (first | (with_reducible first | exact HB.out | apply below_alloc | apply pw_below_drewN | apply below_drew1) | exact HB.out)⟩

end Go.Proofs.YtapnakfhkdcfeaaDoor.P
