-- printed by wip/tools/oprint.py over the kit's print.py: this session's own program
import Derived.Test.YtapnakfhkdcfeaaDoorPx0
import Derived.Test.YtapnakfhkdcfeaaDoorPx1
import Derived.Test.YtapnakfhkdcfeaaDoorPx2
import Derived.Test.YtapnakfhkdcfeaaDoorPx3
import Derived.Test.YtapnakfhkdcfeaaDoorPx4
import Derived.Test.YtapnakfhkdcfeaaDoorPx6
import Derived.Test.YtapnakfhkdcfeaaDoorPx8
import Derived.Test.YtapnakfhkdcfeaaDoorPx11
namespace Go.Proofs.YtapnakfhkdcfeaaDoor.P
open Go.RowKit Go.Proofs.YtapnakfhkdcfeaaDoorW.PrintWords Go.Proofs.YtapnakfhkdcfeaaDoorW.PrintLast Go.Proofs.YtapnakfhkdcfeaaDoorW.PrintMore
attribute [local go_sem] max2_int min2_int max_two min_two max_three min_three max_four min_four   -- for this text's walks alone
set_option linter.unusedVariables false
set_option linter.unusedSimpArgs false
open Go.Proofs.YtapnakfhkdcfeaaDoor.Dg

/-! ### observatorylaw02_TreeContinues: function 7 -/
mutual
def observatorylaw02_TreeContinues.j0 : Nat → List ByteArray → List ByteArray → List ByteArray → Bool → Bool → Option (Bool)
 | 0, _, _, _, _, _ => none
 | k + 1, x0, x1, x2, x7, x31 => if x31 = true then (some x7) else ((observatorylaw02_rooted.f x0).bind fun t498 => ((observatorylaw02_rooted.f x1).bind fun t499 => ((tree_Extends.f t498 (x0.length : Int) t499 (x1.length : Int) x2).bind fun t500 => (if t500 = true then (if 0 ≤ (x0.length : Int) then (if (x0.length : Int) ≤ (x1.length : Int) then ((observatoryref01_Same.f k x0 (x1.take ((x0.length : Int) : Int).toNat)).bind fun t502 => (observatorylaw02_TreeContinues.j1 k x0 x1 x2 x7 t502)) else (none)) else (none)) else (observatorylaw02_TreeContinues.j1 k x0 x1 x2 x7 true)))))
def observatorylaw02_TreeContinues.j1 : Nat → List ByteArray → List ByteArray → List ByteArray → Bool → Bool → Option (Bool)
 | 0, _, _, _, _, _ => none
 | k + 1, x0, x1, x2, x7, x51 => if x51 = true then (some x7) else ((tree_Link.f k x1 (x0.length : Int)).bind fun bt503 => (if bt503.2 = 0 then (if (bt503.1.length : Int) = (x2.length : Int) then (observatorylaw02_TreeContinues.j2 k x0 x1 x2 x7 ((x0.length : Int) == 0)) else (observatorylaw02_TreeContinues.j2 k x0 x1 x2 x7 true)) else (observatorylaw02_TreeContinues.j2 k x0 x1 x2 x7 true)))
def observatorylaw02_TreeContinues.j2 : Nat → List ByteArray → List ByteArray → List ByteArray → Bool → Bool → Option (Bool)
 | 0, _, _, _, _, _ => none
 | k + 1, x0, x1, x2, x7, x73 => if x73 = true then (some false) else ((observatoryref02_Texts.f k x0).bind fun t507 => ((observatoryref02_Texts.f k x1).bind fun t510 => (if t507.length + t510.length < 8796093022208 then ((some (t507 ++ t510 : List ByteArray)).bind fun y513 => (if 0 ≤ (x0.length : Int) then (if (x0.length : Int) ≤ (x1.length : Int) then ((observatoryref02_Texts.f k (x1.take ((x0.length : Int) : Int).toNat)).bind fun t517 => (if y513.length + t517.length < 8796093022208 then ((some (y513 ++ t517 : List ByteArray)).bind fun y520 => (if x7 = true then ((observatorylaw02_rooted.f x0).bind fun t523 => ((observatoryref02_LinkTexts.f k (x1.length : Int) (x0.length : Int) true t523 x2).bind fun t524 => (if y520.length + t524.length < 8796093022208 then ((observatoryref02_Shown.f k (y520 ++ t524)).bind fun t530 => (some t530)) else (none)))) else (some false))) else (none))) else (none)) else (none))) else (none))))
end
def observatorylaw02_TreeContinues.f (k : Nat) (l0 : List ByteArray) (l1 : List ByteArray) (l2 : List ByteArray) : Option (Bool) := (observatorylaw02_head.f k).bind fun t494 => ((observatorylaw02_good.f k l0).bind fun t495 => (if t495 = true then ((observatorylaw02_good.f k l1).bind fun t496 => (if t496 = true then ((observatorylaw02_few.f k l2).bind fun t497 => (if t497 = true then (observatorylaw02_TreeContinues.j0 k l0 l1 l2 t494 (decide ((l0.length : Int) > (l1.length : Int)))) else (observatorylaw02_TreeContinues.j0 k l0 l1 l2 t494 true))) else (observatorylaw02_TreeContinues.j0 k l0 l1 l2 t494 true))) else (observatorylaw02_TreeContinues.j0 k l0 l1 l2 t494 true)))
theorem observatorylaw02_TreeContinues.mono_l : ∀ k, (∀ y0 y1 y2 y3 y4, LeO (observatorylaw02_TreeContinues.j0 k y0 y1 y2 y3 y4) (observatorylaw02_TreeContinues.j0 (k + 1) y0 y1 y2 y3 y4)) ∧ (∀ y0 y1 y2 y3 y4, LeO (observatorylaw02_TreeContinues.j1 k y0 y1 y2 y3 y4) (observatorylaw02_TreeContinues.j1 (k + 1) y0 y1 y2 y3 y4)) ∧ (∀ y0 y1 y2 y3 y4, LeO (observatorylaw02_TreeContinues.j2 k y0 y1 y2 y3 y4) (observatorylaw02_TreeContinues.j2 (k + 1) y0 y1 y2 y3 y4))
 | 0 => ⟨fun _ _ _ _ _ r h => by simp [observatorylaw02_TreeContinues.j0] at h, fun _ _ _ _ _ r h => by simp [observatorylaw02_TreeContinues.j1] at h, fun _ _ _ _ _ r h => by simp [observatorylaw02_TreeContinues.j2] at h⟩
 | k + 1 => by
  obtain ⟨ih0, ih1, ih2⟩ := observatorylaw02_TreeContinues.mono_l k
  refine ⟨?_, ?_, ?_⟩
  ·
   intro y0 y1 y2 y3 y4
   unfold observatorylaw02_TreeContinues.j0
   repeat' first
   | (with_reducible exact ih0 _ _ _ _ _)
   | (with_reducible exact ih1 _ _ _ _ _)
   | (with_reducible exact ih2 _ _ _ _ _)
   | (with_reducible exact observatorylaw02_few.mono _ _)
   | (with_reducible exact observatorylaw02_good.mono _ _)
   | (with_reducible exact observatorylaw02_head.mono _)
   | (with_reducible exact observatoryref01_Same.mono _ _ _)
   | (with_reducible exact observatoryref02_LinkTexts.mono _ _ _ _ _ _)
   | (with_reducible exact observatoryref02_Shown.mono _ _)
   | (with_reducible exact observatoryref02_Texts.mono _ _)
   | (with_reducible exact tree_Link.mono _ _ _)
   | (with_reducible exact LeO.refl _)
   | (with_reducible exact LeO.none _)
   | (with_reducible refine LeO.ite ?_ ?_)
   | (with_reducible refine LeO.bind ?_ (fun _ => ?_))
   | exact ih0 _ _ _ _ _
   | exact ih1 _ _ _ _ _
   | exact ih2 _ _ _ _ _
   | exact observatorylaw02_few.mono _ _
   | exact observatorylaw02_good.mono _ _
   | exact observatorylaw02_head.mono _
   | exact observatoryref01_Same.mono _ _ _
   | exact observatoryref02_LinkTexts.mono _ _ _ _ _ _
   | exact observatoryref02_Shown.mono _ _
   | exact observatoryref02_Texts.mono _ _
   | exact tree_Link.mono _ _ _
   | exact LeO.none _
   | refine LeO.ite ?_ ?_
   | refine LeO.bind ?_ (fun _ => ?_)
  ·
   intro y0 y1 y2 y3 y4
   unfold observatorylaw02_TreeContinues.j1
   repeat' first
   | (with_reducible exact ih0 _ _ _ _ _)
   | (with_reducible exact ih1 _ _ _ _ _)
   | (with_reducible exact ih2 _ _ _ _ _)
   | (with_reducible exact observatorylaw02_few.mono _ _)
   | (with_reducible exact observatorylaw02_good.mono _ _)
   | (with_reducible exact observatorylaw02_head.mono _)
   | (with_reducible exact observatoryref01_Same.mono _ _ _)
   | (with_reducible exact observatoryref02_LinkTexts.mono _ _ _ _ _ _)
   | (with_reducible exact observatoryref02_Shown.mono _ _)
   | (with_reducible exact observatoryref02_Texts.mono _ _)
   | (with_reducible exact tree_Link.mono _ _ _)
   | (with_reducible exact LeO.refl _)
   | (with_reducible exact LeO.none _)
   | (with_reducible refine LeO.ite ?_ ?_)
   | (with_reducible refine LeO.bind ?_ (fun _ => ?_))
   | exact ih0 _ _ _ _ _
   | exact ih1 _ _ _ _ _
   | exact ih2 _ _ _ _ _
   | exact observatorylaw02_few.mono _ _
   | exact observatorylaw02_good.mono _ _
   | exact observatorylaw02_head.mono _
   | exact observatoryref01_Same.mono _ _ _
   | exact observatoryref02_LinkTexts.mono _ _ _ _ _ _
   | exact observatoryref02_Shown.mono _ _
   | exact observatoryref02_Texts.mono _ _
   | exact tree_Link.mono _ _ _
   | exact LeO.none _
   | refine LeO.ite ?_ ?_
   | refine LeO.bind ?_ (fun _ => ?_)
  ·
   intro y0 y1 y2 y3 y4
   unfold observatorylaw02_TreeContinues.j2
   repeat' first
   | (with_reducible exact ih0 _ _ _ _ _)
   | (with_reducible exact ih1 _ _ _ _ _)
   | (with_reducible exact ih2 _ _ _ _ _)
   | (with_reducible exact observatorylaw02_few.mono _ _)
   | (with_reducible exact observatorylaw02_good.mono _ _)
   | (with_reducible exact observatorylaw02_head.mono _)
   | (with_reducible exact observatoryref01_Same.mono _ _ _)
   | (with_reducible exact observatoryref02_LinkTexts.mono _ _ _ _ _ _)
   | (with_reducible exact observatoryref02_Shown.mono _ _)
   | (with_reducible exact observatoryref02_Texts.mono _ _)
   | (with_reducible exact tree_Link.mono _ _ _)
   | (with_reducible exact LeO.refl _)
   | (with_reducible exact LeO.none _)
   | (with_reducible refine LeO.ite ?_ ?_)
   | (with_reducible refine LeO.bind ?_ (fun _ => ?_))
   | exact ih0 _ _ _ _ _
   | exact ih1 _ _ _ _ _
   | exact ih2 _ _ _ _ _
   | exact observatorylaw02_few.mono _ _
   | exact observatorylaw02_good.mono _ _
   | exact observatorylaw02_head.mono _
   | exact observatoryref01_Same.mono _ _ _
   | exact observatoryref02_LinkTexts.mono _ _ _ _ _ _
   | exact observatoryref02_Shown.mono _ _
   | exact observatoryref02_Texts.mono _ _
   | exact tree_Link.mono _ _ _
   | exact LeO.none _
   | refine LeO.ite ?_ ?_
   | refine LeO.bind ?_ (fun _ => ?_)
theorem observatorylaw02_TreeContinues.mono : ∀ a0 a1 a2 k, LeO (observatorylaw02_TreeContinues.f k a0 a1 a2) (observatorylaw02_TreeContinues.f (k + 1) a0 a1 a2) := by
 intro a0 a1 a2 k
 obtain ⟨ih0, ih1, ih2⟩ := observatorylaw02_TreeContinues.mono_l k
 unfold observatorylaw02_TreeContinues.f
 repeat' first
   | (with_reducible exact ih0 _ _ _ _ _)
   | (with_reducible exact ih1 _ _ _ _ _)
   | (with_reducible exact ih2 _ _ _ _ _)
   | (with_reducible exact observatorylaw02_few.mono _ _)
   | (with_reducible exact observatorylaw02_good.mono _ _)
   | (with_reducible exact observatorylaw02_head.mono _)
   | (with_reducible exact observatoryref01_Same.mono _ _ _)
   | (with_reducible exact observatoryref02_LinkTexts.mono _ _ _ _ _ _)
   | (with_reducible exact observatoryref02_Shown.mono _ _)
   | (with_reducible exact observatoryref02_Texts.mono _ _)
   | (with_reducible exact tree_Link.mono _ _ _)
   | (with_reducible exact LeO.refl _)
   | (with_reducible exact LeO.none _)
   | (with_reducible refine LeO.ite ?_ ?_)
   | (with_reducible refine LeO.bind ?_ (fun _ => ?_))
   | exact ih0 _ _ _ _ _
   | exact ih1 _ _ _ _ _
   | exact ih2 _ _ _ _ _
   | exact observatorylaw02_few.mono _ _
   | exact observatorylaw02_good.mono _ _
   | exact observatorylaw02_head.mono _
   | exact observatoryref01_Same.mono _ _ _
   | exact observatoryref02_LinkTexts.mono _ _ _ _ _ _
   | exact observatoryref02_Shown.mono _ _
   | exact observatoryref02_Texts.mono _ _
   | exact tree_Link.mono _ _ _
   | exact LeO.none _
   | refine LeO.ite ?_ ?_
   | refine LeO.bind ?_ (fun _ => ?_)
def observatorylaw02_TreeContinues.T9 : Bool × List (List Nat × List Nat) := (true, [([], []), ([0], [0]), ([], []), ([2, 1], [2]), ([1, 3, 3], [1, 3]), ([], []), ([], []), ([6], [6]), ([5, 7], [5, 7]), ([8, 4], [8]), ([4, 9, 9], [4, 9]), ([10, 10, 0, 1, 2, 3, 4, 5, 6, 7, 8, 9, 10], [10])])
def observatorylaw02_TreeContinues.B9 : List Nat := [0, 1, 0, 7, 15, 0, 0, 64, 224, 511, 1023, 2047]
theorem observatorylaw02_TreeContinues.tab9 : rtab .any (opsOf Tryd.f7 9) = observatorylaw02_TreeContinues.T9 := by kernel_rfl
theorem observatorylaw02_TreeContinues.bits9 : waitsOk observatorylaw02_TreeContinues.T9.2 observatorylaw02_TreeContinues.B9 = true := by kernel_rfl
set_option maxHeartbeats 8000000 in
set_option maxRecDepth 100000 in
theorem observatorylaw02_TreeContinues.calls (k : Nat) (A0 : Option Addr) (c0 : Nat) (l0 : List ByteArray) (A1 : Option Addr) (c1 : Nat) (l1 : List ByteArray) (A2 : Option Addr) (c2 : Nat) (l2 : List ByteArray) (r : Bool) (w : World) (hr0 : Kd.C Kd.string w A0 l0.length l0) (hc0 : l0.length ≤ c0) (hr1 : Kd.C Kd.string w A1 l1.length l1) (hc1 : l1.length ≤ c1) (hr2 : Kd.C Kd.string w A2 l2.length l2) (hc2 : l2.length ≤ c2) (hT : Tabs w) (h : observatorylaw02_TreeContinues.f k l0 l1 l2 = some r) (hr : Aside0 (r = true)) :
  Calls Tryd.prog 7 #[.slice A0 l0.length c0, .slice A1 l1.length c1, .slice A2 l2.length c2] w fun e w' => e = .returned (.bool r) ∧ Below w.heap.size w w' := by
 have HR0 := Aside0.mk hr0
 have HC0 := Aside0.mk hc0
 clear hr0 hc0
 have HR1 := Aside0.mk hr1
 have HC1 := Aside0.mk hc1
 clear hr1 hc1
 have HR2 := Aside0.mk hr2
 have HC2 := Aside0.mk hc2
 clear hr2 hc2
 have HB := Aside0.mk (Below.refl w.heap.size w)
 have HT := Aside0.mk hT
 clear hT
 have H : ((observatorylaw02_head.f k).bind fun t494 => ((observatorylaw02_good.f k l0).bind fun t495 => (if t495 = true then ((observatorylaw02_good.f k l1).bind fun t496 => (if t496 = true then ((observatorylaw02_few.f k l2).bind fun t497 => (if t497 = true then (observatorylaw02_TreeContinues.j0 k l0 l1 l2 t494 (decide ((l0.length : Int) > (l1.length : Int)))) else (observatorylaw02_TreeContinues.j0 k l0 l1 l2 t494 true))) else (observatorylaw02_TreeContinues.j0 k l0 l1 l2 t494 true))) else (observatorylaw02_TreeContinues.j0 k l0 l1 l2 t494 true)))) = some r := h
 clear h
 replace H := Option.bind_eq_some_iff.mp H
 obtain ⟨t494, A40, H⟩ := H
 replace H : ((observatorylaw02_good.f k l0).bind fun t495 => (if t495 = true then ((observatorylaw02_good.f k l1).bind fun t496 => (if t496 = true then ((observatorylaw02_few.f k l2).bind fun t497 => (if t497 = true then (observatorylaw02_TreeContinues.j0 k l0 l1 l2 t494 (decide ((l0.length : Int) > (l1.length : Int)))) else (observatorylaw02_TreeContinues.j0 k l0 l1 l2 t494 true))) else (observatorylaw02_TreeContinues.j0 k l0 l1 l2 t494 true))) else (observatorylaw02_TreeContinues.j0 k l0 l1 l2 t494 true))) = some r := H
 have A4 := Aside0.mk A40
 clear A40
 have HC5 := Aside0.mk H
 clear H
 go_enter Tryd.func7, Tryd.ntmps7
 go_upto_region 2 with (first | ((with_reducible refine gate_callee (f := 8) rfl ?_); refine goesL_ (some 11) rfl rfl Tryd.func8 (by kernel_rfl) rfl #[] rfl (by (try simp only [List.map_toArray, List.map_cons, List.map_nil]); first | done | rfl | (simp only [List.length_drop, List.length_take]; rfl)) ?_; (with_reducible refine (observatorylaw02_head.calls k  t494 _ ?side1 A4.out).mono ?_); (case side1 => exact HT.out.below (by repeat (first | (with_reducible first | exact HB.out | apply below_alloc | apply pw_below_drewN | apply below_drew1) | exact HB.out))); rintro e w6 ⟨rfl, hb⟩; refine ⟨_, rfl, ?_⟩; have n0_ := Aside0.mk (below_step (by repeat (first | (with_reducible first | exact HB.out | apply below_alloc | apply pw_below_drewN | apply below_drew1) | exact HB.out)) hb); clear HB; have HB := n0_; clear n0_; (try clear hb); (try clear hb2); (try clear hk); (try clear hi); (try clear A4)))
 (try simp only [Act.put, List.setIfInBounds_toArray, List.set_cons_zero, List.set_cons_succ])
 go_cut [31] (fun v31 wc => ∃ (kq : Nat) (x31_4 : Bool), v31 = .bool x31_4 ∧ Aside0 (observatorylaw02_TreeContinues.j0 kq l0 l1 l2 t494 x31_4 = some r) ∧ Aside0 (kq ≤ k) ∧ Aside0 (Below w.heap.size w wc))
 case first =>
  have H := HC5.out
  clear HC5
  replace H := Option.bind_eq_some_iff.mp H
  obtain ⟨t495, A70, H⟩ := H
  replace H : (if t495 = true then ((observatorylaw02_good.f k l1).bind fun t496 => (if t496 = true then ((observatorylaw02_few.f k l2).bind fun t497 => (if t497 = true then (observatorylaw02_TreeContinues.j0 k l0 l1 l2 t494 (decide ((l0.length : Int) > (l1.length : Int)))) else (observatorylaw02_TreeContinues.j0 k l0 l1 l2 t494 true))) else (observatorylaw02_TreeContinues.j0 k l0 l1 l2 t494 true))) else (observatorylaw02_TreeContinues.j0 k l0 l1 l2 t494 true)) = some r := H
  have A7 := Aside0.mk A70
  clear A70
  by_cases c8 : t495 = true
  ·
   subst c8
   have H1 : ((observatorylaw02_good.f k l1).bind fun t496 => (if t496 = true then ((observatorylaw02_few.f k l2).bind fun t497 => (if t497 = true then (observatorylaw02_TreeContinues.j0 k l0 l1 l2 t494 (decide ((l0.length : Int) > (l1.length : Int)))) else (observatorylaw02_TreeContinues.j0 k l0 l1 l2 t494 true))) else (observatorylaw02_TreeContinues.j0 k l0 l1 l2 t494 true))) = some r := by rw [if_pos rfl] at H; exact H
   clear H
   have H := H1
   clear H1
   replace H := Option.bind_eq_some_iff.mp H
   obtain ⟨t496, A90, H⟩ := H
   replace H : (if t496 = true then ((observatorylaw02_few.f k l2).bind fun t497 => (if t497 = true then (observatorylaw02_TreeContinues.j0 k l0 l1 l2 t494 (decide ((l0.length : Int) > (l1.length : Int)))) else (observatorylaw02_TreeContinues.j0 k l0 l1 l2 t494 true))) else (observatorylaw02_TreeContinues.j0 k l0 l1 l2 t494 true)) = some r := H
   have A9 := Aside0.mk A90
   clear A90
   by_cases c10 : t496 = true
   ·
    subst c10
    have H1 : ((observatorylaw02_few.f k l2).bind fun t497 => (if t497 = true then (observatorylaw02_TreeContinues.j0 k l0 l1 l2 t494 (decide ((l0.length : Int) > (l1.length : Int)))) else (observatorylaw02_TreeContinues.j0 k l0 l1 l2 t494 true))) = some r := by rw [if_pos rfl] at H; exact H
    clear H
    have H := H1
    clear H1
    replace H := Option.bind_eq_some_iff.mp H
    obtain ⟨t497, A110, H⟩ := H
    replace H : (if t497 = true then (observatorylaw02_TreeContinues.j0 k l0 l1 l2 t494 (decide ((l0.length : Int) > (l1.length : Int)))) else (observatorylaw02_TreeContinues.j0 k l0 l1 l2 t494 true)) = some r := H
    have A11 := Aside0.mk A110
    clear A110
    by_cases c12 : t497 = true
    ·
     subst c12
     have H1 : (observatorylaw02_TreeContinues.j0 k l0 l1 l2 t494 (decide ((l0.length : Int) > (l1.length : Int)))) = some r := by rw [if_pos rfl] at H; exact H
     clear H
     have H := H1
     clear H1
     have H' := Aside0.mk H
     clear H
     go_wp2_with (first | ((with_reducible refine gate_callee (f := 9) rfl ?_); refine goesL_ (some 13) rfl rfl Tryd.func9 (by kernel_rfl) rfl #[.slice A0 l0.length c0] rfl (by (try simp only [List.map_toArray, List.map_cons, List.map_nil]); first | done | rfl | (simp only [List.length_drop, List.length_take]; rfl)) ?_; (with_reducible refine (observatorylaw02_good.calls k _ _ l0 true _ ?side1 ?side2 A7.out).mono ?_); (case side1 => repeat (first | exact (Kd.C_below HR0.out HB.out) | (with_reducible refine Kd.C_alloc ?_ _) | (with_reducible refine Kd.C_drewN ?_ _) | (with_reducible refine Kd.C_drew ?_))); (case side2 => exact HC0.out); rintro e w13 ⟨rfl, hb⟩; refine ⟨_, rfl, ?_⟩; have n0_ := Aside0.mk (below_step (by repeat (first | (with_reducible first | exact HB.out | apply below_alloc | apply pw_below_drewN | apply below_drew1) | exact HB.out)) hb); clear HB; have HB := n0_; clear n0_; (try clear hb); (try clear hb2); (try clear hk); (try clear hi); (try clear A7)) | (go_at_call 9; (with_reducible refine (observatorylaw02_good.calls k _ _ l1 true _ ?side1 ?side2 A9.out).mono ?_); (case side1 => repeat (first | exact (Kd.C_below HR1.out HB.out) | (with_reducible refine Kd.C_alloc ?_ _) | (with_reducible refine Kd.C_drewN ?_ _) | (with_reducible refine Kd.C_drew ?_))); (case side2 => exact HC1.out); rintro e w14 ⟨rfl, hb⟩; have n0_ := Aside0.mk (below_step (by repeat (first | (with_reducible first | exact HB.out | apply below_alloc | apply pw_below_drewN | apply below_drew1) | exact HB.out)) hb); clear HB; have HB := n0_; clear n0_; (try clear hb); (try clear hb2); (try clear hk); (try clear hi); (try clear A9)) | (go_at_call 13; (with_reducible refine (observatorylaw02_few.calls k _ _ l2 true _ ?side1 ?side2 A11.out).mono ?_); (case side1 => repeat (first | exact (Kd.C_below HR2.out HB.out) | (with_reducible refine Kd.C_alloc ?_ _) | (with_reducible refine Kd.C_drewN ?_ _) | (with_reducible refine Kd.C_drew ?_))); (case side2 => exact HC2.out); rintro e w' ⟨rfl, ⟨nd, rfl⟩⟩; (try clear A11)))
     go_meet
     case rel => exact ⟨_, (decide ((l0.length : Int) > (l1.length : Int))), (by first | rfl | (simp; done) | (simp [*]; done)), H', ⟨by first | omega | exact Nat.le_refl _⟩, ⟨by repeat (first | (with_reducible first | exact HB.out | apply below_alloc | apply pw_below_drewN | apply below_drew1) | exact HB.out)⟩⟩
    ·
     replace c12 := Bool.eq_false_iff.mpr c12
     subst c12
     have H1 : (observatorylaw02_TreeContinues.j0 k l0 l1 l2 t494 true) = some r := by rw [if_neg (show ¬ (false = true) by decide)] at H; exact H
     clear H
     have H := H1
     clear H1
     have H' := Aside0.mk H
     clear H
     go_wp2_with (first | ((with_reducible refine gate_callee (f := 9) rfl ?_); refine goesL_ (some 13) rfl rfl Tryd.func9 (by kernel_rfl) rfl #[.slice A0 l0.length c0] rfl (by (try simp only [List.map_toArray, List.map_cons, List.map_nil]); first | done | rfl | (simp only [List.length_drop, List.length_take]; rfl)) ?_; (with_reducible refine (observatorylaw02_good.calls k _ _ l0 true _ ?side1 ?side2 A7.out).mono ?_); (case side1 => repeat (first | exact (Kd.C_below HR0.out HB.out) | (with_reducible refine Kd.C_alloc ?_ _) | (with_reducible refine Kd.C_drewN ?_ _) | (with_reducible refine Kd.C_drew ?_))); (case side2 => exact HC0.out); rintro e w15 ⟨rfl, hb⟩; refine ⟨_, rfl, ?_⟩; have n0_ := Aside0.mk (below_step (by repeat (first | (with_reducible first | exact HB.out | apply below_alloc | apply pw_below_drewN | apply below_drew1) | exact HB.out)) hb); clear HB; have HB := n0_; clear n0_; (try clear hb); (try clear hb2); (try clear hk); (try clear hi); (try clear A7)) | (go_at_call 9; (with_reducible refine (observatorylaw02_good.calls k _ _ l1 true _ ?side1 ?side2 A9.out).mono ?_); (case side1 => repeat (first | exact (Kd.C_below HR1.out HB.out) | (with_reducible refine Kd.C_alloc ?_ _) | (with_reducible refine Kd.C_drewN ?_ _) | (with_reducible refine Kd.C_drew ?_))); (case side2 => exact HC1.out); rintro e w16 ⟨rfl, hb⟩; have n0_ := Aside0.mk (below_step (by repeat (first | (with_reducible first | exact HB.out | apply below_alloc | apply pw_below_drewN | apply below_drew1) | exact HB.out)) hb); clear HB; have HB := n0_; clear n0_; (try clear hb); (try clear hb2); (try clear hk); (try clear hi); (try clear A9)) | (go_at_call 13; (with_reducible refine (observatorylaw02_few.calls k _ _ l2 false _ ?side1 ?side2 A11.out).mono ?_); (case side1 => repeat (first | exact (Kd.C_below HR2.out HB.out) | (with_reducible refine Kd.C_alloc ?_ _) | (with_reducible refine Kd.C_drewN ?_ _) | (with_reducible refine Kd.C_drew ?_))); (case side2 => exact HC2.out); rintro e w' ⟨rfl, ⟨nd, rfl⟩⟩; (try clear A11)))
     go_meet
     case rel => exact ⟨_, (true), (by first | rfl | (simp; done) | (simp [*]; done)), H', ⟨by first | omega | exact Nat.le_refl _⟩, ⟨by repeat (first | (with_reducible first | exact HB.out | apply below_alloc | apply pw_below_drewN | apply below_drew1) | exact HB.out)⟩⟩
   ·
    replace c10 := Bool.eq_false_iff.mpr c10
    subst c10
    have H1 : (observatorylaw02_TreeContinues.j0 k l0 l1 l2 t494 true) = some r := by rw [if_neg (show ¬ (false = true) by decide)] at H; exact H
    clear H
    have H := H1
    clear H1
    have H' := Aside0.mk H
    clear H
    go_wp2_with (first | ((with_reducible refine gate_callee (f := 9) rfl ?_); refine goesL_ (some 13) rfl rfl Tryd.func9 (by kernel_rfl) rfl #[.slice A0 l0.length c0] rfl (by (try simp only [List.map_toArray, List.map_cons, List.map_nil]); first | done | rfl | (simp only [List.length_drop, List.length_take]; rfl)) ?_; (with_reducible refine (observatorylaw02_good.calls k _ _ l0 true _ ?side1 ?side2 A7.out).mono ?_); (case side1 => repeat (first | exact (Kd.C_below HR0.out HB.out) | (with_reducible refine Kd.C_alloc ?_ _) | (with_reducible refine Kd.C_drewN ?_ _) | (with_reducible refine Kd.C_drew ?_))); (case side2 => exact HC0.out); rintro e w17 ⟨rfl, hb⟩; refine ⟨_, rfl, ?_⟩; have n0_ := Aside0.mk (below_step (by repeat (first | (with_reducible first | exact HB.out | apply below_alloc | apply pw_below_drewN | apply below_drew1) | exact HB.out)) hb); clear HB; have HB := n0_; clear n0_; (try clear hb); (try clear hb2); (try clear hk); (try clear hi); (try clear A7)) | (go_at_call 9; (with_reducible refine (observatorylaw02_good.calls k _ _ l1 false _ ?side1 ?side2 A9.out).mono ?_); (case side1 => repeat (first | exact (Kd.C_below HR1.out HB.out) | (with_reducible refine Kd.C_alloc ?_ _) | (with_reducible refine Kd.C_drewN ?_ _) | (with_reducible refine Kd.C_drew ?_))); (case side2 => exact HC1.out); rintro e w18 ⟨rfl, hb⟩; have n0_ := Aside0.mk (below_step (by repeat (first | (with_reducible first | exact HB.out | apply below_alloc | apply pw_below_drewN | apply below_drew1) | exact HB.out)) hb); clear HB; have HB := n0_; clear n0_; (try clear hb); (try clear hb2); (try clear hk); (try clear hi); (try clear A9)))
    go_meet
    case rel => exact ⟨_, (true), (by first | rfl | (simp; done) | (simp [*]; done)), H', ⟨by first | omega | exact Nat.le_refl _⟩, ⟨by repeat (first | (with_reducible first | exact HB.out | apply below_alloc | apply pw_below_drewN | apply below_drew1) | exact HB.out)⟩⟩
  ·
   replace c8 := Bool.eq_false_iff.mpr c8
   subst c8
   have H1 : (observatorylaw02_TreeContinues.j0 k l0 l1 l2 t494 true) = some r := by rw [if_neg (show ¬ (false = true) by decide)] at H; exact H
   clear H
   have H := H1
   clear H1
   have H' := Aside0.mk H
   clear H
   go_wp2_with (first | ((with_reducible refine gate_callee (f := 9) rfl ?_); refine goesL_ (some 13) rfl rfl Tryd.func9 (by kernel_rfl) rfl #[.slice A0 l0.length c0] rfl (by (try simp only [List.map_toArray, List.map_cons, List.map_nil]); first | done | rfl | (simp only [List.length_drop, List.length_take]; rfl)) ?_; (with_reducible refine (observatorylaw02_good.calls k _ _ l0 false _ ?side1 ?side2 A7.out).mono ?_); (case side1 => repeat (first | exact (Kd.C_below HR0.out HB.out) | (with_reducible refine Kd.C_alloc ?_ _) | (with_reducible refine Kd.C_drewN ?_ _) | (with_reducible refine Kd.C_drew ?_))); (case side2 => exact HC0.out); rintro e w19 ⟨rfl, hb⟩; refine ⟨_, rfl, ?_⟩; have n0_ := Aside0.mk (below_step (by repeat (first | (with_reducible first | exact HB.out | apply below_alloc | apply pw_below_drewN | apply below_drew1) | exact HB.out)) hb); clear HB; have HB := n0_; clear n0_; (try clear hb); (try clear hb2); (try clear hk); (try clear hi); (try clear A7)))
   go_meet
   case rel => exact ⟨_, (true), (by first | rfl | (simp; done) | (simp [*]; done)), H', ⟨by first | omega | exact Nat.le_refl _⟩, ⟨by repeat (first | (with_reducible first | exact HB.out | apply below_alloc | apply pw_below_drewN | apply below_drew1) | exact HB.out)⟩⟩
 case rest =>
  clear HC5
  try clear c1
  try clear c2
  try clear p2
  try clear c7
  try clear c8
  try clear c9
  try clear c10
  try clear c12
  obtain ⟨kq, x31_4, rfl, HA, HJ4, HB⟩ := hcut
  cases kq with
  | zero => exact absurd HA.out (by simp [observatorylaw02_TreeContinues.j0])
  | succ kj4 =>
   have H := HA.out
   clear HA
   simp only [observatorylaw02_TreeContinues.j0] at H
   by_cases c20 : x31_4 = true
   ·
    subst c20
    have H1 : (some t494) = some r := by rw [if_pos rfl] at H; exact H
    clear H
    have H := H1
    clear H1
    obtain rfl := Option.some.inj H
    go_wp2
    go_ret
    exact ⟨by first | rfl | (simp [errW_none, errW_some] <;> rfl) | (simp [*, errW_none, errW_some] <;> rfl), by repeat (first | (with_reducible first | exact HB.out | apply below_alloc | apply pw_below_drewN | apply below_drew1) | exact HB.out)⟩
   ·
    replace c20 := Bool.eq_false_iff.mpr c20
    subst c20
    have H1 : ((observatorylaw02_rooted.f l0).bind fun t498 => ((observatorylaw02_rooted.f l1).bind fun t499 => ((tree_Extends.f t498 (l0.length : Int) t499 (l1.length : Int) l2).bind fun t500 => (if t500 = true then (if 0 ≤ (l0.length : Int) then (if (l0.length : Int) ≤ (l1.length : Int) then ((observatoryref01_Same.f kj4 l0 (l1.take ((l0.length : Int) : Int).toNat)).bind fun t502 => (observatorylaw02_TreeContinues.j1 kj4 l0 l1 l2 t494 t502)) else (none)) else (none)) else (observatorylaw02_TreeContinues.j1 kj4 l0 l1 l2 t494 true))))) = some r := by rw [if_neg (show ¬ (false = true) by decide)] at H; exact H
    clear H
    have H := H1
    clear H1
    have HC21 := Aside0.mk H
    clear H
    go_upto_region 4 with (fail)
    go_cut [51] (fun v51 wc => ∃ (kq : Nat) (x51_20 : Bool), v51 = .bool x51_20 ∧ Aside0 (observatorylaw02_TreeContinues.j1 kq l0 l1 l2 t494 x51_20 = some r) ∧ Aside0 (kq ≤ kj4) ∧ Aside0 (Below w.heap.size w wc))
    case first =>
     have H := HC21.out
     clear HC21
     replace H := Option.bind_eq_some_iff.mp H
     obtain ⟨t498, A220, H⟩ := H
     replace H : ((observatorylaw02_rooted.f l1).bind fun t499 => ((tree_Extends.f t498 (l0.length : Int) t499 (l1.length : Int) l2).bind fun t500 => (if t500 = true then (if 0 ≤ (l0.length : Int) then (if (l0.length : Int) ≤ (l1.length : Int) then ((observatoryref01_Same.f kj4 l0 (l1.take ((l0.length : Int) : Int).toNat)).bind fun t502 => (observatorylaw02_TreeContinues.j1 kj4 l0 l1 l2 t494 t502)) else (none)) else (none)) else (observatorylaw02_TreeContinues.j1 kj4 l0 l1 l2 t494 true)))) = some r := H
     have A22 := Aside0.mk A220
     clear A220
     replace H := Option.bind_eq_some_iff.mp H
     obtain ⟨t499, A230, H⟩ := H
     replace H : ((tree_Extends.f t498 (l0.length : Int) t499 (l1.length : Int) l2).bind fun t500 => (if t500 = true then (if 0 ≤ (l0.length : Int) then (if (l0.length : Int) ≤ (l1.length : Int) then ((observatoryref01_Same.f kj4 l0 (l1.take ((l0.length : Int) : Int).toNat)).bind fun t502 => (observatorylaw02_TreeContinues.j1 kj4 l0 l1 l2 t494 t502)) else (none)) else (none)) else (observatorylaw02_TreeContinues.j1 kj4 l0 l1 l2 t494 true))) = some r := H
     have A23 := Aside0.mk A230
     clear A230
     replace H := Option.bind_eq_some_iff.mp H
     obtain ⟨t500, A240, H⟩ := H
     replace H : (if t500 = true then (if 0 ≤ (l0.length : Int) then (if (l0.length : Int) ≤ (l1.length : Int) then ((observatoryref01_Same.f kj4 l0 (l1.take ((l0.length : Int) : Int).toNat)).bind fun t502 => (observatorylaw02_TreeContinues.j1 kj4 l0 l1 l2 t494 t502)) else (none)) else (none)) else (observatorylaw02_TreeContinues.j1 kj4 l0 l1 l2 t494 true)) = some r := H
     have A24 := Aside0.mk A240
     clear A240
     by_cases c25 : t500 = true
     ·
      subst c25
      have H1 : (if 0 ≤ (l0.length : Int) then (if (l0.length : Int) ≤ (l1.length : Int) then ((observatoryref01_Same.f kj4 l0 (l1.take ((l0.length : Int) : Int).toNat)).bind fun t502 => (observatorylaw02_TreeContinues.j1 kj4 l0 l1 l2 t494 t502)) else (none)) else (none)) = some r := by rw [if_pos rfl] at H; exact H
      clear H
      have H := H1
      clear H1
      by_cases c26 : 0 ≤ (l0.length : Int)
      ·
       rw [if_pos c26] at H
       have c26b0 := eq_true c26
       have c26b1 : decide (0 ≤ (l0.length : Int)) = true := decide_eq_true c26
       clear c26
       by_cases c27 : (l0.length : Int) ≤ (l1.length : Int)
       ·
        rw [if_pos c27] at H
        have c27b0 := eq_true c27
        have c27b1 : decide ((l0.length : Int) ≤ (l1.length : Int)) = true := decide_eq_true c27
        clear c27
        replace H := Option.bind_eq_some_iff.mp H
        obtain ⟨t502, A280, H⟩ := H
        replace H : (observatorylaw02_TreeContinues.j1 kj4 l0 l1 l2 t494 t502) = some r := H
        have A28 := Aside0.mk A280
        clear A280
        have H' := Aside0.mk H
        clear H
        have hlen_ : (l1.take ((l0.length : Int) : Int).toNat).length = min l0.length l1.length := by (rw [List.length_take]; (try simp only [eq_iff_iff, iff_true, decide_eq_true_eq] at *); omega)
        go_wp2_with (first | ((with_reducible refine gate_callee (f := 10) rfl ?_); refine goesL_ (some 34) rfl rfl Tryd.func10 (by kernel_rfl) rfl #[.slice A0 l0.length c0] rfl (by (try simp only [List.map_toArray, List.map_cons, List.map_nil]); first | done | rfl | (simp only [List.length_drop, List.length_take]; rfl)) ?_; (with_reducible refine (observatorylaw02_rooted.calls _ _ l0 t498 _ ?side1 ?side2 ?side3 A22.out).mono ?_); (case side1 => repeat (first | exact (Kd.C_below HR0.out HB.out) | (with_reducible refine Kd.C_alloc ?_ _) | (with_reducible refine Kd.C_drewN ?_ _) | (with_reducible refine Kd.C_drew ?_))); (case side2 => exact HC0.out); (case side3 => exact HT.out.below (by repeat (first | (with_reducible first | exact HB.out | apply below_alloc | apply pw_below_drewN | apply below_drew1) | exact HB.out))); rintro e w29 ⟨rfl, hb⟩; refine ⟨_, rfl, ?_⟩; have n0_ := Aside0.mk (below_step (by repeat (first | (with_reducible first | exact HB.out | apply below_alloc | apply pw_below_drewN | apply below_drew1) | exact HB.out)) hb); clear HB; have HB := n0_; clear n0_; (try clear hb); (try clear hb2); (try clear hk); (try clear hi); (try clear A22)) | ((with_reducible refine gate_callee (f := 10) rfl ?_); refine goesL_ (some 38) rfl rfl Tryd.func10 (by kernel_rfl) rfl #[.slice A1 l1.length c1] rfl (by (try simp only [List.map_toArray, List.map_cons, List.map_nil]); first | done | rfl | (simp only [List.length_drop, List.length_take]; rfl)) ?_; (with_reducible refine (observatorylaw02_rooted.calls _ _ l1 t499 _ ?side1 ?side2 ?side3 A23.out).mono ?_); (case side1 => repeat (first | exact (Kd.C_below HR1.out HB.out) | (with_reducible refine Kd.C_alloc ?_ _) | (with_reducible refine Kd.C_drewN ?_ _) | (with_reducible refine Kd.C_drew ?_))); (case side2 => exact HC1.out); (case side3 => exact HT.out.below (by repeat (first | (with_reducible first | exact HB.out | apply below_alloc | apply pw_below_drewN | apply below_drew1) | exact HB.out))); rintro e w30 ⟨rfl, hb⟩; refine ⟨_, rfl, ?_⟩; have n0_ := Aside0.mk (below_step (by repeat (first | (with_reducible first | exact HB.out | apply below_alloc | apply pw_below_drewN | apply below_drew1) | exact HB.out)) hb); clear HB; have HB := n0_; clear n0_; (try clear hb); (try clear hb2); (try clear hk); (try clear hi); (try clear A23)) | ((with_reducible refine gate_callee (f := 20) rfl ?_); refine goesL_ (some 42) rfl rfl Tryd.func20 (by kernel_rfl) rfl #[.string t498, .int .i64 (l0.length : Int), .string t499, .int .i64 (l1.length : Int), .slice A2 l2.length c2] rfl (by (try simp only [List.map_toArray, List.map_cons, List.map_nil]); first | done | rfl | (simp only [List.length_drop, List.length_take]; rfl)) ?_; (with_reducible refine (tree_Extends.calls t498 (l0.length : Int) t499 (l1.length : Int) _ _ l2 true _ ?side1 ?side2 ?side3 A24.out).mono ?_); (case side1 => repeat (first | exact (Kd.C_below HR2.out HB.out) | (with_reducible refine Kd.C_alloc ?_ _) | (with_reducible refine Kd.C_drewN ?_ _) | (with_reducible refine Kd.C_drew ?_))); (case side2 => exact HC2.out); (case side3 => exact HT.out.below (by repeat (first | (with_reducible first | exact HB.out | apply below_alloc | apply pw_below_drewN | apply below_drew1) | exact HB.out))); rintro e w31 ⟨rfl, hb⟩; refine ⟨_, rfl, ?_⟩; have n0_ := Aside0.mk (below_step (by repeat (first | (with_reducible first | exact HB.out | apply below_alloc | apply pw_below_drewN | apply below_drew1) | exact HB.out)) hb); clear HB; have HB := n0_; clear n0_; (try clear hb); (try clear hb2); (try clear hk); (try clear hi); (try clear A24); obtain ⟨i032, hi032, _, hsz32, _⟩ := info_parts info9; obtain ⟨hcut32, hA32, hC32⟩ := print_take_of (P := Tryd.prog) Value.string (⟨#[]⟩ : ByteArray) 22 9 .i64 Tryd.underlying22 hi032 hsz32 A1 c1 l1 (l0.length : Int) (of_decide_eq_true (by first | (with_reducible assumption) | assumption)) (of_decide_eq_true (by first | (with_reducible assumption) | assumption)) HC1.out; have HR501 := Aside0.mk (Kd.C_of_reads (h1 := fun _ => rfl) (hA32 _ (Kd.reads_of_C HR1.out))); have HC501 := Aside0.mk hC32; clear hA32 hC32 hi032 hsz32) | (go_at_call 18; refine calls_of_args (args' := #[_, .slice _ (l1.take ((l0.length : Int) : Int).toNat).length _]) (by rw [hlen_]) ?_; (with_reducible refine (observatoryref01_Same.calls kj4 _ _ l0 _ _ (l1.take ((l0.length : Int) : Int).toNat) t502 _ ?side1 ?side2 ?side3 ?side4 A28.out).mono ?_); (case side1 => repeat (first | exact (Kd.C_below HR0.out HB.out) | (with_reducible refine Kd.C_alloc ?_ _) | (with_reducible refine Kd.C_drewN ?_ _) | (with_reducible refine Kd.C_drew ?_))); (case side2 => exact HC0.out); (case side3 => repeat (first | exact (Kd.C_below HR501.out HB.out) | (with_reducible refine Kd.C_alloc ?_ _) | (with_reducible refine Kd.C_drewN ?_ _) | (with_reducible refine Kd.C_drew ?_))); (case side4 => exact HC501.out); rintro e w' ⟨rfl, ⟨nd, rfl⟩⟩; (try clear A28)))
        go_meet
        case rel => exact ⟨_, (t502), (by first | rfl | (simp; done) | (simp [*]; done)), H', ⟨by have := HJ4.out; first | omega | exact Nat.le_refl _⟩, ⟨by repeat (first | (with_reducible first | exact HB.out | apply below_alloc | apply pw_below_drewN | apply below_drew1) | exact HB.out)⟩⟩
       ·
        rw [if_neg c27] at H
        exact absurd H (by simp)
      ·
       rw [if_neg c26] at H
       exact absurd H (by simp)
     ·
      replace c25 := Bool.eq_false_iff.mpr c25
      subst c25
      have H1 : (observatorylaw02_TreeContinues.j1 kj4 l0 l1 l2 t494 true) = some r := by rw [if_neg (show ¬ (false = true) by decide)] at H; exact H
      clear H
      have H := H1
      clear H1
      have H' := Aside0.mk H
      clear H
      go_wp2_with (first | ((with_reducible refine gate_callee (f := 10) rfl ?_); refine goesL_ (some 34) rfl rfl Tryd.func10 (by kernel_rfl) rfl #[.slice A0 l0.length c0] rfl (by (try simp only [List.map_toArray, List.map_cons, List.map_nil]); first | done | rfl | (simp only [List.length_drop, List.length_take]; rfl)) ?_; (with_reducible refine (observatorylaw02_rooted.calls _ _ l0 t498 _ ?side1 ?side2 ?side3 A22.out).mono ?_); (case side1 => repeat (first | exact (Kd.C_below HR0.out HB.out) | (with_reducible refine Kd.C_alloc ?_ _) | (with_reducible refine Kd.C_drewN ?_ _) | (with_reducible refine Kd.C_drew ?_))); (case side2 => exact HC0.out); (case side3 => exact HT.out.below (by repeat (first | (with_reducible first | exact HB.out | apply below_alloc | apply pw_below_drewN | apply below_drew1) | exact HB.out))); rintro e w33 ⟨rfl, hb⟩; refine ⟨_, rfl, ?_⟩; have n0_ := Aside0.mk (below_step (by repeat (first | (with_reducible first | exact HB.out | apply below_alloc | apply pw_below_drewN | apply below_drew1) | exact HB.out)) hb); clear HB; have HB := n0_; clear n0_; (try clear hb); (try clear hb2); (try clear hk); (try clear hi); (try clear A22)) | ((with_reducible refine gate_callee (f := 10) rfl ?_); refine goesL_ (some 38) rfl rfl Tryd.func10 (by kernel_rfl) rfl #[.slice A1 l1.length c1] rfl (by (try simp only [List.map_toArray, List.map_cons, List.map_nil]); first | done | rfl | (simp only [List.length_drop, List.length_take]; rfl)) ?_; (with_reducible refine (observatorylaw02_rooted.calls _ _ l1 t499 _ ?side1 ?side2 ?side3 A23.out).mono ?_); (case side1 => repeat (first | exact (Kd.C_below HR1.out HB.out) | (with_reducible refine Kd.C_alloc ?_ _) | (with_reducible refine Kd.C_drewN ?_ _) | (with_reducible refine Kd.C_drew ?_))); (case side2 => exact HC1.out); (case side3 => exact HT.out.below (by repeat (first | (with_reducible first | exact HB.out | apply below_alloc | apply pw_below_drewN | apply below_drew1) | exact HB.out))); rintro e w34 ⟨rfl, hb⟩; refine ⟨_, rfl, ?_⟩; have n0_ := Aside0.mk (below_step (by repeat (first | (with_reducible first | exact HB.out | apply below_alloc | apply pw_below_drewN | apply below_drew1) | exact HB.out)) hb); clear HB; have HB := n0_; clear n0_; (try clear hb); (try clear hb2); (try clear hk); (try clear hi); (try clear A23)) | ((with_reducible refine gate_callee (f := 20) rfl ?_); refine goesL_ (some 42) rfl rfl Tryd.func20 (by kernel_rfl) rfl #[.string t498, .int .i64 (l0.length : Int), .string t499, .int .i64 (l1.length : Int), .slice A2 l2.length c2] rfl (by (try simp only [List.map_toArray, List.map_cons, List.map_nil]); first | done | rfl | (simp only [List.length_drop, List.length_take]; rfl)) ?_; (with_reducible refine (tree_Extends.calls t498 (l0.length : Int) t499 (l1.length : Int) _ _ l2 false _ ?side1 ?side2 ?side3 A24.out).mono ?_); (case side1 => repeat (first | exact (Kd.C_below HR2.out HB.out) | (with_reducible refine Kd.C_alloc ?_ _) | (with_reducible refine Kd.C_drewN ?_ _) | (with_reducible refine Kd.C_drew ?_))); (case side2 => exact HC2.out); (case side3 => exact HT.out.below (by repeat (first | (with_reducible first | exact HB.out | apply below_alloc | apply pw_below_drewN | apply below_drew1) | exact HB.out))); rintro e w35 ⟨rfl, hb⟩; refine ⟨_, rfl, ?_⟩; have n0_ := Aside0.mk (below_step (by repeat (first | (with_reducible first | exact HB.out | apply below_alloc | apply pw_below_drewN | apply below_drew1) | exact HB.out)) hb); clear HB; have HB := n0_; clear n0_; (try clear hb); (try clear hb2); (try clear hk); (try clear hi); (try clear A24)))
      go_meet
      case rel => exact ⟨_, (true), (by first | rfl | (simp; done) | (simp [*]; done)), H', ⟨by have := HJ4.out; first | omega | exact Nat.le_refl _⟩, ⟨by repeat (first | (with_reducible first | exact HB.out | apply below_alloc | apply pw_below_drewN | apply below_drew1) | exact HB.out)⟩⟩
    case rest =>
     clear HC21
     try clear c1
     try clear c2
     try clear p2
     try clear c7
     try clear c8
     try clear c9
     try clear c10
     try clear c12
     try clear c20
     try clear c25
     try clear c26
     try clear c26b0
     try clear c26b1
     try clear c27
     try clear c27b0
     try clear c27b1
     try clear p2
     obtain ⟨kq, x51_20, rfl, HA, HJ20, HB⟩ := hcut
     cases kq with
     | zero => exact absurd HA.out (by simp [observatorylaw02_TreeContinues.j1])
     | succ kj20 =>
      have H := HA.out
      clear HA
      simp only [observatorylaw02_TreeContinues.j1] at H
      by_cases c36 : x51_20 = true
      ·
       subst c36
       have H1 : (some t494) = some r := by rw [if_pos rfl] at H; exact H
       clear H
       have H := H1
       clear H1
       obtain rfl := Option.some.inj H
       go_wp2
       go_ret
       exact ⟨by first | rfl | (simp [errW_none, errW_some] <;> rfl) | (simp [*, errW_none, errW_some] <;> rfl), by repeat (first | (with_reducible first | exact HB.out | apply below_alloc | apply pw_below_drewN | apply below_drew1) | exact HB.out)⟩
      ·
       replace c36 := Bool.eq_false_iff.mpr c36
       subst c36
       have H1 : ((tree_Link.f kj20 l1 (l0.length : Int)).bind fun bt503 => (if bt503.2 = 0 then (if (bt503.1.length : Int) = (l2.length : Int) then (observatorylaw02_TreeContinues.j2 kj20 l0 l1 l2 t494 ((l0.length : Int) == 0)) else (observatorylaw02_TreeContinues.j2 kj20 l0 l1 l2 t494 true)) else (observatorylaw02_TreeContinues.j2 kj20 l0 l1 l2 t494 true))) = some r := by rw [if_neg (show ¬ (false = true) by decide)] at H; exact H
       clear H
       have H := H1
       clear H1
       replace H := Option.bind_eq_some_iff.mp H
       obtain ⟨⟨t503, t506⟩, A370, H⟩ := H
       replace H : (if t506 = 0 then (if (t503.length : Int) = (l2.length : Int) then (observatorylaw02_TreeContinues.j2 kj20 l0 l1 l2 t494 ((l0.length : Int) == 0)) else (observatorylaw02_TreeContinues.j2 kj20 l0 l1 l2 t494 true)) else (observatorylaw02_TreeContinues.j2 kj20 l0 l1 l2 t494 true)) = some r := H
       have A37 := Aside0.mk A370
       clear A370
       have HC38 := Aside0.mk H
       clear H
       go_upto_region 7 with (first | ((with_reducible refine gate_callee (f := 19) rfl ?_); refine goesL_ (some 57) rfl rfl Tryd.func19 (by kernel_rfl) rfl #[.slice A1 l1.length c1, .int .i64 (l0.length : Int)] rfl (by (try simp only [List.map_toArray, List.map_cons, List.map_nil]); first | done | rfl | (simp only [List.length_drop, List.length_take]; rfl)) ?_; (with_reducible refine (tree_Link.calls kj20 (fun k_ => k_ < w.heap.size) _ _ l1 (l0.length : Int) t503 t506 _ ?side1 ?side2 A37.out).mono ?_); (case side1 => exact Kd.V_mk HC1.out (Kd.F_below (Kd.C_F Kd.heap_string HR1.out) (by repeat (first | (with_reducible first | exact HB.out | apply below_alloc | apply pw_below_drewN | apply below_drew1) | exact HB.out)))); (case side2 => exact HT.out.below (by repeat (first | (with_reducible first | exact HB.out | apply below_alloc | apply pw_below_drewN | apply below_drew1) | exact HB.out))); rintro e w39 ⟨v504, rfl, ho0, hb⟩; refine ⟨_, rfl, ?_⟩; have n0_ := Aside0.mk (Kd.R_lower (Kd.R_mono (ok' := fun k_ => True) ho0 (fun _ hk_ => trivial)) (below_size (by repeat (first | (with_reducible first | exact HB.out | apply below_alloc | apply pw_below_drewN | apply below_drew1) | exact HB.out)))); have n1_ := Aside0.mk (below_step (by repeat (first | (with_reducible first | exact HB.out | apply below_alloc | apply pw_below_drewN | apply below_drew1) | exact HB.out)) hb); clear HB; have HO505 := n0_; have HB := n1_; clear n0_ n1_; (try clear hb); (try clear hb2); (try clear hk); (try clear hi); (try clear ho0); (try clear A37)))
       (try simp only [Act.put, List.setIfInBounds_toArray, List.set_cons_zero, List.set_cons_succ])
       go_cut [73] (fun v73 wc => ∃ (kq : Nat) (x73_37 : Bool), v73 = .bool x73_37 ∧ Aside0 (observatorylaw02_TreeContinues.j2 kq l0 l1 l2 t494 x73_37 = some r) ∧ Aside0 (kq ≤ kj20) ∧ Aside0 (Below w.heap.size w wc))
       case first =>
        have H := HC38.out
        clear HC38
        by_cases c40 : t506 = 0
        ·
         rw [if_pos c40] at H
         have c40b0 : (t506 == 0) = true := beq_iff_eq.mpr c40
         have c40b1 : (t506 != 0) = false := bne_eq_false_iff_eq.mpr c40
         clear c40
         (first | rw [c40b0] | (simp only [i64_w, i32_w]; rw [c40b0]) | skip)
         by_cases c41 : (t503.length : Int) = (l2.length : Int)
         ·
          rw [if_pos c41] at H
          have c41b0 : ((t503.length : Int) == (l2.length : Int)) = true := beq_iff_eq.mpr c41
          have c41b1 : ((t503.length : Int) != (l2.length : Int)) = false := bne_eq_false_iff_eq.mpr c41
          have c41b2 : (t503.length == l2.length) = true := by first | simpa using c41 | (simp at c41 ⊢; omega)
          clear c41
          have H' := Aside0.mk H
          clear H
          obtain ⟨Ao42, co42, eo42⟩ := Kd.R_slice HO505.out
          subst eo42
          go_wp2
          go_meet
          case rel => exact ⟨_, (((l0.length : Int) == 0)), (by first | rfl | (simp; done) | (simp [*]; done)), H', ⟨by have := HJ4.out; have := HJ20.out; first | omega | exact Nat.le_refl _⟩, ⟨by repeat (first | (with_reducible first | exact HB.out | apply below_alloc | apply pw_below_drewN | apply below_drew1) | exact HB.out)⟩⟩
         ·
          rw [if_neg c41] at H
          have c41b0 : ((t503.length : Int) == (l2.length : Int)) = false := beq_eq_false_iff_ne.mpr c41
          have c41b1 : ((t503.length : Int) != (l2.length : Int)) = true := bne_iff_ne.mpr c41
          have c41b2 : (t503.length == l2.length) = false := by first | simpa using c41 | (simp at c41 ⊢; omega)
          exact absurd (H.trans (congrArg some hr.out)) (by cases kj20 <;> simp [observatorylaw02_TreeContinues.j2])
        ·
         rw [if_neg c40] at H
         have c40b0 : (t506 == 0) = false := beq_eq_false_iff_ne.mpr c40
         have c40b1 : (t506 != 0) = true := bne_iff_ne.mpr c40
         (first | rw [c40b0] | (simp only [i64_w, i32_w]; rw [c40b0]) | skip)
         exact absurd (H.trans (congrArg some hr.out)) (by cases kj20 <;> simp [observatorylaw02_TreeContinues.j2])
       case rest =>
        clear HC38
        try clear c1
        try clear c2
        try clear p2
        try clear c3
        try clear c4
        try clear c7
        try clear c8
        try clear c9
        try clear c10
        try clear c12
        try clear c19
        try clear c20
        try clear c25
        try clear c26
        try clear c26b0
        try clear c26b1
        try clear c27
        try clear c27b0
        try clear c27b1
        try clear c36
        try clear c40
        try clear c40b0
        try clear c40b1
        try clear c41
        try clear c41b0
        try clear c41b1
        try clear c41b2
        try clear p2
        obtain ⟨kq, x73_37, rfl, HA, HJ37, HB⟩ := hcut
        cases kq with
        | zero => exact absurd HA.out (by simp [observatorylaw02_TreeContinues.j2])
        | succ kj37 =>
         have H := HA.out
         clear HA
         simp only [observatorylaw02_TreeContinues.j2] at H
         by_cases c44 : x73_37 = true
         ·
          subst c44
          have H1 : (some false) = some r := by rw [if_pos rfl] at H; exact H
          clear H
          have H := H1
          clear H1
          exact absurd ((Option.some.inj H).trans hr.out) (by decide)
         ·
          replace c44 := Bool.eq_false_iff.mpr c44
          subst c44
          have H1 : ((observatoryref02_Texts.f kj37 l0).bind fun t507 => ((observatoryref02_Texts.f kj37 l1).bind fun t510 => (if t507.length + t510.length < 8796093022208 then ((some (t507 ++ t510 : List ByteArray)).bind fun y513 => (if 0 ≤ (l0.length : Int) then (if (l0.length : Int) ≤ (l1.length : Int) then ((observatoryref02_Texts.f kj37 (l1.take ((l0.length : Int) : Int).toNat)).bind fun t517 => (if y513.length + t517.length < 8796093022208 then ((some (y513 ++ t517 : List ByteArray)).bind fun y520 => (if t494 = true then ((observatorylaw02_rooted.f l0).bind fun t523 => ((observatoryref02_LinkTexts.f kj37 (l1.length : Int) (l0.length : Int) true t523 l2).bind fun t524 => (if y520.length + t524.length < 8796093022208 then ((observatoryref02_Shown.f kj37 (y520 ++ t524)).bind fun t530 => (some t530)) else (none)))) else (some false))) else (none))) else (none)) else (none))) else (none)))) = some r := by rw [if_neg (show ¬ (false = true) by decide)] at H; exact H
          clear H
          have H := H1
          clear H1
          replace H := Option.bind_eq_some_iff.mp H
          obtain ⟨t507, A450, H⟩ := H
          replace H : ((observatoryref02_Texts.f kj37 l1).bind fun t510 => (if t507.length + t510.length < 8796093022208 then ((some (t507 ++ t510 : List ByteArray)).bind fun y513 => (if 0 ≤ (l0.length : Int) then (if (l0.length : Int) ≤ (l1.length : Int) then ((observatoryref02_Texts.f kj37 (l1.take ((l0.length : Int) : Int).toNat)).bind fun t517 => (if y513.length + t517.length < 8796093022208 then ((some (y513 ++ t517 : List ByteArray)).bind fun y520 => (if t494 = true then ((observatorylaw02_rooted.f l0).bind fun t523 => ((observatoryref02_LinkTexts.f kj37 (l1.length : Int) (l0.length : Int) true t523 l2).bind fun t524 => (if y520.length + t524.length < 8796093022208 then ((observatoryref02_Shown.f kj37 (y520 ++ t524)).bind fun t530 => (some t530)) else (none)))) else (some false))) else (none))) else (none)) else (none))) else (none))) = some r := H
          have A45 := Aside0.mk A450
          clear A450
          replace H := Option.bind_eq_some_iff.mp H
          obtain ⟨t510, A460, H⟩ := H
          replace H : (if t507.length + t510.length < 8796093022208 then ((some (t507 ++ t510 : List ByteArray)).bind fun y513 => (if 0 ≤ (l0.length : Int) then (if (l0.length : Int) ≤ (l1.length : Int) then ((observatoryref02_Texts.f kj37 (l1.take ((l0.length : Int) : Int).toNat)).bind fun t517 => (if y513.length + t517.length < 8796093022208 then ((some (y513 ++ t517 : List ByteArray)).bind fun y520 => (if t494 = true then ((observatorylaw02_rooted.f l0).bind fun t523 => ((observatoryref02_LinkTexts.f kj37 (l1.length : Int) (l0.length : Int) true t523 l2).bind fun t524 => (if y520.length + t524.length < 8796093022208 then ((observatoryref02_Shown.f kj37 (y520 ++ t524)).bind fun t530 => (some t530)) else (none)))) else (some false))) else (none))) else (none)) else (none))) else (none)) = some r := H
          have A46 := Aside0.mk A460
          clear A460
          by_cases c47 : t507.length + t510.length < 8796093022208
          ·
           rw [if_pos c47] at H
           have LMc47 := Aside0.mk c47
           clear c47
           obtain ⟨y513, hy513⟩ : ∃ y_ : List ByteArray, y_ = (t507 ++ t510) := ⟨_, rfl⟩
           replace H : (if 0 ≤ (l0.length : Int) then (if (l0.length : Int) ≤ (l1.length : Int) then ((observatoryref02_Texts.f kj37 (l1.take ((l0.length : Int) : Int).toNat)).bind fun t517 => (if y513.length + t517.length < 8796093022208 then ((some (y513 ++ t517 : List ByteArray)).bind fun y520 => (if t494 = true then ((observatorylaw02_rooted.f l0).bind fun t523 => ((observatoryref02_LinkTexts.f kj37 (l1.length : Int) (l0.length : Int) true t523 l2).bind fun t524 => (if y520.length + t524.length < 8796093022208 then ((observatoryref02_Shown.f kj37 (y520 ++ t524)).bind fun t530 => (some t530)) else (none)))) else (some false))) else (none))) else (none)) else (none)) = some r := by first | (rw [hy513]; with_reducible exact H) | (have H2_ := (Option.bind_some _ _).symm.trans H; rw [hy513]; with_reducible exact H2_) | (have H2_ := (Option.bind_some _ _).symm.trans H; with_reducible exact H2_) | with_reducible exact H | (rw [hy513]; exact H) | exact H
           have Ny513 := Aside0.mk hy513
           clear hy513
           by_cases c48 : 0 ≤ (l0.length : Int)
           ·
            rw [if_pos c48] at H
            have c48b0 := eq_true c48
            have c48b1 : decide (0 ≤ (l0.length : Int)) = true := decide_eq_true c48
            clear c48
            by_cases c49 : (l0.length : Int) ≤ (l1.length : Int)
            ·
             rw [if_pos c49] at H
             have c49b0 := eq_true c49
             have c49b1 : decide ((l0.length : Int) ≤ (l1.length : Int)) = true := decide_eq_true c49
             clear c49
             replace H := Option.bind_eq_some_iff.mp H
             obtain ⟨t517, A500, H⟩ := H
             replace H : (if y513.length + t517.length < 8796093022208 then ((some (y513 ++ t517 : List ByteArray)).bind fun y520 => (if t494 = true then ((observatorylaw02_rooted.f l0).bind fun t523 => ((observatoryref02_LinkTexts.f kj37 (l1.length : Int) (l0.length : Int) true t523 l2).bind fun t524 => (if y520.length + t524.length < 8796093022208 then ((observatoryref02_Shown.f kj37 (y520 ++ t524)).bind fun t530 => (some t530)) else (none)))) else (some false))) else (none)) = some r := H
             have A50 := Aside0.mk A500
             clear A500
             by_cases c51 : y513.length + t517.length < 8796093022208
             ·
              rw [if_pos c51] at H
              have LMc51 := Aside0.mk c51
              clear c51
              obtain ⟨y520, hy520⟩ : ∃ y_ : List ByteArray, y_ = (y513 ++ t517) := ⟨_, rfl⟩
              replace H : (if t494 = true then ((observatorylaw02_rooted.f l0).bind fun t523 => ((observatoryref02_LinkTexts.f kj37 (l1.length : Int) (l0.length : Int) true t523 l2).bind fun t524 => (if y520.length + t524.length < 8796093022208 then ((observatoryref02_Shown.f kj37 (y520 ++ t524)).bind fun t530 => (some t530)) else (none)))) else (some false)) = some r := by first | (rw [hy520]; with_reducible exact H) | (have H2_ := (Option.bind_some _ _).symm.trans H; rw [hy520]; with_reducible exact H2_) | (have H2_ := (Option.bind_some _ _).symm.trans H; with_reducible exact H2_) | with_reducible exact H | (rw [hy520]; exact H) | exact H
              have Ny520 := Aside0.mk hy520
              clear hy520
              by_cases c52 : t494 = true
              ·
               subst c52
               have H1 : ((observatorylaw02_rooted.f l0).bind fun t523 => ((observatoryref02_LinkTexts.f kj37 (l1.length : Int) (l0.length : Int) true t523 l2).bind fun t524 => (if y520.length + t524.length < 8796093022208 then ((observatoryref02_Shown.f kj37 (y520 ++ t524)).bind fun t530 => (some t530)) else (none)))) = some r := by rw [if_pos rfl] at H; exact H
               clear H
               have H := H1
               clear H1
               replace H := Option.bind_eq_some_iff.mp H
               obtain ⟨t523, A530, H⟩ := H
               replace H : ((observatoryref02_LinkTexts.f kj37 (l1.length : Int) (l0.length : Int) true t523 l2).bind fun t524 => (if y520.length + t524.length < 8796093022208 then ((observatoryref02_Shown.f kj37 (y520 ++ t524)).bind fun t530 => (some t530)) else (none))) = some r := H
               have A53 := Aside0.mk A530
               clear A530
               replace H := Option.bind_eq_some_iff.mp H
               obtain ⟨t524, A540, H⟩ := H
               replace H : (if y520.length + t524.length < 8796093022208 then ((observatoryref02_Shown.f kj37 (y520 ++ t524)).bind fun t530 => (some t530)) else (none)) = some r := H
               have A54 := Aside0.mk A540
               clear A540
               by_cases c55 : y520.length + t524.length < 8796093022208
               ·
                rw [if_pos c55] at H
                have LMc55 := Aside0.mk c55
                clear c55
                obtain ⟨y527, hy527⟩ : ∃ y_ : List ByteArray, y_ = (y520 ++ t524) := ⟨_, rfl⟩
                replace H : ((observatoryref02_Shown.f kj37 y527).bind fun t530 => (some t530)) = some r := by first | (rw [hy527]; with_reducible exact H) | (have H2_ := (Option.bind_some _ _).symm.trans H; rw [hy527]; with_reducible exact H2_) | (have H2_ := (Option.bind_some _ _).symm.trans H; with_reducible exact H2_) | with_reducible exact H | (rw [hy527]; exact H) | exact H
                have Ny527 := Aside0.mk hy527
                clear hy527
                replace H := Option.bind_eq_some_iff.mp H
                obtain ⟨t530, A560, H⟩ := H
                replace H : (some t530) = some r := H
                have A56 := Aside0.mk A560
                clear A560
                obtain rfl := Option.some.inj H
                try go_wp2
                have n0_ := Aside0.mk (below_drew1 HB.out)
                clear HB
                have HB := n0_
                clear n0_
                obtain ⟨i058, hi058, _, hsz58, _⟩ := info_parts info9
                obtain ⟨hcut58, hA58, hC58⟩ := print_take_of (P := Tryd.prog) Value.string (⟨#[]⟩ : ByteArray) 22 9 .i64 Tryd.underlying22 hi058 hsz58 A1 c1 l1 (l0.length : Int) (of_decide_eq_true (by first | (with_reducible assumption) | assumption)) (of_decide_eq_true (by first | (with_reducible assumption) | assumption)) HC1.out
                have HR516 := Aside0.mk (Kd.C_of_reads (h1 := fun _ => rfl) (hA58 _ (Kd.reads_of_C HR1.out)))
                have HC516 := Aside0.mk hC58
                clear hA58 hC58 hi058 hsz58
                refine start_ (n := 12) (S := fun w' => True) (ds := []) #[false, false, false, false, false, false, false, false, false, false, false, false] (by kernel_rfl) rfl rfl trivial (fun hHeld => ?_); refine with_tabW observatorylaw02_TreeContinues.tab9 observatorylaw02_TreeContinues.bits9 (fun HT_ HW_ => ?_)
                generalize wc.drew = w57 at HB HR516 hHeld ⊢
                refine pure_ (i := 0) (N := some 74) (v := ?_) (a' := ?_) #[true, false, false, false, false, false, false, false, false, false, false, false] rfl rfl (any_of HT_.out (by kernel_rfl)) (fun _ _ _ h => h) (Or.inl ⟨by rfl, ?_⟩) ?_ ?_
                rotate_left
                ·
                 intro w'
                 go_simp
                 with_reducible rfl
                rotate_left
                ·
                 simp only [Act.put, List.setIfInBounds_toArray, List.set_cons_zero, List.set_cons_succ, i64_w, i32_w]
                 rfl
                refine pure_ (i := 2) (N := some 76) (v := ?_) (a' := ?_) #[true, false, true, false, false, false, false, false, false, false, false, false] rfl rfl (any_of HT_.out (by kernel_rfl)) (fun _ _ _ h => h) (Or.inl ⟨by rfl, ?_⟩) ?_ ?_
                rotate_left
                ·
                 intro w'
                 go_simp
                 with_reducible rfl
                rotate_left
                ·
                 simp only [Act.put, List.setIfInBounds_toArray, List.set_cons_zero, List.set_cons_succ, i64_w, i32_w]
                 rfl
                refine pure_ (i := 5) (N := some 79) (v := ?_) (a' := ?_) #[true, false, true, false, false, true, false, false, false, false, false, false] rfl rfl (any_of HT_.out (by kernel_rfl)) (fun _ _ _ h => h) (Or.inl ⟨by rfl, ?_⟩) ?_ ?_
                rotate_left
                ·
                 intro w'
                 go_simp
                 with_reducible rfl
                rotate_left
                ·
                 simp only [Act.put, List.setIfInBounds_toArray, List.set_cons_zero, List.set_cons_succ, i64_w, i32_w]
                 rfl
                refine pure_ (i := 6) (N := some 80) (v := ?_) (a' := ?_) #[true, false, true, false, false, true, true, false, false, false, false, false] rfl rfl (any_of HT_.out (by kernel_rfl)) (fun _ _ _ h => h) (Or.inl ⟨by rfl, ?_⟩) ?_ ?_
                rotate_left
                ·
                 intro w'
                 go_simp
                 with_reducible rfl
                rotate_left
                ·
                 simp only [Act.put, List.setIfInBounds_toArray, List.set_cons_zero, List.set_cons_succ, i64_w, i32_w]
                 rfl
                refine pure_ (i := 7) (N := some 81) (v := ?_) (a' := ?_) #[true, false, true, false, false, true, true, true, false, false, false, false] rfl rfl (any_of HT_.out (by kernel_rfl)) (fun _ _ _ h => h) (Or.inl ⟨by rfl, ?_⟩) ?_ ?_
                rotate_left
                ·
                 intro w'
                 go_simp
                 with_reducible rfl
                rotate_left
                ·
                 simp only [Act.put, List.setIfInBounds_toArray, List.set_cons_zero, List.set_cons_succ, i64_w, i32_w]
                 rfl
                refine pure_ (i := 8) (N := some 82) (v := ?_) (a' := ?_) #[true, false, true, false, false, true, true, true, true, false, false, false] rfl rfl (any_of HT_.out (by kernel_rfl)) (fun _ _ _ h => h) (Or.inl ⟨by rfl, ?_⟩) ?_ ?_
                rotate_left
                ·
                 intro w'
                 go_simp
                 with_reducible rfl
                rotate_left
                ·
                 simp only [Act.put, List.setIfInBounds_toArray, List.set_cons_zero, List.set_cons_succ, i64_w, i32_w]
                 rfl
                refine one_ (i := 1) (N := some 75) #[true, true, true, false, false, true, true, true, true, false, false, false] rfl rfl (one_of HT_.out (by kernel_rfl)) (by decide) (fun K hK => ?_)
                refine goes_ Tryd.func15 (by kernel_rfl) rfl #[.slice A0 l0.length c0] (by rfl) rfl rfl (by (try simp only [List.map_toArray, List.map_cons, List.map_nil]); first | done | rfl | (simp only [List.length_drop, List.length_take]; rfl)) ?_
                with_reducible refine (observatoryref02_Texts.calls kj37 _ _ l0 t507 _ ?side1 ?side2 A45.out).mono ?_
                (case side1 => repeat (first | exact (Kd.C_below HR0.out HB.out) | (with_reducible refine Kd.C_alloc ?_ _) | (with_reducible refine Kd.C_drewN ?_ _) | (with_reducible refine Kd.C_drew ?_)))
                (case side2 => exact HC0.out)
                rintro e w59 ⟨v508, rfl, ho0, hb⟩
                refine ⟨_, rfl, ?_⟩
                have n0_ := Aside0.mk (Kd.R_lower ho0 (below_size (by repeat (first | (with_reducible first | exact HB.out | apply below_alloc | apply pw_below_drewN | apply below_drew1) | exact HB.out))))
                have n1_ := Aside0.mk (below_step (by repeat (first | (with_reducible first | exact HB.out | apply below_alloc | apply pw_below_drewN | apply below_drew1) | exact HB.out)) hb)
                clear HB
                have HO509 := n0_
                have HB := n1_
                clear n0_ n1_
                (try clear hb)
                (try clear hb2)
                (try clear hk)
                (try clear hi)
                (try clear ho0)
                (try clear A45)
                refine hK.out _ _ trivial (fun hHeld => ?_)
                clear hK K
                refine norm_ (a' := ?_) ?_ ?_
                rotate_left
                ·
                 show Act.put _ (some 75) _ = _
                 simp only [Act.put, List.setIfInBounds_toArray, List.set_cons_zero, List.set_cons_succ, i64_w, i32_w]
                 rfl
                refine one_ (i := 3) (N := some 77) #[true, true, true, true, false, true, true, true, true, false, false, false] rfl rfl (one_of HT_.out (by kernel_rfl)) (by decide) (fun K hK => ?_)
                refine goes_ Tryd.func15 (by kernel_rfl) rfl #[.slice A1 l1.length c1] (by rfl) rfl rfl (by (try simp only [List.map_toArray, List.map_cons, List.map_nil]); first | done | rfl | (simp only [List.length_drop, List.length_take]; rfl)) ?_
                with_reducible refine (observatoryref02_Texts.calls kj37 _ _ l1 t510 _ ?side1 ?side2 A46.out).mono ?_
                (case side1 => repeat (first | exact (Kd.C_below HR1.out HB.out) | (with_reducible refine Kd.C_alloc ?_ _) | (with_reducible refine Kd.C_drewN ?_ _) | (with_reducible refine Kd.C_drew ?_)))
                (case side2 => exact HC1.out)
                rintro e w60 ⟨v511, rfl, ho0, hb⟩
                refine ⟨_, rfl, ?_⟩
                have n0_ := Aside0.mk (Kd.R_elder' (by (with_reducible repeat (first | apply Kd.R_alloc | apply Kd.R_drewN | apply Kd.R_drew)); exact HO509.out) (Kd.R_base ho0) hb)
                have n1_ := Aside0.mk (Kd.R_lower (Kd.R_new' ho0 (Kd.R_lt (by (with_reducible repeat (first | apply Kd.R_alloc | apply Kd.R_drewN | apply Kd.R_drew)); exact HO509.out))) (below_size (by repeat (first | (with_reducible first | exact HB.out | apply below_alloc | apply pw_below_drewN | apply below_drew1) | exact HB.out))))
                have n2_ := Aside0.mk (below_step (by repeat (first | (with_reducible first | exact HB.out | apply below_alloc | apply pw_below_drewN | apply below_drew1) | exact HB.out)) hb)
                clear HO509
                clear HB
                have HO509 := n0_
                have HO512 := n1_
                have HB := n2_
                clear n0_ n1_ n2_
                (try clear hb)
                (try clear hb2)
                (try clear hk)
                (try clear hi)
                (try clear ho0)
                (try clear A46)
                obtain ⟨Ao62, co62, eo62⟩ := Kd.R_slice HO512.out
                (first | subst eo62 | (injection eo62 with f1_ f2_ f3_; have f4_ := f1_.symm; have f5_ := f3_.symm; clear f1_ f2_ f3_; subst f4_; subst f5_))
                refine hK.out _ _ trivial (fun hHeld => ?_)
                clear hK K
                refine norm_ (a' := ?_) ?_ ?_
                rotate_left
                ·
                 show Act.put _ (some 77) _ = _
                 simp only [Act.put, List.setIfInBounds_toArray, List.set_cons_zero, List.set_cons_succ, i64_w, i32_w]
                 rfl
                refine one_ (i := 4) (N := some 78) #[true, true, true, true, true, true, true, true, true, false, false, false] rfl rfl (one_of HT_.out (by kernel_rfl)) (by decide) (fun K hK => ?_)
                refine Kd.R_append_rows_step Kd.string (w0 := w) w.heap.size (by rfl) (.tmp 75) (.tmp 77) 22 9 (.string ⟨#[]⟩) 16 rfl Tryd.underlying22 info9 rfl (by decide) (by omega) v508 t507 t510 _ _ _ (fun k_ => some k_ ≠ (.slice Ao62 t510.length co62 : Value).ownBlock) (fun _ => False) rfl rfl ?aO ?aR (fun _ _ h => h) (fun _ h => h.elim) ?aF ?aB ?aS ?aL ?_
                (case aR => repeat (first | exact (Kd.R_reads' HO512.out).2.2 | (with_reducible refine Kd.C_alloc ?_ _) | (with_reducible refine Kd.C_drewN ?_ _) | (with_reducible refine Kd.C_drew ?_)))
                (case aB => exact (by repeat (first | (with_reducible first | exact HB.out | apply below_alloc | apply pw_below_drewN | apply below_drew1) | exact HB.out)))
                (case aF => exact (fun k_ hk => Kd.fresh' (Kd.R_lt (by (with_reducible repeat (first | apply Kd.R_alloc | apply Kd.R_drewN | apply Kd.R_drew)); exact HO512.out)) k_ hk))
                (case aO => exact (by (with_reducible repeat (first | apply Kd.R_alloc | apply Kd.R_drewN | apply Kd.R_drew)); exact Kd.R_mono HO509.out (fun _ hk => hk.2)))
                (case aS => exact (below_size (by repeat (first | (with_reducible first | exact HB.out | apply below_alloc | apply pw_below_drewN | apply below_drew1) | exact HB.out))))
                (case aL => have := LMc47.out; omega)
                intro v514 w61 ho hb hg hat
                rw [← Ny513.out] at ho
                have n0_ := Aside0.mk (Kd.R_after (ok := (fun _ => True)) (by (with_reducible repeat (first | apply Kd.R_alloc | apply Kd.R_drewN | apply Kd.R_drew)); exact HO512.out) hg hat)
                have n1_ := Aside0.mk (hb)
                have n2_ := Aside0.mk (ho)
                clear HO512
                clear HB
                clear HO509
                have HO512 := n0_
                have HB := n1_
                have HO515 := n2_
                clear n0_ n1_ n2_
                clear ho hb hg hat
                refine hK.out _ _ trivial (fun hHeld => ?_)
                clear hK K
                refine norm_ (a' := ?_) ?_ ?_
                rotate_left
                ·
                 show Act.put _ (some 78) _ = _
                 simp only [Act.put, List.setIfInBounds_toArray, List.set_cons_zero, List.set_cons_succ, i64_w, i32_w]
                 rfl
                refine one_ (i := 9) (N := some 83) #[true, true, true, true, true, true, true, true, true, true, false, false] rfl rfl (one_of HT_.out (by kernel_rfl)) (by decide) (fun K hK => ?_)
                refine goes_ Tryd.func15 (by kernel_rfl) rfl #[.slice A1 (l1.take ((l0.length : Int) : Int).toNat).length c1] (by rfl) rfl rfl (by (try simp only [List.map_toArray, List.map_cons, List.map_nil]); first | done | (rw [show (l1.take ((l0.length : Int) : Int).toNat).length = (l0.length : Int).toNat from (by rw [List.length_take]; have h_ : ((l0.length : Int) : Int) ≤ (l1.length : Int) := of_decide_eq_true (by first | (with_reducible assumption) | assumption); omega)] <;> rfl) | rfl | (simp only [List.length_drop, List.length_take]; rfl)) ?_
                with_reducible refine (observatoryref02_Texts.calls kj37 _ _ (l1.take ((l0.length : Int) : Int).toNat) t517 _ ?side1 ?side2 A50.out).mono ?_
                (case side1 => repeat (first | exact (Kd.C_below HR516.out HB.out) | (with_reducible refine Kd.C_alloc ?_ _) | (with_reducible refine Kd.C_drewN ?_ _) | (with_reducible refine Kd.C_drew ?_)))
                (case side2 => exact HC516.out)
                rintro e w63 ⟨v518, rfl, ho0, hb⟩
                refine ⟨_, rfl, ?_⟩
                have n0_ := Aside0.mk (Kd.R_elder' (by (with_reducible repeat (first | apply Kd.R_alloc | apply Kd.R_drewN | apply Kd.R_drew)); exact HO512.out) (Kd.R_base ho0) hb)
                have n1_ := Aside0.mk (Kd.R_elder' (by (with_reducible repeat (first | apply Kd.R_alloc | apply Kd.R_drewN | apply Kd.R_drew)); exact HO515.out) (Kd.R_base ho0) hb)
                have n2_ := Aside0.mk (Kd.R_lower (Kd.R_new' (Kd.R_new' ho0 (Kd.R_lt (by (with_reducible repeat (first | apply Kd.R_alloc | apply Kd.R_drewN | apply Kd.R_drew)); exact HO512.out))) (Kd.R_lt (by (with_reducible repeat (first | apply Kd.R_alloc | apply Kd.R_drewN | apply Kd.R_drew)); exact HO515.out))) (below_size (by repeat (first | (with_reducible first | exact HB.out | apply below_alloc | apply pw_below_drewN | apply below_drew1) | exact HB.out))))
                have n3_ := Aside0.mk (below_step (by repeat (first | (with_reducible first | exact HB.out | apply below_alloc | apply pw_below_drewN | apply below_drew1) | exact HB.out)) hb)
                clear HO512
                clear HO515
                clear HB
                have HO512 := n0_
                have HO515 := n1_
                have HO519 := n2_
                have HB := n3_
                clear n0_ n1_ n2_ n3_
                (try clear hb)
                (try clear hb2)
                (try clear hk)
                (try clear hi)
                (try clear ho0)
                (try clear A50)
                obtain ⟨Ao65, co65, eo65⟩ := Kd.R_slice HO519.out
                (first | subst eo65 | (injection eo65 with f1_ f2_ f3_; have f4_ := f1_.symm; have f5_ := f3_.symm; clear f1_ f2_ f3_; subst f4_; subst f5_))
                refine hK.out _ _ trivial (fun hHeld => ?_)
                clear hK K
                refine norm_ (a' := ?_) ?_ ?_
                rotate_left
                ·
                 show Act.put _ (some 83) _ = _
                 simp only [Act.put, List.setIfInBounds_toArray, List.set_cons_zero, List.set_cons_succ, i64_w, i32_w]
                 rfl
                refine one_ (i := 10) (N := some 84) #[true, true, true, true, true, true, true, true, true, true, true, false] rfl rfl (one_of HT_.out (by kernel_rfl)) (by decide) (fun K hK => ?_)
                refine Kd.R_append_rows_step Kd.string (w0 := w) w.heap.size (by rfl) (.tmp 78) (.tmp 83) 22 9 (.string ⟨#[]⟩) 16 rfl Tryd.underlying22 info9 rfl (by decide) (by omega) v514 y513 t517 _ _ _ (fun k_ => some k_ ≠ (.slice Ao62 t510.length co62 : Value).ownBlock ∧ some k_ ≠ (.slice Ao65 t517.length co65 : Value).ownBlock) (fun _ => False) rfl rfl ?aO ?aR (fun _ _ h => h) (fun _ h => h.elim) ?aF ?aB ?aS ?aL ?_
                (case aR => repeat (first | exact (Kd.R_reads' HO519.out).2.2 | (with_reducible refine Kd.C_alloc ?_ _) | (with_reducible refine Kd.C_drewN ?_ _) | (with_reducible refine Kd.C_drew ?_)))
                (case aB => exact (by repeat (first | (with_reducible first | exact HB.out | apply below_alloc | apply pw_below_drewN | apply below_drew1) | exact HB.out)))
                (case aF => exact (fun k_ hk => ⟨Kd.fresh' (Kd.R_lt (by (with_reducible repeat (first | apply Kd.R_alloc | apply Kd.R_drewN | apply Kd.R_drew)); exact HO512.out)) k_ hk, Kd.fresh' (Kd.R_lt (by (with_reducible repeat (first | apply Kd.R_alloc | apply Kd.R_drewN | apply Kd.R_drew)); exact HO519.out)) k_ hk⟩))
                (case aO => exact (by (with_reducible repeat (first | apply Kd.R_alloc | apply Kd.R_drewN | apply Kd.R_drew)); exact HO515.out))
                (case aS => exact (below_size (by repeat (first | (with_reducible first | exact HB.out | apply below_alloc | apply pw_below_drewN | apply below_drew1) | exact HB.out))))
                (case aL => have := LMc51.out; omega)
                intro v521 w64 ho hb hg hat
                rw [← Ny520.out] at ho
                have n0_ := Aside0.mk (Kd.R_after (ok := (fun k_ => some k_ ≠ (.slice Ao65 t517.length co65 : Value).ownBlock)) (by (with_reducible repeat (first | apply Kd.R_alloc | apply Kd.R_drewN | apply Kd.R_drew)); exact Kd.R_mono HO512.out (fun _ hk => ⟨hk.2, hk.1.2⟩)) hg hat)
                have n1_ := Aside0.mk (Kd.R_after (ok := (fun k_ => some k_ ≠ (.slice Ao62 t510.length co62 : Value).ownBlock)) (by (with_reducible repeat (first | apply Kd.R_alloc | apply Kd.R_drewN | apply Kd.R_drew)); exact Kd.R_mono HO519.out (fun _ hk => ⟨hk.1.2, hk.2⟩)) hg hat)
                have n2_ := Aside0.mk (hb)
                have n3_ := Aside0.mk (ho)
                clear HO512
                clear HO519
                clear HB
                clear HO515
                have HO512 := n0_
                have HO519 := n1_
                have HB := n2_
                have HO522 := n3_
                clear n0_ n1_ n2_ n3_
                clear ho hb hg hat
                refine hK.out _ _ trivial (fun hHeld => ?_)
                clear hK K
                refine norm_ (a' := ?_) ?_ ?_
                rotate_left
                ·
                 show Act.put _ (some 84) _ = _
                 simp only [Act.put, List.setIfInBounds_toArray, List.set_cons_zero, List.set_cons_succ, i64_w, i32_w]
                 rfl
                refine pure_ (i := 11) (N := some 10) (v := ?_) (a' := ?_) #[true, true, true, true, true, true, true, true, true, true, true, true] rfl rfl (any_of HT_.out (by kernel_rfl)) (fun _ _ _ h => h) (Or.inl ⟨by rfl, ?_⟩) ?_ ?_
                rotate_left
                ·
                 intro w'
                 go_simp
                 with_reducible rfl
                rotate_left
                ·
                 simp only [Act.put, List.setIfInBounds_toArray, List.set_cons_zero, List.set_cons_succ, i64_w, i32_w]
                 rfl
                refine done_ (done_of HT_.out (by kernel_rfl)) ?_
                try go_wp2_with (first | (go_at_call 10; (with_reducible refine (observatorylaw02_rooted.calls _ _ l0 t523 _ ?side1 ?side2 ?side3 A53.out).mono ?_); (case side1 => repeat (first | exact (Kd.C_below HR0.out HB.out) | (with_reducible refine Kd.C_alloc ?_ _) | (with_reducible refine Kd.C_drewN ?_ _) | (with_reducible refine Kd.C_drew ?_))); (case side2 => exact HC0.out); (case side3 => exact HT.out.below (by repeat (first | (with_reducible first | exact HB.out | apply below_alloc | apply pw_below_drewN | apply below_drew1) | exact HB.out))); rintro e w66 ⟨rfl, hb⟩; have n0_ := Aside0.mk (Kd.R_below (by (with_reducible repeat (first | apply Kd.R_alloc | apply Kd.R_drewN | apply Kd.R_drew)); exact HO512.out) hb); have n1_ := Aside0.mk (Kd.R_below (by (with_reducible repeat (first | apply Kd.R_alloc | apply Kd.R_drewN | apply Kd.R_drew)); exact HO519.out) hb); have n2_ := Aside0.mk (Kd.R_below (by (with_reducible repeat (first | apply Kd.R_alloc | apply Kd.R_drewN | apply Kd.R_drew)); exact HO522.out) hb); have n3_ := Aside0.mk (below_step (by repeat (first | (with_reducible first | exact HB.out | apply below_alloc | apply pw_below_drewN | apply below_drew1) | exact HB.out)) hb); clear HO512; clear HO519; clear HO522; clear HB; have HO512 := n0_; have HO519 := n1_; have HO522 := n2_; have HB := n3_; clear n0_ n1_ n2_ n3_; (try clear hb); (try clear hb2); (try clear hk); (try clear hi); (try clear A53)) | (go_at_call 21; (with_reducible refine (observatoryref02_LinkTexts.calls kj37 (l1.length : Int) (l0.length : Int) true t523 _ _ l2 t524 _ ?side1 ?side2 A54.out).mono ?_); (case side1 => repeat (first | exact (Kd.C_below HR2.out HB.out) | (with_reducible refine Kd.C_alloc ?_ _) | (with_reducible refine Kd.C_drewN ?_ _) | (with_reducible refine Kd.C_drew ?_))); (case side2 => exact HC2.out); rintro e w67 ⟨v525, rfl, ho0, hb⟩; have n0_ := Aside0.mk (Kd.R_elder' (by (with_reducible repeat (first | apply Kd.R_alloc | apply Kd.R_drewN | apply Kd.R_drew)); exact HO512.out) (Kd.R_base ho0) hb); have n1_ := Aside0.mk (Kd.R_elder' (by (with_reducible repeat (first | apply Kd.R_alloc | apply Kd.R_drewN | apply Kd.R_drew)); exact HO519.out) (Kd.R_base ho0) hb); have n2_ := Aside0.mk (Kd.R_elder' (by (with_reducible repeat (first | apply Kd.R_alloc | apply Kd.R_drewN | apply Kd.R_drew)); exact HO522.out) (Kd.R_base ho0) hb); have n3_ := Aside0.mk (Kd.R_lower (Kd.R_new' (Kd.R_new' (Kd.R_new' ho0 (Kd.R_lt (by (with_reducible repeat (first | apply Kd.R_alloc | apply Kd.R_drewN | apply Kd.R_drew)); exact HO512.out))) (Kd.R_lt (by (with_reducible repeat (first | apply Kd.R_alloc | apply Kd.R_drewN | apply Kd.R_drew)); exact HO519.out))) (Kd.R_lt (by (with_reducible repeat (first | apply Kd.R_alloc | apply Kd.R_drewN | apply Kd.R_drew)); exact HO522.out))) (below_size (by repeat (first | (with_reducible first | exact HB.out | apply below_alloc | apply pw_below_drewN | apply below_drew1) | exact HB.out)))); have n4_ := Aside0.mk (below_step (by repeat (first | (with_reducible first | exact HB.out | apply below_alloc | apply pw_below_drewN | apply below_drew1) | exact HB.out)) hb); clear HO512; clear HO519; clear HO522; clear HB; have HO512 := n0_; have HO519 := n1_; have HO522 := n2_; have HO526 := n3_; have HB := n4_; clear n0_ n1_ n2_ n3_ n4_; (try clear hb); (try clear hb2); (try clear hk); (try clear hi); (try clear ho0); (try clear A54); obtain ⟨Ao69, co69, eo69⟩ := Kd.R_slice HO526.out; subst eo69) | ((with_reducible refine gate_builtin (b := .append) (xs := #[.tmp 87, .tmp 95]) rfl ?_); (try (refine gate_guard (by rfl) ?_; dsimp only)); at_builtin; refine Kd.R_append_rows Kd.string (w0 := w) w.heap.size rfl (.tmp 87) (.tmp 95) 22 9 (.string ⟨#[]⟩) 16 rfl Tryd.underlying22 info9 rfl (by decide) (by omega) v521 y520 t524 _ _ _ (fun k_ => some k_ ≠ (.slice Ao62 t510.length co62 : Value).ownBlock ∧ some k_ ≠ (.slice Ao65 t517.length co65 : Value).ownBlock ∧ some k_ ≠ (.slice Ao69 t524.length co69 : Value).ownBlock) (fun _ => False) rfl rfl ?aO ?aR (fun _ _ h => h) (fun _ h => h.elim) ?aF ?aB ?aS ?aL ?_; (case aR => repeat (first | exact (Kd.R_reads' HO526.out).2.2 | (with_reducible refine Kd.C_alloc ?_ _) | (with_reducible refine Kd.C_drewN ?_ _) | (with_reducible refine Kd.C_drew ?_))); (case aB => exact (by repeat (first | (with_reducible first | exact HB.out | apply below_alloc | apply pw_below_drewN | apply below_drew1) | exact HB.out))); (case aF => exact (fun k_ hk => ⟨Kd.fresh' (Kd.R_lt (by (with_reducible repeat (first | apply Kd.R_alloc | apply Kd.R_drewN | apply Kd.R_drew)); exact HO512.out)) k_ hk, Kd.fresh' (Kd.R_lt (by (with_reducible repeat (first | apply Kd.R_alloc | apply Kd.R_drewN | apply Kd.R_drew)); exact HO519.out)) k_ hk, Kd.fresh' (Kd.R_lt (by (with_reducible repeat (first | apply Kd.R_alloc | apply Kd.R_drewN | apply Kd.R_drew)); exact HO526.out)) k_ hk⟩)); (case aO => exact (by (with_reducible repeat (first | apply Kd.R_alloc | apply Kd.R_drewN | apply Kd.R_drew)); exact Kd.R_mono HO522.out (fun _ hk => ⟨hk.1.1, ⟨hk.1.2, hk.2⟩⟩))); (case aS => exact (below_size (by repeat (first | (with_reducible first | exact HB.out | apply below_alloc | apply pw_below_drewN | apply below_drew1) | exact HB.out)))); (case aL => have := LMc55.out; omega); intro v528 w68 ho hb hg hat; rw [← Ny527.out] at ho; have n0_ := Aside0.mk (Kd.R_after (ok := (fun k_ => some k_ ≠ (.slice Ao65 t517.length co65 : Value).ownBlock ∧ some k_ ≠ (.slice Ao69 t524.length co69 : Value).ownBlock)) (by (with_reducible repeat (first | apply Kd.R_alloc | apply Kd.R_drewN | apply Kd.R_drew)); exact Kd.R_mono HO512.out (fun _ hk => ⟨⟨hk.1.1, hk.2⟩, hk.1.2⟩)) hg hat); have n1_ := Aside0.mk (Kd.R_after (ok := (fun k_ => some k_ ≠ (.slice Ao62 t510.length co62 : Value).ownBlock ∧ some k_ ≠ (.slice Ao69 t524.length co69 : Value).ownBlock)) (by (with_reducible repeat (first | apply Kd.R_alloc | apply Kd.R_drewN | apply Kd.R_drew)); exact Kd.R_mono HO519.out (fun _ hk => ⟨⟨hk.1.1, hk.2⟩, hk.1.2⟩)) hg hat); have n2_ := Aside0.mk (Kd.R_after (ok := (fun k_ => some k_ ≠ (.slice Ao62 t510.length co62 : Value).ownBlock ∧ some k_ ≠ (.slice Ao65 t517.length co65 : Value).ownBlock)) (by (with_reducible repeat (first | apply Kd.R_alloc | apply Kd.R_drewN | apply Kd.R_drew)); exact Kd.R_mono HO526.out (fun _ hk => ⟨⟨hk.1.1.2, hk.1.2⟩, hk.2⟩)) hg hat); have n3_ := Aside0.mk (hb); have n4_ := Aside0.mk (ho); clear HO512; clear HO519; clear HO526; clear HB; clear HO522; have HO512 := n0_; have HO519 := n1_; have HO526 := n2_; have HB := n3_; have HO529 := n4_; clear n0_ n1_ n2_ n3_ n4_; clear ho hb hg hat; obtain ⟨Ao70, co70, eo70⟩ := Kd.R_slice HO529.out; subst eo70) | (go_at_call 14; (with_reducible refine (observatoryref02_Shown.calls kj37 _ _ y527 t530 _ ?side1 ?side2 A56.out).mono ?_); (case side1 => repeat (first | exact (Kd.R_reads' HO529.out).2.2 | (with_reducible refine Kd.C_alloc ?_ _) | (with_reducible refine Kd.C_drewN ?_ _) | (with_reducible refine Kd.C_drew ?_))); (case side2 => exact (Kd.R_reads' HO529.out).2.1); rintro e w71 ⟨rfl, hb⟩; have n0_ := Aside0.mk (Kd.R_below (by (with_reducible repeat (first | apply Kd.R_alloc | apply Kd.R_drewN | apply Kd.R_drew)); exact HO512.out) hb); have n1_ := Aside0.mk (Kd.R_below (by (with_reducible repeat (first | apply Kd.R_alloc | apply Kd.R_drewN | apply Kd.R_drew)); exact HO519.out) hb); have n2_ := Aside0.mk (Kd.R_below (by (with_reducible repeat (first | apply Kd.R_alloc | apply Kd.R_drewN | apply Kd.R_drew)); exact HO526.out) hb); have n3_ := Aside0.mk (Kd.R_below (by (with_reducible repeat (first | apply Kd.R_alloc | apply Kd.R_drewN | apply Kd.R_drew)); exact HO529.out) hb); have n4_ := Aside0.mk (below_step (by repeat (first | (with_reducible first | exact HB.out | apply below_alloc | apply pw_below_drewN | apply below_drew1) | exact HB.out)) hb); clear HO512; clear HO519; clear HO526; clear HO529; clear HB; have HO512 := n0_; have HO519 := n1_; have HO526 := n2_; have HO529 := n3_; have HB := n4_; clear n0_ n1_ n2_ n3_ n4_; (try clear hb); (try clear hb2); (try clear hk); (try clear hi); (try clear A56)))
                go_ret
                exact ⟨by first | rfl | (simp [errW_none, errW_some] <;> rfl) | (simp [*, errW_none, errW_some] <;> rfl), by repeat (first | (with_reducible first | exact HB.out | apply below_alloc | apply pw_below_drewN | apply below_drew1) | exact HB.out)⟩
               ·
                rw [if_neg c55] at H
                exact absurd H (by simp)
              ·
               replace c52 := Bool.eq_false_iff.mpr c52
               subst c52
               have H1 : (some false) = some r := by rw [if_neg (show ¬ (false = true) by decide)] at H; exact H
               clear H
               have H := H1
               clear H1
               exact absurd ((Option.some.inj H).trans hr.out) (by decide)
             ·
              rw [if_neg c51] at H
              exact absurd H (by simp)
            ·
             rw [if_neg c49] at H
             exact absurd H (by simp)
           ·
            rw [if_neg c48] at H
            exact absurd H (by simp)
          ·
           rw [if_neg c47] at H
           exact absurd H (by simp)

end Go.Proofs.YtapnakfhkdcfeaaDoor.P
