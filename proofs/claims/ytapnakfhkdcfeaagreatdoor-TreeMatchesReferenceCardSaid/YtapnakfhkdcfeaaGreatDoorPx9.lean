-- printed by wip/tools/oprint.py over the kit's print.py: this session's own program
import Derived.Test.YtapnakfhkdcfeaaGreatDoorPx0
import Derived.Test.YtapnakfhkdcfeaaGreatDoorPx1
import Derived.Test.YtapnakfhkdcfeaaGreatDoorPx2
import Derived.Test.YtapnakfhkdcfeaaGreatDoorPx3
import Derived.Test.YtapnakfhkdcfeaaGreatDoorPx4
import Derived.Test.YtapnakfhkdcfeaaGreatDoorPx6
import Derived.Test.YtapnakfhkdcfeaaGreatDoorPx7
import Derived.Test.YtapnakfhkdcfeaaGreatDoorPx8
namespace Go.Proofs.YtapnakfhkdcfeaaGreatDoor.P
open Go.RowKit Go.Proofs.YtapnakfhkdcfeaaGreatDoorW.PrintWords Go.Proofs.YtapnakfhkdcfeaaGreatDoorW.PrintLast Go.Proofs.YtapnakfhkdcfeaaGreatDoorW.PrintMore
attribute [local go_sem] max2_int min2_int max_two min_two max_three min_three max_four min_four   -- for this text's walks alone
set_option linter.unusedVariables false
set_option linter.unusedSimpArgs false
open Go.Proofs.YtapnakfhkdcfeaaGreatDoor.Dg

/-! ### observatorylaw02_TreeMatchesReference: function 3 -/
mutual
def observatorylaw02_TreeMatchesReference.j0 : Nat → List ByteArray → Int → Int → Int → ByteArray → ByteArray → ByteArray → List ByteArray → Bool → Bool → Option (Bool)
 | 0, _, _, _, _, _, _, _, _, _, _ => none
 | k + 1, x0, x1, x2, x3, x4, x5, x6, x7, x17, x55 => if x55 = true then (some x17) else ((tree_Root.f x0).bind fun bt394 => ((observatoryref02_Root.f k x0).bind fun bt396 => ((tree_Path.f k x0 x1).bind fun bt398 => ((observatoryref02_Path.f k x0 x1).bind fun bt402 => ((tree_Link.f k x0 x2).bind fun bt406 => ((observatoryref02_Link.f k x0 x2).bind fun bt410 => (if bt394.1.toList = bt396.1.toList then (if bt394.2 = bt396.2 then ((tree_Leaf.f x6).bind fun t414 => ((observatoryref02_Leaf.f k x6).bind fun t415 => (if t414.toList = t415.toList then (if bt398.2 = bt402.2 then ((observatoryref01_Same.f k bt398.1 bt402.1).bind fun t416 => (if t416 = true then (if bt406.2 = bt410.2 then ((observatoryref01_Same.f k bt406.1 bt410.1).bind fun t417 => (observatorylaw02_TreeMatchesReference.j1 k x0 x1 x2 x3 x4 x5 x6 x7 x17 bt394.1 bt396.1 t417)) else (observatorylaw02_TreeMatchesReference.j1 k x0 x1 x2 x3 x4 x5 x6 x7 x17 bt394.1 bt396.1 false)) else (observatorylaw02_TreeMatchesReference.j1 k x0 x1 x2 x3 x4 x5 x6 x7 x17 bt394.1 bt396.1 false))) else (observatorylaw02_TreeMatchesReference.j1 k x0 x1 x2 x3 x4 x5 x6 x7 x17 bt394.1 bt396.1 false)) else (observatorylaw02_TreeMatchesReference.j1 k x0 x1 x2 x3 x4 x5 x6 x7 x17 bt394.1 bt396.1 false)))) else (observatorylaw02_TreeMatchesReference.j1 k x0 x1 x2 x3 x4 x5 x6 x7 x17 bt394.1 bt396.1 false)) else (observatorylaw02_TreeMatchesReference.j1 k x0 x1 x2 x3 x4 x5 x6 x7 x17 bt394.1 bt396.1 false))))))))
def observatorylaw02_TreeMatchesReference.j1 : Nat → List ByteArray → Int → Int → Int → ByteArray → ByteArray → ByteArray → List ByteArray → Bool → ByteArray → ByteArray → Bool → Option (Bool)
 | 0, _, _, _, _, _, _, _, _, _, _, _, _ => none
 | k + 1, x0, x1, x2, x3, x4, x5, x6, x7, x17, x18, x20, x30 => (tree_Check.f x4 x3 x1 x6 x7).bind fun t418 => ((observatoryref02_Check.f k x4 x3 x1 x6 x7).bind fun t419 => (if (t418 == t419) = true then ((tree_Check.f x18 (x0.length : Int) x1 x6 x7).bind fun t420 => ((observatoryref02_Check.f k x20 (x0.length : Int) x1 x6 x7).bind fun t421 => (observatorylaw02_TreeMatchesReference.j2 k x0 x2 x3 x4 x5 x7 x17 x18 x20 x30 (t420 == t421)))) else (observatorylaw02_TreeMatchesReference.j2 k x0 x2 x3 x4 x5 x7 x17 x18 x20 x30 false)))
def observatorylaw02_TreeMatchesReference.j2 : Nat → List ByteArray → Int → Int → ByteArray → ByteArray → List ByteArray → Bool → ByteArray → ByteArray → Bool → Bool → Option (Bool)
 | 0, _, _, _, _, _, _, _, _, _, _, _ => none
 | k + 1, x0, x2, x3, x4, x5, x7, x17, x18, x20, x30, x31 => if x17 = true then (if x30 = true then (if x31 = true then ((tree_Extends.f x5 x2 x4 x3 x7).bind fun t422 => ((observatoryref02_Extends.f k x5 x2 x4 x3 x7).bind fun t423 => (if (t422 == t423) = true then ((tree_Extends.f x5 x2 x18 (x0.length : Int) x7).bind fun t424 => ((observatoryref02_Extends.f k x5 x2 x20 (x0.length : Int) x7).bind fun t425 => (some (t424 == t425)))) else (some false)))) else (some false)) else (some false)) else (some false)
end
def observatorylaw02_TreeMatchesReference.f (k : Nat) (l0 : List ByteArray) (a1 : Int) (a2 : Int) (a3 : Int) (a4 : ByteArray) (a5 : ByteArray) (a6 : ByteArray) (l7 : List ByteArray) : Option (Bool) := (observatorylaw02_head.f k).bind fun t391 => ((observatorylaw02_few.f k l0).bind fun t392 => (if t392 = true then ((observatorylaw02_few.f k l7).bind fun t393 => (if t393 = true then (if (a4.size : Int) > 100 then (observatorylaw02_TreeMatchesReference.j0 k l0 a1 a2 a3 a4 a5 a6 l7 t391 true) else (if (a5.size : Int) > 100 then (observatorylaw02_TreeMatchesReference.j0 k l0 a1 a2 a3 a4 a5 a6 l7 t391 true) else (observatorylaw02_TreeMatchesReference.j0 k l0 a1 a2 a3 a4 a5 a6 l7 t391 (decide ((a6.size : Int) > 100))))) else (observatorylaw02_TreeMatchesReference.j0 k l0 a1 a2 a3 a4 a5 a6 l7 t391 true))) else (observatorylaw02_TreeMatchesReference.j0 k l0 a1 a2 a3 a4 a5 a6 l7 t391 true)))
theorem observatorylaw02_TreeMatchesReference.mono_l : ∀ k, (∀ y0 y1 y2 y3 y4 y5 y6 y7 y8 y9, LeO (observatorylaw02_TreeMatchesReference.j0 k y0 y1 y2 y3 y4 y5 y6 y7 y8 y9) (observatorylaw02_TreeMatchesReference.j0 (k + 1) y0 y1 y2 y3 y4 y5 y6 y7 y8 y9)) ∧ (∀ y0 y1 y2 y3 y4 y5 y6 y7 y8 y9 y10 y11, LeO (observatorylaw02_TreeMatchesReference.j1 k y0 y1 y2 y3 y4 y5 y6 y7 y8 y9 y10 y11) (observatorylaw02_TreeMatchesReference.j1 (k + 1) y0 y1 y2 y3 y4 y5 y6 y7 y8 y9 y10 y11)) ∧ (∀ y0 y1 y2 y3 y4 y5 y6 y7 y8 y9 y10, LeO (observatorylaw02_TreeMatchesReference.j2 k y0 y1 y2 y3 y4 y5 y6 y7 y8 y9 y10) (observatorylaw02_TreeMatchesReference.j2 (k + 1) y0 y1 y2 y3 y4 y5 y6 y7 y8 y9 y10))
 | 0 => ⟨fun _ _ _ _ _ _ _ _ _ _ r h => by simp [observatorylaw02_TreeMatchesReference.j0] at h, fun _ _ _ _ _ _ _ _ _ _ _ _ r h => by simp [observatorylaw02_TreeMatchesReference.j1] at h, fun _ _ _ _ _ _ _ _ _ _ _ r h => by simp [observatorylaw02_TreeMatchesReference.j2] at h⟩
 | k + 1 => by
  obtain ⟨ih0, ih1, ih2⟩ := observatorylaw02_TreeMatchesReference.mono_l k
  refine ⟨?_, ?_, ?_⟩
  ·
   intro y0 y1 y2 y3 y4 y5 y6 y7 y8 y9
   unfold observatorylaw02_TreeMatchesReference.j0
   repeat' first
   | (with_reducible exact ih0 _ _ _ _ _ _ _ _ _ _)
   | (with_reducible exact ih1 _ _ _ _ _ _ _ _ _ _ _ _)
   | (with_reducible exact ih2 _ _ _ _ _ _ _ _ _ _ _)
   | (with_reducible exact observatorylaw02_few.mono _ _)
   | (with_reducible exact observatorylaw02_head.mono _)
   | (with_reducible exact observatoryref01_Same.mono _ _ _)
   | (with_reducible exact observatoryref02_Check.mono _ _ _ _ _ _)
   | (with_reducible exact observatoryref02_Extends.mono _ _ _ _ _ _)
   | (with_reducible exact observatoryref02_Leaf.mono _ _)
   | (with_reducible exact observatoryref02_Link.mono _ _ _)
   | (with_reducible exact observatoryref02_Path.mono _ _ _)
   | (with_reducible exact observatoryref02_Root.mono _ _)
   | (with_reducible exact tree_Link.mono _ _ _)
   | (with_reducible exact tree_Path.mono _ _ _)
   | (with_reducible exact LeO.refl _)
   | (with_reducible exact LeO.none _)
   | (with_reducible refine LeO.ite ?_ ?_)
   | (with_reducible refine LeO.bind ?_ (fun _ => ?_))
   | exact ih0 _ _ _ _ _ _ _ _ _ _
   | exact ih1 _ _ _ _ _ _ _ _ _ _ _ _
   | exact ih2 _ _ _ _ _ _ _ _ _ _ _
   | exact observatorylaw02_few.mono _ _
   | exact observatorylaw02_head.mono _
   | exact observatoryref01_Same.mono _ _ _
   | exact observatoryref02_Check.mono _ _ _ _ _ _
   | exact observatoryref02_Extends.mono _ _ _ _ _ _
   | exact observatoryref02_Leaf.mono _ _
   | exact observatoryref02_Link.mono _ _ _
   | exact observatoryref02_Path.mono _ _ _
   | exact observatoryref02_Root.mono _ _
   | exact tree_Link.mono _ _ _
   | exact tree_Path.mono _ _ _
   | exact LeO.none _
   | refine LeO.ite ?_ ?_
   | refine LeO.bind ?_ (fun _ => ?_)
  ·
   intro y0 y1 y2 y3 y4 y5 y6 y7 y8 y9 y10 y11
   unfold observatorylaw02_TreeMatchesReference.j1
   repeat' first
   | (with_reducible exact ih0 _ _ _ _ _ _ _ _ _ _)
   | (with_reducible exact ih1 _ _ _ _ _ _ _ _ _ _ _ _)
   | (with_reducible exact ih2 _ _ _ _ _ _ _ _ _ _ _)
   | (with_reducible exact observatorylaw02_few.mono _ _)
   | (with_reducible exact observatorylaw02_head.mono _)
   | (with_reducible exact observatoryref01_Same.mono _ _ _)
   | (with_reducible exact observatoryref02_Check.mono _ _ _ _ _ _)
   | (with_reducible exact observatoryref02_Extends.mono _ _ _ _ _ _)
   | (with_reducible exact observatoryref02_Leaf.mono _ _)
   | (with_reducible exact observatoryref02_Link.mono _ _ _)
   | (with_reducible exact observatoryref02_Path.mono _ _ _)
   | (with_reducible exact observatoryref02_Root.mono _ _)
   | (with_reducible exact tree_Link.mono _ _ _)
   | (with_reducible exact tree_Path.mono _ _ _)
   | (with_reducible exact LeO.refl _)
   | (with_reducible exact LeO.none _)
   | (with_reducible refine LeO.ite ?_ ?_)
   | (with_reducible refine LeO.bind ?_ (fun _ => ?_))
   | exact ih0 _ _ _ _ _ _ _ _ _ _
   | exact ih1 _ _ _ _ _ _ _ _ _ _ _ _
   | exact ih2 _ _ _ _ _ _ _ _ _ _ _
   | exact observatorylaw02_few.mono _ _
   | exact observatorylaw02_head.mono _
   | exact observatoryref01_Same.mono _ _ _
   | exact observatoryref02_Check.mono _ _ _ _ _ _
   | exact observatoryref02_Extends.mono _ _ _ _ _ _
   | exact observatoryref02_Leaf.mono _ _
   | exact observatoryref02_Link.mono _ _ _
   | exact observatoryref02_Path.mono _ _ _
   | exact observatoryref02_Root.mono _ _
   | exact tree_Link.mono _ _ _
   | exact tree_Path.mono _ _ _
   | exact LeO.none _
   | refine LeO.ite ?_ ?_
   | refine LeO.bind ?_ (fun _ => ?_)
  ·
   intro y0 y1 y2 y3 y4 y5 y6 y7 y8 y9 y10
   unfold observatorylaw02_TreeMatchesReference.j2
   repeat' first
   | (with_reducible exact ih0 _ _ _ _ _ _ _ _ _ _)
   | (with_reducible exact ih1 _ _ _ _ _ _ _ _ _ _ _ _)
   | (with_reducible exact ih2 _ _ _ _ _ _ _ _ _ _ _)
   | (with_reducible exact observatorylaw02_few.mono _ _)
   | (with_reducible exact observatorylaw02_head.mono _)
   | (with_reducible exact observatoryref01_Same.mono _ _ _)
   | (with_reducible exact observatoryref02_Check.mono _ _ _ _ _ _)
   | (with_reducible exact observatoryref02_Extends.mono _ _ _ _ _ _)
   | (with_reducible exact observatoryref02_Leaf.mono _ _)
   | (with_reducible exact observatoryref02_Link.mono _ _ _)
   | (with_reducible exact observatoryref02_Path.mono _ _ _)
   | (with_reducible exact observatoryref02_Root.mono _ _)
   | (with_reducible exact tree_Link.mono _ _ _)
   | (with_reducible exact tree_Path.mono _ _ _)
   | (with_reducible exact LeO.refl _)
   | (with_reducible exact LeO.none _)
   | (with_reducible refine LeO.ite ?_ ?_)
   | (with_reducible refine LeO.bind ?_ (fun _ => ?_))
   | exact ih0 _ _ _ _ _ _ _ _ _ _
   | exact ih1 _ _ _ _ _ _ _ _ _ _ _ _
   | exact ih2 _ _ _ _ _ _ _ _ _ _ _
   | exact observatorylaw02_few.mono _ _
   | exact observatorylaw02_head.mono _
   | exact observatoryref01_Same.mono _ _ _
   | exact observatoryref02_Check.mono _ _ _ _ _ _
   | exact observatoryref02_Extends.mono _ _ _ _ _ _
   | exact observatoryref02_Leaf.mono _ _
   | exact observatoryref02_Link.mono _ _ _
   | exact observatoryref02_Path.mono _ _ _
   | exact observatoryref02_Root.mono _ _
   | exact tree_Link.mono _ _ _
   | exact tree_Path.mono _ _ _
   | exact LeO.none _
   | refine LeO.ite ?_ ?_
   | refine LeO.bind ?_ (fun _ => ?_)
theorem observatorylaw02_TreeMatchesReference.mono : ∀ a0 a1 a2 a3 a4 a5 a6 a7 k, LeO (observatorylaw02_TreeMatchesReference.f k a0 a1 a2 a3 a4 a5 a6 a7) (observatorylaw02_TreeMatchesReference.f (k + 1) a0 a1 a2 a3 a4 a5 a6 a7) := by
 intro a0 a1 a2 a3 a4 a5 a6 a7 k
 obtain ⟨ih0, ih1, ih2⟩ := observatorylaw02_TreeMatchesReference.mono_l k
 unfold observatorylaw02_TreeMatchesReference.f
 repeat' first
   | (with_reducible exact ih0 _ _ _ _ _ _ _ _ _ _)
   | (with_reducible exact ih1 _ _ _ _ _ _ _ _ _ _ _ _)
   | (with_reducible exact ih2 _ _ _ _ _ _ _ _ _ _ _)
   | (with_reducible exact observatorylaw02_few.mono _ _)
   | (with_reducible exact observatorylaw02_head.mono _)
   | (with_reducible exact observatoryref01_Same.mono _ _ _)
   | (with_reducible exact observatoryref02_Check.mono _ _ _ _ _ _)
   | (with_reducible exact observatoryref02_Extends.mono _ _ _ _ _ _)
   | (with_reducible exact observatoryref02_Leaf.mono _ _)
   | (with_reducible exact observatoryref02_Link.mono _ _ _)
   | (with_reducible exact observatoryref02_Path.mono _ _ _)
   | (with_reducible exact observatoryref02_Root.mono _ _)
   | (with_reducible exact tree_Link.mono _ _ _)
   | (with_reducible exact tree_Path.mono _ _ _)
   | (with_reducible exact LeO.refl _)
   | (with_reducible exact LeO.none _)
   | (with_reducible refine LeO.ite ?_ ?_)
   | (with_reducible refine LeO.bind ?_ (fun _ => ?_))
   | exact ih0 _ _ _ _ _ _ _ _ _ _
   | exact ih1 _ _ _ _ _ _ _ _ _ _ _ _
   | exact ih2 _ _ _ _ _ _ _ _ _ _ _
   | exact observatorylaw02_few.mono _ _
   | exact observatorylaw02_head.mono _
   | exact observatoryref01_Same.mono _ _ _
   | exact observatoryref02_Check.mono _ _ _ _ _ _
   | exact observatoryref02_Extends.mono _ _ _ _ _ _
   | exact observatoryref02_Leaf.mono _ _
   | exact observatoryref02_Link.mono _ _ _
   | exact observatoryref02_Path.mono _ _ _
   | exact observatoryref02_Root.mono _ _
   | exact tree_Link.mono _ _ _
   | exact tree_Path.mono _ _ _
   | exact LeO.none _
   | refine LeO.ite ?_ ?_
   | refine LeO.bind ?_ (fun _ => ?_)
set_option maxHeartbeats 8000000 in
set_option maxRecDepth 100000 in
theorem observatorylaw02_TreeMatchesReference.calls (k : Nat) (A0 : Option Addr) (c0 : Nat) (l0 : List ByteArray) (a1 : Int) (a2 : Int) (a3 : Int) (a4 : ByteArray) (a5 : ByteArray) (a6 : ByteArray) (A7 : Option Addr) (c7 : Nat) (l7 : List ByteArray) (r : Bool) (w : World) (hr0 : Kd.C Kd.string w A0 l0.length l0) (hc0 : l0.length ≤ c0) (hr7 : Kd.C Kd.string w A7 l7.length l7) (hc7 : l7.length ≤ c7) (hT : Tabs w) (h : observatorylaw02_TreeMatchesReference.f k l0 a1 a2 a3 a4 a5 a6 l7 = some r) :
  Calls Tryz.prog 3 #[.slice A0 l0.length c0, .int .i64 a1, .int .i64 a2, .int .i64 a3, .string a4, .string a5, .string a6, .slice A7 l7.length c7] w fun e w' => e = .returned (.bool r) ∧ Below w.heap.size w w' := by
 have HR0 := Aside0.mk hr0
 have HC0 := Aside0.mk hc0
 clear hr0 hc0
 have HR7 := Aside0.mk hr7
 have HC7 := Aside0.mk hc7
 clear hr7 hc7
 have HB := Aside0.mk (Below.refl w.heap.size w)
 have HT := Aside0.mk hT
 clear hT
 have H : ((observatorylaw02_head.f k).bind fun t391 => ((observatorylaw02_few.f k l0).bind fun t392 => (if t392 = true then ((observatorylaw02_few.f k l7).bind fun t393 => (if t393 = true then (if (a4.size : Int) > 100 then (observatorylaw02_TreeMatchesReference.j0 k l0 a1 a2 a3 a4 a5 a6 l7 t391 true) else (if (a5.size : Int) > 100 then (observatorylaw02_TreeMatchesReference.j0 k l0 a1 a2 a3 a4 a5 a6 l7 t391 true) else (observatorylaw02_TreeMatchesReference.j0 k l0 a1 a2 a3 a4 a5 a6 l7 t391 (decide ((a6.size : Int) > 100))))) else (observatorylaw02_TreeMatchesReference.j0 k l0 a1 a2 a3 a4 a5 a6 l7 t391 true))) else (observatorylaw02_TreeMatchesReference.j0 k l0 a1 a2 a3 a4 a5 a6 l7 t391 true)))) = some r := h
 clear h
 replace H := Option.bind_eq_some_iff.mp H
 obtain ⟨t391, A90, H⟩ := H
 replace H : ((observatorylaw02_few.f k l0).bind fun t392 => (if t392 = true then ((observatorylaw02_few.f k l7).bind fun t393 => (if t393 = true then (if (a4.size : Int) > 100 then (observatorylaw02_TreeMatchesReference.j0 k l0 a1 a2 a3 a4 a5 a6 l7 t391 true) else (if (a5.size : Int) > 100 then (observatorylaw02_TreeMatchesReference.j0 k l0 a1 a2 a3 a4 a5 a6 l7 t391 true) else (observatorylaw02_TreeMatchesReference.j0 k l0 a1 a2 a3 a4 a5 a6 l7 t391 (decide ((a6.size : Int) > 100))))) else (observatorylaw02_TreeMatchesReference.j0 k l0 a1 a2 a3 a4 a5 a6 l7 t391 true))) else (observatorylaw02_TreeMatchesReference.j0 k l0 a1 a2 a3 a4 a5 a6 l7 t391 true))) = some r := H
 have A9 := Aside0.mk A90
 clear A90
 have HC10 := Aside0.mk H
 clear H
 go_enter Tryz.func3, Tryz.ntmps3
 go_upto_region 2 with (first | ((with_reducible refine gate_callee (f := 4) rfl ?_); refine goesL_ (some 32) rfl rfl Tryz.func4 (by kernel_rfl) rfl #[] rfl (by (try simp only [List.map_toArray, List.map_cons, List.map_nil]); first | done | rfl | (simp only [List.length_drop, List.length_take]; rfl)) ?_; (with_reducible refine (observatorylaw02_head.calls k  t391 _ ?side1 A9.out).mono ?_); (case side1 => exact HT.out.below (by repeat (first | (with_reducible first | exact HB.out | apply below_alloc | apply pw_below_drewN | apply below_drew1) | exact HB.out))); rintro e w11 ⟨rfl, hb⟩; refine ⟨_, rfl, ?_⟩; have n0_ := Aside0.mk (below_step (by repeat (first | (with_reducible first | exact HB.out | apply below_alloc | apply pw_below_drewN | apply below_drew1) | exact HB.out)) hb); clear HB; have HB := n0_; clear n0_; (try clear hb); (try clear hb2); (try clear hk); (try clear hi); (try clear A9)))
 (try simp only [Act.put, List.setIfInBounds_toArray, List.set_cons_zero, List.set_cons_succ])
 go_cut [55] (fun v55 wc => ∃ (kq : Nat) (x55_9 : Bool), v55 = .bool x55_9 ∧ Aside0 (observatorylaw02_TreeMatchesReference.j0 kq l0 a1 a2 a3 a4 a5 a6 l7 t391 x55_9 = some r) ∧ Aside0 (kq ≤ k) ∧ Aside0 (Below w.heap.size w wc))
 case first =>
  have H := HC10.out
  clear HC10
  replace H := Option.bind_eq_some_iff.mp H
  obtain ⟨t392, A120, H⟩ := H
  replace H : (if t392 = true then ((observatorylaw02_few.f k l7).bind fun t393 => (if t393 = true then (if (a4.size : Int) > 100 then (observatorylaw02_TreeMatchesReference.j0 k l0 a1 a2 a3 a4 a5 a6 l7 t391 true) else (if (a5.size : Int) > 100 then (observatorylaw02_TreeMatchesReference.j0 k l0 a1 a2 a3 a4 a5 a6 l7 t391 true) else (observatorylaw02_TreeMatchesReference.j0 k l0 a1 a2 a3 a4 a5 a6 l7 t391 (decide ((a6.size : Int) > 100))))) else (observatorylaw02_TreeMatchesReference.j0 k l0 a1 a2 a3 a4 a5 a6 l7 t391 true))) else (observatorylaw02_TreeMatchesReference.j0 k l0 a1 a2 a3 a4 a5 a6 l7 t391 true)) = some r := H
  have A12 := Aside0.mk A120
  clear A120
  by_cases c13 : t392 = true
  ·
   subst c13
   have H1 : ((observatorylaw02_few.f k l7).bind fun t393 => (if t393 = true then (if (a4.size : Int) > 100 then (observatorylaw02_TreeMatchesReference.j0 k l0 a1 a2 a3 a4 a5 a6 l7 t391 true) else (if (a5.size : Int) > 100 then (observatorylaw02_TreeMatchesReference.j0 k l0 a1 a2 a3 a4 a5 a6 l7 t391 true) else (observatorylaw02_TreeMatchesReference.j0 k l0 a1 a2 a3 a4 a5 a6 l7 t391 (decide ((a6.size : Int) > 100))))) else (observatorylaw02_TreeMatchesReference.j0 k l0 a1 a2 a3 a4 a5 a6 l7 t391 true))) = some r := by rw [if_pos rfl] at H; exact H
   clear H
   have H := H1
   clear H1
   replace H := Option.bind_eq_some_iff.mp H
   obtain ⟨t393, A140, H⟩ := H
   replace H : (if t393 = true then (if (a4.size : Int) > 100 then (observatorylaw02_TreeMatchesReference.j0 k l0 a1 a2 a3 a4 a5 a6 l7 t391 true) else (if (a5.size : Int) > 100 then (observatorylaw02_TreeMatchesReference.j0 k l0 a1 a2 a3 a4 a5 a6 l7 t391 true) else (observatorylaw02_TreeMatchesReference.j0 k l0 a1 a2 a3 a4 a5 a6 l7 t391 (decide ((a6.size : Int) > 100))))) else (observatorylaw02_TreeMatchesReference.j0 k l0 a1 a2 a3 a4 a5 a6 l7 t391 true)) = some r := H
   have A14 := Aside0.mk A140
   clear A140
   by_cases c15 : t393 = true
   ·
    subst c15
    have H1 : (if (a4.size : Int) > 100 then (observatorylaw02_TreeMatchesReference.j0 k l0 a1 a2 a3 a4 a5 a6 l7 t391 true) else (if (a5.size : Int) > 100 then (observatorylaw02_TreeMatchesReference.j0 k l0 a1 a2 a3 a4 a5 a6 l7 t391 true) else (observatorylaw02_TreeMatchesReference.j0 k l0 a1 a2 a3 a4 a5 a6 l7 t391 (decide ((a6.size : Int) > 100))))) = some r := by rw [if_pos rfl] at H; exact H
    clear H
    have H := H1
    clear H1
    by_cases c16 : (a4.size : Int) > 100
    ·
     rw [if_pos c16] at H
     have c16b0 : decide (100 < (a4.size : Int)) = true := decide_eq_true c16
     have c16b1 : decide (100 < a4.size) = true := decide_eq_true (by omega)
     clear c16
     (first | rw [c16b0] | (simp only [i64_w, i32_w]; rw [c16b0]) | skip)
     have H' := Aside0.mk H
     clear H
     go_wp2_with (first | ((with_reducible refine gate_callee (f := 5) rfl ?_); refine goesL_ (some 34) rfl rfl Tryz.func5 (by kernel_rfl) rfl #[.slice A0 l0.length c0] rfl (by (try simp only [List.map_toArray, List.map_cons, List.map_nil]); first | done | rfl | (simp only [List.length_drop, List.length_take]; rfl)) ?_; (with_reducible refine (observatorylaw02_few.calls k _ _ l0 true _ ?side1 ?side2 A12.out).mono ?_); (case side1 => repeat (first | exact (Kd.C_below HR0.out HB.out) | (with_reducible refine Kd.C_alloc ?_ _) | (with_reducible refine Kd.C_drewN ?_ _) | (with_reducible refine Kd.C_drew ?_))); (case side2 => exact HC0.out); rintro e w' ⟨rfl, ⟨nd, rfl⟩⟩; refine ⟨_, rfl, ?_⟩; (try clear A12)) | (go_at_call 5; (with_reducible refine (observatorylaw02_few.calls k _ _ l7 true _ ?side1 ?side2 A14.out).mono ?_); (case side1 => repeat (first | exact (Kd.C_below HR7.out (by repeat (first | (with_reducible first | exact HB.out | apply below_alloc | apply pw_below_drewN | apply below_drew1) | exact HB.out))) | (with_reducible refine Kd.C_alloc ?_ _) | (with_reducible refine Kd.C_drewN ?_ _) | (with_reducible refine Kd.C_drew ?_))); (case side2 => exact HC7.out); rintro e w' ⟨rfl, ⟨nd, rfl⟩⟩; (try clear A14)))
     go_meet
     case rel => exact ⟨_, (true), (by first | rfl | (simp; done) | (simp [*]; done)), H', ⟨by first | omega | exact Nat.le_refl _⟩, ⟨by repeat (first | (with_reducible first | exact HB.out | apply below_alloc | apply pw_below_drewN | apply below_drew1) | exact HB.out)⟩⟩
    ·
     rw [if_neg c16] at H
     have c16b0 : decide (100 < (a4.size : Int)) = false := decide_eq_false c16
     have c16b1 : decide (100 < a4.size) = false := decide_eq_false (by omega)
     clear c16
     (first | rw [c16b0] | (simp only [i64_w, i32_w]; rw [c16b0]) | skip)
     by_cases c17 : (a5.size : Int) > 100
     ·
      rw [if_pos c17] at H
      have c17b0 : decide (100 < (a5.size : Int)) = true := decide_eq_true c17
      have c17b1 : decide (100 < a5.size) = true := decide_eq_true (by omega)
      clear c17
      have H' := Aside0.mk H
      clear H
      go_wp2_with (first | ((with_reducible refine gate_callee (f := 5) rfl ?_); refine goesL_ (some 34) rfl rfl Tryz.func5 (by kernel_rfl) rfl #[.slice A0 l0.length c0] rfl (by (try simp only [List.map_toArray, List.map_cons, List.map_nil]); first | done | rfl | (simp only [List.length_drop, List.length_take]; rfl)) ?_; (with_reducible refine (observatorylaw02_few.calls k _ _ l0 true _ ?side1 ?side2 A12.out).mono ?_); (case side1 => repeat (first | exact (Kd.C_below HR0.out HB.out) | (with_reducible refine Kd.C_alloc ?_ _) | (with_reducible refine Kd.C_drewN ?_ _) | (with_reducible refine Kd.C_drew ?_))); (case side2 => exact HC0.out); rintro e w' ⟨rfl, ⟨nd, rfl⟩⟩; refine ⟨_, rfl, ?_⟩; (try clear A12)) | (go_at_call 5; (with_reducible refine (observatorylaw02_few.calls k _ _ l7 true _ ?side1 ?side2 A14.out).mono ?_); (case side1 => repeat (first | exact (Kd.C_below HR7.out (by repeat (first | (with_reducible first | exact HB.out | apply below_alloc | apply pw_below_drewN | apply below_drew1) | exact HB.out))) | (with_reducible refine Kd.C_alloc ?_ _) | (with_reducible refine Kd.C_drewN ?_ _) | (with_reducible refine Kd.C_drew ?_))); (case side2 => exact HC7.out); rintro e w' ⟨rfl, ⟨nd, rfl⟩⟩; (try clear A14)))
      go_meet
      case rel => exact ⟨_, (true), (by first | rfl | (simp; done) | (simp [*]; done)), H', ⟨by first | omega | exact Nat.le_refl _⟩, ⟨by repeat (first | (with_reducible first | exact HB.out | apply below_alloc | apply pw_below_drewN | apply below_drew1) | exact HB.out)⟩⟩
     ·
      rw [if_neg c17] at H
      have c17b0 : decide (100 < (a5.size : Int)) = false := decide_eq_false c17
      have c17b1 : decide (100 < a5.size) = false := decide_eq_false (by omega)
      clear c17
      have H' := Aside0.mk H
      clear H
      go_wp2_with (first | ((with_reducible refine gate_callee (f := 5) rfl ?_); refine goesL_ (some 34) rfl rfl Tryz.func5 (by kernel_rfl) rfl #[.slice A0 l0.length c0] rfl (by (try simp only [List.map_toArray, List.map_cons, List.map_nil]); first | done | rfl | (simp only [List.length_drop, List.length_take]; rfl)) ?_; (with_reducible refine (observatorylaw02_few.calls k _ _ l0 true _ ?side1 ?side2 A12.out).mono ?_); (case side1 => repeat (first | exact (Kd.C_below HR0.out HB.out) | (with_reducible refine Kd.C_alloc ?_ _) | (with_reducible refine Kd.C_drewN ?_ _) | (with_reducible refine Kd.C_drew ?_))); (case side2 => exact HC0.out); rintro e w' ⟨rfl, ⟨nd, rfl⟩⟩; refine ⟨_, rfl, ?_⟩; (try clear A12)) | (go_at_call 5; (with_reducible refine (observatorylaw02_few.calls k _ _ l7 true _ ?side1 ?side2 A14.out).mono ?_); (case side1 => repeat (first | exact (Kd.C_below HR7.out (by repeat (first | (with_reducible first | exact HB.out | apply below_alloc | apply pw_below_drewN | apply below_drew1) | exact HB.out))) | (with_reducible refine Kd.C_alloc ?_ _) | (with_reducible refine Kd.C_drewN ?_ _) | (with_reducible refine Kd.C_drew ?_))); (case side2 => exact HC7.out); rintro e w' ⟨rfl, ⟨nd, rfl⟩⟩; (try clear A14)))
      go_meet
      case rel => exact ⟨_, (decide ((a6.size : Int) > 100)), (by first | rfl | (simp; done) | (simp [*]; done)), H', ⟨by first | omega | exact Nat.le_refl _⟩, ⟨by repeat (first | (with_reducible first | exact HB.out | apply below_alloc | apply pw_below_drewN | apply below_drew1) | exact HB.out)⟩⟩
   ·
    replace c15 := Bool.eq_false_iff.mpr c15
    subst c15
    have H1 : (observatorylaw02_TreeMatchesReference.j0 k l0 a1 a2 a3 a4 a5 a6 l7 t391 true) = some r := by rw [if_neg (show ¬ (false = true) by decide)] at H; exact H
    clear H
    have H := H1
    clear H1
    have H' := Aside0.mk H
    clear H
    go_wp2_with (first | ((with_reducible refine gate_callee (f := 5) rfl ?_); refine goesL_ (some 34) rfl rfl Tryz.func5 (by kernel_rfl) rfl #[.slice A0 l0.length c0] rfl (by (try simp only [List.map_toArray, List.map_cons, List.map_nil]); first | done | rfl | (simp only [List.length_drop, List.length_take]; rfl)) ?_; (with_reducible refine (observatorylaw02_few.calls k _ _ l0 true _ ?side1 ?side2 A12.out).mono ?_); (case side1 => repeat (first | exact (Kd.C_below HR0.out HB.out) | (with_reducible refine Kd.C_alloc ?_ _) | (with_reducible refine Kd.C_drewN ?_ _) | (with_reducible refine Kd.C_drew ?_))); (case side2 => exact HC0.out); rintro e w' ⟨rfl, ⟨nd, rfl⟩⟩; refine ⟨_, rfl, ?_⟩; (try clear A12)) | (go_at_call 5; (with_reducible refine (observatorylaw02_few.calls k _ _ l7 false _ ?side1 ?side2 A14.out).mono ?_); (case side1 => repeat (first | exact (Kd.C_below HR7.out (by repeat (first | (with_reducible first | exact HB.out | apply below_alloc | apply pw_below_drewN | apply below_drew1) | exact HB.out))) | (with_reducible refine Kd.C_alloc ?_ _) | (with_reducible refine Kd.C_drewN ?_ _) | (with_reducible refine Kd.C_drew ?_))); (case side2 => exact HC7.out); rintro e w' ⟨rfl, ⟨nd, rfl⟩⟩; (try clear A14)))
    go_meet
    case rel => exact ⟨_, (true), (by first | rfl | (simp; done) | (simp [*]; done)), H', ⟨by first | omega | exact Nat.le_refl _⟩, ⟨by repeat (first | (with_reducible first | exact HB.out | apply below_alloc | apply pw_below_drewN | apply below_drew1) | exact HB.out)⟩⟩
  ·
   replace c13 := Bool.eq_false_iff.mpr c13
   subst c13
   have H1 : (observatorylaw02_TreeMatchesReference.j0 k l0 a1 a2 a3 a4 a5 a6 l7 t391 true) = some r := by rw [if_neg (show ¬ (false = true) by decide)] at H; exact H
   clear H
   have H := H1
   clear H1
   have H' := Aside0.mk H
   clear H
   go_wp2_with (first | ((with_reducible refine gate_callee (f := 5) rfl ?_); refine goesL_ (some 34) rfl rfl Tryz.func5 (by kernel_rfl) rfl #[.slice A0 l0.length c0] rfl (by (try simp only [List.map_toArray, List.map_cons, List.map_nil]); first | done | rfl | (simp only [List.length_drop, List.length_take]; rfl)) ?_; (with_reducible refine (observatorylaw02_few.calls k _ _ l0 false _ ?side1 ?side2 A12.out).mono ?_); (case side1 => repeat (first | exact (Kd.C_below HR0.out HB.out) | (with_reducible refine Kd.C_alloc ?_ _) | (with_reducible refine Kd.C_drewN ?_ _) | (with_reducible refine Kd.C_drew ?_))); (case side2 => exact HC0.out); rintro e w' ⟨rfl, ⟨nd, rfl⟩⟩; refine ⟨_, rfl, ?_⟩; (try clear A12)))
   go_meet
   case rel => exact ⟨_, (true), (by first | rfl | (simp; done) | (simp [*]; done)), H', ⟨by first | omega | exact Nat.le_refl _⟩, ⟨by repeat (first | (with_reducible first | exact HB.out | apply below_alloc | apply pw_below_drewN | apply below_drew1) | exact HB.out)⟩⟩
 case rest =>
  clear HC10
  try clear c1
  try clear p2
  try clear c3
  try clear c4
  try clear c5
  try clear c7
  try clear c13
  try clear c15
  try clear c16
  try clear c16b0
  try clear c16b1
  try clear c17
  try clear c17b0
  try clear c17b1
  obtain ⟨kq, x55_9, rfl, HA, HJ9, HB⟩ := hcut
  cases kq with
  | zero => exact absurd HA.out (by simp [observatorylaw02_TreeMatchesReference.j0])
  | succ kj9 =>
   have H := HA.out
   clear HA
   simp only [observatorylaw02_TreeMatchesReference.j0] at H
   by_cases c18 : x55_9 = true
   ·
    subst c18
    have H1 : (some t391) = some r := by rw [if_pos rfl] at H; exact H
    clear H
    have H := H1
    clear H1
    obtain rfl := Option.some.inj H
    go_wp2
    go_ret
    exact ⟨by first | rfl | (simp [errW_none, errW_some] <;> rfl) | (simp [*, errW_none, errW_some] <;> rfl), by repeat (first | (with_reducible first | exact HB.out | apply below_alloc | apply pw_below_drewN | apply below_drew1) | exact HB.out)⟩
   ·
    replace c18 := Bool.eq_false_iff.mpr c18
    subst c18
    have H1 : ((tree_Root.f l0).bind fun bt394 => ((observatoryref02_Root.f kj9 l0).bind fun bt396 => ((tree_Path.f kj9 l0 a1).bind fun bt398 => ((observatoryref02_Path.f kj9 l0 a1).bind fun bt402 => ((tree_Link.f kj9 l0 a2).bind fun bt406 => ((observatoryref02_Link.f kj9 l0 a2).bind fun bt410 => (if bt394.1.toList = bt396.1.toList then (if bt394.2 = bt396.2 then ((tree_Leaf.f a6).bind fun t414 => ((observatoryref02_Leaf.f kj9 a6).bind fun t415 => (if t414.toList = t415.toList then (if bt398.2 = bt402.2 then ((observatoryref01_Same.f kj9 bt398.1 bt402.1).bind fun t416 => (if t416 = true then (if bt406.2 = bt410.2 then ((observatoryref01_Same.f kj9 bt406.1 bt410.1).bind fun t417 => (observatorylaw02_TreeMatchesReference.j1 kj9 l0 a1 a2 a3 a4 a5 a6 l7 t391 bt394.1 bt396.1 t417)) else (observatorylaw02_TreeMatchesReference.j1 kj9 l0 a1 a2 a3 a4 a5 a6 l7 t391 bt394.1 bt396.1 false)) else (observatorylaw02_TreeMatchesReference.j1 kj9 l0 a1 a2 a3 a4 a5 a6 l7 t391 bt394.1 bt396.1 false))) else (observatorylaw02_TreeMatchesReference.j1 kj9 l0 a1 a2 a3 a4 a5 a6 l7 t391 bt394.1 bt396.1 false)) else (observatorylaw02_TreeMatchesReference.j1 kj9 l0 a1 a2 a3 a4 a5 a6 l7 t391 bt394.1 bt396.1 false)))) else (observatorylaw02_TreeMatchesReference.j1 kj9 l0 a1 a2 a3 a4 a5 a6 l7 t391 bt394.1 bt396.1 false)) else (observatorylaw02_TreeMatchesReference.j1 kj9 l0 a1 a2 a3 a4 a5 a6 l7 t391 bt394.1 bt396.1 false)))))))) = some r := by rw [if_neg (show ¬ (false = true) by decide)] at H; exact H
    clear H
    have H := H1
    clear H1
    replace H := Option.bind_eq_some_iff.mp H
    obtain ⟨⟨t394, t395⟩, A190, H⟩ := H
    replace H : ((observatoryref02_Root.f kj9 l0).bind fun bt396 => ((tree_Path.f kj9 l0 a1).bind fun bt398 => ((observatoryref02_Path.f kj9 l0 a1).bind fun bt402 => ((tree_Link.f kj9 l0 a2).bind fun bt406 => ((observatoryref02_Link.f kj9 l0 a2).bind fun bt410 => (if t394.toList = bt396.1.toList then (if t395 = bt396.2 then ((tree_Leaf.f a6).bind fun t414 => ((observatoryref02_Leaf.f kj9 a6).bind fun t415 => (if t414.toList = t415.toList then (if bt398.2 = bt402.2 then ((observatoryref01_Same.f kj9 bt398.1 bt402.1).bind fun t416 => (if t416 = true then (if bt406.2 = bt410.2 then ((observatoryref01_Same.f kj9 bt406.1 bt410.1).bind fun t417 => (observatorylaw02_TreeMatchesReference.j1 kj9 l0 a1 a2 a3 a4 a5 a6 l7 t391 t394 bt396.1 t417)) else (observatorylaw02_TreeMatchesReference.j1 kj9 l0 a1 a2 a3 a4 a5 a6 l7 t391 t394 bt396.1 false)) else (observatorylaw02_TreeMatchesReference.j1 kj9 l0 a1 a2 a3 a4 a5 a6 l7 t391 t394 bt396.1 false))) else (observatorylaw02_TreeMatchesReference.j1 kj9 l0 a1 a2 a3 a4 a5 a6 l7 t391 t394 bt396.1 false)) else (observatorylaw02_TreeMatchesReference.j1 kj9 l0 a1 a2 a3 a4 a5 a6 l7 t391 t394 bt396.1 false)))) else (observatorylaw02_TreeMatchesReference.j1 kj9 l0 a1 a2 a3 a4 a5 a6 l7 t391 t394 bt396.1 false)) else (observatorylaw02_TreeMatchesReference.j1 kj9 l0 a1 a2 a3 a4 a5 a6 l7 t391 t394 bt396.1 false))))))) = some r := H
    have A19 := Aside0.mk A190
    clear A190
    replace H := Option.bind_eq_some_iff.mp H
    obtain ⟨⟨t396, t397⟩, A200, H⟩ := H
    replace H : ((tree_Path.f kj9 l0 a1).bind fun bt398 => ((observatoryref02_Path.f kj9 l0 a1).bind fun bt402 => ((tree_Link.f kj9 l0 a2).bind fun bt406 => ((observatoryref02_Link.f kj9 l0 a2).bind fun bt410 => (if t394.toList = t396.toList then (if t395 = t397 then ((tree_Leaf.f a6).bind fun t414 => ((observatoryref02_Leaf.f kj9 a6).bind fun t415 => (if t414.toList = t415.toList then (if bt398.2 = bt402.2 then ((observatoryref01_Same.f kj9 bt398.1 bt402.1).bind fun t416 => (if t416 = true then (if bt406.2 = bt410.2 then ((observatoryref01_Same.f kj9 bt406.1 bt410.1).bind fun t417 => (observatorylaw02_TreeMatchesReference.j1 kj9 l0 a1 a2 a3 a4 a5 a6 l7 t391 t394 t396 t417)) else (observatorylaw02_TreeMatchesReference.j1 kj9 l0 a1 a2 a3 a4 a5 a6 l7 t391 t394 t396 false)) else (observatorylaw02_TreeMatchesReference.j1 kj9 l0 a1 a2 a3 a4 a5 a6 l7 t391 t394 t396 false))) else (observatorylaw02_TreeMatchesReference.j1 kj9 l0 a1 a2 a3 a4 a5 a6 l7 t391 t394 t396 false)) else (observatorylaw02_TreeMatchesReference.j1 kj9 l0 a1 a2 a3 a4 a5 a6 l7 t391 t394 t396 false)))) else (observatorylaw02_TreeMatchesReference.j1 kj9 l0 a1 a2 a3 a4 a5 a6 l7 t391 t394 t396 false)) else (observatorylaw02_TreeMatchesReference.j1 kj9 l0 a1 a2 a3 a4 a5 a6 l7 t391 t394 t396 false)))))) = some r := H
    have A20 := Aside0.mk A200
    clear A200
    replace H := Option.bind_eq_some_iff.mp H
    obtain ⟨⟨t398, t401⟩, A210, H⟩ := H
    replace H : ((observatoryref02_Path.f kj9 l0 a1).bind fun bt402 => ((tree_Link.f kj9 l0 a2).bind fun bt406 => ((observatoryref02_Link.f kj9 l0 a2).bind fun bt410 => (if t394.toList = t396.toList then (if t395 = t397 then ((tree_Leaf.f a6).bind fun t414 => ((observatoryref02_Leaf.f kj9 a6).bind fun t415 => (if t414.toList = t415.toList then (if t401 = bt402.2 then ((observatoryref01_Same.f kj9 t398 bt402.1).bind fun t416 => (if t416 = true then (if bt406.2 = bt410.2 then ((observatoryref01_Same.f kj9 bt406.1 bt410.1).bind fun t417 => (observatorylaw02_TreeMatchesReference.j1 kj9 l0 a1 a2 a3 a4 a5 a6 l7 t391 t394 t396 t417)) else (observatorylaw02_TreeMatchesReference.j1 kj9 l0 a1 a2 a3 a4 a5 a6 l7 t391 t394 t396 false)) else (observatorylaw02_TreeMatchesReference.j1 kj9 l0 a1 a2 a3 a4 a5 a6 l7 t391 t394 t396 false))) else (observatorylaw02_TreeMatchesReference.j1 kj9 l0 a1 a2 a3 a4 a5 a6 l7 t391 t394 t396 false)) else (observatorylaw02_TreeMatchesReference.j1 kj9 l0 a1 a2 a3 a4 a5 a6 l7 t391 t394 t396 false)))) else (observatorylaw02_TreeMatchesReference.j1 kj9 l0 a1 a2 a3 a4 a5 a6 l7 t391 t394 t396 false)) else (observatorylaw02_TreeMatchesReference.j1 kj9 l0 a1 a2 a3 a4 a5 a6 l7 t391 t394 t396 false))))) = some r := H
    have A21 := Aside0.mk A210
    clear A210
    replace H := Option.bind_eq_some_iff.mp H
    obtain ⟨⟨t402, t403⟩, A220, H⟩ := H
    replace H : ((tree_Link.f kj9 l0 a2).bind fun bt406 => ((observatoryref02_Link.f kj9 l0 a2).bind fun bt410 => (if t394.toList = t396.toList then (if t395 = t397 then ((tree_Leaf.f a6).bind fun t414 => ((observatoryref02_Leaf.f kj9 a6).bind fun t415 => (if t414.toList = t415.toList then (if t401 = t403 then ((observatoryref01_Same.f kj9 t398 t402).bind fun t416 => (if t416 = true then (if bt406.2 = bt410.2 then ((observatoryref01_Same.f kj9 bt406.1 bt410.1).bind fun t417 => (observatorylaw02_TreeMatchesReference.j1 kj9 l0 a1 a2 a3 a4 a5 a6 l7 t391 t394 t396 t417)) else (observatorylaw02_TreeMatchesReference.j1 kj9 l0 a1 a2 a3 a4 a5 a6 l7 t391 t394 t396 false)) else (observatorylaw02_TreeMatchesReference.j1 kj9 l0 a1 a2 a3 a4 a5 a6 l7 t391 t394 t396 false))) else (observatorylaw02_TreeMatchesReference.j1 kj9 l0 a1 a2 a3 a4 a5 a6 l7 t391 t394 t396 false)) else (observatorylaw02_TreeMatchesReference.j1 kj9 l0 a1 a2 a3 a4 a5 a6 l7 t391 t394 t396 false)))) else (observatorylaw02_TreeMatchesReference.j1 kj9 l0 a1 a2 a3 a4 a5 a6 l7 t391 t394 t396 false)) else (observatorylaw02_TreeMatchesReference.j1 kj9 l0 a1 a2 a3 a4 a5 a6 l7 t391 t394 t396 false)))) = some r := H
    have A22 := Aside0.mk A220
    clear A220
    replace H := Option.bind_eq_some_iff.mp H
    obtain ⟨⟨t406, t409⟩, A230, H⟩ := H
    replace H : ((observatoryref02_Link.f kj9 l0 a2).bind fun bt410 => (if t394.toList = t396.toList then (if t395 = t397 then ((tree_Leaf.f a6).bind fun t414 => ((observatoryref02_Leaf.f kj9 a6).bind fun t415 => (if t414.toList = t415.toList then (if t401 = t403 then ((observatoryref01_Same.f kj9 t398 t402).bind fun t416 => (if t416 = true then (if t409 = bt410.2 then ((observatoryref01_Same.f kj9 t406 bt410.1).bind fun t417 => (observatorylaw02_TreeMatchesReference.j1 kj9 l0 a1 a2 a3 a4 a5 a6 l7 t391 t394 t396 t417)) else (observatorylaw02_TreeMatchesReference.j1 kj9 l0 a1 a2 a3 a4 a5 a6 l7 t391 t394 t396 false)) else (observatorylaw02_TreeMatchesReference.j1 kj9 l0 a1 a2 a3 a4 a5 a6 l7 t391 t394 t396 false))) else (observatorylaw02_TreeMatchesReference.j1 kj9 l0 a1 a2 a3 a4 a5 a6 l7 t391 t394 t396 false)) else (observatorylaw02_TreeMatchesReference.j1 kj9 l0 a1 a2 a3 a4 a5 a6 l7 t391 t394 t396 false)))) else (observatorylaw02_TreeMatchesReference.j1 kj9 l0 a1 a2 a3 a4 a5 a6 l7 t391 t394 t396 false)) else (observatorylaw02_TreeMatchesReference.j1 kj9 l0 a1 a2 a3 a4 a5 a6 l7 t391 t394 t396 false))) = some r := H
    have A23 := Aside0.mk A230
    clear A230
    replace H := Option.bind_eq_some_iff.mp H
    obtain ⟨⟨t410, t411⟩, A240, H⟩ := H
    replace H : (if t394.toList = t396.toList then (if t395 = t397 then ((tree_Leaf.f a6).bind fun t414 => ((observatoryref02_Leaf.f kj9 a6).bind fun t415 => (if t414.toList = t415.toList then (if t401 = t403 then ((observatoryref01_Same.f kj9 t398 t402).bind fun t416 => (if t416 = true then (if t409 = t411 then ((observatoryref01_Same.f kj9 t406 t410).bind fun t417 => (observatorylaw02_TreeMatchesReference.j1 kj9 l0 a1 a2 a3 a4 a5 a6 l7 t391 t394 t396 t417)) else (observatorylaw02_TreeMatchesReference.j1 kj9 l0 a1 a2 a3 a4 a5 a6 l7 t391 t394 t396 false)) else (observatorylaw02_TreeMatchesReference.j1 kj9 l0 a1 a2 a3 a4 a5 a6 l7 t391 t394 t396 false))) else (observatorylaw02_TreeMatchesReference.j1 kj9 l0 a1 a2 a3 a4 a5 a6 l7 t391 t394 t396 false)) else (observatorylaw02_TreeMatchesReference.j1 kj9 l0 a1 a2 a3 a4 a5 a6 l7 t391 t394 t396 false)))) else (observatorylaw02_TreeMatchesReference.j1 kj9 l0 a1 a2 a3 a4 a5 a6 l7 t391 t394 t396 false)) else (observatorylaw02_TreeMatchesReference.j1 kj9 l0 a1 a2 a3 a4 a5 a6 l7 t391 t394 t396 false)) = some r := H
    have A24 := Aside0.mk A240
    clear A240
    have HC25 := Aside0.mk H
    clear H
    go_upto_region 10 with (first | ((with_reducible refine gate_callee (f := 6) rfl ?_); refine goesL_ (some 59) rfl rfl Tryz.func6 (by kernel_rfl) rfl #[.slice A0 l0.length c0] rfl (by (try simp only [List.map_toArray, List.map_cons, List.map_nil]); first | done | rfl | (simp only [List.length_drop, List.length_take]; rfl)) ?_; (with_reducible refine (tree_Root.calls _ _ l0 t394 t395 _ ?side1 ?side2 ?side3 A19.out).mono ?_); (case side1 => repeat (first | exact (Kd.C_below HR0.out HB.out) | (with_reducible refine Kd.C_alloc ?_ _) | (with_reducible refine Kd.C_drewN ?_ _) | (with_reducible refine Kd.C_drew ?_))); (case side2 => exact HC0.out); (case side3 => exact HT.out.below (by repeat (first | (with_reducible first | exact HB.out | apply below_alloc | apply pw_below_drewN | apply below_drew1) | exact HB.out))); rintro e w26 ⟨rfl, hb⟩; refine ⟨_, rfl, ?_⟩; have n0_ := Aside0.mk (below_step (by repeat (first | (with_reducible first | exact HB.out | apply below_alloc | apply pw_below_drewN | apply below_drew1) | exact HB.out)) hb); clear HB; have HB := n0_; clear n0_; (try clear hb); (try clear hb2); (try clear hk); (try clear hi); (try clear A19)) | ((with_reducible refine gate_callee (f := 7) rfl ?_); refine goesL_ (some 64) rfl rfl Tryz.func7 (by kernel_rfl) rfl #[.slice A0 l0.length c0] rfl (by (try simp only [List.map_toArray, List.map_cons, List.map_nil]); first | done | rfl | (simp only [List.length_drop, List.length_take]; rfl)) ?_; (with_reducible refine (observatoryref02_Root.calls kj9 _ _ l0 t396 t397 _ ?side1 ?side2 A20.out).mono ?_); (case side1 => repeat (first | exact (Kd.C_below HR0.out HB.out) | (with_reducible refine Kd.C_alloc ?_ _) | (with_reducible refine Kd.C_drewN ?_ _) | (with_reducible refine Kd.C_drew ?_))); (case side2 => exact HC0.out); rintro e w27 ⟨rfl, hb⟩; refine ⟨_, rfl, ?_⟩; have n0_ := Aside0.mk (below_step (by repeat (first | (with_reducible first | exact HB.out | apply below_alloc | apply pw_below_drewN | apply below_drew1) | exact HB.out)) hb); clear HB; have HB := n0_; clear n0_; (try clear hb); (try clear hb2); (try clear hk); (try clear hi); (try clear A20)) | ((with_reducible refine gate_callee (f := 8) rfl ?_); refine goesL_ (some 70) rfl rfl Tryz.func8 (by kernel_rfl) rfl #[.slice A0 l0.length c0, .int .i64 a1] rfl (by (try simp only [List.map_toArray, List.map_cons, List.map_nil]); first | done | rfl | (simp only [List.length_drop, List.length_take]; rfl)) ?_; (with_reducible refine (tree_Path.calls kj9 (fun k_ => k_ < w.heap.size) _ _ l0 a1 t398 t401 _ ?side1 ?side2 A21.out).mono ?_); (case side1 => exact Kd.V_mk HC0.out (Kd.F_below (Kd.C_F Kd.heap_string HR0.out) (by repeat (first | (with_reducible first | exact HB.out | apply below_alloc | apply pw_below_drewN | apply below_drew1) | exact HB.out)))); (case side2 => exact HT.out.below (by repeat (first | (with_reducible first | exact HB.out | apply below_alloc | apply pw_below_drewN | apply below_drew1) | exact HB.out))); rintro e w28 ⟨v399, rfl, ho0, hb⟩; refine ⟨_, rfl, ?_⟩; have n0_ := Aside0.mk (Kd.R_lower (Kd.R_mono (ok' := fun k_ => True) ho0 (fun _ hk_ => trivial)) (below_size (by repeat (first | (with_reducible first | exact HB.out | apply below_alloc | apply pw_below_drewN | apply below_drew1) | exact HB.out)))); have n1_ := Aside0.mk (below_step (by repeat (first | (with_reducible first | exact HB.out | apply below_alloc | apply pw_below_drewN | apply below_drew1) | exact HB.out)) hb); clear HB; have HO400 := n0_; have HB := n1_; clear n0_ n1_; (try clear hb); (try clear hb2); (try clear hk); (try clear hi); (try clear ho0); (try clear A21)) | ((with_reducible refine gate_callee (f := 9) rfl ?_); refine goesL_ (some 76) rfl rfl Tryz.func9 (by kernel_rfl) rfl #[.slice A0 l0.length c0, .int .i64 a1] rfl (by (try simp only [List.map_toArray, List.map_cons, List.map_nil]); first | done | rfl | (simp only [List.length_drop, List.length_take]; rfl)) ?_; (with_reducible refine (observatoryref02_Path.calls kj9 _ _ l0 a1 t402 t403 _ ?side1 ?side2 A22.out).mono ?_); (case side1 => repeat (first | exact (Kd.C_below HR0.out HB.out) | (with_reducible refine Kd.C_alloc ?_ _) | (with_reducible refine Kd.C_drewN ?_ _) | (with_reducible refine Kd.C_drew ?_))); (case side2 => exact HC0.out); rintro e w29 ⟨v404, rfl, ho0, hb⟩; refine ⟨_, rfl, ?_⟩; have n0_ := Aside0.mk (Kd.R_elder' (by (with_reducible repeat (first | apply Kd.R_alloc | apply Kd.R_drewN | apply Kd.R_drew)); exact HO400.out) (Kd.R_base ho0) hb); have n1_ := Aside0.mk (Kd.R_lower (Kd.R_new' ho0 (Kd.R_lt (by (with_reducible repeat (first | apply Kd.R_alloc | apply Kd.R_drewN | apply Kd.R_drew)); exact HO400.out))) (below_size (by repeat (first | (with_reducible first | exact HB.out | apply below_alloc | apply pw_below_drewN | apply below_drew1) | exact HB.out)))); have n2_ := Aside0.mk (below_step (by repeat (first | (with_reducible first | exact HB.out | apply below_alloc | apply pw_below_drewN | apply below_drew1) | exact HB.out)) hb); clear HO400; clear HB; have HO400 := n0_; have HO405 := n1_; have HB := n2_; clear n0_ n1_ n2_; (try clear hb); (try clear hb2); (try clear hk); (try clear hi); (try clear ho0); (try clear A22)) | ((with_reducible refine gate_callee (f := 10) rfl ?_); refine goesL_ (some 82) rfl rfl Tryz.func10 (by kernel_rfl) rfl #[.slice A0 l0.length c0, .int .i64 a2] rfl (by (try simp only [List.map_toArray, List.map_cons, List.map_nil]); first | done | rfl | (simp only [List.length_drop, List.length_take]; rfl)) ?_; (with_reducible refine (tree_Link.calls kj9 (fun k_ => k_ < w.heap.size) _ _ l0 a2 t406 t409 _ ?side1 ?side2 A23.out).mono ?_); (case side1 => exact Kd.V_mk HC0.out (Kd.F_below (Kd.C_F Kd.heap_string HR0.out) (by repeat (first | (with_reducible first | exact HB.out | apply below_alloc | apply pw_below_drewN | apply below_drew1) | exact HB.out)))); (case side2 => exact HT.out.below (by repeat (first | (with_reducible first | exact HB.out | apply below_alloc | apply pw_below_drewN | apply below_drew1) | exact HB.out))); rintro e w30 ⟨v407, rfl, ho0, hb⟩; refine ⟨_, rfl, ?_⟩; have n0_ := Aside0.mk (Kd.R_elder' (by (with_reducible repeat (first | apply Kd.R_alloc | apply Kd.R_drewN | apply Kd.R_drew)); exact HO400.out) (Kd.R_base ho0) hb); have n1_ := Aside0.mk (Kd.R_elder' (by (with_reducible repeat (first | apply Kd.R_alloc | apply Kd.R_drewN | apply Kd.R_drew)); exact HO405.out) (Kd.R_base ho0) hb); have n2_ := Aside0.mk (Kd.R_lower (Kd.R_new' (Kd.R_new' (Kd.R_mono (ok' := fun k_ => True) ho0 (fun _ hk_ => trivial)) (Kd.R_lt (by (with_reducible repeat (first | apply Kd.R_alloc | apply Kd.R_drewN | apply Kd.R_drew)); exact HO400.out))) (Kd.R_lt (by (with_reducible repeat (first | apply Kd.R_alloc | apply Kd.R_drewN | apply Kd.R_drew)); exact HO405.out))) (below_size (by repeat (first | (with_reducible first | exact HB.out | apply below_alloc | apply pw_below_drewN | apply below_drew1) | exact HB.out)))); have n3_ := Aside0.mk (below_step (by repeat (first | (with_reducible first | exact HB.out | apply below_alloc | apply pw_below_drewN | apply below_drew1) | exact HB.out)) hb); clear HO400; clear HO405; clear HB; have HO400 := n0_; have HO405 := n1_; have HO408 := n2_; have HB := n3_; clear n0_ n1_ n2_ n3_; (try clear hb); (try clear hb2); (try clear hk); (try clear hi); (try clear ho0); (try clear A23)) | ((with_reducible refine gate_callee (f := 11) rfl ?_); refine goesL_ (some 88) rfl rfl Tryz.func11 (by kernel_rfl) rfl #[.slice A0 l0.length c0, .int .i64 a2] rfl (by (try simp only [List.map_toArray, List.map_cons, List.map_nil]); first | done | rfl | (simp only [List.length_drop, List.length_take]; rfl)) ?_; (with_reducible refine (observatoryref02_Link.calls kj9 _ _ l0 a2 t410 t411 _ ?side1 ?side2 A24.out).mono ?_); (case side1 => repeat (first | exact (Kd.C_below HR0.out HB.out) | (with_reducible refine Kd.C_alloc ?_ _) | (with_reducible refine Kd.C_drewN ?_ _) | (with_reducible refine Kd.C_drew ?_))); (case side2 => exact HC0.out); rintro e w31 ⟨v412, rfl, ho0, hb⟩; refine ⟨_, rfl, ?_⟩; have n0_ := Aside0.mk (Kd.R_elder' (by (with_reducible repeat (first | apply Kd.R_alloc | apply Kd.R_drewN | apply Kd.R_drew)); exact HO400.out) (Kd.R_base ho0) hb); have n1_ := Aside0.mk (Kd.R_elder' (by (with_reducible repeat (first | apply Kd.R_alloc | apply Kd.R_drewN | apply Kd.R_drew)); exact HO405.out) (Kd.R_base ho0) hb); have n2_ := Aside0.mk (Kd.R_elder' (by (with_reducible repeat (first | apply Kd.R_alloc | apply Kd.R_drewN | apply Kd.R_drew)); exact HO408.out) (Kd.R_base ho0) hb); have n3_ := Aside0.mk (Kd.R_lower (Kd.R_new' (Kd.R_new' (Kd.R_new' ho0 (Kd.R_lt (by (with_reducible repeat (first | apply Kd.R_alloc | apply Kd.R_drewN | apply Kd.R_drew)); exact HO400.out))) (Kd.R_lt (by (with_reducible repeat (first | apply Kd.R_alloc | apply Kd.R_drewN | apply Kd.R_drew)); exact HO405.out))) (Kd.R_lt (by (with_reducible repeat (first | apply Kd.R_alloc | apply Kd.R_drewN | apply Kd.R_drew)); exact HO408.out))) (below_size (by repeat (first | (with_reducible first | exact HB.out | apply below_alloc | apply pw_below_drewN | apply below_drew1) | exact HB.out)))); have n4_ := Aside0.mk (below_step (by repeat (first | (with_reducible first | exact HB.out | apply below_alloc | apply pw_below_drewN | apply below_drew1) | exact HB.out)) hb); clear HO400; clear HO405; clear HO408; clear HB; have HO400 := n0_; have HO405 := n1_; have HO408 := n2_; have HO413 := n3_; have HB := n4_; clear n0_ n1_ n2_ n3_ n4_; (try clear hb); (try clear hb2); (try clear hk); (try clear hi); (try clear ho0); (try clear A24)))
    (try simp only [Act.put, List.setIfInBounds_toArray, List.set_cons_zero, List.set_cons_succ])
    go_cut [30] (fun v30 wc => ∃ (kq : Nat) (x30_24 : Bool), v30 = .bool x30_24 ∧ Aside0 (observatorylaw02_TreeMatchesReference.j1 kq l0 a1 a2 a3 a4 a5 a6 l7 t391 t394 t396 x30_24 = some r) ∧ Aside0 (kq ≤ kj9) ∧ Aside0 (Below w.heap.size w wc))
    case first =>
     have H := HC25.out
     clear HC25
     by_cases c32 : t394.toList = t396.toList
     ·
      rw [if_pos c32] at H
      have c32b0 : (t394.toList == t396.toList) = true := beq_iff_eq.mpr c32
      have c32b1 : (t394.toList != t396.toList) = false := bne_eq_false_iff_eq.mpr c32
      clear c32
      (first | rw [c32b0] | (simp only [i64_w, i32_w]; rw [c32b0]) | skip)
      by_cases c33 : t395 = t397
      ·
       rw [if_pos c33] at H
       have c33b0 : (t395 == t397) = true := beq_iff_eq.mpr c33
       have c33b1 : (t395 != t397) = false := bne_eq_false_iff_eq.mpr c33
       clear c33
       replace H := Option.bind_eq_some_iff.mp H
       obtain ⟨t414, A340, H⟩ := H
       replace H : ((observatoryref02_Leaf.f kj9 a6).bind fun t415 => (if t414.toList = t415.toList then (if t401 = t403 then ((observatoryref01_Same.f kj9 t398 t402).bind fun t416 => (if t416 = true then (if t409 = t411 then ((observatoryref01_Same.f kj9 t406 t410).bind fun t417 => (observatorylaw02_TreeMatchesReference.j1 kj9 l0 a1 a2 a3 a4 a5 a6 l7 t391 t394 t396 t417)) else (observatorylaw02_TreeMatchesReference.j1 kj9 l0 a1 a2 a3 a4 a5 a6 l7 t391 t394 t396 false)) else (observatorylaw02_TreeMatchesReference.j1 kj9 l0 a1 a2 a3 a4 a5 a6 l7 t391 t394 t396 false))) else (observatorylaw02_TreeMatchesReference.j1 kj9 l0 a1 a2 a3 a4 a5 a6 l7 t391 t394 t396 false)) else (observatorylaw02_TreeMatchesReference.j1 kj9 l0 a1 a2 a3 a4 a5 a6 l7 t391 t394 t396 false))) = some r := H
       have A34 := Aside0.mk A340
       clear A340
       replace H := Option.bind_eq_some_iff.mp H
       obtain ⟨t415, A350, H⟩ := H
       replace H : (if t414.toList = t415.toList then (if t401 = t403 then ((observatoryref01_Same.f kj9 t398 t402).bind fun t416 => (if t416 = true then (if t409 = t411 then ((observatoryref01_Same.f kj9 t406 t410).bind fun t417 => (observatorylaw02_TreeMatchesReference.j1 kj9 l0 a1 a2 a3 a4 a5 a6 l7 t391 t394 t396 t417)) else (observatorylaw02_TreeMatchesReference.j1 kj9 l0 a1 a2 a3 a4 a5 a6 l7 t391 t394 t396 false)) else (observatorylaw02_TreeMatchesReference.j1 kj9 l0 a1 a2 a3 a4 a5 a6 l7 t391 t394 t396 false))) else (observatorylaw02_TreeMatchesReference.j1 kj9 l0 a1 a2 a3 a4 a5 a6 l7 t391 t394 t396 false)) else (observatorylaw02_TreeMatchesReference.j1 kj9 l0 a1 a2 a3 a4 a5 a6 l7 t391 t394 t396 false)) = some r := H
       have A35 := Aside0.mk A350
       clear A350
       by_cases c36 : t414.toList = t415.toList
       ·
        rw [if_pos c36] at H
        have c36b0 : (t414.toList == t415.toList) = true := beq_iff_eq.mpr c36
        have c36b1 : (t414.toList != t415.toList) = false := bne_eq_false_iff_eq.mpr c36
        clear c36
        by_cases c37 : t401 = t403
        ·
         rw [if_pos c37] at H
         have c37b0 : (t401 == t403) = true := beq_iff_eq.mpr c37
         have c37b1 : (t401 != t403) = false := bne_eq_false_iff_eq.mpr c37
         clear c37
         replace H := Option.bind_eq_some_iff.mp H
         obtain ⟨t416, A380, H⟩ := H
         replace H : (if t416 = true then (if t409 = t411 then ((observatoryref01_Same.f kj9 t406 t410).bind fun t417 => (observatorylaw02_TreeMatchesReference.j1 kj9 l0 a1 a2 a3 a4 a5 a6 l7 t391 t394 t396 t417)) else (observatorylaw02_TreeMatchesReference.j1 kj9 l0 a1 a2 a3 a4 a5 a6 l7 t391 t394 t396 false)) else (observatorylaw02_TreeMatchesReference.j1 kj9 l0 a1 a2 a3 a4 a5 a6 l7 t391 t394 t396 false)) = some r := H
         have A38 := Aside0.mk A380
         clear A380
         by_cases c39 : t416 = true
         ·
          subst c39
          have H1 : (if t409 = t411 then ((observatoryref01_Same.f kj9 t406 t410).bind fun t417 => (observatorylaw02_TreeMatchesReference.j1 kj9 l0 a1 a2 a3 a4 a5 a6 l7 t391 t394 t396 t417)) else (observatorylaw02_TreeMatchesReference.j1 kj9 l0 a1 a2 a3 a4 a5 a6 l7 t391 t394 t396 false)) = some r := by rw [if_pos rfl] at H; exact H
          clear H
          have H := H1
          clear H1
          by_cases c40 : t409 = t411
          ·
           rw [if_pos c40] at H
           have c40b0 : (t409 == t411) = true := beq_iff_eq.mpr c40
           have c40b1 : (t409 != t411) = false := bne_eq_false_iff_eq.mpr c40
           clear c40
           replace H := Option.bind_eq_some_iff.mp H
           obtain ⟨t417, A410, H⟩ := H
           replace H : (observatorylaw02_TreeMatchesReference.j1 kj9 l0 a1 a2 a3 a4 a5 a6 l7 t391 t394 t396 t417) = some r := H
           have A41 := Aside0.mk A410
           clear A410
           have H' := Aside0.mk H
           clear H
           go_wp2_with (first | (go_at_call 12; (with_reducible refine (tree_Leaf.calls a6 t414 _ ?side1 A34.out).mono ?_); (case side1 => exact HT.out.below (by repeat (first | (with_reducible first | exact HB.out | apply below_alloc | apply pw_below_drewN | apply below_drew1) | exact HB.out))); rintro e w42 ⟨rfl, hb⟩; have n0_ := Aside0.mk (Kd.R_below (by (with_reducible repeat (first | apply Kd.R_alloc | apply Kd.R_drewN | apply Kd.R_drew)); exact HO400.out) hb); have n1_ := Aside0.mk (Kd.R_below (by (with_reducible repeat (first | apply Kd.R_alloc | apply Kd.R_drewN | apply Kd.R_drew)); exact HO405.out) hb); have n2_ := Aside0.mk (Kd.R_below (by (with_reducible repeat (first | apply Kd.R_alloc | apply Kd.R_drewN | apply Kd.R_drew)); exact HO408.out) hb); have n3_ := Aside0.mk (Kd.R_below (by (with_reducible repeat (first | apply Kd.R_alloc | apply Kd.R_drewN | apply Kd.R_drew)); exact HO413.out) hb); have n4_ := Aside0.mk (below_step (by repeat (first | (with_reducible first | exact HB.out | apply below_alloc | apply pw_below_drewN | apply below_drew1) | exact HB.out)) hb); clear HO400; clear HO405; clear HO408; clear HO413; clear HB; have HO400 := n0_; have HO405 := n1_; have HO408 := n2_; have HO413 := n3_; have HB := n4_; clear n0_ n1_ n2_ n3_ n4_; (try clear hb); (try clear hb2); (try clear hk); (try clear hi); (try clear A34)) | (go_at_call 13; (with_reducible refine (observatoryref02_Leaf.calls kj9 a6 t415 _ A35.out).mono ?_); rintro e w43 ⟨rfl, hb⟩; have n0_ := Aside0.mk (Kd.R_below (by (with_reducible repeat (first | apply Kd.R_alloc | apply Kd.R_drewN | apply Kd.R_drew)); exact HO400.out) hb); have n1_ := Aside0.mk (Kd.R_below (by (with_reducible repeat (first | apply Kd.R_alloc | apply Kd.R_drewN | apply Kd.R_drew)); exact HO405.out) hb); have n2_ := Aside0.mk (Kd.R_below (by (with_reducible repeat (first | apply Kd.R_alloc | apply Kd.R_drewN | apply Kd.R_drew)); exact HO408.out) hb); have n3_ := Aside0.mk (Kd.R_below (by (with_reducible repeat (first | apply Kd.R_alloc | apply Kd.R_drewN | apply Kd.R_drew)); exact HO413.out) hb); have n4_ := Aside0.mk (below_step (by repeat (first | (with_reducible first | exact HB.out | apply below_alloc | apply pw_below_drewN | apply below_drew1) | exact HB.out)) hb); clear HO400; clear HO405; clear HO408; clear HO413; clear HB; have HO400 := n0_; have HO405 := n1_; have HO408 := n2_; have HO413 := n3_; have HB := n4_; clear n0_ n1_ n2_ n3_ n4_; (try clear hb); (try clear hb2); (try clear hk); (try clear hi); (try clear A35); obtain ⟨Ao44, co44, eo44⟩ := Kd.R_slice HO400.out; subst eo44; obtain ⟨Ao45, co45, eo45⟩ := Kd.R_slice HO405.out; subst eo45) | (go_at_call 14; (with_reducible refine (observatoryref01_Same.calls kj9 _ _ t398 _ _ t402 true _ ?side1 ?side2 ?side3 ?side4 A38.out).mono ?_); (case side1 => repeat (first | exact (Kd.R_reads' HO400.out).2.2 | (with_reducible refine Kd.C_alloc ?_ _) | (with_reducible refine Kd.C_drewN ?_ _) | (with_reducible refine Kd.C_drew ?_))); (case side2 => exact (Kd.R_reads' HO400.out).2.1); (case side3 => repeat (first | exact (Kd.R_reads' HO405.out).2.2 | (with_reducible refine Kd.C_alloc ?_ _) | (with_reducible refine Kd.C_drewN ?_ _) | (with_reducible refine Kd.C_drew ?_))); (case side4 => exact (Kd.R_reads' HO405.out).2.1); rintro e w' ⟨rfl, ⟨nd, rfl⟩⟩; (try clear A38); obtain ⟨Ao46, co46, eo46⟩ := Kd.R_slice HO408.out; subst eo46; obtain ⟨Ao47, co47, eo47⟩ := Kd.R_slice HO413.out; subst eo47) | (go_at_call 14; (with_reducible refine (observatoryref01_Same.calls kj9 _ _ t406 _ _ t410 t417 _ ?side1 ?side2 ?side3 ?side4 A41.out).mono ?_); (case side1 => repeat (first | exact (Kd.R_reads' HO408.out).2.2 | (with_reducible refine Kd.C_alloc ?_ _) | (with_reducible refine Kd.C_drewN ?_ _) | (with_reducible refine Kd.C_drew ?_))); (case side2 => exact (Kd.R_reads' HO408.out).2.1); (case side3 => repeat (first | exact (Kd.R_reads' HO413.out).2.2 | (with_reducible refine Kd.C_alloc ?_ _) | (with_reducible refine Kd.C_drewN ?_ _) | (with_reducible refine Kd.C_drew ?_))); (case side4 => exact (Kd.R_reads' HO413.out).2.1); rintro e w' ⟨rfl, ⟨nd, rfl⟩⟩; (try clear A41)))
           go_meet
           case rel => exact ⟨_, (t417), (by first | rfl | (simp; done) | (simp [*]; done)), H', ⟨by have := HJ9.out; first | omega | exact Nat.le_refl _⟩, ⟨by repeat (first | (with_reducible first | exact HB.out | apply below_alloc | apply pw_below_drewN | apply below_drew1) | exact HB.out)⟩⟩
          ·
           rw [if_neg c40] at H
           have c40b0 : (t409 == t411) = false := beq_eq_false_iff_ne.mpr c40
           have c40b1 : (t409 != t411) = true := bne_iff_ne.mpr c40
           have H' := Aside0.mk H
           clear H
           go_wp2_with (first | (go_at_call 12; (with_reducible refine (tree_Leaf.calls a6 t414 _ ?side1 A34.out).mono ?_); (case side1 => exact HT.out.below (by repeat (first | (with_reducible first | exact HB.out | apply below_alloc | apply pw_below_drewN | apply below_drew1) | exact HB.out))); rintro e w48 ⟨rfl, hb⟩; have n0_ := Aside0.mk (Kd.R_below (by (with_reducible repeat (first | apply Kd.R_alloc | apply Kd.R_drewN | apply Kd.R_drew)); exact HO400.out) hb); have n1_ := Aside0.mk (Kd.R_below (by (with_reducible repeat (first | apply Kd.R_alloc | apply Kd.R_drewN | apply Kd.R_drew)); exact HO405.out) hb); have n2_ := Aside0.mk (Kd.R_below (by (with_reducible repeat (first | apply Kd.R_alloc | apply Kd.R_drewN | apply Kd.R_drew)); exact HO408.out) hb); have n3_ := Aside0.mk (Kd.R_below (by (with_reducible repeat (first | apply Kd.R_alloc | apply Kd.R_drewN | apply Kd.R_drew)); exact HO413.out) hb); have n4_ := Aside0.mk (below_step (by repeat (first | (with_reducible first | exact HB.out | apply below_alloc | apply pw_below_drewN | apply below_drew1) | exact HB.out)) hb); clear HO400; clear HO405; clear HO408; clear HO413; clear HB; have HO400 := n0_; have HO405 := n1_; have HO408 := n2_; have HO413 := n3_; have HB := n4_; clear n0_ n1_ n2_ n3_ n4_; (try clear hb); (try clear hb2); (try clear hk); (try clear hi); (try clear A34)) | (go_at_call 13; (with_reducible refine (observatoryref02_Leaf.calls kj9 a6 t415 _ A35.out).mono ?_); rintro e w49 ⟨rfl, hb⟩; have n0_ := Aside0.mk (Kd.R_below (by (with_reducible repeat (first | apply Kd.R_alloc | apply Kd.R_drewN | apply Kd.R_drew)); exact HO400.out) hb); have n1_ := Aside0.mk (Kd.R_below (by (with_reducible repeat (first | apply Kd.R_alloc | apply Kd.R_drewN | apply Kd.R_drew)); exact HO405.out) hb); have n2_ := Aside0.mk (Kd.R_below (by (with_reducible repeat (first | apply Kd.R_alloc | apply Kd.R_drewN | apply Kd.R_drew)); exact HO408.out) hb); have n3_ := Aside0.mk (Kd.R_below (by (with_reducible repeat (first | apply Kd.R_alloc | apply Kd.R_drewN | apply Kd.R_drew)); exact HO413.out) hb); have n4_ := Aside0.mk (below_step (by repeat (first | (with_reducible first | exact HB.out | apply below_alloc | apply pw_below_drewN | apply below_drew1) | exact HB.out)) hb); clear HO400; clear HO405; clear HO408; clear HO413; clear HB; have HO400 := n0_; have HO405 := n1_; have HO408 := n2_; have HO413 := n3_; have HB := n4_; clear n0_ n1_ n2_ n3_ n4_; (try clear hb); (try clear hb2); (try clear hk); (try clear hi); (try clear A35); obtain ⟨Ao50, co50, eo50⟩ := Kd.R_slice HO400.out; subst eo50; obtain ⟨Ao51, co51, eo51⟩ := Kd.R_slice HO405.out; subst eo51) | (go_at_call 14; (with_reducible refine (observatoryref01_Same.calls kj9 _ _ t398 _ _ t402 true _ ?side1 ?side2 ?side3 ?side4 A38.out).mono ?_); (case side1 => repeat (first | exact (Kd.R_reads' HO400.out).2.2 | (with_reducible refine Kd.C_alloc ?_ _) | (with_reducible refine Kd.C_drewN ?_ _) | (with_reducible refine Kd.C_drew ?_))); (case side2 => exact (Kd.R_reads' HO400.out).2.1); (case side3 => repeat (first | exact (Kd.R_reads' HO405.out).2.2 | (with_reducible refine Kd.C_alloc ?_ _) | (with_reducible refine Kd.C_drewN ?_ _) | (with_reducible refine Kd.C_drew ?_))); (case side4 => exact (Kd.R_reads' HO405.out).2.1); rintro e w' ⟨rfl, ⟨nd, rfl⟩⟩; (try clear A38)))
           go_meet
           case rel => exact ⟨_, (false), (by first | rfl | (simp; done) | (simp [*]; done)), H', ⟨by have := HJ9.out; first | omega | exact Nat.le_refl _⟩, ⟨by repeat (first | (with_reducible first | exact HB.out | apply below_alloc | apply pw_below_drewN | apply below_drew1) | exact HB.out)⟩⟩
         ·
          replace c39 := Bool.eq_false_iff.mpr c39
          subst c39
          have H1 : (observatorylaw02_TreeMatchesReference.j1 kj9 l0 a1 a2 a3 a4 a5 a6 l7 t391 t394 t396 false) = some r := by rw [if_neg (show ¬ (false = true) by decide)] at H; exact H
          clear H
          have H := H1
          clear H1
          have H' := Aside0.mk H
          clear H
          go_wp2_with (first | (go_at_call 12; (with_reducible refine (tree_Leaf.calls a6 t414 _ ?side1 A34.out).mono ?_); (case side1 => exact HT.out.below (by repeat (first | (with_reducible first | exact HB.out | apply below_alloc | apply pw_below_drewN | apply below_drew1) | exact HB.out))); rintro e w52 ⟨rfl, hb⟩; have n0_ := Aside0.mk (Kd.R_below (by (with_reducible repeat (first | apply Kd.R_alloc | apply Kd.R_drewN | apply Kd.R_drew)); exact HO400.out) hb); have n1_ := Aside0.mk (Kd.R_below (by (with_reducible repeat (first | apply Kd.R_alloc | apply Kd.R_drewN | apply Kd.R_drew)); exact HO405.out) hb); have n2_ := Aside0.mk (Kd.R_below (by (with_reducible repeat (first | apply Kd.R_alloc | apply Kd.R_drewN | apply Kd.R_drew)); exact HO408.out) hb); have n3_ := Aside0.mk (Kd.R_below (by (with_reducible repeat (first | apply Kd.R_alloc | apply Kd.R_drewN | apply Kd.R_drew)); exact HO413.out) hb); have n4_ := Aside0.mk (below_step (by repeat (first | (with_reducible first | exact HB.out | apply below_alloc | apply pw_below_drewN | apply below_drew1) | exact HB.out)) hb); clear HO400; clear HO405; clear HO408; clear HO413; clear HB; have HO400 := n0_; have HO405 := n1_; have HO408 := n2_; have HO413 := n3_; have HB := n4_; clear n0_ n1_ n2_ n3_ n4_; (try clear hb); (try clear hb2); (try clear hk); (try clear hi); (try clear A34)) | (go_at_call 13; (with_reducible refine (observatoryref02_Leaf.calls kj9 a6 t415 _ A35.out).mono ?_); rintro e w53 ⟨rfl, hb⟩; have n0_ := Aside0.mk (Kd.R_below (by (with_reducible repeat (first | apply Kd.R_alloc | apply Kd.R_drewN | apply Kd.R_drew)); exact HO400.out) hb); have n1_ := Aside0.mk (Kd.R_below (by (with_reducible repeat (first | apply Kd.R_alloc | apply Kd.R_drewN | apply Kd.R_drew)); exact HO405.out) hb); have n2_ := Aside0.mk (Kd.R_below (by (with_reducible repeat (first | apply Kd.R_alloc | apply Kd.R_drewN | apply Kd.R_drew)); exact HO408.out) hb); have n3_ := Aside0.mk (Kd.R_below (by (with_reducible repeat (first | apply Kd.R_alloc | apply Kd.R_drewN | apply Kd.R_drew)); exact HO413.out) hb); have n4_ := Aside0.mk (below_step (by repeat (first | (with_reducible first | exact HB.out | apply below_alloc | apply pw_below_drewN | apply below_drew1) | exact HB.out)) hb); clear HO400; clear HO405; clear HO408; clear HO413; clear HB; have HO400 := n0_; have HO405 := n1_; have HO408 := n2_; have HO413 := n3_; have HB := n4_; clear n0_ n1_ n2_ n3_ n4_; (try clear hb); (try clear hb2); (try clear hk); (try clear hi); (try clear A35); obtain ⟨Ao54, co54, eo54⟩ := Kd.R_slice HO400.out; subst eo54; obtain ⟨Ao55, co55, eo55⟩ := Kd.R_slice HO405.out; subst eo55) | (go_at_call 14; (with_reducible refine (observatoryref01_Same.calls kj9 _ _ t398 _ _ t402 false _ ?side1 ?side2 ?side3 ?side4 A38.out).mono ?_); (case side1 => repeat (first | exact (Kd.R_reads' HO400.out).2.2 | (with_reducible refine Kd.C_alloc ?_ _) | (with_reducible refine Kd.C_drewN ?_ _) | (with_reducible refine Kd.C_drew ?_))); (case side2 => exact (Kd.R_reads' HO400.out).2.1); (case side3 => repeat (first | exact (Kd.R_reads' HO405.out).2.2 | (with_reducible refine Kd.C_alloc ?_ _) | (with_reducible refine Kd.C_drewN ?_ _) | (with_reducible refine Kd.C_drew ?_))); (case side4 => exact (Kd.R_reads' HO405.out).2.1); rintro e w' ⟨rfl, ⟨nd, rfl⟩⟩; (try clear A38)))
          go_meet
          case rel => exact ⟨_, (false), (by first | rfl | (simp; done) | (simp [*]; done)), H', ⟨by have := HJ9.out; first | omega | exact Nat.le_refl _⟩, ⟨by repeat (first | (with_reducible first | exact HB.out | apply below_alloc | apply pw_below_drewN | apply below_drew1) | exact HB.out)⟩⟩
        ·
         rw [if_neg c37] at H
         have c37b0 : (t401 == t403) = false := beq_eq_false_iff_ne.mpr c37
         have c37b1 : (t401 != t403) = true := bne_iff_ne.mpr c37
         have H' := Aside0.mk H
         clear H
         go_wp2_with (first | (go_at_call 12; (with_reducible refine (tree_Leaf.calls a6 t414 _ ?side1 A34.out).mono ?_); (case side1 => exact HT.out.below (by repeat (first | (with_reducible first | exact HB.out | apply below_alloc | apply pw_below_drewN | apply below_drew1) | exact HB.out))); rintro e w56 ⟨rfl, hb⟩; have n0_ := Aside0.mk (Kd.R_below (by (with_reducible repeat (first | apply Kd.R_alloc | apply Kd.R_drewN | apply Kd.R_drew)); exact HO400.out) hb); have n1_ := Aside0.mk (Kd.R_below (by (with_reducible repeat (first | apply Kd.R_alloc | apply Kd.R_drewN | apply Kd.R_drew)); exact HO405.out) hb); have n2_ := Aside0.mk (Kd.R_below (by (with_reducible repeat (first | apply Kd.R_alloc | apply Kd.R_drewN | apply Kd.R_drew)); exact HO408.out) hb); have n3_ := Aside0.mk (Kd.R_below (by (with_reducible repeat (first | apply Kd.R_alloc | apply Kd.R_drewN | apply Kd.R_drew)); exact HO413.out) hb); have n4_ := Aside0.mk (below_step (by repeat (first | (with_reducible first | exact HB.out | apply below_alloc | apply pw_below_drewN | apply below_drew1) | exact HB.out)) hb); clear HO400; clear HO405; clear HO408; clear HO413; clear HB; have HO400 := n0_; have HO405 := n1_; have HO408 := n2_; have HO413 := n3_; have HB := n4_; clear n0_ n1_ n2_ n3_ n4_; (try clear hb); (try clear hb2); (try clear hk); (try clear hi); (try clear A34)) | (go_at_call 13; (with_reducible refine (observatoryref02_Leaf.calls kj9 a6 t415 _ A35.out).mono ?_); rintro e w57 ⟨rfl, hb⟩; have n0_ := Aside0.mk (Kd.R_below (by (with_reducible repeat (first | apply Kd.R_alloc | apply Kd.R_drewN | apply Kd.R_drew)); exact HO400.out) hb); have n1_ := Aside0.mk (Kd.R_below (by (with_reducible repeat (first | apply Kd.R_alloc | apply Kd.R_drewN | apply Kd.R_drew)); exact HO405.out) hb); have n2_ := Aside0.mk (Kd.R_below (by (with_reducible repeat (first | apply Kd.R_alloc | apply Kd.R_drewN | apply Kd.R_drew)); exact HO408.out) hb); have n3_ := Aside0.mk (Kd.R_below (by (with_reducible repeat (first | apply Kd.R_alloc | apply Kd.R_drewN | apply Kd.R_drew)); exact HO413.out) hb); have n4_ := Aside0.mk (below_step (by repeat (first | (with_reducible first | exact HB.out | apply below_alloc | apply pw_below_drewN | apply below_drew1) | exact HB.out)) hb); clear HO400; clear HO405; clear HO408; clear HO413; clear HB; have HO400 := n0_; have HO405 := n1_; have HO408 := n2_; have HO413 := n3_; have HB := n4_; clear n0_ n1_ n2_ n3_ n4_; (try clear hb); (try clear hb2); (try clear hk); (try clear hi); (try clear A35)))
         go_meet
         case rel => exact ⟨_, (false), (by first | rfl | (simp; done) | (simp [*]; done)), H', ⟨by have := HJ9.out; first | omega | exact Nat.le_refl _⟩, ⟨by repeat (first | (with_reducible first | exact HB.out | apply below_alloc | apply pw_below_drewN | apply below_drew1) | exact HB.out)⟩⟩
       ·
        rw [if_neg c36] at H
        have c36b0 : (t414.toList == t415.toList) = false := beq_eq_false_iff_ne.mpr c36
        have c36b1 : (t414.toList != t415.toList) = true := bne_iff_ne.mpr c36
        have H' := Aside0.mk H
        clear H
        go_wp2_with (first | (go_at_call 12; (with_reducible refine (tree_Leaf.calls a6 t414 _ ?side1 A34.out).mono ?_); (case side1 => exact HT.out.below (by repeat (first | (with_reducible first | exact HB.out | apply below_alloc | apply pw_below_drewN | apply below_drew1) | exact HB.out))); rintro e w58 ⟨rfl, hb⟩; have n0_ := Aside0.mk (Kd.R_below (by (with_reducible repeat (first | apply Kd.R_alloc | apply Kd.R_drewN | apply Kd.R_drew)); exact HO400.out) hb); have n1_ := Aside0.mk (Kd.R_below (by (with_reducible repeat (first | apply Kd.R_alloc | apply Kd.R_drewN | apply Kd.R_drew)); exact HO405.out) hb); have n2_ := Aside0.mk (Kd.R_below (by (with_reducible repeat (first | apply Kd.R_alloc | apply Kd.R_drewN | apply Kd.R_drew)); exact HO408.out) hb); have n3_ := Aside0.mk (Kd.R_below (by (with_reducible repeat (first | apply Kd.R_alloc | apply Kd.R_drewN | apply Kd.R_drew)); exact HO413.out) hb); have n4_ := Aside0.mk (below_step (by repeat (first | (with_reducible first | exact HB.out | apply below_alloc | apply pw_below_drewN | apply below_drew1) | exact HB.out)) hb); clear HO400; clear HO405; clear HO408; clear HO413; clear HB; have HO400 := n0_; have HO405 := n1_; have HO408 := n2_; have HO413 := n3_; have HB := n4_; clear n0_ n1_ n2_ n3_ n4_; (try clear hb); (try clear hb2); (try clear hk); (try clear hi); (try clear A34)) | (go_at_call 13; (with_reducible refine (observatoryref02_Leaf.calls kj9 a6 t415 _ A35.out).mono ?_); rintro e w59 ⟨rfl, hb⟩; have n0_ := Aside0.mk (Kd.R_below (by (with_reducible repeat (first | apply Kd.R_alloc | apply Kd.R_drewN | apply Kd.R_drew)); exact HO400.out) hb); have n1_ := Aside0.mk (Kd.R_below (by (with_reducible repeat (first | apply Kd.R_alloc | apply Kd.R_drewN | apply Kd.R_drew)); exact HO405.out) hb); have n2_ := Aside0.mk (Kd.R_below (by (with_reducible repeat (first | apply Kd.R_alloc | apply Kd.R_drewN | apply Kd.R_drew)); exact HO408.out) hb); have n3_ := Aside0.mk (Kd.R_below (by (with_reducible repeat (first | apply Kd.R_alloc | apply Kd.R_drewN | apply Kd.R_drew)); exact HO413.out) hb); have n4_ := Aside0.mk (below_step (by repeat (first | (with_reducible first | exact HB.out | apply below_alloc | apply pw_below_drewN | apply below_drew1) | exact HB.out)) hb); clear HO400; clear HO405; clear HO408; clear HO413; clear HB; have HO400 := n0_; have HO405 := n1_; have HO408 := n2_; have HO413 := n3_; have HB := n4_; clear n0_ n1_ n2_ n3_ n4_; (try clear hb); (try clear hb2); (try clear hk); (try clear hi); (try clear A35)))
        go_meet
        case rel => exact ⟨_, (false), (by first | rfl | (simp; done) | (simp [*]; done)), H', ⟨by have := HJ9.out; first | omega | exact Nat.le_refl _⟩, ⟨by repeat (first | (with_reducible first | exact HB.out | apply below_alloc | apply pw_below_drewN | apply below_drew1) | exact HB.out)⟩⟩
      ·
       rw [if_neg c33] at H
       have c33b0 : (t395 == t397) = false := beq_eq_false_iff_ne.mpr c33
       have c33b1 : (t395 != t397) = true := bne_iff_ne.mpr c33
       have H' := Aside0.mk H
       clear H
       go_wp2
       go_meet
       case rel => exact ⟨_, (false), (by first | rfl | (simp; done) | (simp [*]; done)), H', ⟨by have := HJ9.out; first | omega | exact Nat.le_refl _⟩, ⟨by repeat (first | (with_reducible first | exact HB.out | apply below_alloc | apply pw_below_drewN | apply below_drew1) | exact HB.out)⟩⟩
     ·
      rw [if_neg c32] at H
      have c32b0 : (t394.toList == t396.toList) = false := beq_eq_false_iff_ne.mpr c32
      have c32b1 : (t394.toList != t396.toList) = true := bne_iff_ne.mpr c32
      (first | rw [c32b0] | (simp only [i64_w, i32_w]; rw [c32b0]) | skip)
      have H' := Aside0.mk H
      clear H
      go_wp2
      go_meet
      case rel => exact ⟨_, (false), (by first | rfl | (simp; done) | (simp [*]; done)), H', ⟨by have := HJ9.out; first | omega | exact Nat.le_refl _⟩, ⟨by repeat (first | (with_reducible first | exact HB.out | apply below_alloc | apply pw_below_drewN | apply below_drew1) | exact HB.out)⟩⟩
    case rest =>
     clear HC25
     try clear c1
     try clear p2
     try clear c3
     try clear c4
     try clear c5
     try clear c6
     try clear c7
     try clear c8
     try clear c9
     try clear c10
     try clear c11
     try clear c13
     try clear c15
     try clear c16
     try clear c16b0
     try clear c16b1
     try clear c17
     try clear c17b0
     try clear c17b1
     try clear c18
     try clear c32
     try clear c32b0
     try clear c32b1
     try clear c33
     try clear c33b0
     try clear c33b1
     try clear c36
     try clear c36b0
     try clear c36b1
     try clear c37
     try clear c37b0
     try clear c37b1
     try clear c39
     try clear c40
     try clear c40b0
     try clear c40b1
     try clear p2
     obtain ⟨kq, x30_24, rfl, HA, HJ24, HB⟩ := hcut
     cases kq with
     | zero => exact absurd HA.out (by simp [observatorylaw02_TreeMatchesReference.j1])
     | succ kj24 =>
      have H := HA.out
      clear HA
      simp only [observatorylaw02_TreeMatchesReference.j1] at H
      have HC60 := Aside0.mk H
      clear H
      go_upto_region 11 with (fail)
      go_cut [31] (fun v31 wc => ∃ (kq : Nat) (x31_59 : Bool), v31 = .bool x31_59 ∧ Aside0 (observatorylaw02_TreeMatchesReference.j2 kq l0 a2 a3 a4 a5 l7 t391 t394 t396 x30_24 x31_59 = some r) ∧ Aside0 (kq ≤ kj24) ∧ Aside0 (Below w.heap.size w wc))
      case first =>
       have H := HC60.out
       clear HC60
       replace H := Option.bind_eq_some_iff.mp H
       obtain ⟨t418, A610, H⟩ := H
       replace H : ((observatoryref02_Check.f kj24 a4 a3 a1 a6 l7).bind fun t419 => (if (t418 == t419) = true then ((tree_Check.f t394 (l0.length : Int) a1 a6 l7).bind fun t420 => ((observatoryref02_Check.f kj24 t396 (l0.length : Int) a1 a6 l7).bind fun t421 => (observatorylaw02_TreeMatchesReference.j2 kj24 l0 a2 a3 a4 a5 l7 t391 t394 t396 x30_24 (t420 == t421)))) else (observatorylaw02_TreeMatchesReference.j2 kj24 l0 a2 a3 a4 a5 l7 t391 t394 t396 x30_24 false))) = some r := H
       have A61 := Aside0.mk A610
       clear A610
       replace H := Option.bind_eq_some_iff.mp H
       obtain ⟨t419, A620, H⟩ := H
       replace H : (if (t418 == t419) = true then ((tree_Check.f t394 (l0.length : Int) a1 a6 l7).bind fun t420 => ((observatoryref02_Check.f kj24 t396 (l0.length : Int) a1 a6 l7).bind fun t421 => (observatorylaw02_TreeMatchesReference.j2 kj24 l0 a2 a3 a4 a5 l7 t391 t394 t396 x30_24 (t420 == t421)))) else (observatorylaw02_TreeMatchesReference.j2 kj24 l0 a2 a3 a4 a5 l7 t391 t394 t396 x30_24 false)) = some r := H
       have A62 := Aside0.mk A620
       clear A620
       by_cases c63 : (t418 == t419) = true
       ·
        rw [if_pos c63] at H
        have c63b0 : (t418 == t419) = true := c63
        (try (have c63b1 : decide (t418 = t419) = true := by simpa using c63))
        (try (have c63b2 : (t418 == t419) = true := by simpa using c63))
        clear c63
        (first | rw [c63b0] | (simp only [i64_w, i32_w]; rw [c63b0]) | skip)
        replace H := Option.bind_eq_some_iff.mp H
        obtain ⟨t420, A640, H⟩ := H
        replace H : ((observatoryref02_Check.f kj24 t396 (l0.length : Int) a1 a6 l7).bind fun t421 => (observatorylaw02_TreeMatchesReference.j2 kj24 l0 a2 a3 a4 a5 l7 t391 t394 t396 x30_24 (t420 == t421))) = some r := H
        have A64 := Aside0.mk A640
        clear A640
        replace H := Option.bind_eq_some_iff.mp H
        obtain ⟨t421, A650, H⟩ := H
        replace H : (observatorylaw02_TreeMatchesReference.j2 kj24 l0 a2 a3 a4 a5 l7 t391 t394 t396 x30_24 (t420 == t421)) = some r := H
        have A65 := Aside0.mk A650
        clear A650
        have H' := Aside0.mk H
        clear H
        go_wp2_with (first | ((with_reducible refine gate_callee (f := 15) rfl ?_); refine goesL_ (some 131) rfl rfl Tryz.func15 (by kernel_rfl) rfl #[.string a4, .int .i64 a3, .int .i64 a1, .string a6, .slice A7 l7.length c7] rfl (by (try simp only [List.map_toArray, List.map_cons, List.map_nil]); first | done | rfl | (simp only [List.length_drop, List.length_take]; rfl)) ?_; (with_reducible refine (tree_Check.calls a4 a3 a1 a6 _ _ l7 t418 _ ?side1 ?side2 ?side3 A61.out).mono ?_); (case side1 => repeat (first | exact (Kd.C_below HR7.out HB.out) | (with_reducible refine Kd.C_alloc ?_ _) | (with_reducible refine Kd.C_drewN ?_ _) | (with_reducible refine Kd.C_drew ?_))); (case side2 => exact HC7.out); (case side3 => exact HT.out.below (by repeat (first | (with_reducible first | exact HB.out | apply below_alloc | apply pw_below_drewN | apply below_drew1) | exact HB.out))); rintro e w66 ⟨rfl, hb⟩; refine ⟨_, rfl, ?_⟩; have n0_ := Aside0.mk (below_step (by repeat (first | (with_reducible first | exact HB.out | apply below_alloc | apply pw_below_drewN | apply below_drew1) | exact HB.out)) hb); clear HB; have HB := n0_; clear n0_; (try clear hb); (try clear hb2); (try clear hk); (try clear hi); (try clear A61)) | ((with_reducible refine gate_callee (f := 16) rfl ?_); refine goesL_ (some 137) rfl rfl Tryz.func16 (by kernel_rfl) rfl #[.string a4, .int .i64 a3, .int .i64 a1, .string a6, .slice A7 l7.length c7] rfl (by (try simp only [List.map_toArray, List.map_cons, List.map_nil]); first | done | rfl | (simp only [List.length_drop, List.length_take]; rfl)) ?_; (with_reducible refine (observatoryref02_Check.calls kj24 a4 a3 a1 a6 _ _ l7 t419 _ ?side1 ?side2 A62.out).mono ?_); (case side1 => repeat (first | exact (Kd.C_below HR7.out HB.out) | (with_reducible refine Kd.C_alloc ?_ _) | (with_reducible refine Kd.C_drewN ?_ _) | (with_reducible refine Kd.C_drew ?_))); (case side2 => exact HC7.out); rintro e w67 ⟨rfl, hb⟩; refine ⟨_, rfl, ?_⟩; have n0_ := Aside0.mk (below_step (by repeat (first | (with_reducible first | exact HB.out | apply below_alloc | apply pw_below_drewN | apply below_drew1) | exact HB.out)) hb); clear HB; have HB := n0_; clear n0_; (try clear hb); (try clear hb2); (try clear hk); (try clear hi); (try clear A62)) | (go_at_call 15; (with_reducible refine (tree_Check.calls t394 (l0.length : Int) a1 a6 _ _ l7 t420 _ ?side1 ?side2 ?side3 A64.out).mono ?_); (case side1 => repeat (first | exact (Kd.C_below HR7.out HB.out) | (with_reducible refine Kd.C_alloc ?_ _) | (with_reducible refine Kd.C_drewN ?_ _) | (with_reducible refine Kd.C_drew ?_))); (case side2 => exact HC7.out); (case side3 => exact HT.out.below (by repeat (first | (with_reducible first | exact HB.out | apply below_alloc | apply pw_below_drewN | apply below_drew1) | exact HB.out))); rintro e w68 ⟨rfl, hb⟩; have n0_ := Aside0.mk (below_step (by repeat (first | (with_reducible first | exact HB.out | apply below_alloc | apply pw_below_drewN | apply below_drew1) | exact HB.out)) hb); clear HB; have HB := n0_; clear n0_; (try clear hb); (try clear hb2); (try clear hk); (try clear hi); (try clear A64)) | (go_at_call 16; (with_reducible refine (observatoryref02_Check.calls kj24 t396 (l0.length : Int) a1 a6 _ _ l7 t421 _ ?side1 ?side2 A65.out).mono ?_); (case side1 => repeat (first | exact (Kd.C_below HR7.out HB.out) | (with_reducible refine Kd.C_alloc ?_ _) | (with_reducible refine Kd.C_drewN ?_ _) | (with_reducible refine Kd.C_drew ?_))); (case side2 => exact HC7.out); rintro e w69 ⟨rfl, hb⟩; have n0_ := Aside0.mk (below_step (by repeat (first | (with_reducible first | exact HB.out | apply below_alloc | apply pw_below_drewN | apply below_drew1) | exact HB.out)) hb); clear HB; have HB := n0_; clear n0_; (try clear hb); (try clear hb2); (try clear hk); (try clear hi); (try clear A65)))
        go_meet
        case rel => exact ⟨_, ((t420 == t421)), (by first | rfl | (simp; done) | (simp [*]; done)), H', ⟨by have := HJ9.out; have := HJ24.out; first | omega | exact Nat.le_refl _⟩, ⟨by repeat (first | (with_reducible first | exact HB.out | apply below_alloc | apply pw_below_drewN | apply below_drew1) | exact HB.out)⟩⟩
       ·
        rw [if_neg c63] at H
        have c63b0 : (t418 == t419) = false := by simpa using c63
        (try (have c63b1 : decide (t418 = t419) = false := by simpa using c63))
        (try (have c63b2 : (t418 == t419) = false := by simpa using c63))
        (try (have c63b3 : ¬ (t418 = t419) := by simpa using c63))
        clear c63
        (first | rw [c63b0] | (simp only [i64_w, i32_w]; rw [c63b0]) | skip)
        have H' := Aside0.mk H
        clear H
        go_wp2_with (first | ((with_reducible refine gate_callee (f := 15) rfl ?_); refine goesL_ (some 131) rfl rfl Tryz.func15 (by kernel_rfl) rfl #[.string a4, .int .i64 a3, .int .i64 a1, .string a6, .slice A7 l7.length c7] rfl (by (try simp only [List.map_toArray, List.map_cons, List.map_nil]); first | done | rfl | (simp only [List.length_drop, List.length_take]; rfl)) ?_; (with_reducible refine (tree_Check.calls a4 a3 a1 a6 _ _ l7 t418 _ ?side1 ?side2 ?side3 A61.out).mono ?_); (case side1 => repeat (first | exact (Kd.C_below HR7.out HB.out) | (with_reducible refine Kd.C_alloc ?_ _) | (with_reducible refine Kd.C_drewN ?_ _) | (with_reducible refine Kd.C_drew ?_))); (case side2 => exact HC7.out); (case side3 => exact HT.out.below (by repeat (first | (with_reducible first | exact HB.out | apply below_alloc | apply pw_below_drewN | apply below_drew1) | exact HB.out))); rintro e w70 ⟨rfl, hb⟩; refine ⟨_, rfl, ?_⟩; have n0_ := Aside0.mk (below_step (by repeat (first | (with_reducible first | exact HB.out | apply below_alloc | apply pw_below_drewN | apply below_drew1) | exact HB.out)) hb); clear HB; have HB := n0_; clear n0_; (try clear hb); (try clear hb2); (try clear hk); (try clear hi); (try clear A61)) | ((with_reducible refine gate_callee (f := 16) rfl ?_); refine goesL_ (some 137) rfl rfl Tryz.func16 (by kernel_rfl) rfl #[.string a4, .int .i64 a3, .int .i64 a1, .string a6, .slice A7 l7.length c7] rfl (by (try simp only [List.map_toArray, List.map_cons, List.map_nil]); first | done | rfl | (simp only [List.length_drop, List.length_take]; rfl)) ?_; (with_reducible refine (observatoryref02_Check.calls kj24 a4 a3 a1 a6 _ _ l7 t419 _ ?side1 ?side2 A62.out).mono ?_); (case side1 => repeat (first | exact (Kd.C_below HR7.out HB.out) | (with_reducible refine Kd.C_alloc ?_ _) | (with_reducible refine Kd.C_drewN ?_ _) | (with_reducible refine Kd.C_drew ?_))); (case side2 => exact HC7.out); rintro e w71 ⟨rfl, hb⟩; refine ⟨_, rfl, ?_⟩; have n0_ := Aside0.mk (below_step (by repeat (first | (with_reducible first | exact HB.out | apply below_alloc | apply pw_below_drewN | apply below_drew1) | exact HB.out)) hb); clear HB; have HB := n0_; clear n0_; (try clear hb); (try clear hb2); (try clear hk); (try clear hi); (try clear A62)))
        go_meet
        case rel => exact ⟨_, (false), (by first | rfl | (simp; done) | (simp [*]; done)), H', ⟨by have := HJ9.out; have := HJ24.out; first | omega | exact Nat.le_refl _⟩, ⟨by repeat (first | (with_reducible first | exact HB.out | apply below_alloc | apply pw_below_drewN | apply below_drew1) | exact HB.out)⟩⟩
      case rest =>
       clear HC60
       try clear c1
       try clear p2
       try clear c3
       try clear c4
       try clear c5
       try clear c6
       try clear c7
       try clear c8
       try clear c9
       try clear c10
       try clear c11
       try clear c13
       try clear c15
       try clear c16
       try clear c16b0
       try clear c16b1
       try clear c17
       try clear c17b0
       try clear c17b1
       try clear c18
       try clear c32
       try clear c32b0
       try clear c32b1
       try clear c33
       try clear c33b0
       try clear c33b1
       try clear c36
       try clear c36b0
       try clear c36b1
       try clear c37
       try clear c37b0
       try clear c37b1
       try clear c39
       try clear c40
       try clear c40b0
       try clear c40b1
       try clear c63
       try clear c63b0
       try clear c63b1
       try clear c63b2
       try clear p2
       obtain ⟨kq, x31_59, rfl, HA, HJ59, HB⟩ := hcut
       cases kq with
       | zero => exact absurd HA.out (by simp [observatorylaw02_TreeMatchesReference.j2])
       | succ kj59 =>
        have H := HA.out
        clear HA
        simp only [observatorylaw02_TreeMatchesReference.j2] at H
        by_cases c72 : t391 = true
        ·
         subst c72
         have H1 : (if x30_24 = true then (if x31_59 = true then ((tree_Extends.f a5 a2 a4 a3 l7).bind fun t422 => ((observatoryref02_Extends.f kj59 a5 a2 a4 a3 l7).bind fun t423 => (if (t422 == t423) = true then ((tree_Extends.f a5 a2 t394 (l0.length : Int) l7).bind fun t424 => ((observatoryref02_Extends.f kj59 a5 a2 t396 (l0.length : Int) l7).bind fun t425 => (some (t424 == t425)))) else (some false)))) else (some false)) else (some false)) = some r := by rw [if_pos rfl] at H; exact H
         clear H
         have H := H1
         clear H1
         by_cases c73 : x30_24 = true
         ·
          subst c73
          have H1 : (if x31_59 = true then ((tree_Extends.f a5 a2 a4 a3 l7).bind fun t422 => ((observatoryref02_Extends.f kj59 a5 a2 a4 a3 l7).bind fun t423 => (if (t422 == t423) = true then ((tree_Extends.f a5 a2 t394 (l0.length : Int) l7).bind fun t424 => ((observatoryref02_Extends.f kj59 a5 a2 t396 (l0.length : Int) l7).bind fun t425 => (some (t424 == t425)))) else (some false)))) else (some false)) = some r := by rw [if_pos rfl] at H; exact H
          clear H
          have H := H1
          clear H1
          by_cases c74 : x31_59 = true
          ·
           subst c74
           have H1 : ((tree_Extends.f a5 a2 a4 a3 l7).bind fun t422 => ((observatoryref02_Extends.f kj59 a5 a2 a4 a3 l7).bind fun t423 => (if (t422 == t423) = true then ((tree_Extends.f a5 a2 t394 (l0.length : Int) l7).bind fun t424 => ((observatoryref02_Extends.f kj59 a5 a2 t396 (l0.length : Int) l7).bind fun t425 => (some (t424 == t425)))) else (some false)))) = some r := by rw [if_pos rfl] at H; exact H
           clear H
           have H := H1
           clear H1
           replace H := Option.bind_eq_some_iff.mp H
           obtain ⟨t422, A750, H⟩ := H
           replace H : ((observatoryref02_Extends.f kj59 a5 a2 a4 a3 l7).bind fun t423 => (if (t422 == t423) = true then ((tree_Extends.f a5 a2 t394 (l0.length : Int) l7).bind fun t424 => ((observatoryref02_Extends.f kj59 a5 a2 t396 (l0.length : Int) l7).bind fun t425 => (some (t424 == t425)))) else (some false))) = some r := H
           have A75 := Aside0.mk A750
           clear A750
           replace H := Option.bind_eq_some_iff.mp H
           obtain ⟨t423, A760, H⟩ := H
           replace H : (if (t422 == t423) = true then ((tree_Extends.f a5 a2 t394 (l0.length : Int) l7).bind fun t424 => ((observatoryref02_Extends.f kj59 a5 a2 t396 (l0.length : Int) l7).bind fun t425 => (some (t424 == t425)))) else (some false)) = some r := H
           have A76 := Aside0.mk A760
           clear A760
           by_cases c77 : (t422 == t423) = true
           ·
            rw [if_pos c77] at H
            have c77b0 : (t422 == t423) = true := c77
            (try (have c77b1 : decide (t422 = t423) = true := by simpa using c77))
            (try (have c77b2 : (t422 == t423) = true := by simpa using c77))
            clear c77
            replace H := Option.bind_eq_some_iff.mp H
            obtain ⟨t424, A780, H⟩ := H
            replace H : ((observatoryref02_Extends.f kj59 a5 a2 t396 (l0.length : Int) l7).bind fun t425 => (some (t424 == t425))) = some r := H
            have A78 := Aside0.mk A780
            clear A780
            replace H := Option.bind_eq_some_iff.mp H
            obtain ⟨t425, A790, H⟩ := H
            replace H : (some (t424 == t425)) = some r := H
            have A79 := Aside0.mk A790
            clear A790
            obtain rfl := Option.some.inj H
            go_wp2_with (first | (go_at_call 17; (with_reducible refine (tree_Extends.calls a5 a2 a4 a3 _ _ l7 t422 _ ?side1 ?side2 ?side3 A75.out).mono ?_); (case side1 => repeat (first | exact (Kd.C_below HR7.out HB.out) | (with_reducible refine Kd.C_alloc ?_ _) | (with_reducible refine Kd.C_drewN ?_ _) | (with_reducible refine Kd.C_drew ?_))); (case side2 => exact HC7.out); (case side3 => exact HT.out.below (by repeat (first | (with_reducible first | exact HB.out | apply below_alloc | apply pw_below_drewN | apply below_drew1) | exact HB.out))); rintro e w80 ⟨rfl, hb⟩; have n0_ := Aside0.mk (below_step (by repeat (first | (with_reducible first | exact HB.out | apply below_alloc | apply pw_below_drewN | apply below_drew1) | exact HB.out)) hb); clear HB; have HB := n0_; clear n0_; (try clear hb); (try clear hb2); (try clear hk); (try clear hi); (try clear A75)) | (go_at_call 18; (with_reducible refine (observatoryref02_Extends.calls kj59 a5 a2 a4 a3 _ _ l7 t423 _ ?side1 ?side2 A76.out).mono ?_); (case side1 => repeat (first | exact (Kd.C_below HR7.out HB.out) | (with_reducible refine Kd.C_alloc ?_ _) | (with_reducible refine Kd.C_drewN ?_ _) | (with_reducible refine Kd.C_drew ?_))); (case side2 => exact HC7.out); rintro e w81 ⟨rfl, hb⟩; have n0_ := Aside0.mk (below_step (by repeat (first | (with_reducible first | exact HB.out | apply below_alloc | apply pw_below_drewN | apply below_drew1) | exact HB.out)) hb); clear HB; have HB := n0_; clear n0_; (try clear hb); (try clear hb2); (try clear hk); (try clear hi); (try clear A76)) | (go_at_call 17; (with_reducible refine (tree_Extends.calls a5 a2 t394 (l0.length : Int) _ _ l7 t424 _ ?side1 ?side2 ?side3 A78.out).mono ?_); (case side1 => repeat (first | exact (Kd.C_below HR7.out HB.out) | (with_reducible refine Kd.C_alloc ?_ _) | (with_reducible refine Kd.C_drewN ?_ _) | (with_reducible refine Kd.C_drew ?_))); (case side2 => exact HC7.out); (case side3 => exact HT.out.below (by repeat (first | (with_reducible first | exact HB.out | apply below_alloc | apply pw_below_drewN | apply below_drew1) | exact HB.out))); rintro e w82 ⟨rfl, hb⟩; have n0_ := Aside0.mk (below_step (by repeat (first | (with_reducible first | exact HB.out | apply below_alloc | apply pw_below_drewN | apply below_drew1) | exact HB.out)) hb); clear HB; have HB := n0_; clear n0_; (try clear hb); (try clear hb2); (try clear hk); (try clear hi); (try clear A78)) | (go_at_call 18; (with_reducible refine (observatoryref02_Extends.calls kj59 a5 a2 t396 (l0.length : Int) _ _ l7 t425 _ ?side1 ?side2 A79.out).mono ?_); (case side1 => repeat (first | exact (Kd.C_below HR7.out HB.out) | (with_reducible refine Kd.C_alloc ?_ _) | (with_reducible refine Kd.C_drewN ?_ _) | (with_reducible refine Kd.C_drew ?_))); (case side2 => exact HC7.out); rintro e w83 ⟨rfl, hb⟩; have n0_ := Aside0.mk (below_step (by repeat (first | (with_reducible first | exact HB.out | apply below_alloc | apply pw_below_drewN | apply below_drew1) | exact HB.out)) hb); clear HB; have HB := n0_; clear n0_; (try clear hb); (try clear hb2); (try clear hk); (try clear hi); (try clear A79)))
            go_ret
            exact ⟨by first | rfl | (simp [errW_none, errW_some] <;> rfl) | (simp [*, errW_none, errW_some] <;> rfl), by repeat (first | (with_reducible first | exact HB.out | apply below_alloc | apply pw_below_drewN | apply below_drew1) | exact HB.out)⟩
           ·
            rw [if_neg c77] at H
            have c77b0 : (t422 == t423) = false := by simpa using c77
            (try (have c77b1 : decide (t422 = t423) = false := by simpa using c77))
            (try (have c77b2 : (t422 == t423) = false := by simpa using c77))
            (try (have c77b3 : ¬ (t422 = t423) := by simpa using c77))
            clear c77
            obtain rfl := Option.some.inj H
            go_wp2_with (first | (go_at_call 17; (with_reducible refine (tree_Extends.calls a5 a2 a4 a3 _ _ l7 t422 _ ?side1 ?side2 ?side3 A75.out).mono ?_); (case side1 => repeat (first | exact (Kd.C_below HR7.out HB.out) | (with_reducible refine Kd.C_alloc ?_ _) | (with_reducible refine Kd.C_drewN ?_ _) | (with_reducible refine Kd.C_drew ?_))); (case side2 => exact HC7.out); (case side3 => exact HT.out.below (by repeat (first | (with_reducible first | exact HB.out | apply below_alloc | apply pw_below_drewN | apply below_drew1) | exact HB.out))); rintro e w84 ⟨rfl, hb⟩; have n0_ := Aside0.mk (below_step (by repeat (first | (with_reducible first | exact HB.out | apply below_alloc | apply pw_below_drewN | apply below_drew1) | exact HB.out)) hb); clear HB; have HB := n0_; clear n0_; (try clear hb); (try clear hb2); (try clear hk); (try clear hi); (try clear A75)) | (go_at_call 18; (with_reducible refine (observatoryref02_Extends.calls kj59 a5 a2 a4 a3 _ _ l7 t423 _ ?side1 ?side2 A76.out).mono ?_); (case side1 => repeat (first | exact (Kd.C_below HR7.out HB.out) | (with_reducible refine Kd.C_alloc ?_ _) | (with_reducible refine Kd.C_drewN ?_ _) | (with_reducible refine Kd.C_drew ?_))); (case side2 => exact HC7.out); rintro e w85 ⟨rfl, hb⟩; have n0_ := Aside0.mk (below_step (by repeat (first | (with_reducible first | exact HB.out | apply below_alloc | apply pw_below_drewN | apply below_drew1) | exact HB.out)) hb); clear HB; have HB := n0_; clear n0_; (try clear hb); (try clear hb2); (try clear hk); (try clear hi); (try clear A76)))
            go_ret
            exact ⟨by first | rfl | (simp [errW_none, errW_some] <;> rfl) | (simp [*, errW_none, errW_some] <;> rfl), by repeat (first | (with_reducible first | exact HB.out | apply below_alloc | apply pw_below_drewN | apply below_drew1) | exact HB.out)⟩
          ·
           replace c74 := Bool.eq_false_iff.mpr c74
           subst c74
           have H1 : (some false) = some r := by rw [if_neg (show ¬ (false = true) by decide)] at H; exact H
           clear H
           have H := H1
           clear H1
           obtain rfl := Option.some.inj H
           go_wp2
           go_ret
           exact ⟨by first | rfl | (simp [errW_none, errW_some] <;> rfl) | (simp [*, errW_none, errW_some] <;> rfl), by repeat (first | (with_reducible first | exact HB.out | apply below_alloc | apply pw_below_drewN | apply below_drew1) | exact HB.out)⟩
         ·
          replace c73 := Bool.eq_false_iff.mpr c73
          subst c73
          have H1 : (some false) = some r := by rw [if_neg (show ¬ (false = true) by decide)] at H; exact H
          clear H
          have H := H1
          clear H1
          obtain rfl := Option.some.inj H
          go_wp2
          go_ret
          exact ⟨by first | rfl | (simp [errW_none, errW_some] <;> rfl) | (simp [*, errW_none, errW_some] <;> rfl), by repeat (first | (with_reducible first | exact HB.out | apply below_alloc | apply pw_below_drewN | apply below_drew1) | exact HB.out)⟩
        ·
         replace c72 := Bool.eq_false_iff.mpr c72
         subst c72
         have H1 : (some false) = some r := by rw [if_neg (show ¬ (false = true) by decide)] at H; exact H
         clear H
         have H := H1
         clear H1
         obtain rfl := Option.some.inj H
         go_wp2
         go_ret
         exact ⟨by first | rfl | (simp [errW_none, errW_some] <;> rfl) | (simp [*, errW_none, errW_some] <;> rfl), by repeat (first | (with_reducible first | exact HB.out | apply below_alloc | apply pw_below_drewN | apply below_drew1) | exact HB.out)⟩

end Go.Proofs.YtapnakfhkdcfeaaGreatDoor.P
