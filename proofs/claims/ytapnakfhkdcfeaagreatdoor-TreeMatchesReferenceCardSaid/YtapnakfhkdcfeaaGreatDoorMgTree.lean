/-
  The tree layer's inner contracts.
-/
import Derived.Test.YtapnakfhkdcfeaaGreatDoorProg
import Derived.Below
import Derived.Deep.Draws
import Derived.Deep.AppendLies
import Derived.Maps.AppendAt
import Derived.OwnWalk
import Derived.Laws.BytesArg
import Derived.Laws.MakeOwn
import Derived.Laws.OwnMore
import Derived.Deep.OwnRows
import Derived.Tactics
import Derived.Lib.ConvBytes
import Derived.Laws.Slices
import Derived.WalkKit
import Derived.KernelRfl
import Derived.RowKit3
import Derived.Deep.LoopGhost
import Derived.Deep.QuietTactic
import Derived.BigQuiet
import Derived.WideLaws
import Derived.Deep.DeepCutAuto
import Derived.Deep.CutBlock
import Derived.Deep.RegionHeld3
import Derived.Laws.Rows
import Derived.Lib.AppendStr
import Derived.ArgAppend
import Derived.Laws.IdiomCopy
import Derived.OrdersHeld
import Derived.Laws.BitsLemmas
import Derived.RowKit
import Derived.Test.YtapnakfhkdcfeaaGreatDoorMgDigest
import Derived.Test.YtapnakfhkdcfeaaGreatDoorWWords
import Derived.Test.YtapnakfhkdcfeaaGreatDoorWLast
import Derived.Test.YtapnakfhkdcfeaaGreatDoorWTab
import Derived.Test.YtapnakfhkdcfeaaGreatDoorWFour
import Derived.Test.YtapnakfhkdcfeaaGreatDoorWQPut
import Derived.Test.YtapnakfhkdcfeaaGreatDoorWApart
import Derived.Test.YtapnakfhkdcfeaaGreatDoorWArr
import Derived.Test.YtapnakfhkdcfeaaGreatDoorWZeros
import Derived.Test.YtapnakfhkdcfeaaGreatDoorWFoot
import Derived.Test.YtapnakfhkdcfeaaGreatDoorWKept
import Derived.Test.YtapnakfhkdcfeaaGreatDoorWShare
import Derived.Test.YtapnakfhkdcfeaaGreatDoorWN
import Derived.Test.YtapnakfhkdcfeaaGreatDoorWFootNe
import Derived.Test.YtapnakfhkdcfeaaGreatDoorWAt
import Derived.Test.YtapnakfhkdcfeaaGreatDoorWEqStruct
import Derived.Test.YtapnakfhkdcfeaaGreatDoorWRepsOne
import Derived.Test.YtapnakfhkdcfeaaGreatDoorWInv
import Derived.Test.YtapnakfhkdcfeaaGreatDoorWInvWords
import Derived.Test.YtapnakfhkdcfeaaGreatDoorWGuard
import Derived.Test.YtapnakfhkdcfeaaGreatDoorWNEv
import Derived.Test.YtapnakfhkdcfeaaGreatDoorWMore
import Derived.Lib.ItoaLen
import Derived.Laws.EntriesVeiled
import Derived.RegionTactic
import Derived.Lib.LazyBuf
namespace Go.Proofs.YtapnakfhkdcfeaaGreatDoor.PA
open Go.RowKit Go.Proofs.YtapnakfhkdcfeaaGreatDoorW.PrintWords Go.Proofs.YtapnakfhkdcfeaaGreatDoorW.PrintLast Go.Proofs.YtapnakfhkdcfeaaGreatDoorW.PrintMore
attribute [local go_sem] max2_int min2_int max_two min_two max_three min_three max_four min_four   -- for this text's walks alone
set_option linter.unusedVariables false
set_option linter.unusedSimpArgs false
open Go.Proofs.YtapnakfhkdcfeaaGreatDoor.Dg



def errW : Option Int → Value
 | none => .nilIface
 | some c => .iface 0 (.int .i64 c)
theorem errW_none : errW none = .nilIface := rfl
theorem errW_some (c : Int) : errW (some c) = .iface 0 (.int .i64 c) := rfl

theorem info9 : (Tryz.prog.info? 9).map (fun i => (i.zero, i.size, i.bytes)) = some (some (.string ⟨#[]⟩), 1, 16) := by kernel_rfl
-- the values' own types

end Go.Proofs.YtapnakfhkdcfeaaGreatDoor.PA

namespace Go.Proofs.YtapnakfhkdcfeaaGreatDoor.PA
open Go.RowKit Go.Proofs.YtapnakfhkdcfeaaGreatDoorW.PrintWords Go.Proofs.YtapnakfhkdcfeaaGreatDoorW.PrintLast Go.Proofs.YtapnakfhkdcfeaaGreatDoorW.PrintMore
attribute [local go_sem] max2_int min2_int max_two min_two max_three min_three max_four min_four   -- for this text's walks alone
set_option linter.unusedVariables false
set_option linter.unusedSimpArgs false
open Go.Proofs.YtapnakfhkdcfeaaGreatDoor.Dg

/-! ### tree_half: function 26 -/
def tree_half.l0 : Nat → Int → Int → Option (Int)
 | 0, _, _ => none
 | k + 1, x0, x3 => if (wrap64 (x3 * 2)) < x0 then (tree_half.l0 k x0 (wrap64 (x3 * 2))) else (some x3)
def tree_half.f (k : Nat) (a0 : Int) : Option (Int) := tree_half.l0 k a0 1
theorem tree_half.mono_l : ∀ k, (∀ y0 y1, LeO (tree_half.l0 k y0 y1) (tree_half.l0 (k + 1) y0 y1))
 | 0 => fun _ _ r h => by simp [tree_half.l0] at h
 | k + 1 => by
  have ih0 := tree_half.mono_l k
  ·
   intro y0 y1
   unfold tree_half.l0
   repeat' first
   | (with_reducible exact ih0 _ _)
   | (with_reducible exact LeO.refl _)
   | (with_reducible exact LeO.none _)
   | (with_reducible refine LeO.ite ?_ ?_)
   | (with_reducible refine LeO.bind ?_ (fun _ => ?_))
   | exact ih0 _ _
   | exact LeO.none _
   | refine LeO.ite ?_ ?_
   | refine LeO.bind ?_ (fun _ => ?_)
theorem tree_half.mono : ∀ a0 k, LeO (tree_half.f k a0) (tree_half.f (k + 1) a0) := by
 intro a0 k
 have ih0 := tree_half.mono_l k
 unfold tree_half.f
 repeat' first
   | (with_reducible exact ih0 _ _)
   | (with_reducible exact LeO.refl _)
   | (with_reducible exact LeO.none _)
   | (with_reducible refine LeO.ite ?_ ?_)
   | (with_reducible refine LeO.bind ?_ (fun _ => ?_))
   | exact ih0 _ _
   | exact LeO.none _
   | refine LeO.ite ?_ ?_
   | refine LeO.bind ?_ (fun _ => ?_)
set_option maxHeartbeats 8000000 in
set_option maxRecDepth 100000 in
theorem tree_half.calls (k : Nat) (a0 : Int) (r : Int) (w : World) (h : tree_half.f k a0 = some r) :
  Calls Tryz.prog 26 #[.int .i64 a0] w fun e w' => e = .returned (.int .i64 r) ∧ Drawn0 w w' := by
 have H : (tree_half.l0 k a0 1) = some r := h
 clear h
 have H' := Aside0.mk H
 clear H
 go_enter Tryz.func26, Tryz.ntmps26
 go_wp2
 go_loopg [3] k (fun kq v3 w' => ∃ (x3_1 : Int), v3 = .int .i64 x3_1 ∧ Aside0 (tree_half.l0 kq a0 x3_1 = some r) ∧ Aside0 (kq ≤ k) ∧ Drawn0 w w')
 case atStart => exact ⟨(1), (by first | rfl | (simp; done) | (simp [*]; done)), H', ⟨Nat.le_refl _⟩, by repeat (first | exact Drawn0.refl _ | apply Drawn0.step)⟩
 case round =>
  clear H'
  obtain ⟨x3_1, rfl, HA, HK1, ⟨m1, rfl⟩⟩ := hrel
  cases gk with
  | zero => exact absurd HA.out (by simp [tree_half.l0])
  | succ k1 =>
   have H := HA.out
   clear HA
   simp only [tree_half.l0] at H
   by_cases c2 : (wrap64 (x3_1 * 2)) < a0
   ·
    rw [if_pos c2] at H
    have c2b0 : decide ((wrap64 (x3_1 * 2)) < a0) = true := decide_eq_true c2
    clear c2
    have H' := Aside0.mk H
    clear H
    go_wp2
    go_roundg k1
    case measure => have := HK1.out; omega
    case rel => exact ⟨(wrap64 (x3_1 * 2)), (by first | rfl | (simp; done) | (simp [*]; done)), H', ⟨by have := HK1.out; omega⟩, by repeat (first | exact Drawn0.refl _ | apply Drawn0.step)⟩
   ·
    rw [if_neg c2] at H
    have c2b0 : decide ((wrap64 (x3_1 * 2)) < a0) = false := decide_eq_false c2
    clear c2
    obtain rfl := Option.some.inj H
    go_wp2
    go_ret
    exact ⟨by first | rfl | (simp; done) | (simp [*]; done), by repeat (first | exact Drawn0.refl _ | apply Drawn0.step)⟩

/-! ### tree_node: function 35 -/
def tree_node.f (a0 : ByteArray) (a1 : ByteArray) : Option (ByteArray) := (digest_List.f (([(⟨#[110, 111, 100, 101]⟩ : ByteArray), a0, a1] : List ByteArray))).bind fun t104 => (some t104)
set_option maxHeartbeats 8000000 in
set_option maxRecDepth 100000 in
theorem tree_node.calls (a0 : ByteArray) (a1 : ByteArray) (r : ByteArray) (w : World) (hT : Tabs w) (h : tree_node.f a0 a1 = some r) :
  Calls Tryz.prog 35 #[.string a0, .string a1] w fun e w' => e = .returned (.string r) ∧ Below w.heap.size w w' := by
 have HB := Aside0.mk (Below.refl w.heap.size w)
 have HT := Aside0.mk hT
 clear hT
 have H : ((digest_List.f (([(⟨#[110, 111, 100, 101]⟩ : ByteArray), a0, a1] : List ByteArray))).bind fun t104 => (some t104)) = some r := h
 clear h
 obtain ⟨y101, hy101⟩ : ∃ y_ : List ByteArray, y_ = (([(⟨#[110, 111, 100, 101]⟩ : ByteArray), a0, a1] : List ByteArray)) := ⟨_, rfl⟩
 replace H : ((digest_List.f y101).bind fun t104 => (some t104)) = some r := by first | (rw [hy101]; with_reducible exact H) | (have H2_ := (Option.bind_some _ _).symm.trans H; rw [hy101]; with_reducible exact H2_) | (have H2_ := (Option.bind_some _ _).symm.trans H; with_reducible exact H2_) | with_reducible exact H | (rw [hy101]; exact H) | exact H
 have Ny101 := Aside0.mk hy101
 clear hy101
 replace H := Option.bind_eq_some_iff.mp H
 obtain ⟨t104, A30, H⟩ := H
 replace H : (some t104) = some r := H
 have A3 := Aside0.mk A30
 clear A30
 obtain rfl := Option.some.inj H
 go_enter Tryz.func35, Tryz.ntmps35
 go_wp2_with (first | ((with_reducible refine gate_dst (N := 7) rfl ?_); refine Kd.R_lit Kd.string _ 9 ?hg (N := 7) ?hd (xs := ([(⟨#[110, 111, 100, 101]⟩ : ByteArray), a0, a1] : List ByteArray)) (inner := [.string (⟨#[110, 111, 100, 101]⟩ : ByteArray), .string a0, .string a1]) (ok := fun _ => True) (okp := fun _ => True) ?hr ?hp (fun _ hk => hk) trivial (Below.refl _ _) (Nat.le_refl _) (by simp) ?_; (case hd => rfl); (case hg => rfl); (case hr => first | (go_simp; done) | (go_simp; rfl)); (case hp => exact (Reps.one (show Kd.M Kd.string _ _ _ (⟨#[110, 111, 100, 101]⟩ : ByteArray) [.string (⟨#[110, 111, 100, 101]⟩ : ByteArray)] from rfl) (Reps.one (show Kd.M Kd.string _ _ _ a0 [.string a0] from rfl) (Reps.one (show Kd.M Kd.string _ _ _ a1 [.string a1] from rfl) (Reps.none _ _))))); intro v102 w4 ho5 hb hg_ hnew_; clear hg_ hnew_; (first | rw [← Ny101.out] at ho5 | (simp only [Int.reduceToNat] at ho5; rw [← Ny101.out] at ho5)); have n0_ := Aside0.mk (Kd.R_lower ho5 (below_size (by repeat (first | (with_reducible first | exact HB.out | apply below_alloc | apply pw_below_drewN | apply below_drew1) | exact HB.out)))); have n1_ := Aside0.mk (below_step (by repeat (first | (with_reducible first | exact HB.out | apply below_alloc | apply pw_below_drewN | apply below_drew1) | exact HB.out)) hb); clear HB; have HO103 := n0_; have HB := n1_; clear n0_ n1_; clear hb ho5; obtain ⟨Ao6, co6, eo6⟩ := Kd.R_slice HO103.out; subst eo6) | ((with_reducible refine gate_callee (f := 19) rfl ?_); refine goesL_ (some 8) rfl rfl Tryz.func19 (by kernel_rfl) rfl #[.slice Ao6 y101.length co6] rfl (by (try simp only [List.map_toArray, List.map_cons, List.map_nil]); first | done | rfl | (simp only [List.length_drop, List.length_take]; rfl)) ?_; (with_reducible refine (digest_List.calls _ _ y101 t104 _ ?side1 ?side2 ?side3 A3.out).mono ?_); (case side1 => repeat (first | exact (Kd.R_reads' HO103.out).2.2 | (with_reducible refine Kd.C_alloc ?_ _) | (with_reducible refine Kd.C_drewN ?_ _) | (with_reducible refine Kd.C_drew ?_))); (case side2 => exact (Kd.R_reads' HO103.out).2.1); (case side3 => exact HT.out.below (by repeat (first | (with_reducible first | exact HB.out | apply below_alloc | apply pw_below_drewN | apply below_drew1) | exact HB.out))); rintro e w7 ⟨rfl, hb⟩; refine ⟨_, rfl, ?_⟩; have n0_ := Aside0.mk (Kd.R_below (by (with_reducible repeat (first | apply Kd.R_alloc | apply Kd.R_drewN | apply Kd.R_drew)); exact HO103.out) hb); have n1_ := Aside0.mk (below_step (by repeat (first | (with_reducible first | exact HB.out | apply below_alloc | apply pw_below_drewN | apply below_drew1) | exact HB.out)) hb); clear HO103; clear HB; have HO103 := n0_; have HB := n1_; clear n0_ n1_; (try clear hb); (try clear hb2); (try clear hk); (try clear hi); (try clear A3)))
 go_ret
 exact ⟨by first | rfl | (simp [errW_none, errW_some] <;> rfl) | (simp [*, errW_none, errW_some] <;> rfl), by repeat (first | (with_reducible first | exact HB.out | apply below_alloc | apply pw_below_drewN | apply below_drew1) | exact HB.out)⟩

/-! ### tree_Leaf: function 12 -/
def tree_Leaf.f (a0 : ByteArray) : Option (ByteArray) := (digest_List.f (([(⟨#[108, 101, 97, 102]⟩ : ByteArray), a0] : List ByteArray))).bind fun t108 => (some t108)
set_option maxHeartbeats 8000000 in
set_option maxRecDepth 100000 in
theorem tree_Leaf.calls (a0 : ByteArray) (r : ByteArray) (w : World) (hT : Tabs w) (h : tree_Leaf.f a0 = some r) :
  Calls Tryz.prog 12 #[.string a0] w fun e w' => e = .returned (.string r) ∧ Below w.heap.size w w' := by
 have HB := Aside0.mk (Below.refl w.heap.size w)
 have HT := Aside0.mk hT
 clear hT
 have H : ((digest_List.f (([(⟨#[108, 101, 97, 102]⟩ : ByteArray), a0] : List ByteArray))).bind fun t108 => (some t108)) = some r := h
 clear h
 obtain ⟨y105, hy105⟩ : ∃ y_ : List ByteArray, y_ = (([(⟨#[108, 101, 97, 102]⟩ : ByteArray), a0] : List ByteArray)) := ⟨_, rfl⟩
 replace H : ((digest_List.f y105).bind fun t108 => (some t108)) = some r := by first | (rw [hy105]; with_reducible exact H) | (have H2_ := (Option.bind_some _ _).symm.trans H; rw [hy105]; with_reducible exact H2_) | (have H2_ := (Option.bind_some _ _).symm.trans H; with_reducible exact H2_) | with_reducible exact H | (rw [hy105]; exact H) | exact H
 have Ny105 := Aside0.mk hy105
 clear hy105
 replace H := Option.bind_eq_some_iff.mp H
 obtain ⟨t108, A20, H⟩ := H
 replace H : (some t108) = some r := H
 have A2 := Aside0.mk A20
 clear A20
 obtain rfl := Option.some.inj H
 go_enter Tryz.func12, Tryz.ntmps12
 go_wp2_with (first | ((with_reducible refine gate_dst (N := 4) rfl ?_); refine Kd.R_lit Kd.string _ 9 ?hg (N := 4) ?hd (xs := ([(⟨#[108, 101, 97, 102]⟩ : ByteArray), a0] : List ByteArray)) (inner := [.string (⟨#[108, 101, 97, 102]⟩ : ByteArray), .string a0]) (ok := fun _ => True) (okp := fun _ => True) ?hr ?hp (fun _ hk => hk) trivial (Below.refl _ _) (Nat.le_refl _) (by simp) ?_; (case hd => rfl); (case hg => rfl); (case hr => first | (go_simp; done) | (go_simp; rfl)); (case hp => exact (Reps.one (show Kd.M Kd.string _ _ _ (⟨#[108, 101, 97, 102]⟩ : ByteArray) [.string (⟨#[108, 101, 97, 102]⟩ : ByteArray)] from rfl) (Reps.one (show Kd.M Kd.string _ _ _ a0 [.string a0] from rfl) (Reps.none _ _)))); intro v106 w3 ho4 hb hg_ hnew_; clear hg_ hnew_; (first | rw [← Ny105.out] at ho4 | (simp only [Int.reduceToNat] at ho4; rw [← Ny105.out] at ho4)); have n0_ := Aside0.mk (Kd.R_lower ho4 (below_size (by repeat (first | (with_reducible first | exact HB.out | apply below_alloc | apply pw_below_drewN | apply below_drew1) | exact HB.out)))); have n1_ := Aside0.mk (below_step (by repeat (first | (with_reducible first | exact HB.out | apply below_alloc | apply pw_below_drewN | apply below_drew1) | exact HB.out)) hb); clear HB; have HO107 := n0_; have HB := n1_; clear n0_ n1_; clear hb ho4; obtain ⟨Ao5, co5, eo5⟩ := Kd.R_slice HO107.out; subst eo5) | ((with_reducible refine gate_callee (f := 19) rfl ?_); refine goesL_ (some 5) rfl rfl Tryz.func19 (by kernel_rfl) rfl #[.slice Ao5 y105.length co5] rfl (by (try simp only [List.map_toArray, List.map_cons, List.map_nil]); first | done | rfl | (simp only [List.length_drop, List.length_take]; rfl)) ?_; (with_reducible refine (digest_List.calls _ _ y105 t108 _ ?side1 ?side2 ?side3 A2.out).mono ?_); (case side1 => repeat (first | exact (Kd.R_reads' HO107.out).2.2 | (with_reducible refine Kd.C_alloc ?_ _) | (with_reducible refine Kd.C_drewN ?_ _) | (with_reducible refine Kd.C_drew ?_))); (case side2 => exact (Kd.R_reads' HO107.out).2.1); (case side3 => exact HT.out.below (by repeat (first | (with_reducible first | exact HB.out | apply below_alloc | apply pw_below_drewN | apply below_drew1) | exact HB.out))); rintro e w6 ⟨rfl, hb⟩; refine ⟨_, rfl, ?_⟩; have n0_ := Aside0.mk (Kd.R_below (by (with_reducible repeat (first | apply Kd.R_alloc | apply Kd.R_drewN | apply Kd.R_drew)); exact HO107.out) hb); have n1_ := Aside0.mk (below_step (by repeat (first | (with_reducible first | exact HB.out | apply below_alloc | apply pw_below_drewN | apply below_drew1) | exact HB.out)) hb); clear HO107; clear HB; have HO107 := n0_; have HB := n1_; clear n0_ n1_; (try clear hb); (try clear hb2); (try clear hk); (try clear hi); (try clear A2)))
 go_ret
 exact ⟨by first | rfl | (simp [errW_none, errW_some] <;> rfl) | (simp [*, errW_none, errW_some] <;> rfl), by repeat (first | (with_reducible first | exact HB.out | apply below_alloc | apply pw_below_drewN | apply below_drew1) | exact HB.out)⟩

end Go.Proofs.YtapnakfhkdcfeaaGreatDoor.PA

set_option linter.unusedVariables false
set_option linter.unusedSimpArgs false
namespace Go.Proofs.YtapnakfhkdcfeaaGreatDoor.Dg
open Go.RowKit Go.Shelf
open Go.Proofs.YtapnakfhkdcfeaaGreatDoorW.PrintWords

set_option maxHeartbeats 1000000 in
set_option maxRecDepth 100000 in
theorem isNot_calls (s : ByteArray) (w : World) :
    Calls Tryz.prog 50 #[.string s] w fun e w' => e = .returned (.bool (!isB s)) ∧ Below w.heap.size w w' := by
  go_enter Tryz.func50, Tryz.ntmps50
  go_wp2_with fail
  refine (is_calls s w).mono ?_
  rintro e w1 ⟨rfl, hb1⟩
  have HB1 := Lib.hid hb1
  clear hb1
  go_wp2
  go_ret
  exact ⟨by first | rfl | simp, HB1.out⟩

set_option maxHeartbeats 2000000 in
set_option maxRecDepth 100000 in
theorem index_calls (A : Option Addr) (c : Nat) (l : List ByteArray) (w : World) (hr : Kd.C Kd.string w A l.length l) (hc : l.length ≤ c) :
    Calls Tryz.prog 65 #[.slice A l.length c, .func (Fn.func 50) #[] #[]] w
      fun e w' => (∃ r : Int, e = .returned (.int .i64 r) ∧ decide (r ≥ 0) = !l.all isB) ∧ Below w.heap.size w w' := by
  have HR := Lib.hid hr
  have hm : l.length ≤ 9223372036854775807 := hr.2.1
  clear hr
  go_enter Tryz.func65, Tryz.ntmps65
  go_wp2
  go_loopw [8] (fun v8 wr => ∃ k : Nat, k ≤ l.length ∧ v8 = .int .i64 k ∧ Hid ((l.take k).all isB = true) ∧ Hid (Below w.heap.size w wr)) (fun v8 _ => (l.length - RowKit.intOf v8).toNat)
  case atStart => exact ⟨0, Nat.zero_le _, rfl, by show _ = true; rfl, Below.refl _ _⟩
  case round =>
    obtain ⟨k, hk, rfl, HA, HB⟩ := hrel
    rename World => W0
    by_cases hlt : k < l.length
    · obtain ⟨ad, rfl, hcell⟩ := Kd.at_string (Kd.C_below HR.out HB.out) (k : Int) (by omega) (by omega)
      have hel : Go.Proofs.YtapnakfhkdcfeaaGreatDoorW.PrintWords.rdOf ByteArray.empty l (k : Int) = l[k] := by
        simp [Go.Proofs.YtapnakfhkdcfeaaGreatDoorW.PrintWords.rdOf, List.getD, List.getElem?_eq_getElem hlt]
      rw [hel, Int.toNat_natCast] at hcell
      have HT : Hid ((l.take (k + 1)).all isB = isB l[k]) := by
        show _ = _
        rw [List.take_succ_eq_append_getElem hlt, List.all_append, HA.out]; simp
      have HALL : Hid (isB l[k] = false → l.all isB = false) := by
        show _ → _
        intro h
        rw [← Bool.not_eq_true, List.all_eq_true]
        intro h2
        rw [h2 _ (List.getElem_mem hlt)] at h
        exact absurd h (by decide)
      obtain ⟨x, hx⟩ : ∃ x : ByteArray, l[k] = x := ⟨_, rfl⟩
      rw [hx] at hcell HT HALL
      clear hel hx
      go_wp2_with fail
      refine (isNot_calls x W0).mono ?_
      rintro e w1 ⟨rfl, hb1⟩
      have HB1 : Hid (Below w.heap.size w w1) := HB.out.trans (hb1.mono HB.out.size)
      obtain ⟨y, hy⟩ : ∃ y : Bool, isB x = y := ⟨_, rfl⟩
      rw [hy] at HT HALL ⊢
      clear hb1 hcell hy
      cases y
      · go_wp2
        try go_ret
        exact ⟨⟨(k : Int), rfl, by rw [HALL.out (by trivial)]; simp⟩, HB1.out⟩
      · go_wp2
        go_roundw
        case rel => exact ⟨k + 1, by omega, by go_num, HT.out, HB1.out⟩
        case measure => simp [RowKit.intOf]; omega
    · obtain rfl : k = l.length := by omega
      have HA1 : Hid (l.all isB = true) := by have h := HA.out; rw [List.take_length] at h; exact h
      clear HA
      go_wp2
      go_ret
      exact ⟨⟨-1, rfl, by rw [HA1.out]; rfl⟩, HB.out⟩

set_option maxHeartbeats 1000000 in
set_option maxRecDepth 100000 in
theorem contains_calls (A : Option Addr) (c : Nat) (l : List ByteArray) (w : World) (hr : Kd.C Kd.string w A l.length l) (hc : l.length ≤ c) :
    Calls Tryz.prog 49 #[.slice A l.length c, .func (Fn.func 50) #[] #[]] w
      fun e w' => e = .returned (.bool (!l.all isB)) ∧ Below w.heap.size w w' := by
  go_enter Tryz.func49, Tryz.ntmps49
  go_wp2_with fail
  refine (index_calls A c l w hr hc).mono ?_
  rintro e w1 ⟨⟨r, rfl, hrr⟩, hb1⟩
  have HB1 := Lib.hid hb1
  have HRR := Lib.hid hrr
  clear hb1 hrr
  go_wp2
  go_ret
  exact ⟨by have := HRR.out; simp only [Ending.returned.injEq, Value.bool.injEq]; first | exact this | simpa using this, HB1.out⟩

set_option maxHeartbeats 1000000 in
set_option maxRecDepth 100000 in
theorem proper_calls (A : Option Addr) (c : Nat) (l : List ByteArray) (w : World) (hr : Kd.C Kd.string w A l.length l) (hc : l.length ≤ c) :
    Calls Tryz.prog 22 #[.slice A l.length c] w fun e w' => e = .returned (.bool (l.all isB)) ∧ Below w.heap.size w w' := by
  go_enter Tryz.func22, Tryz.ntmps22
  go_wp2_with fail
  refine (contains_calls A c l w hr hc).mono ?_
  rintro e w1 ⟨rfl, hb1⟩
  have HB1 := Lib.hid hb1
  clear hb1
  go_wp2
  go_ret
  exact ⟨by simp, HB1.out⟩

end Go.Proofs.YtapnakfhkdcfeaaGreatDoor.Dg

set_option linter.unusedVariables false
set_option linter.unusedSimpArgs false
namespace Go.Proofs.YtapnakfhkdcfeaaGreatDoor.Dg
open Go.RowKit Go.Proofs.YtapnakfhkdcfeaaGreatDoor.PA
open Go.Proofs.YtapnakfhkdcfeaaGreatDoorW.PrintWords Go.Proofs.YtapnakfhkdcfeaaGreatDoorW.PrintMore
attribute [local irreducible] sumB

/-- The greatest k times a power of two that is less than n. -/
def halfTo : Nat → Nat → Nat → Nat
  | 0, k, _ => k
  | f + 1, k, n => if 2 * k < n then halfTo f (2 * k) n else k
/-- The greatest power of two that is less than n, for n from 2 on. -/
def halfN (n : Nat) : Nat := halfTo 20 1 n
theorem halfTo_ge (n : Nat) : ∀ f k, 1 ≤ k → 1 ≤ halfTo f k n
  | 0, k, h => h
  | f + 1, k, h => by
    unfold halfTo
    split
    · exact halfTo_ge n f (2 * k) (by omega)
    · exact h
theorem halfTo_lt (n : Nat) : ∀ f k, k < n → halfTo f k n < n
  | 0, k, h => h
  | f + 1, k, h => by
    unfold halfTo
    split
    · exact halfTo_lt n f (2 * k) (by assumption)
    · exact h
theorem halfTo_twice (n : Nat) : ∀ f k, n ≤ 2 ^ (f + 1) * k → n ≤ 2 * halfTo f k n
  | 0, k, h => by simpa [halfTo] using h
  | f + 1, k, h => by
    unfold halfTo
    split
    · refine halfTo_twice n f (2 * k) ?_
      rw [← Nat.mul_assoc, ← Nat.pow_succ]; exact h
    · omega
theorem halfN_ge (n : Nat) : 1 ≤ halfN n := halfTo_ge n 20 1 (Nat.le_refl 1)
theorem halfN_lt (n : Nat) (h : 2 ≤ n) : halfN n < n := halfTo_lt n 20 1 (by omega)
theorem halfN_twice (n : Nat) (h : n ≤ 1000000) : n ≤ 2 * halfN n := halfTo_twice n 20 1 (by omega)
theorem half_l0 (n : Nat) (hn : n ≤ 1000000) : ∀ f k, 1 ≤ k → k ≤ 1000000 → n ≤ 2 ^ (f + 1) * k → tree_half.l0 (f + 1) (n : Int) (k : Int) = some ((halfTo f k n : Nat) : Int)
  | 0, k, h0, h1, h => by
    have : n ≤ 2 * k := by simpa using h
    simp only [tree_half.l0, halfTo]
    rw [if_neg (by unfold wrap64; omega)]
  | f + 1, k, h0, h1, h => by
    rw [tree_half.l0, halfTo, show wrap64 ((k : Int) * 2) = ((2 * k : Nat) : Int) by unfold wrap64; omega]
    by_cases hk : 2 * k < n
    · rw [if_pos (by omega), if_pos hk]
      refine half_l0 n hn f (2 * k) (by omega) (by omega) ?_
      rw [← Nat.mul_assoc, ← Nat.pow_succ]; exact h
    · rw [if_neg (by omega), if_neg hk]
theorem half_calls (n : Nat) (hn : n ≤ 1000000) (w : World) : Calls Tryz.prog 26 #[.int .i64 (n : Int)] w fun e w' => e = .returned (.int .i64 ((halfN n : Nat) : Int)) ∧ Drawn0 w w' :=
  tree_half.calls 21 _ _ w (half_l0 n hn 20 1 (by omega) (by omega) (by omega))

def nodeWord : ByteArray := ⟨#[110, 111, 100, 101]⟩
def leafWord : ByteArray := ⟨#[108, 101, 97, 102]⟩
def emptyWord : ByteArray := ⟨#[101, 109, 112, 116, 121]⟩
/-- The root of two roots, of nothing, the digest of an element. -/
def nodeB (a b : ByteArray) : ByteArray := sumB (joinB [nodeWord, a, b])
def emptyB : ByteArray := sumB (joinB [emptyWord])
def leafB (s : ByteArray) : ByteArray := sumB (joinB [leafWord, s])
/-- The root of a list that is not empty (f: at least its length). -/
def rootTo : Nat → List ByteArray → ByteArray
  | 0, l => l.headD ByteArray.empty
  | f + 1, l => if l.length ≤ 1 then l.headD ByteArray.empty else nodeB (rootTo f (l.take (halfN l.length))) (rootTo f (l.drop (halfN l.length)))
def rootB (l : List ByteArray) : ByteArray := if l.length = 0 then emptyB else rootTo l.length l

theorem joinL_le (m : Nat) (hm : m ≤ 1000000) : ∀ l : List ByteArray, (∀ s ∈ l, s.size ≤ m) → (joinL l).length ≤ (m + 22) * l.length
  | [], _ => by simp [joinL]
  | s :: l, h => by
    have e : joinL (s :: l) = piece s ++ joinL l := by simp [joinL]
    have i1 := joinL_le m hm l fun t ht => h t (List.mem_cons_of_mem _ ht)
    have i2 := h s List.mem_cons_self
    have i3 : (Lib.itoa (s.size : Int)).length ≤ 21 := Lib.itoa_length_le s.size (by omega) (by omega)
    rw [e, List.length_append, piece_length, List.length_cons, Nat.mul_add]
    omega
theorem sumB_len (s : ByteArray) : (sumB s).size = 16 := by rw [Lib.size_eq, sumB_data, sumL_length]
theorem nodeB_len (a b : ByteArray) : (nodeB a b).size = 16 := sumB_len _
theorem node_f (a b : ByteArray) (ha : a.size ≤ 1000) (hb : b.size ≤ 1000) : tree_node.f a b = some (nodeB a b) := by
  have h := joinL_le 1000 (by omega) [nodeWord, a, b] (fun s hs => by
    simp only [List.mem_cons, List.not_mem_nil, or_false] at hs
    rcases hs with rfl | rfl | rfl
    · decide
    · exact ha
    · exact hb)
  unfold tree_node.f digest_List.f
  rw [if_pos (by simp only [List.length_cons, List.length_nil] at h; exact Nat.le_trans h (by decide))]
  rfl
theorem node_calls (a b : ByteArray) (ha : a.size ≤ 1000) (hb : b.size ≤ 1000) (w : World) (hT : Tabs w) :
    Calls Tryz.prog 35 #[.string a, .string b] w fun e w' => e = .returned (.string (nodeB a b)) ∧ Below w.heap.size w w' :=
  tree_node.calls a b _ w hT (node_f a b ha hb)
theorem rootTo_le : ∀ (f : Nat) (l : List ByteArray), (∀ s ∈ l, s.size ≤ 1000) → (rootTo f l).size ≤ 1000
  | 0, l, h => by
    cases l with
    | nil => exact Nat.zero_le _
    | cons s l => exact h s List.mem_cons_self
  | f + 1, l, h => by
    unfold rootTo
    split
    · cases l with
      | nil => exact Nat.zero_le _
      | cons s l => exact h s List.mem_cons_self
    · rw [nodeB_len]; omega
/-- More rounds than a list has elements change nothing. -/
theorem rootTo_more : ∀ (f g : Nat) (l : List ByteArray), l.length ≤ f → l.length ≤ g → l.length ≤ 1000000 → rootTo f l = rootTo g l
  | 0, 0, l, _, _, _ => rfl
  | 0, g + 1, l, h, _, _ => by
    rw [rootTo, rootTo, if_pos (by omega)]
  | f + 1, 0, l, _, h, _ => by
    rw [rootTo, rootTo, if_pos (by omega)]
  | f + 1, g + 1, l, hf, hg, hm => by
    unfold rootTo
    split
    · rfl
    · rename_i h2
      have h3 := halfN_lt l.length (by omega)
      have h4 := halfN_ge l.length
      rw [rootTo_more f g (l.take (halfN l.length)) (by rw [List.length_take]; omega) (by rw [List.length_take]; omega) (by rw [List.length_take]; omega),
        rootTo_more f g (l.drop (halfN l.length)) (by rw [List.length_drop]; omega) (by rw [List.length_drop]; omega) (by rw [List.length_drop]; omega)]

end Go.Proofs.YtapnakfhkdcfeaaGreatDoor.Dg

set_option linter.unusedVariables false
set_option linter.unusedSimpArgs false
namespace Go.Proofs.YtapnakfhkdcfeaaGreatDoor.Dg
open Go.RowKit
open Go.Proofs.YtapnakfhkdcfeaaGreatDoorW.PrintWords Go.Proofs.YtapnakfhkdcfeaaGreatDoorW.PrintMore Go.Proofs.YtapnakfhkdcfeaaGreatDoorW.PrintLast
attribute [local irreducible] sumB

section
variable {P : Program} {ops : Array Oper} {Q : Exit → Act → World → Prop}
/-- A call of a function value that has places of its own. -/
theorem goesF_ {oi : Oper} {N : Option Tmp} {a : Act} {w : World} {K : Act → World → Prop} {f : FuncId} {fn : Func} {t : Operand} {xs : Array Operand} {ts : Array TypeId} (hf : P.funcs[f]? = some fn) (hname : (fn.name == "runtime.NumGoroutine") = false) (hb : fn.body.isSome = true) (args cap : Array Value)
    (hw : Region.wanted oi (yielded ops a.tmps) = true) (hN : oi.dst = N) (hop : oi.op = .call { callee := .value t, args := xs, argTypes := ts }) (hv : a.eval t = .func (.func f) #[] cap) (hargs : xs.map a.eval = args)
    (h : Calls P f (args ++ cap) w fun e w' => ∃ v, e = .returned v ∧ K (a.put N v) w') : if Region.wanted oi (yielded ops a.tmps) = true then Oper.wp P oi a w K Q else K (a.put N undef) w := by
  refine call_ f (args ++ cap) hw hN ?_ h
  have he := enters_ hf hname hb (args ++ cap) w
  unfold execOp
  simp [hop, resolve, Deferred.ofValue, invoke, hv, hargs, he]
end

theorem infoS : (Tryz.prog.info? 9).map (fun i => (i.zero, i.size, i.bytes)) = some (some (.string ⟨#[]⟩), 1, 16) := by kernel_rfl

/-- The cell of the variable that holds the function. -/
def SumAt (b : Nat) (w : World) : Prop := w.heap[b]? = some (.cells #[.func (.func 51) #[] #[.pointer (some ⟨b, 0, none⟩)]] 35 (0, 0))
theorem SumAt.cell {b : Nat} {w : World} (h : SumAt b w) : w.cell? ⟨b, 0, none⟩ = some (.func (.func 51) #[] #[.pointer (some ⟨b, 0, none⟩)]) := by rw [Lib.cell_of_heap h]; rfl
theorem SumAt.lt {b : Nat} {w : World} (h : SumAt b w) : b < w.heap.size := (Array.getElem?_eq_some_iff.1 h).1
theorem SumAt.below {b : Nat} {w w' : World} (h : SumAt b w) (hb : Below w.heap.size w w') : SumAt b w' := by
  unfold SumAt; rw [hb.block b h.lt]; exact h

set_option maxHeartbeats 4000000 in
set_option maxRecDepth 100000 in
theorem total1_calls (b : Nat) (f : Nat) : ∀ (A : Option Addr) (c : Nat) (l : List ByteArray) (w : World) (hr : Kd.C Kd.string w A l.length l) (hc : l.length ≤ c) (h1 : 1 ≤ l.length) (hf : l.length ≤ f) (hm : l.length ≤ 1000000)
    (hs : ∀ s ∈ l, s.size ≤ 1000) (hT : Tabs w) (hS : SumAt b w),
    Calls Tryz.prog 51 #[.slice A l.length c, .pointer (some ⟨b, 0, none⟩)] w fun e w' => e = .returned (.string (rootTo f l)) ∧ Below w.heap.size w w' := by
  induction f with
  | zero => intro A c l w hr hc h1 hf; omega
  | succ f ih =>
    intro A c l w hr hc h1 hf hm hs hT hS
    have HR := Lib.hid hr
    have HT := Lib.hid hT
    have HS := Lib.hid hS
    have HC := Lib.hid hc
    by_cases one : l.length = 1
    · obtain ⟨ad, rfl, hcell⟩ := Kd.at_string HR.out 0 (by omega) (by omega)
      have hel : Go.Proofs.YtapnakfhkdcfeaaGreatDoorW.PrintWords.rdOf ByteArray.empty l 0 = rootTo (f + 1) l := by
        unfold rootTo
        rw [if_pos (by omega)]
        cases l with
        | nil => rfl
        | cons s l => rfl
      rw [hel] at hcell
      obtain ⟨x, hx⟩ : ∃ x : ByteArray, rootTo (f + 1) l = x := ⟨_, rfl⟩
      rw [hx] at hcell ⊢
      have c1 : ((l.length : Int) == 1) = true := beq_iff_eq.mpr (by omega)
      have c2 : (0 < l.length) = True := eq_true (by omega)
      (try rw [show ((0 : Int)).toNat = 0 from rfl] at hcell)
      (try rw [Addr.add_zero'] at hcell)
      clear hr hT hS hs hx hel
      go_enter Tryz.func51, Tryz.ntmps51
      go_wp2
      go_ret
      exact ⟨by first | rfl | simp, Below.refl _ _⟩
    · have h2 : 2 ≤ l.length := by omega
      have hlt := halfN_lt l.length h2
      have hge := halfN_ge l.length
      have hroot : rootTo (f + 1) l = nodeB (rootTo f (l.take (halfN l.length))) (rootTo f (l.drop (halfN l.length))) := by
        rw [rootTo, if_neg (by omega)]
      have hhalf := half_calls l.length hm
      obtain ⟨h, hh⟩ : ∃ h : Nat, halfN l.length = h := ⟨_, rfl⟩
      rw [hh] at hlt hge hroot hhalf
      rw [hroot]
      have c1 : ((l.length : Int) == 1) = false := beq_eq_false_iff_ne.mpr (by omega)
      have HH := Lib.hid hhalf
      have HT1 : Hid ((l.take h).length = h) := by show _ = _; rw [List.length_take]; omega
      have HT2 : Hid ((l.drop h).length = l.length - h) := by show _ = _; rw [List.length_drop]
      have HX1 : Hid (1 ≤ (l.take h).length ∧ (l.take h).length ≤ f ∧ (l.take h).length ≤ 1000000 ∧ ∀ s ∈ l.take h, s.size ≤ 1000) := by
        show _ ∧ _; rw [HT1.out]; exact ⟨hge, by omega, by omega, fun s hs' => hs s (List.mem_of_mem_take hs')⟩
      have HX2 : Hid (1 ≤ (l.drop h).length ∧ (l.drop h).length ≤ f ∧ (l.drop h).length ≤ 1000000 ∧ ∀ s ∈ l.drop h, s.size ≤ 1000) := by
        show _ ∧ _; rw [HT2.out]; exact ⟨by omega, by omega, by omega, fun s hs' => hs s (List.mem_of_mem_drop hs')⟩
      have HN : Hid ((rootTo f (l.take h)).size ≤ 1000 ∧ (rootTo f (l.drop h)).size ≤ 1000) := ⟨rootTo_le f _ HX1.out.2.2.2, rootTo_le f _ HX2.out.2.2.2⟩
      have HLT := Lib.hid hlt
      clear hr hT hS hs hroot hhalf hh
      go_enter Tryz.func51, Tryz.ntmps51
      go_wp2_with (go_at_call 26; refine (HH.out _).mono ?_; rintro e w' ⟨rfl, ⟨nd, rfl⟩⟩)
      have h0 : (0 : Int) ≤ (h : Int) := by omega
      have h01 : (h : Int) ≤ (l.length : Int) := by omega
      obtain ⟨i016, hi016, _, hsz16, _⟩ := info_parts infoS
      obtain ⟨hcut16, hA16, hC16⟩ := print_take_of (P := Tryz.prog) Value.string (⟨#[]⟩ : ByteArray) 22 9 .i64 Tryz.underlying22 hi016 hsz16 A c l (h : Int) h0 h01 HC.out
      have HRt := Lib.hid (Kd.C_of_reads (h1 := fun _ => rfl) (hA16 _ (Kd.reads_of_C HR.out)))
      have HCt := Lib.hid hC16
      clear hA16 hC16 hi016 hsz16
      obtain ⟨i017, hi017, _, hsz17, _⟩ := info_parts infoS
      obtain ⟨A2, hcut17, hA17, hC17⟩ := print_drop_of (P := Tryz.prog) Value.string (⟨#[]⟩ : ByteArray) 22 9 .i64 Tryz.underlying22 hi017 hsz17 A c l (h : Int) h0 h01 HC.out
      have HRd := Lib.hid (Kd.C_of_reads (h1 := fun _ => rfl) (hA17 _ (Kd.reads_of_C HR.out)))
      have HCd := Lib.hid hC17
      clear hA17 hC17 hi017 hsz17
      rw [Int.toNat_natCast] at hcut16 hcut17 HRt HRd HCt HCd
      refine start_ (n := 12) (S := fun w' => SumAt b w' ∧ Below w.heap.size w w') (ds := []) #[false, false, false, false, false, false, false, false, false, false, false, false] (by kernel_rfl) rfl rfl ⟨HS.out, by repeat (first | exact Below.refl _ _ | apply below_drew1 | apply pw_below_drewN)⟩ (fun hHeld => ?_)
      clear HH
      refine pure_ (i := 1) (N := some 15) (v := ?_) (a' := ?_) #[false, true, false, false, false, false, false, false, false, false, false, false] rfl rfl (by kernel_rfl) (fun _ _ _ h => h) (Or.inl ⟨by rfl, ?_⟩) ?_ ?_
      rotate_left
      · intro w'
        go_simp
        with_reducible rfl
      rotate_left
      · simp only [Act.put, List.setIfInBounds_toArray, List.set_cons_zero, List.set_cons_succ, i64_w, i32_w]
        rfl
      refine pure_ (i := 2) (N := some 16) (v := ?_) (a' := ?_) #[false, true, true, false, false, false, false, false, false, false, false, false] rfl rfl (by kernel_rfl) (fun _ _ _ h => h) (Or.inl ⟨by rfl, ?_⟩) ?_ ?_
      rotate_left
      · intro w'
        go_simp
        with_reducible rfl
      rotate_left
      · simp only [Act.put, List.setIfInBounds_toArray, List.set_cons_zero, List.set_cons_succ, i64_w, i32_w]
        rfl
      refine pure_ (i := 3) (N := some 17) (v := ?_) (a' := ?_) #[false, true, true, true, false, false, false, false, false, false, false, false] rfl rfl (by kernel_rfl) (fun _ _ _ h => h) (Or.inl ⟨by rfl, ?_⟩) ?_ ?_
      rotate_left
      · intro w'
        go_simp
        with_reducible rfl
      rotate_left
      · simp only [Act.put, List.setIfInBounds_toArray, List.set_cons_zero, List.set_cons_succ, i64_w, i32_w]
        rfl
      refine pure_ (i := 6) (N := some 20) (v := ?_) (a' := ?_) #[false, true, true, true, false, false, true, false, false, false, false, false] rfl rfl (by kernel_rfl) (fun _ _ _ h => h) (Or.inl ⟨by rfl, ?_⟩) ?_ ?_
      rotate_left
      · intro w'
        go_simp
        with_reducible rfl
      rotate_left
      · simp only [Act.put, List.setIfInBounds_toArray, List.set_cons_zero, List.set_cons_succ, i64_w, i32_w]
        rfl
      refine pure_ (i := 7) (N := some 21) (v := ?_) (a' := ?_) #[false, true, true, true, false, false, true, true, false, false, false, false] rfl rfl (by kernel_rfl) (fun _ _ _ h => h) (Or.inl ⟨by rfl, ?_⟩) ?_ ?_
      rotate_left
      · intro w'
        go_simp
        with_reducible rfl
      rotate_left
      · simp only [Act.put, List.setIfInBounds_toArray, List.set_cons_zero, List.set_cons_succ, i64_w, i32_w]
        rfl
      refine pure_ (i := 8) (N := some 22) (v := ?_) (a' := ?_) #[false, true, true, true, false, false, true, true, true, false, false, false] rfl rfl (by kernel_rfl) (fun _ _ _ h => h) (Or.inl ⟨by rfl, ?_⟩) ?_ ?_
      rotate_left
      · intro w'
        go_simp
        with_reducible rfl
      rotate_left
      · simp only [Act.put, List.setIfInBounds_toArray, List.set_cons_zero, List.set_cons_succ, i64_w, i32_w]
        rfl
      refine take_ (i := 0) (N := some 14) (v := ?_) (a' := ?_) #[true, true, true, true, false, false, true, true, true, false, false, false] rfl rfl (by kernel_rfl) (fun _ _ _ h => h) (Or.inl ⟨by rfl, ?_⟩) hHeld ?_ ?_
      rotate_left
      · rintro w' ⟨s0, s1⟩
        have q0 := SumAt.cell s0
        go_simp
        with_reducible rfl
      rotate_left
      · simp only [Act.put, List.setIfInBounds_toArray, List.set_cons_zero, List.set_cons_succ, i64_w, i32_w]
        rfl
      refine take_ (i := 5) (N := some 19) (v := ?_) (a' := ?_) #[true, true, true, true, false, true, true, true, true, false, false, false] rfl rfl (by kernel_rfl) (fun _ _ _ h => h) (Or.inl ⟨by rfl, ?_⟩) hHeld ?_ ?_
      rotate_left
      · rintro w' ⟨s0, s1⟩
        have q0 := SumAt.cell s0
        go_simp
        with_reducible rfl
      rotate_left
      · simp only [Act.put, List.setIfInBounds_toArray, List.set_cons_zero, List.set_cons_succ, i64_w, i32_w]
        rfl
      refine one_ (i := 4) (N := some 18) #[true, true, true, true, true, true, true, true, true, false, false, false] rfl rfl (by kernel_rfl) (by decide) (fun K hK => ?_)
      refine goesF_ Tryz.func51 (by kernel_rfl) rfl #[.slice A (l.take h).length c] #[.pointer (some ⟨b, 0, none⟩)] (by rfl) rfl rfl rfl (by (try simp only [List.map_toArray, List.map_cons, List.map_nil]); rw [HT1.out]; have e_ := Nat.min_eq_left (Nat.le_of_lt HLT.out); simp [Act.eval, e_]) ?_
      refine (ih A c (l.take h) _ (Kd.C_below HRt.out hHeld.2) HCt.out HX1.out.1 HX1.out.2.1 HX1.out.2.2.1 HX1.out.2.2.2 (HT.out.below hHeld.2) hHeld.1).mono ?_
      rintro e w1 ⟨rfl, hb⟩
      refine ⟨_, rfl, ?_⟩
      have HB1 : Hid (Below w.heap.size w w1) := hHeld.2.trans (hb.mono hHeld.2.size)
      have HS1 : Hid (SumAt b w1) := SumAt.below HS.out HB1.out
      clear hb
      refine hK.out _ _ ⟨HS1.out, HB1.out⟩ (fun hHeld => ?_)
      clear hK K
      refine norm_ (a' := ?_) ?_ ?_
      rotate_left
      · show Act.put _ (some 18) _ = _
        simp only [Act.put, List.setIfInBounds_toArray, List.set_cons_zero, List.set_cons_succ, i64_w, i32_w]
        rfl
      refine one_ (i := 9) (N := some 23) #[true, true, true, true, true, true, true, true, true, true, false, false] rfl rfl (by kernel_rfl) (by decide) (fun K hK => ?_)
      refine goesF_ Tryz.func51 (by kernel_rfl) rfl #[.slice A2 (l.drop h).length (c - h)] #[.pointer (some ⟨b, 0, none⟩)] (by rfl) rfl rfl rfl (by (try simp only [List.map_toArray, List.map_cons, List.map_nil]); rw [HT2.out]; simp [Act.eval]) ?_
      refine (ih A2 (c - h) (l.drop h) _ (Kd.C_below HRd.out hHeld.2) HCd.out HX2.out.1 HX2.out.2.1 HX2.out.2.2.1 HX2.out.2.2.2 (HT.out.below hHeld.2) hHeld.1).mono ?_
      rintro e w2 ⟨rfl, hb⟩
      refine ⟨_, rfl, ?_⟩
      have HB2 : Hid (Below w.heap.size w w2) := hHeld.2.trans (hb.mono hHeld.2.size)
      have HS2 : Hid (SumAt b w2) := SumAt.below HS.out HB2.out
      clear hb
      refine hK.out _ _ ⟨HS2.out, HB2.out⟩ (fun hHeld => ?_)
      clear hK K
      refine norm_ (a' := ?_) ?_ ?_
      rotate_left
      · show Act.put _ (some 23) _ = _
        simp only [Act.put, List.setIfInBounds_toArray, List.set_cons_zero, List.set_cons_succ, i64_w, i32_w]
        rfl
      refine one_ (i := 10) (N := some 24) #[true, true, true, true, true, true, true, true, true, true, true, false] rfl rfl (by kernel_rfl) (by decide) (fun K hK => ?_)
      refine goes_ Tryz.func35 (by kernel_rfl) rfl #[.string (rootTo f (l.take h)), .string (rootTo f (l.drop h))] (by rfl) rfl rfl (by (try simp only [List.map_toArray, List.map_cons, List.map_nil]); first | done | rfl) ?_
      refine (node_calls _ _ HN.out.1 HN.out.2 _ (HT.out.below hHeld.2)).mono ?_
      rintro e w3 ⟨rfl, hb⟩
      refine ⟨_, rfl, ?_⟩
      have HB3 : Hid (Below w.heap.size w w3) := hHeld.2.trans (hb.mono hHeld.2.size)
      have HS3 : Hid (SumAt b w3) := SumAt.below HS.out HB3.out
      clear hb
      refine hK.out _ _ ⟨HS3.out, HB3.out⟩ (fun hHeld => ?_)
      clear hK K
      refine norm_ (a' := ?_) ?_ ?_
      rotate_left
      · show Act.put _ (some 24) _ = _
        simp only [Act.put, List.setIfInBounds_toArray, List.set_cons_zero, List.set_cons_succ, i64_w, i32_w]
        rfl
      refine pure_ (i := 11) (N := some 3) (v := ?_) (a' := ?_) #[true, true, true, true, true, true, true, true, true, true, true, true] rfl rfl (by kernel_rfl) (fun _ _ _ h => h) (Or.inl ⟨by rfl, ?_⟩) ?_ ?_
      rotate_left
      · intro w'
        go_simp
        with_reducible rfl
      rotate_left
      · simp only [Act.put, List.setIfInBounds_toArray, List.set_cons_zero, List.set_cons_succ, i64_w, i32_w]
        rfl
      refine done_ (by kernel_rfl) ?_
      try go_wp2
      go_ret
      exact ⟨by first | rfl | simp, HB3.out⟩

end Go.Proofs.YtapnakfhkdcfeaaGreatDoor.Dg

set_option linter.unusedVariables false
set_option linter.unusedSimpArgs false
namespace Go.Proofs.YtapnakfhkdcfeaaGreatDoor.Dg
open Go.RowKit
open Go.Proofs.YtapnakfhkdcfeaaGreatDoorW.PrintWords Go.Proofs.YtapnakfhkdcfeaaGreatDoorW.PrintMore Go.Proofs.YtapnakfhkdcfeaaGreatDoorW.PrintLast
attribute [local irreducible] sumB

theorem empty_f : digest_List.f [emptyWord] = some emptyB := by
  have h := joinL_le 1000 (by omega) [emptyWord] (fun s hs => by rw [List.mem_singleton] at hs; subst hs; decide)
  unfold digest_List.f
  rw [if_pos (by simp only [List.length_cons, List.length_nil] at h; exact Nat.le_trans h (by decide))]
  rfl

theorem cell_set {b : Nat} {W : World} {v0 v : Value} {t : TypeId} (h : W.heap[b]? = some (.cells #[v0] t (0, 0))) : (W.setCell ⟨b, 0, none⟩ v).heap[b]? = some (.cells #[v] t (0, 0)) := by
  simp [World.setCell, Array.getElem?_modify, h]
set_option maxHeartbeats 4000000 in
set_option maxRecDepth 100000 in
theorem total_calls (A : Option Addr) (c : Nat) (l : List ByteArray) (w : World) (hr : Kd.C Kd.string w A l.length l) (hc : l.length ≤ c) (hm : l.length ≤ 1000000)
    (hs : ∀ s ∈ l, s.size ≤ 1000) (hT : Tabs w) :
    Calls Tryz.prog 23 #[.slice A l.length c] w fun e w' => e = .returned (.string (rootB l)) ∧ Below w.heap.size w w' := by
  have HR := Lib.hid hr
  have HT := Lib.hid hT
  have HC := Lib.hid hc
  have HB0 : Hid (Below w.heap.size w (w.alloc (.cells #[.func (.func 51) #[] #[.pointer (some ⟨w.heap.size, 0, none⟩)]] 35 (0, 0)))) := (Below.refl _ _).alloc (Nat.le_refl _) _
  have HS0 : Hid (SumAt w.heap.size (w.alloc (.cells #[.func (.func 51) #[] #[.pointer (some ⟨w.heap.size, 0, none⟩)]] 35 (0, 0)))) := by show SumAt _ _; exact heap_alloc_new w _
  by_cases h0 : l.length = 0
  · have c1 : ((l.length : Int) == 0) = true := beq_iff_eq.mpr (by omega)
    have hroot : rootB l = emptyB := by unfold rootB; rw [if_pos h0]
    rw [hroot]
    obtain ⟨y, hy⟩ : ∃ y_ : List ByteArray, y_ = [emptyWord] := ⟨_, rfl⟩
    have NY := Lib.hid hy
    have A2 : Hid (digest_List.f y = some emptyB) := by show _ = _; rw [hy]; exact empty_f
    have HB := HB0
    clear hr hc hm hs hT hroot h0 hy
    go_enter Tryz.func23, Tryz.ntmps23
    go_wp2_with (first | ((with_reducible refine gate_dst (N := 8) rfl ?_); refine Kd.R_lit Kd.string _ 9 ?hg (N := 8) ?hd (xs := ([(⟨#[101, 109, 112, 116, 121]⟩ : ByteArray)] : List ByteArray)) (inner := [.string (⟨#[101, 109, 112, 116, 121]⟩ : ByteArray)]) (ok := fun _ => True) (okp := fun _ => True) ?hr ?hp (fun _ hk => hk) trivial (Below.refl _ _) (Nat.le_refl _) (by simp) ?_; (case hd => rfl); (case hg => rfl); (case hr => first | (go_simp; done) | (go_simp; rfl)); (case hp => exact (Reps.one (show Kd.M Kd.string _ _ _ (⟨#[101, 109, 112, 116, 121]⟩ : ByteArray) [.string (⟨#[101, 109, 112, 116, 121]⟩ : ByteArray)] from rfl) (Reps.none _ _))); intro v106 w3 ho4 hb hg_ hnew_; clear hg_ hnew_; rw [show ([(⟨#[101, 109, 112, 116, 121]⟩ : ByteArray)] : List ByteArray) = y from NY.out.symm] at ho4; have n0_ := Lib.hid (Kd.R_lower ho4 (below_size HB.out)); have n1_ := Lib.hid (below_step HB.out hb); clear HB; have HO107 := n0_; have HB := n1_; clear n0_ n1_; clear hb ho4; obtain ⟨Ao5, co5, eo5⟩ := Kd.R_slice HO107.out; subst eo5) | ((with_reducible refine gate_callee (f := 19) rfl ?_); refine goesL_ (some 9) rfl rfl Tryz.func19 (by kernel_rfl) rfl #[.slice Ao5 y.length co5] rfl (by (try simp only [List.map_toArray, List.map_cons, List.map_nil]); first | done | rfl | (simp only [List.length_drop, List.length_take]; rfl)) ?_; (with_reducible refine (digest_List.calls _ _ y emptyB _ ?side1 ?side2 ?side3 A2.out).mono ?_); (case side1 => exact (Kd.R_reads' HO107.out).2.2); (case side2 => exact (Kd.R_reads' HO107.out).2.1); (case side3 => exact HT.out.below HB.out); rintro e w6 ⟨rfl, hb⟩; refine ⟨_, rfl, ?_⟩; have HB6 := Lib.hid (below_step HB.out hb); clear hb))
    go_ret
    exact ⟨by first | rfl | simp, HB6.out⟩
  · have c1 : ((l.length : Int) == 0) = false := beq_eq_false_iff_ne.mpr (by omega)
    have hroot : rootB l = rootTo l.length l := by unfold rootB; rw [if_neg h0]
    rw [hroot]
    have HX : Hid (1 ≤ l.length ∧ l.length ≤ 1000000 ∧ ∀ s ∈ l, s.size ≤ 1000) := ⟨by omega, hm, hs⟩
    clear hr hc hm hs hT hroot h0
    go_enter Tryz.func23, Tryz.ntmps23
    go_wp2_with (go_at_call 51; refine (total1_calls w.heap.size l.length A c l _ (Kd.C_below HR.out HB0.out) HC.out HX.out.1 (Nat.le_refl _) HX.out.2.1 HX.out.2.2 (HT.out.below HB0.out) HS0.out).mono ?_; rintro e w1 ⟨rfl, hb⟩; have HB1 := Lib.hid (HB0.out.trans (hb.mono HB0.out.size)); clear hb)
    go_ret
    exact ⟨by first | rfl | simp, HB1.out⟩

def tree_total.f (l0 : List ByteArray) : Option ByteArray := if l0.length ≤ 1000000 ∧ ∀ s ∈ l0, s.size ≤ 1000 then some (rootB l0) else none
theorem tree_total.calls (A0 : Option Addr) (c0 : Nat) (l0 : List ByteArray) (r : ByteArray) (w : World) (hr0 : Kd.C Kd.string w A0 l0.length l0) (hc0 : l0.length ≤ c0) (hT : Tabs w) (h : tree_total.f l0 = some r) :
    Calls Tryz.prog 23 #[.slice A0 l0.length c0] w fun e w' => e = .returned (.string r) ∧ Below w.heap.size w w' := by
  unfold tree_total.f at h
  split at h
  · rename_i hs
    obtain rfl := Option.some.inj h
    exact total_calls A0 c0 l0 w hr0 hc0 hs.1 hs.2 hT
  · exact absurd h (by simp)

def tree_proper.f (l0 : List ByteArray) : Option Bool := some (l0.all isB)
theorem tree_proper.calls (A0 : Option Addr) (c0 : Nat) (l0 : List ByteArray) (r : Bool) (w : World) (hr0 : Kd.C Kd.string w A0 l0.length l0) (hc0 : l0.length ≤ c0) (h : tree_proper.f l0 = some r) :
    Calls Tryz.prog 22 #[.slice A0 l0.length c0] w fun e w' => e = .returned (.bool r) ∧ Below w.heap.size w w' := by
  obtain rfl := Option.some.inj h
  exact proper_calls A0 c0 l0 w hr0 hc0

end Go.Proofs.YtapnakfhkdcfeaaGreatDoor.Dg

set_option linter.unusedVariables false
set_option linter.unusedSimpArgs false
namespace Go.Proofs.YtapnakfhkdcfeaaGreatDoor.Dg
open Go.RowKit
open Go.Proofs.YtapnakfhkdcfeaaGreatDoorW.PrintWords Go.Proofs.YtapnakfhkdcfeaaGreatDoorW.PrintMore Go.Proofs.YtapnakfhkdcfeaaGreatDoorW.PrintLast
attribute [local irreducible] sumB

/-- Nothing but the blocks of X has changed. -/
structure Exc (X : Nat → Prop) (w w' : World) : Prop where
  os : w'.os = w.os
  tape : w'.tape = w.tape
  output : w'.output = w.output
  size : w.heap.size ≤ w'.heap.size
  block : ∀ i, i < w.heap.size → ¬ X i → w'.heap[i]? = w.heap[i]?
theorem Exc.refl (X : Nat → Prop) (w : World) : Exc X w w := ⟨rfl, rfl, rfl, Nat.le_refl _, fun _ _ _ => rfl⟩
theorem Exc.trans {X : Nat → Prop} {a b c : World} (h : Exc X a b) (k : Exc X b c) : Exc X a c :=
  ⟨k.os.trans h.os, k.tape.trans h.tape, k.output.trans h.output, Nat.le_trans h.size k.size, fun i hi hx => (k.block i (Nat.lt_of_lt_of_le hi h.size) hx).trans (h.block i hi hx)⟩
theorem Exc.mono {X Y : Nat → Prop} {a b : World} (h : Exc X a b) (hxy : ∀ i, X i → Y i) : Exc Y a b :=
  ⟨h.os, h.tape, h.output, h.size, fun i hi hy => h.block i hi fun hx => hy (hxy i hx)⟩
theorem Exc.of_below {X : Nat → Prop} {a b : World} (h : Below a.heap.size a b) : Exc X a b := ⟨h.os, h.tape, h.output, h.size, fun i hi _ => h.block i hi⟩
theorem Exc.below {X : Nat → Prop} {a b : World} {B : Nat} (h : Exc X a b) (hB : B ≤ a.heap.size) (hX : ∀ i, X i → B ≤ i) : Below B a b :=
  ⟨h.os, h.tape, h.output, h.size, fun i hi => h.block i (Nat.lt_of_lt_of_le hi hB) fun hx => absurd (hX i hx) (by omega)⟩

/-- A variable that holds a list. -/
structure LC (bl : Nat) (A : Option Addr) (c : Nat) (l : List ByteArray) (w : World) : Prop where
  at_ : w.heap[bl]? = some (.cells #[.slice A l.length c] 37 (0, 0))
  rd : Kd.C Kd.string w A l.length l
  cap : l.length ≤ c
theorem LC.lt {bl : Nat} {A : Option Addr} {c : Nat} {l : List ByteArray} {w : World} (h : LC bl A c l w) : bl < w.heap.size := (Array.getElem?_eq_some_iff.1 h.at_).1
theorem LC.cell {bl : Nat} {A : Option Addr} {c : Nat} {l : List ByteArray} {w : World} (h : LC bl A c l w) : w.cell? ⟨bl, 0, none⟩ = some (.slice A l.length c) := by rw [Lib.cell_of_heap h.at_]; rfl
theorem LC.frozen {bl : Nat} {A : Option Addr} {c : Nat} {l : List ByteArray} {w : World} (h : LC bl A c l w) : w.frozen? ⟨bl, 0, none⟩ = false := Lib.frozen_of_heap h.at_ 0
/-- The row of a list lies in no block that holds no text. -/
theorem rd_ne {A : Option Addr} {l : List ByteArray} {w : World} {b : Nat} {cs : Array Value} {t : TypeId} {fz : Nat × Nat} (hr : Kd.C Kd.string w A l.length l) (hb : w.heap[b]? = some (.cells cs t fz)) (hc : ∀ (i : Nat) (s : ByteArray), cs[i]? ≠ some (Value.string s)) :
    ∀ ad, A = some ad → 0 < l.length → ad.block ≠ b := by
  intro ad hA h0 e
  obtain ⟨ad', h1, hcell⟩ := Kd.at_string hr 0 (by omega) (by omega)
  obtain rfl : ad = ad' := Option.some.inj (hA.symm.trans h1)
  subst e
  unfold World.cell? at hcell
  have e2 : (ad.add (0 : Int).toNat).block = ad.block := rfl
  rw [e2, hb] at hcell
  dsimp only at hcell
  split at hcell
  · exact absurd hcell (by simp)
  · exact hc _ _ hcell
theorem cell_exc {X : Nat → Prop} {w w' : World} (h : Exc X w w') (a : Addr) (v : Value) (hx : ¬ X a.block) (hc : w.cell? a = some v) : w'.cell? a = some v := by
  have hlt : a.block < w.heap.size := by
    unfold World.cell? at hc
    split at hc
    · rename_i h1; exact (Array.getElem?_eq_some_iff.1 h1).1
    · exact absurd hc (by simp)
  unfold World.cell? at hc ⊢
  rw [h.block a.block hlt hx]; exact hc
theorem add_block (ad : Addr) (j : Nat) : ad.block = (ad.add j).block := by unfold Addr.add; split <;> rfl
theorem rd_exc {X : Nat → Prop} {A : Option Addr} {n : Nat} {l : List ByteArray} {w w' : World} (hr : Kd.C Kd.string w A n l) (h : Exc X w w') (hx : ∀ ad, A = some ad → 0 < n → ¬ X ad.block) : Kd.C Kd.string w' A n l := by
  have q := Kd.reads_of_C (enc := Value.string) (d := ByteArray.empty) (h1 := fun _ => rfl) hr
  refine Kd.C_of_reads (d := ByteArray.empty) ⟨q.1, q.2.1, fun h0 => ?_⟩
  obtain ⟨ad, hA, hc⟩ := q.2.2 h0
  exact ⟨ad, hA, fun j hj => cell_exc h _ _ (add_block ad j ▸ hx ad hA h0) (hc j hj)⟩
theorem rd_take {A : Option Addr} {l : List ByteArray} {w : World} (hr : Kd.C Kd.string w A l.length l) (m : Nat) (hm : m ≤ l.length) : Kd.C Kd.string w A m (l.take m) := by
  have q := Kd.reads_of_C (enc := Value.string) (d := ByteArray.empty) (h1 := fun _ => rfl) hr
  refine Kd.C_of_reads (d := ByteArray.empty) ⟨by rw [List.length_take]; omega, by have := q.2.1; omega, fun h0 => ?_⟩
  obtain ⟨ad, hA, hc⟩ := q.2.2 (by omega)
  refine ⟨ad, hA, fun j hj => ?_⟩
  rw [hc j (by omega)]
  simp [List.getD, List.getElem?_take, hj]
theorem LC.row {bl : Nat} {A : Option Addr} {c : Nat} {l : List ByteArray} {w : World} (h : LC bl A c l w) : ∀ ad, A = some ad → 0 < l.length → ad.block ≠ bl :=
  rd_ne h.rd h.at_ fun i s => by
    match i with
    | 0 => simp
    | i + 1 => simp
theorem LC.exc {X : Nat → Prop} {bl : Nat} {A : Option Addr} {c : Nat} {l : List ByteArray} {w w' : World} (h : LC bl A c l w) (k : Exc X w w') (hb : ¬ X bl) (hx : ∀ ad, A = some ad → 0 < l.length → ¬ X ad.block) : LC bl A c l w' :=
  ⟨by rw [k.block bl h.lt hb]; exact h.at_, rd_exc h.rd k hx, h.cap⟩

theorem exc_set (w : World) (b : Nat) (o : Nat) (v : Value) : Exc (fun i => i = b) w (w.setCell ⟨b, o, none⟩ v) := by
  refine ⟨rfl, rfl, rfl, by simp [World.setCell], fun i hi hx => ?_⟩
  simp only [World.setCell]
  rw [Array.getElem?_modify, if_neg (fun e => hx e.symm)]

theorem Exc.drew {X : Nat → Prop} {a b : World} (h : Exc X a b) : Exc X a b.drew := ⟨h.os, h.tape, h.output, h.size, h.block⟩
theorem LC.drew {bl : Nat} {A : Option Addr} {c : Nat} {l : List ByteArray} {w : World} (h : LC bl A c l w) : LC bl A c l w.drew := h.exc (X := fun _ => False) ((Exc.refl _ w).drew) (fun h => h) (fun _ _ _ h => h)
theorem LC.popped {bl : Nat} {A : Option Addr} {c : Nat} {l : List ByteArray} {w : World} (h : LC bl A c l w) (h0 : 0 < l.length) : LC bl A c l.dropLast (w.setCell ⟨bl, 0, none⟩ (.slice A (l.length - 1) c)) := by
  have e : l.dropLast.length = l.length - 1 := List.length_dropLast
  refine ⟨?_, ?_, by rw [e]; have := h.cap; omega⟩
  · rw [e]; exact cell_set h.at_
  · rw [e, List.dropLast_eq_take]
    refine rd_exc (rd_take h.rd (l.length - 1) (by omega)) (exc_set w bl 0 _) fun ad hA h1 hx => h.row ad hA h0 hx

/-- The last text of a list; the empty one if there is none. -/
def lastB (l : List ByteArray) : ByteArray := l.getLastD ByteArray.empty
theorem lastB_at (l : List ByteArray) (h : 0 < l.length) : rdOf ByteArray.empty l ((l.length : Int) - 1) = lastB l := by
  obtain ⟨n, hn⟩ : ∃ n : Nat, l.length = n + 1 := ⟨l.length - 1, by omega⟩
  have e : ((l.length : Int) - 1).toNat = l.length - 1 := by omega
  simp only [rdOf, e, lastB, List.getLastD_eq_getLast?, List.getLast?_eq_getElem?, List.getD_eq_getElem?_getD]

set_option maxHeartbeats 4000000 in
set_option maxRecDepth 100000 in
theorem pop_calls (bl : Nat) (A : Option Addr) (c : Nat) (l : List ByteArray) (w : World) (h : LC bl A c l w) :
    Calls Tryz.prog 57 #[.pointer (some ⟨bl, 0, none⟩)] w fun e w' => e = .returned (.string (lastB l)) ∧ LC bl A c l.dropLast w' ∧ Exc (fun i => i = bl) w w' := by
  have H := Lib.hid h
  have hcell := h.cell
  have hfro := h.frozen
  by_cases h0 : l.length = 0
  · obtain rfl : l = [] := List.length_eq_zero_iff.1 h0
    have c1 : (((([] : List ByteArray).length : Nat) : Int) == 0) = true := rfl
    clear h
    go_enter Tryz.func57, Tryz.ntmps57
    go_wp2
    go_ret
    exact ⟨by first | rfl | simp [lastB], H.out, Exc.refl _ _⟩
  · have c1 : ((l.length : Int) == 0) = false := beq_eq_false_iff_ne.mpr (by omega)
    obtain ⟨ad, rfl, hat⟩ := Kd.at_string h.rd ((l.length : Int) - 1) (by omega) (by omega)
    rw [lastB_at l (by omega)] at hat
    have HX : Hid (0 < l.length) := by show 0 < _; omega
    rw [show ((l.length : Int) - 1).toNat = l.length - 1 by omega] at hat
    have hw1 : wrap64 ((l.length : Int) - 1) = (l.length : Int) - 1 := by have := h.rd.2.1; unfold wrap64; omega
    have hq0 : (0 : Int) ≤ (l.length : Int) - 1 := by omega
    have hq1 : (l.length : Int) - 1 < (l.length : Int) := by omega
    have hq2 : (l.length : Int) - 1 ≤ (l.length : Int) := by omega
    clear h
    go_enter Tryz.func57, Tryz.ntmps57
    go_wp2
    obtain ⟨i016, hi016, _, hsz16, _⟩ := info_parts infoS
    obtain ⟨hcut, hA16, hC16⟩ := print_take_of (P := Tryz.prog) Value.string (⟨#[]⟩ : ByteArray) 37 9 .i64 Tryz.underlying37 hi016 hsz16 (some ad) c l ((l.length : Int) - 1) hq0 hq2 H.out.cap
    rw [show ((l.length : Int) - 1).toNat = l.length - 1 by omega, show (l.take (l.length - 1)).length = l.length - 1 by rw [List.length_take]; omega] at hcut
    clear hA16 hC16 hi016 hsz16
    go_region
    go_wp2
    go_region
    go_wp2
    go_ret
    exact ⟨rfl, (LC.popped H.out HX.out).drew.drew, (exc_set w bl 0 _).drew.drew⟩

/-- What is left of a proof. -/
structure PS (bl bp : Nat) (A : Option Addr) (c : Nat) (l : List ByteArray) (sh : Bool) (w : World) : Prop where
  lc : LC bl A c l w
  pc : w.heap[bp]? = some (.cells #[.pointer (some ⟨bl, 0, none⟩), .bool sh] 47 (0, 0))
theorem PS.lt {bl bp : Nat} {A : Option Addr} {c : Nat} {l : List ByteArray} {sh : Bool} {w : World} (h : PS bl bp A c l sh w) : bp < w.heap.size := (Array.getElem?_eq_some_iff.1 h.pc).1
theorem PS.ne {bl bp : Nat} {A : Option Addr} {c : Nat} {l : List ByteArray} {sh : Bool} {w : World} (h : PS bl bp A c l sh w) : bp ≠ bl := fun e => by
  have h1 := h.pc
  rw [e, h.lc.at_] at h1
  simp at h1
theorem PS.row {bl bp : Nat} {A : Option Addr} {c : Nat} {l : List ByteArray} {sh : Bool} {w : World} (h : PS bl bp A c l sh w) : ∀ ad, A = some ad → 0 < l.length → ad.block ≠ bp :=
  rd_ne h.lc.rd h.pc fun i s => by
    match i with
    | 0 => simp
    | 1 => simp
    | i + 2 => simp
theorem PS.cell0 {bl bp : Nat} {A : Option Addr} {c : Nat} {l : List ByteArray} {sh : Bool} {w : World} (h : PS bl bp A c l sh w) : w.cell? ⟨bp, 0, none⟩ = some (.pointer (some ⟨bl, 0, none⟩)) := by rw [Lib.cell_of_heap h.pc]; rfl
theorem PS.cell1 {bl bp : Nat} {A : Option Addr} {c : Nat} {l : List ByteArray} {sh : Bool} {w : World} (h : PS bl bp A c l sh w) : w.cell? ⟨bp, 1, none⟩ = some (.bool sh) := by rw [Lib.cell_of_heap h.pc]; rfl
theorem PS.frozen1 {bl bp : Nat} {A : Option Addr} {c : Nat} {l : List ByteArray} {sh : Bool} {w : World} (h : PS bl bp A c l sh w) : w.frozen? ⟨bp, 1, none⟩ = false := Lib.frozen_of_heap h.pc 1
theorem PS.exc {X : Nat → Prop} {bl bp : Nat} {A : Option Addr} {c : Nat} {l : List ByteArray} {sh : Bool} {w w' : World} (h : PS bl bp A c l sh w) (k : Exc X w w') (hb : ¬ X bl) (hp : ¬ X bp) (hx : ∀ ad, A = some ad → 0 < l.length → ¬ X ad.block) : PS bl bp A c l sh w' :=
  ⟨h.lc.exc k hb hx, by rw [k.block bp h.lt hp]; exact h.pc⟩
theorem PS.drew {bl bp : Nat} {A : Option Addr} {c : Nat} {l : List ByteArray} {sh : Bool} {w : World} (h : PS bl bp A c l sh w) : PS bl bp A c l sh w.drew := ⟨h.lc.drew, h.pc⟩
/-- The flag is set anew. -/
theorem PS.flag {bl bp : Nat} {A : Option Addr} {c : Nat} {l : List ByteArray} {sh sh' : Bool} {w : World} (h : PS bl bp A c l sh w) : PS bl bp A c l sh' (w.setCell ⟨bp, 1, none⟩ (.bool sh')) := by
  refine ⟨h.lc.exc (exc_set w bp 1 _) (fun e => h.ne e.symm) (fun ad hA h0 e => h.row ad hA h0 e), ?_⟩
  have := h.pc
  simp [World.setCell, Array.getElem?_modify, this]

set_option maxHeartbeats 4000000 in
set_option maxRecDepth 100000 in
theorem next_calls (bl bp : Nat) (A : Option Addr) (c : Nat) (l : List ByteArray) (sh : Bool) (w : World) (h : PS bl bp A c l sh w) :
    Calls Tryz.prog 34 #[.pointer (some ⟨bp, 0, none⟩)] w fun e w' => e = .returned (.string (lastB l)) ∧ PS bl bp A c l.dropLast (sh || decide ((lastB l).size = 0)) w' ∧ Exc (fun i => i = bl ∨ i = bp) w w' := by
  have H := Lib.hid h
  have hcell := h.cell0
  clear h
  go_enter Tryz.func34, Tryz.ntmps34
  go_wp2_with fail
  refine (pop_calls bl A c l _ H.out.lc).mono ?_
  rintro e w1 ⟨rfl, hl1, he1⟩
  have hp1 : PS bl bp A c l.dropLast sh w1 := ⟨hl1, by rw [he1.block bp H.out.lt H.out.ne]; exact H.out.pc⟩
  have hc1 := hp1.cell1
  have hf1 := hp1.frozen1
  have HP := Lib.hid hp1
  have HE : Hid (Exc (fun i => i = bl ∨ i = bp) w w1) := he1.mono fun i hi => Or.inl hi
  obtain ⟨d, hd⟩ : ∃ d, lastB l = d := ⟨_, rfl⟩
  have HD := Lib.hid hd
  rw [hd]
  clear hl1 he1 hp1 hcell hd
  have fin : ∀ sh', Exc (fun i => i = bl ∨ i = bp) w (w1.setCell ⟨bp, 1, none⟩ (.bool sh')) := fun sh' => HE.out.trans ((exc_set w1 bp 1 _).mono fun i hi => Or.inr hi)
  have HF := Lib.hid fin
  clear fin
  cases sh
  · by_cases h0 : d.size = 0
    · have hde : d = (⟨#[]⟩ : ByteArray) := by cases d with | mk a => cases a with | mk l => cases l with | nil => rfl | cons x y => exact absurd h0 (by simp [ByteArray.size])
      subst hde
      go_wp2
      go_ret
      exact ⟨by rw [HD.out]; rfl, by rw [HD.out]; exact HP.out.flag, HF.out _⟩
    · have hd1 : d.toList.isEmpty = false := by
        rw [ByteArray.toList_eq]
        cases hl : d.data.toList with
        | nil => exact absurd (by rw [Lib.size_eq, hl]; rfl) h0
        | cons x y => rfl
      have HN : Hid (decide (d.size = 0) = false) := decide_eq_false h0
      clear h0
      go_wp2
      go_ret
      exact ⟨by rw [HD.out]; rfl, by rw [HD.out, HN.out]; exact HP.out.flag, HF.out _⟩
  · go_wp2
    go_ret
    exact ⟨by rw [HD.out]; rfl, by rw [HD.out]; exact HP.out.flag, HF.out _⟩

set_option maxHeartbeats 4000000 in
set_option maxRecDepth 100000 in
theorem done_calls (bl bp : Nat) (A : Option Addr) (c : Nat) (l : List ByteArray) (sh : Bool) (w : World) (h : PS bl bp A c l sh w) :
    Calls Tryz.prog 36 #[.pointer (some ⟨bp, 0, none⟩)] w fun e w' => e = .returned (.bool (!sh && decide (l.length = 0))) ∧ Exc (fun _ => False) w w' := by
  have hc0 := h.cell0
  have hc1 := h.cell1
  have hc2 := h.lc.cell
  cases sh
  · by_cases h0 : l.length = 0
    · have c1 : ((l.length : Int) == 0) = true := beq_iff_eq.mpr (by omega)
      have HN : Hid (decide (l.length = 0) = true) := decide_eq_true h0
      clear h h0
      go_enter Tryz.func36, Tryz.ntmps36
      go_wp2
      go_ret
      exact ⟨by rw [HN.out]; rfl, by repeat (first | exact Exc.refl _ _ | apply Exc.drew)⟩
    · have c1 : ((l.length : Int) == 0) = false := beq_eq_false_iff_ne.mpr (by omega)
      have HN : Hid (decide (l.length = 0) = false) := decide_eq_false h0
      clear h h0
      go_enter Tryz.func36, Tryz.ntmps36
      go_wp2
      go_ret
      exact ⟨by rw [HN.out]; rfl, by repeat (first | exact Exc.refl _ _ | apply Exc.drew)⟩
  · clear h
    go_enter Tryz.func36, Tryz.ntmps36
    go_wp2
    go_ret
    exact ⟨rfl, by repeat (first | exact Exc.refl _ _ | apply Exc.drew)⟩

end Go.Proofs.YtapnakfhkdcfeaaGreatDoor.Dg

set_option linter.unusedVariables false
set_option linter.unusedSimpArgs false
namespace Go.Proofs.YtapnakfhkdcfeaaGreatDoor.Dg
open Go.RowKit
open Go.Proofs.YtapnakfhkdcfeaaGreatDoorW.PrintWords Go.Proofs.YtapnakfhkdcfeaaGreatDoorW.PrintMore Go.Proofs.YtapnakfhkdcfeaaGreatDoorW.PrintLast

set_option maxHeartbeats 4000000 in
set_option maxRecDepth 100000 in
theorem clone_calls (A : Option Addr) (c : Nat) (l : List ByteArray) (w : World) (hr : Kd.C Kd.string w A l.length l) (hc : l.length ≤ c) (hl : l.length ≤ 1000000) :
    Calls Tryz.prog 31 #[.slice A l.length c] w fun e w' => ∃ A' c', e = .returned (.slice A' l.length c') ∧ Kd.C Kd.string w' A' l.length l ∧ l.length ≤ c' ∧ Below w.heap.size w w' := by
  have HR := Lib.hid hr
  have HL := Lib.hid hl
  cases A with
  | none =>
    have h0 : l = [] := by
      rcases Nat.eq_zero_or_pos l.length with h0 | h0
      · exact List.length_eq_zero_iff.1 h0
      · obtain ⟨ad, h1, _⟩ := Kd.at_string hr 0 (by omega) (by omega)
        exact absurd h1 (by simp)
    subst h0
    clear hr hl
    have hnil : ∀ (a : Option Addr) (n m : Nat) (W : World), (binOp .eql 22 (.slice a n m) (.slice none 0 0)).run Tryz.prog W = .ok (.bool a.isNone) W := fun a n m W => by apply Lib.run_eql_slice_nil; exact Tryz.underlying22
    go_enter Tryz.func31, Tryz.ntmps31
    go_wp2
    go_ret
    exact ⟨none, 0, rfl, Kd.C_of_reads (d := ByteArray.empty) ⟨rfl, by simp, fun h0 => by simp at h0⟩, Nat.le_refl _, Below.refl _ _⟩
  | some ad =>
    clear hr hl
    have HB := Lib.hid (Below.refl w.heap.size w)
    have hnil : ∀ (a : Option Addr) (n m : Nat) (W : World), (binOp .eql 22 (.slice a n m) (.slice none 0 0)).run Tryz.prog W = .ok (.bool a.isNone) W := fun a n m W => by apply Lib.run_eql_slice_nil; exact Tryz.underlying22
    go_enter Tryz.func31, Tryz.ntmps31
    go_wp2_with (first
      | ((with_reducible refine gate_dst (N := 5) rfl ?_); refine Kd.R_lit Kd.string _ 9 ?hg (N := 5) ?hd (xs := ([] : List ByteArray)) (inner := []) (ok := fun _ => True) (okp := fun _ => True) ?hr ?hp (fun _ hk => hk) trivial (Below.refl _ _) (Nat.le_refl _) (by simp) ?_; (case hd => rfl); (case hg => rfl); (case hr => first | (go_simp; done) | (go_simp; rfl)); (case hp => exact (Reps.none _ _)); intro v1 w1 ho1 hb1 hg_ hnew_; clear hg_ hnew_; have HO1 := Lib.hid ho1; have HB1 := Lib.hid hb1; have HR1 := Lib.hid (Kd.C_below HR.out hb1); clear ho1 hb1 HB)
      | ((with_reducible refine gate_dst (N := 7) rfl ?_); at_builtin; refine Kd.R_append_rows Kd.string (w0 := w) w.heap.size rfl (.tmp 5) (.tmp 6) 22 9 (.string ⟨#[]⟩) 16 rfl Tryz.underlying22 infoS rfl (by decide) (by omega) v1 [] l (some ad) l.length c (fun _ => True) (fun _ => False) rfl rfl HO1.out HR1.out (fun _ _ h => h) (fun _ h => h.elim) (fun _ _ => trivial) HB1.out HB1.out.size (by have := HL.out; simp only [List.length_nil]; omega) ?_; intro v2 w2 ho2 hb2 hg2 hat2; rw [List.nil_append] at ho2; have HO2 := Lib.hid ho2; have HB2 := Lib.hid hb2; clear ho2 hb2 hg2 hat2))
    obtain ⟨A2, c2, e2⟩ := Kd.R_slice HO2.out
    subst e2
    go_ret
    exact ⟨A2, c2, rfl, (Kd.R_reads' HO2.out).2.2, (Kd.R_reads' HO2.out).2.1, HB2.out⟩

end Go.Proofs.YtapnakfhkdcfeaaGreatDoor.Dg
