-- printed by wip/tools/oprint.py over the kit's print.py: this session's own program
import Derived.Test.YtapnakfhkdcfeaaDoorPx0
import Derived.Test.YtapnakfhkdcfeaaDoorPx7
namespace Go.Proofs.YtapnakfhkdcfeaaDoor.P
open Go.RowKit Go.Proofs.YtapnakfhkdcfeaaDoorW.PrintWords Go.Proofs.YtapnakfhkdcfeaaDoorW.PrintLast Go.Proofs.YtapnakfhkdcfeaaDoorW.PrintMore
attribute [local go_sem] max2_int min2_int max_two min_two max_three min_three max_four min_four   -- for this text's walks alone
set_option linter.unusedVariables false
set_option linter.unusedSimpArgs false
open Go.Proofs.YtapnakfhkdcfeaaDoor.Dg

/-! ### observatoryref02_both: function 41 -/
def observatoryref02_both.f : Nat → Int → Int → Bool → ByteArray → List ByteArray → Option (ByteArray × ByteArray)
 | 0, _, _, _, _, _ => none
 | k + 1, a0, a1, a2, a3, l4 => if a1 = a0 then (if a2 = true then (some (a3, a3)) else (if 0 < (l4.length : Int) then (some (rdOf ByteArray.empty l4 0, rdOf ByteArray.empty l4 0)) else (none))) else ((observatoryref02_Half.f k a0).bind fun t450 => (if 0 ≤ (wrap64 ((l4.length : Int) - 1)) then (if (wrap64 ((l4.length : Int) - 1)) < (l4.length : Int) then (if (wrap64 ((l4.length : Int) - 1)) ≤ (l4.length : Int) then (if a1 ≤ t450 then ((observatoryref02_both.f k t450 a1 a2 a3 (l4.take ((wrap64 ((l4.length : Int) - 1)) : Int).toNat)).bind fun bt453 => ((observatoryref02_node.f k bt453.2 (rdOf ByteArray.empty l4 (wrap64 ((l4.length : Int) - 1)))).bind fun t455 => (some (bt453.1, t455)))) else ((observatoryref02_both.f k (wrap64 (a0 - t450)) (wrap64 (a1 - t450)) false a3 (l4.take ((wrap64 ((l4.length : Int) - 1)) : Int).toNat)).bind fun bt456 => ((observatoryref02_node.f k (rdOf ByteArray.empty l4 (wrap64 ((l4.length : Int) - 1))) bt456.1).bind fun t458 => ((observatoryref02_node.f k (rdOf ByteArray.empty l4 (wrap64 ((l4.length : Int) - 1))) bt456.2).bind fun t459 => (some (t458, t459)))))) else (none)) else (none)) else (none)))
theorem observatoryref02_both.mono_l : ∀ k, (∀ y0 y1 y2 y3 y4, LeO (observatoryref02_both.f k y0 y1 y2 y3 y4) (observatoryref02_both.f (k + 1) y0 y1 y2 y3 y4))
 | 0 => fun _ _ _ _ _ r h => by simp [observatoryref02_both.f] at h
 | k + 1 => by
  have ih0 := observatoryref02_both.mono_l k
  ·
   intro y0 y1 y2 y3 y4
   unfold observatoryref02_both.f
   repeat' first
   | (with_reducible exact ih0 _ _ _ _ _)
   | (with_reducible exact observatoryref02_Half.mono _ _)
   | (with_reducible exact observatoryref02_node.mono _ _ _)
   | (with_reducible exact LeO.refl _)
   | (with_reducible exact LeO.none _)
   | (with_reducible refine LeO.ite ?_ ?_)
   | (with_reducible refine LeO.bind ?_ (fun _ => ?_))
   | exact ih0 _ _ _ _ _
   | exact observatoryref02_Half.mono _ _
   | exact observatoryref02_node.mono _ _ _
   | exact LeO.none _
   | refine LeO.ite ?_ ?_
   | refine LeO.bind ?_ (fun _ => ?_)
theorem observatoryref02_both.mono : ∀ a0 a1 a2 a3 a4 k, LeO (observatoryref02_both.f k a0 a1 a2 a3 a4) (observatoryref02_both.f (k + 1) a0 a1 a2 a3 a4) := by
 intro a0 a1 a2 a3 a4 k
 have ih0 := observatoryref02_both.mono_l k
 exact ih0 a0 a1 a2 a3 a4
set_option maxHeartbeats 8000000 in
set_option maxRecDepth 100000 in
theorem observatoryref02_both.calls (k : Nat) : ∀ (a0 : Int) (a1 : Int) (a2 : Bool) (a3 : ByteArray) (A4 : Option Addr) (c4 : Nat) (l4 : List ByteArray) (r1 : ByteArray) (r2 : ByteArray) (w : World) (hr4 : Kd.C Kd.string w A4 l4.length l4) (hc4 : l4.length ≤ c4) (h : observatoryref02_both.f k a0 a1 a2 a3 l4 = some (r1, r2)),
  Calls Tryd.prog 41 #[.int .i64 a0, .int .i64 a1, .bool a2, .string a3, .slice A4 l4.length c4] w fun e w' => e = .returned (.tuple #[.string r1, .string r2]) ∧ Below w.heap.size w w' := by
 induction k using Nat.strongRecOn with
 | _ k ih =>
 intro a0 a1 a2 a3 A4 c4 l4 r1 r2 w hr4 hc4 h
 cases k with
 | zero => exact absurd h (by simp [observatoryref02_both.f])
 | succ k =>
 simp only [observatoryref02_both.f] at h
 have HR4 := Aside0.mk hr4
 have HC4 := Aside0.mk hc4
 clear hr4 hc4
 have HB := Aside0.mk (Below.refl w.heap.size w)
 have H : (if a1 = a0 then (if a2 = true then (some (a3, a3)) else (if 0 < (l4.length : Int) then (some (rdOf ByteArray.empty l4 0, rdOf ByteArray.empty l4 0)) else (none))) else ((observatoryref02_Half.f k a0).bind fun t450 => (if 0 ≤ (wrap64 ((l4.length : Int) - 1)) then (if (wrap64 ((l4.length : Int) - 1)) < (l4.length : Int) then (if (wrap64 ((l4.length : Int) - 1)) ≤ (l4.length : Int) then (if a1 ≤ t450 then ((observatoryref02_both.f k t450 a1 a2 a3 (l4.take ((wrap64 ((l4.length : Int) - 1)) : Int).toNat)).bind fun bt453 => ((observatoryref02_node.f k bt453.2 (rdOf ByteArray.empty l4 (wrap64 ((l4.length : Int) - 1)))).bind fun t455 => (some (bt453.1, t455)))) else ((observatoryref02_both.f k (wrap64 (a0 - t450)) (wrap64 (a1 - t450)) false a3 (l4.take ((wrap64 ((l4.length : Int) - 1)) : Int).toNat)).bind fun bt456 => ((observatoryref02_node.f k (rdOf ByteArray.empty l4 (wrap64 ((l4.length : Int) - 1))) bt456.1).bind fun t458 => ((observatoryref02_node.f k (rdOf ByteArray.empty l4 (wrap64 ((l4.length : Int) - 1))) bt456.2).bind fun t459 => (some (t458, t459)))))) else (none)) else (none)) else (none)))) = some (r1, r2) := h
 clear h
 by_cases c6 : a1 = a0
 ·
  rw [if_pos c6] at H
  have c6b0 : (a1 == a0) = true := beq_iff_eq.mpr c6
  have c6b1 : (a1 != a0) = false := bne_eq_false_iff_eq.mpr c6
  clear c6
  by_cases c7 : a2 = true
  ·
   subst c7
   have H1 : (some (a3, a3)) = some (r1, r2) := by rw [if_pos rfl] at H; exact H
   clear H
   have H := H1
   clear H1
   simp only [Option.some.injEq, Prod.mk.injEq] at H
   obtain ⟨rfl, rfl⟩ := H
   go_enter Tryd.func41, Tryd.ntmps41
   go_wp2
   repeat (go_quiet (fail); try go_wp2)
   go_ret2
   exact ⟨by first | rfl | (simp [errW_none, errW_some] <;> rfl) | (simp [*, errW_none, errW_some] <;> rfl), by repeat (first | (with_reducible first | exact HB.out | apply below_alloc | apply pw_below_drewN | apply below_drew1) | exact HB.out)⟩
  ·
   replace c7 := Bool.eq_false_iff.mpr c7
   subst c7
   have H1 : (if 0 < (l4.length : Int) then (some (rdOf ByteArray.empty l4 0, rdOf ByteArray.empty l4 0)) else (none)) = some (r1, r2) := by rw [if_neg (show ¬ (false = true) by decide)] at H; exact H
   clear H
   have H := H1
   clear H1
   by_cases c8 : 0 < (l4.length : Int)
   ·
    rw [if_pos c8] at H
    have c8b0 : decide (0 < (l4.length : Int)) = true := decide_eq_true c8
    have c8b1 : decide (0 < l4.length) = true := decide_eq_true (by omega)
    clear c8
    simp only [Option.some.injEq, Prod.mk.injEq] at H
    obtain ⟨rfl, rfl⟩ := H
    have p448 : 0 ≤ (0 : Int) := (by omega)
    have q448 : 0 < (l4.length : Int) := of_decide_eq_true (by first | (with_reducible assumption) | assumption)
    obtain ⟨ad448, e448, hx448_0⟩ := Kd.at_string HR4.out 0 p448 q448
    cases e448
    have qi448 : (0 < l4.length) = True := eq_true (by omega)
    (try rw [show ((0 : Int)).toNat = 0 from rfl] at hx448_0)
    (try rw [Addr.add_zero'] at hx448_0)
    replace p448 := eq_true p448
    replace q448 := eq_true q448
    have p449 : 0 ≤ (0 : Int) := (by omega)
    have q449 : 0 < (l4.length : Int) := of_decide_eq_true (by first | (with_reducible assumption) | assumption)
    obtain ⟨ad449, e449, hx449_0⟩ := Kd.at_string HR4.out 0 p449 q449
    obtain rfl : ad448 = ad449 := (by injection e449)
    have qi449 : (0 < l4.length) = True := eq_true (by omega)
    (try rw [show ((0 : Int)).toNat = 0 from rfl] at hx449_0)
    (try rw [Addr.add_zero'] at hx449_0)
    replace p449 := eq_true p449
    replace q449 := eq_true q449
    go_enter Tryd.func41, Tryd.ntmps41
    go_wp2
    repeat (go_quiet (fail); try go_wp2)
    go_ret2
    exact ⟨by first | rfl | (simp [errW_none, errW_some] <;> rfl) | (simp [*, errW_none, errW_some] <;> rfl), by repeat (first | (with_reducible first | exact HB.out | apply below_alloc | apply pw_below_drewN | apply below_drew1) | exact HB.out)⟩
   ·
    rw [if_neg c8] at H
    exact absurd H (by simp)
 ·
  rw [if_neg c6] at H
  have c6b0 : (a1 == a0) = false := beq_eq_false_iff_ne.mpr c6
  have c6b1 : (a1 != a0) = true := bne_iff_ne.mpr c6
  replace H := Option.bind_eq_some_iff.mp H
  obtain ⟨t450, A90, H⟩ := H
  replace H : (if 0 ≤ (wrap64 ((l4.length : Int) - 1)) then (if (wrap64 ((l4.length : Int) - 1)) < (l4.length : Int) then (if (wrap64 ((l4.length : Int) - 1)) ≤ (l4.length : Int) then (if a1 ≤ t450 then ((observatoryref02_both.f k t450 a1 a2 a3 (l4.take ((wrap64 ((l4.length : Int) - 1)) : Int).toNat)).bind fun bt453 => ((observatoryref02_node.f k bt453.2 (rdOf ByteArray.empty l4 (wrap64 ((l4.length : Int) - 1)))).bind fun t455 => (some (bt453.1, t455)))) else ((observatoryref02_both.f k (wrap64 (a0 - t450)) (wrap64 (a1 - t450)) false a3 (l4.take ((wrap64 ((l4.length : Int) - 1)) : Int).toNat)).bind fun bt456 => ((observatoryref02_node.f k (rdOf ByteArray.empty l4 (wrap64 ((l4.length : Int) - 1))) bt456.1).bind fun t458 => ((observatoryref02_node.f k (rdOf ByteArray.empty l4 (wrap64 ((l4.length : Int) - 1))) bt456.2).bind fun t459 => (some (t458, t459)))))) else (none)) else (none)) else (none)) = some (r1, r2) := H
  have A9 := Aside0.mk A90
  clear A90
  obtain ⟨ji10, hji10⟩ : ∃ j_ : Int, (wrap64 ((l4.length : Int) - 1)) = j_ := ⟨_, rfl⟩
  replace H : (if 0 ≤ (ji10) then (if (ji10) < (l4.length : Int) then (if (ji10) ≤ (l4.length : Int) then (if a1 ≤ t450 then ((observatoryref02_both.f k t450 a1 a2 a3 (l4.take ((ji10) : Int).toNat)).bind fun bt453 => ((observatoryref02_node.f k bt453.2 (rdOf ByteArray.empty l4 (ji10))).bind fun t455 => (some (bt453.1, t455)))) else ((observatoryref02_both.f k (wrap64 (a0 - t450)) (wrap64 (a1 - t450)) false a3 (l4.take ((ji10) : Int).toNat)).bind fun bt456 => ((observatoryref02_node.f k (rdOf ByteArray.empty l4 (ji10)) bt456.1).bind fun t458 => ((observatoryref02_node.f k (rdOf ByteArray.empty l4 (ji10)) bt456.2).bind fun t459 => (some (t458, t459)))))) else (none)) else (none)) else (none)) = some (r1, r2) := by first | (rw [hji10] at H; exact H) | (simp only [hji10] at H ⊢; exact H)
  (try rw [hji10] at A9)
  have hji10w : (IntKind.i64.wrap ((l4.length : Int) - 1)) = ji10 := (i64_w _).trans hji10
  by_cases c11 : 0 ≤ (ji10)
  ·
   rw [if_pos c11] at H
   have c11b0 : decide (0 ≤ (ji10)) = true := decide_eq_true c11
   clear c11
   by_cases c12 : (ji10) < (l4.length : Int)
   ·
    rw [if_pos c12] at H
    have c12b0 : decide ((ji10) < (l4.length : Int)) = true := decide_eq_true c12
    clear c12
    have c13b0 := eq_true (of_decide_eq_true (by first | (with_reducible assumption) | assumption) : 0 ≤ (ji10))
    by_cases c14 : (ji10) ≤ (l4.length : Int)
    ·
     rw [if_pos c14] at H
     have c14b0 := eq_true c14
     have c14b1 : decide ((ji10) ≤ (l4.length : Int)) = true := decide_eq_true c14
     clear c14
     by_cases c15 : a1 ≤ t450
     ·
      rw [if_pos c15] at H
      have c15b0 : decide (a1 ≤ t450) = true := decide_eq_true c15
      clear c15
      replace H := Option.bind_eq_some_iff.mp H
      obtain ⟨⟨t453, t454⟩, A160, H⟩ := H
      replace H : ((observatoryref02_node.f k t454 (rdOf ByteArray.empty l4 (ji10))).bind fun t455 => (some (t453, t455))) = some (r1, r2) := H
      have A16 := Aside0.mk A160
      clear A160
      replace H := Option.bind_eq_some_iff.mp H
      obtain ⟨t455, A170, H⟩ := H
      replace H : (some (t453, t455)) = some (r1, r2) := H
      have A17 := Aside0.mk A170
      clear A170
      simp only [Option.some.injEq, Prod.mk.injEq] at H
      obtain ⟨rfl, rfl⟩ := H
      go_enter Tryd.func41, Tryd.ntmps41
      have hlen_ : (l4.take ((ji10) : Int).toNat).length = ji10.toNat := by rw [List.length_take]; simp only [eq_iff_iff, iff_true, decide_eq_true_eq] at *; omega
      go_wp2_with (first | (go_at_call 37; (with_reducible refine (observatoryref02_Half.calls k a0 t450 _ A9.out).mono ?_); rintro e w' ⟨rfl, ⟨nd, rfl⟩⟩; (try clear A9); (try first | exact ⟨rfl, _, World.drewN_drewN _ _ _⟩ | exact ⟨rfl, _, Eq.trans (World.drewN_drewN _ _ _) (congrArg (World.drewN _) (Nat.add_assoc _ _ _))⟩); have p451 : 0 ≤ ((ji10) : Int) := of_decide_eq_true (by first | (with_reducible assumption) | assumption); have q451 : (ji10) < (l4.length : Int) := of_decide_eq_true (by first | (with_reducible assumption) | assumption); obtain ⟨ad451, e451, hx451_0⟩ := Kd.at_string HR4.out (ji10) p451 q451; cases e451; replace p451 := eq_true p451; replace q451 := eq_true q451; obtain ⟨i018, hi018, _, hsz18, _⟩ := info_parts info9; obtain ⟨hcut18, hA18, hC18⟩ := print_take_of (P := Tryd.prog) Value.string (⟨#[]⟩ : ByteArray) 22 9 .i64 Tryd.underlying22 hi018 hsz18 (some ad451) c4 l4 (ji10) (of_decide_eq_true (by first | (with_reducible assumption) | assumption)) (of_decide_eq_true (by first | (with_reducible assumption) | assumption)) HC4.out; have HR452 := Aside0.mk (Kd.C_of_reads (h1 := fun _ => rfl) (hA18 _ (Kd.reads_of_C HR4.out))); have HC452 := Aside0.mk hC18; clear hA18 hC18 hi018 hsz18) | (go_at_call 41; refine calls_of_args (args' := #[_, _, _, _, .slice _ (l4.take ((ji10) : Int).toNat).length _]) (by rw [hlen_]) ?_; (with_reducible refine (ih k (by omega) t450 a1 a2 a3 _ _ (l4.take ((ji10) : Int).toNat) t453 t454 _ ?side1 ?side2 A16.out).mono ?_); (case side1 => repeat (first | exact HR452.out | (with_reducible refine Kd.C_alloc ?_ _) | (with_reducible refine Kd.C_drewN ?_ _) | (with_reducible refine Kd.C_drew ?_))); (case side2 => exact HC452.out); rintro e w19 ⟨rfl, hb⟩; have n0_ := Aside0.mk (below_step (by repeat (first | (with_reducible first | exact HB.out | apply below_alloc | apply pw_below_drewN | apply below_drew1) | exact HB.out)) hb); clear HB; have HB := n0_; clear n0_; (try clear hb); (try clear hb2); (try clear hk); (try clear hi); (try clear A16)) | (go_at_call 55; (with_reducible refine (observatoryref02_node.calls k t454 (rdOf ByteArray.empty l4 (ji10)) t455 _ A17.out).mono ?_); rintro e w20 ⟨rfl, hb⟩; have n0_ := Aside0.mk (below_step (by repeat (first | (with_reducible first | exact HB.out | apply below_alloc | apply pw_below_drewN | apply below_drew1) | exact HB.out)) hb); clear HB; have HB := n0_; clear n0_; (try clear hb); (try clear hb2); (try clear hk); (try clear hi); (try clear A17)))
      repeat (go_quiet (first | (go_at_call 37; (with_reducible refine (observatoryref02_Half.calls k a0 t450 _ A9.out).mono ?_); rintro e w' ⟨rfl, ⟨nd, rfl⟩⟩; (try clear A9); (try first | exact ⟨rfl, _, World.drewN_drewN _ _ _⟩ | exact ⟨rfl, _, Eq.trans (World.drewN_drewN _ _ _) (congrArg (World.drewN _) (Nat.add_assoc _ _ _))⟩); have p451 : 0 ≤ ((ji10) : Int) := of_decide_eq_true (by first | (with_reducible assumption) | assumption); have q451 : (ji10) < (l4.length : Int) := of_decide_eq_true (by first | (with_reducible assumption) | assumption); obtain ⟨ad451, e451, hx451_0⟩ := Kd.at_string HR4.out (ji10) p451 q451; cases e451; replace p451 := eq_true p451; replace q451 := eq_true q451; obtain ⟨i018, hi018, _, hsz18, _⟩ := info_parts info9; obtain ⟨hcut18, hA18, hC18⟩ := print_take_of (P := Tryd.prog) Value.string (⟨#[]⟩ : ByteArray) 22 9 .i64 Tryd.underlying22 hi018 hsz18 (some ad451) c4 l4 (ji10) (of_decide_eq_true (by first | (with_reducible assumption) | assumption)) (of_decide_eq_true (by first | (with_reducible assumption) | assumption)) HC4.out; have HR452 := Aside0.mk (Kd.C_of_reads (h1 := fun _ => rfl) (hA18 _ (Kd.reads_of_C HR4.out))); have HC452 := Aside0.mk hC18; clear hA18 hC18 hi018 hsz18) | (go_at_call 41; refine calls_of_args (args' := #[_, _, _, _, .slice _ (l4.take ((ji10) : Int).toNat).length _]) (by rw [hlen_]) ?_; (with_reducible refine (ih k (by omega) t450 a1 a2 a3 _ _ (l4.take ((ji10) : Int).toNat) t453 t454 _ ?side1 ?side2 A16.out).mono ?_); (case side1 => repeat (first | exact HR452.out | (with_reducible refine Kd.C_alloc ?_ _) | (with_reducible refine Kd.C_drewN ?_ _) | (with_reducible refine Kd.C_drew ?_))); (case side2 => exact HC452.out); rintro e w19 ⟨rfl, hb⟩; have n0_ := Aside0.mk (below_step (by repeat (first | (with_reducible first | exact HB.out | apply below_alloc | apply pw_below_drewN | apply below_drew1) | exact HB.out)) hb); clear HB; have HB := n0_; clear n0_; (try clear hb); (try clear hb2); (try clear hk); (try clear hi); (try clear A16)) | (go_at_call 55; (with_reducible refine (observatoryref02_node.calls k t454 (rdOf ByteArray.empty l4 (ji10)) t455 _ A17.out).mono ?_); rintro e w20 ⟨rfl, hb⟩; have n0_ := Aside0.mk (below_step (by repeat (first | (with_reducible first | exact HB.out | apply below_alloc | apply pw_below_drewN | apply below_drew1) | exact HB.out)) hb); clear HB; have HB := n0_; clear n0_; (try clear hb); (try clear hb2); (try clear hk); (try clear hi); (try clear A17))); try go_wp2_with (first | (go_at_call 37; (with_reducible refine (observatoryref02_Half.calls k a0 t450 _ A9.out).mono ?_); rintro e w' ⟨rfl, ⟨nd, rfl⟩⟩; (try clear A9); (try first | exact ⟨rfl, _, World.drewN_drewN _ _ _⟩ | exact ⟨rfl, _, Eq.trans (World.drewN_drewN _ _ _) (congrArg (World.drewN _) (Nat.add_assoc _ _ _))⟩); have p451 : 0 ≤ ((ji10) : Int) := of_decide_eq_true (by first | (with_reducible assumption) | assumption); have q451 : (ji10) < (l4.length : Int) := of_decide_eq_true (by first | (with_reducible assumption) | assumption); obtain ⟨ad451, e451, hx451_0⟩ := Kd.at_string HR4.out (ji10) p451 q451; cases e451; replace p451 := eq_true p451; replace q451 := eq_true q451; obtain ⟨i018, hi018, _, hsz18, _⟩ := info_parts info9; obtain ⟨hcut18, hA18, hC18⟩ := print_take_of (P := Tryd.prog) Value.string (⟨#[]⟩ : ByteArray) 22 9 .i64 Tryd.underlying22 hi018 hsz18 (some ad451) c4 l4 (ji10) (of_decide_eq_true (by first | (with_reducible assumption) | assumption)) (of_decide_eq_true (by first | (with_reducible assumption) | assumption)) HC4.out; have HR452 := Aside0.mk (Kd.C_of_reads (h1 := fun _ => rfl) (hA18 _ (Kd.reads_of_C HR4.out))); have HC452 := Aside0.mk hC18; clear hA18 hC18 hi018 hsz18) | (go_at_call 41; refine calls_of_args (args' := #[_, _, _, _, .slice _ (l4.take ((ji10) : Int).toNat).length _]) (by rw [hlen_]) ?_; (with_reducible refine (ih k (by omega) t450 a1 a2 a3 _ _ (l4.take ((ji10) : Int).toNat) t453 t454 _ ?side1 ?side2 A16.out).mono ?_); (case side1 => repeat (first | exact HR452.out | (with_reducible refine Kd.C_alloc ?_ _) | (with_reducible refine Kd.C_drewN ?_ _) | (with_reducible refine Kd.C_drew ?_))); (case side2 => exact HC452.out); rintro e w19 ⟨rfl, hb⟩; have n0_ := Aside0.mk (below_step (by repeat (first | (with_reducible first | exact HB.out | apply below_alloc | apply pw_below_drewN | apply below_drew1) | exact HB.out)) hb); clear HB; have HB := n0_; clear n0_; (try clear hb); (try clear hb2); (try clear hk); (try clear hi); (try clear A16)) | (go_at_call 55; (with_reducible refine (observatoryref02_node.calls k t454 (rdOf ByteArray.empty l4 (ji10)) t455 _ A17.out).mono ?_); rintro e w20 ⟨rfl, hb⟩; have n0_ := Aside0.mk (below_step (by repeat (first | (with_reducible first | exact HB.out | apply below_alloc | apply pw_below_drewN | apply below_drew1) | exact HB.out)) hb); clear HB; have HB := n0_; clear n0_; (try clear hb); (try clear hb2); (try clear hk); (try clear hi); (try clear A17))))
      go_ret2
      exact ⟨by first | rfl | (simp [errW_none, errW_some] <;> rfl) | (simp only [← hji10]; first | rfl | (simp [errW_none, errW_some] <;> rfl)) | (simp [*, errW_none, errW_some] <;> rfl), by repeat (first | (with_reducible first | exact HB.out | apply below_alloc | apply pw_below_drewN | apply below_drew1) | exact HB.out)⟩
     ·
      rw [if_neg c15] at H
      have c15b0 : decide (a1 ≤ t450) = false := decide_eq_false c15
      clear c15
      replace H := Option.bind_eq_some_iff.mp H
      obtain ⟨⟨t456, t457⟩, A210, H⟩ := H
      replace H : ((observatoryref02_node.f k (rdOf ByteArray.empty l4 (ji10)) t456).bind fun t458 => ((observatoryref02_node.f k (rdOf ByteArray.empty l4 (ji10)) t457).bind fun t459 => (some (t458, t459)))) = some (r1, r2) := H
      have A21 := Aside0.mk A210
      clear A210
      replace H := Option.bind_eq_some_iff.mp H
      obtain ⟨t458, A220, H⟩ := H
      replace H : ((observatoryref02_node.f k (rdOf ByteArray.empty l4 (ji10)) t457).bind fun t459 => (some (t458, t459))) = some (r1, r2) := H
      have A22 := Aside0.mk A220
      clear A220
      replace H := Option.bind_eq_some_iff.mp H
      obtain ⟨t459, A230, H⟩ := H
      replace H : (some (t458, t459)) = some (r1, r2) := H
      have A23 := Aside0.mk A230
      clear A230
      simp only [Option.some.injEq, Prod.mk.injEq] at H
      obtain ⟨rfl, rfl⟩ := H
      go_enter Tryd.func41, Tryd.ntmps41
      have hlen_ : (l4.take ((ji10) : Int).toNat).length = ji10.toNat := by rw [List.length_take]; simp only [eq_iff_iff, iff_true, decide_eq_true_eq] at *; omega
      go_wp2_with (first | (go_at_call 37; (with_reducible refine (observatoryref02_Half.calls k a0 t450 _ A9.out).mono ?_); rintro e w' ⟨rfl, ⟨nd, rfl⟩⟩; (try clear A9); (try first | exact ⟨rfl, _, World.drewN_drewN _ _ _⟩ | exact ⟨rfl, _, Eq.trans (World.drewN_drewN _ _ _) (congrArg (World.drewN _) (Nat.add_assoc _ _ _))⟩); have p451 : 0 ≤ ((ji10) : Int) := of_decide_eq_true (by first | (with_reducible assumption) | assumption); have q451 : (ji10) < (l4.length : Int) := of_decide_eq_true (by first | (with_reducible assumption) | assumption); obtain ⟨ad451, e451, hx451_0⟩ := Kd.at_string HR4.out (ji10) p451 q451; cases e451; replace p451 := eq_true p451; replace q451 := eq_true q451; obtain ⟨i024, hi024, _, hsz24, _⟩ := info_parts info9; obtain ⟨hcut24, hA24, hC24⟩ := print_take_of (P := Tryd.prog) Value.string (⟨#[]⟩ : ByteArray) 22 9 .i64 Tryd.underlying22 hi024 hsz24 (some ad451) c4 l4 (ji10) (of_decide_eq_true (by first | (with_reducible assumption) | assumption)) (of_decide_eq_true (by first | (with_reducible assumption) | assumption)) HC4.out; have HR452 := Aside0.mk (Kd.C_of_reads (h1 := fun _ => rfl) (hA24 _ (Kd.reads_of_C HR4.out))); have HC452 := Aside0.mk hC24; clear hA24 hC24 hi024 hsz24) | (go_at_call 41; refine calls_of_args (args' := #[_, _, _, _, .slice _ (l4.take ((ji10) : Int).toNat).length _]) (by rw [hlen_]) ?_; (with_reducible refine (ih k (by omega) (wrap64 (a0 - t450)) (wrap64 (a1 - t450)) false a3 _ _ (l4.take ((ji10) : Int).toNat) t456 t457 _ ?side1 ?side2 A21.out).mono ?_); (case side1 => repeat (first | exact HR452.out | (with_reducible refine Kd.C_alloc ?_ _) | (with_reducible refine Kd.C_drewN ?_ _) | (with_reducible refine Kd.C_drew ?_))); (case side2 => exact HC452.out); rintro e w25 ⟨rfl, hb⟩; have n0_ := Aside0.mk (below_step (by repeat (first | (with_reducible first | exact HB.out | apply below_alloc | apply pw_below_drewN | apply below_drew1) | exact HB.out)) hb); clear HB; have HB := n0_; clear n0_; (try clear hb); (try clear hb2); (try clear hk); (try clear hi); (try clear A21)) | (go_at_call 55; (with_reducible refine (observatoryref02_node.calls k (rdOf ByteArray.empty l4 (ji10)) t456 t458 _ A22.out).mono ?_); rintro e w26 ⟨rfl, hb⟩; have n0_ := Aside0.mk (below_step (by repeat (first | (with_reducible first | exact HB.out | apply below_alloc | apply pw_below_drewN | apply below_drew1) | exact HB.out)) hb); clear HB; have HB := n0_; clear n0_; (try clear hb); (try clear hb2); (try clear hk); (try clear hi); (try clear A22)) | (go_at_call 55; (with_reducible refine (observatoryref02_node.calls k (rdOf ByteArray.empty l4 (ji10)) t457 t459 _ A23.out).mono ?_); rintro e w27 ⟨rfl, hb⟩; have n0_ := Aside0.mk (below_step (by repeat (first | (with_reducible first | exact HB.out | apply below_alloc | apply pw_below_drewN | apply below_drew1) | exact HB.out)) hb); clear HB; have HB := n0_; clear n0_; (try clear hb); (try clear hb2); (try clear hk); (try clear hi); (try clear A23)))
      repeat (go_quiet (first | (go_at_call 37; (with_reducible refine (observatoryref02_Half.calls k a0 t450 _ A9.out).mono ?_); rintro e w' ⟨rfl, ⟨nd, rfl⟩⟩; (try clear A9); (try first | exact ⟨rfl, _, World.drewN_drewN _ _ _⟩ | exact ⟨rfl, _, Eq.trans (World.drewN_drewN _ _ _) (congrArg (World.drewN _) (Nat.add_assoc _ _ _))⟩); have p451 : 0 ≤ ((ji10) : Int) := of_decide_eq_true (by first | (with_reducible assumption) | assumption); have q451 : (ji10) < (l4.length : Int) := of_decide_eq_true (by first | (with_reducible assumption) | assumption); obtain ⟨ad451, e451, hx451_0⟩ := Kd.at_string HR4.out (ji10) p451 q451; cases e451; replace p451 := eq_true p451; replace q451 := eq_true q451; obtain ⟨i024, hi024, _, hsz24, _⟩ := info_parts info9; obtain ⟨hcut24, hA24, hC24⟩ := print_take_of (P := Tryd.prog) Value.string (⟨#[]⟩ : ByteArray) 22 9 .i64 Tryd.underlying22 hi024 hsz24 (some ad451) c4 l4 (ji10) (of_decide_eq_true (by first | (with_reducible assumption) | assumption)) (of_decide_eq_true (by first | (with_reducible assumption) | assumption)) HC4.out; have HR452 := Aside0.mk (Kd.C_of_reads (h1 := fun _ => rfl) (hA24 _ (Kd.reads_of_C HR4.out))); have HC452 := Aside0.mk hC24; clear hA24 hC24 hi024 hsz24) | (go_at_call 41; refine calls_of_args (args' := #[_, _, _, _, .slice _ (l4.take ((ji10) : Int).toNat).length _]) (by rw [hlen_]) ?_; (with_reducible refine (ih k (by omega) (wrap64 (a0 - t450)) (wrap64 (a1 - t450)) false a3 _ _ (l4.take ((ji10) : Int).toNat) t456 t457 _ ?side1 ?side2 A21.out).mono ?_); (case side1 => repeat (first | exact HR452.out | (with_reducible refine Kd.C_alloc ?_ _) | (with_reducible refine Kd.C_drewN ?_ _) | (with_reducible refine Kd.C_drew ?_))); (case side2 => exact HC452.out); rintro e w25 ⟨rfl, hb⟩; have n0_ := Aside0.mk (below_step (by repeat (first | (with_reducible first | exact HB.out | apply below_alloc | apply pw_below_drewN | apply below_drew1) | exact HB.out)) hb); clear HB; have HB := n0_; clear n0_; (try clear hb); (try clear hb2); (try clear hk); (try clear hi); (try clear A21)) | (go_at_call 55; (with_reducible refine (observatoryref02_node.calls k (rdOf ByteArray.empty l4 (ji10)) t456 t458 _ A22.out).mono ?_); rintro e w26 ⟨rfl, hb⟩; have n0_ := Aside0.mk (below_step (by repeat (first | (with_reducible first | exact HB.out | apply below_alloc | apply pw_below_drewN | apply below_drew1) | exact HB.out)) hb); clear HB; have HB := n0_; clear n0_; (try clear hb); (try clear hb2); (try clear hk); (try clear hi); (try clear A22)) | (go_at_call 55; (with_reducible refine (observatoryref02_node.calls k (rdOf ByteArray.empty l4 (ji10)) t457 t459 _ A23.out).mono ?_); rintro e w27 ⟨rfl, hb⟩; have n0_ := Aside0.mk (below_step (by repeat (first | (with_reducible first | exact HB.out | apply below_alloc | apply pw_below_drewN | apply below_drew1) | exact HB.out)) hb); clear HB; have HB := n0_; clear n0_; (try clear hb); (try clear hb2); (try clear hk); (try clear hi); (try clear A23))); try go_wp2_with (first | (go_at_call 37; (with_reducible refine (observatoryref02_Half.calls k a0 t450 _ A9.out).mono ?_); rintro e w' ⟨rfl, ⟨nd, rfl⟩⟩; (try clear A9); (try first | exact ⟨rfl, _, World.drewN_drewN _ _ _⟩ | exact ⟨rfl, _, Eq.trans (World.drewN_drewN _ _ _) (congrArg (World.drewN _) (Nat.add_assoc _ _ _))⟩); have p451 : 0 ≤ ((ji10) : Int) := of_decide_eq_true (by first | (with_reducible assumption) | assumption); have q451 : (ji10) < (l4.length : Int) := of_decide_eq_true (by first | (with_reducible assumption) | assumption); obtain ⟨ad451, e451, hx451_0⟩ := Kd.at_string HR4.out (ji10) p451 q451; cases e451; replace p451 := eq_true p451; replace q451 := eq_true q451; obtain ⟨i024, hi024, _, hsz24, _⟩ := info_parts info9; obtain ⟨hcut24, hA24, hC24⟩ := print_take_of (P := Tryd.prog) Value.string (⟨#[]⟩ : ByteArray) 22 9 .i64 Tryd.underlying22 hi024 hsz24 (some ad451) c4 l4 (ji10) (of_decide_eq_true (by first | (with_reducible assumption) | assumption)) (of_decide_eq_true (by first | (with_reducible assumption) | assumption)) HC4.out; have HR452 := Aside0.mk (Kd.C_of_reads (h1 := fun _ => rfl) (hA24 _ (Kd.reads_of_C HR4.out))); have HC452 := Aside0.mk hC24; clear hA24 hC24 hi024 hsz24) | (go_at_call 41; refine calls_of_args (args' := #[_, _, _, _, .slice _ (l4.take ((ji10) : Int).toNat).length _]) (by rw [hlen_]) ?_; (with_reducible refine (ih k (by omega) (wrap64 (a0 - t450)) (wrap64 (a1 - t450)) false a3 _ _ (l4.take ((ji10) : Int).toNat) t456 t457 _ ?side1 ?side2 A21.out).mono ?_); (case side1 => repeat (first | exact HR452.out | (with_reducible refine Kd.C_alloc ?_ _) | (with_reducible refine Kd.C_drewN ?_ _) | (with_reducible refine Kd.C_drew ?_))); (case side2 => exact HC452.out); rintro e w25 ⟨rfl, hb⟩; have n0_ := Aside0.mk (below_step (by repeat (first | (with_reducible first | exact HB.out | apply below_alloc | apply pw_below_drewN | apply below_drew1) | exact HB.out)) hb); clear HB; have HB := n0_; clear n0_; (try clear hb); (try clear hb2); (try clear hk); (try clear hi); (try clear A21)) | (go_at_call 55; (with_reducible refine (observatoryref02_node.calls k (rdOf ByteArray.empty l4 (ji10)) t456 t458 _ A22.out).mono ?_); rintro e w26 ⟨rfl, hb⟩; have n0_ := Aside0.mk (below_step (by repeat (first | (with_reducible first | exact HB.out | apply below_alloc | apply pw_below_drewN | apply below_drew1) | exact HB.out)) hb); clear HB; have HB := n0_; clear n0_; (try clear hb); (try clear hb2); (try clear hk); (try clear hi); (try clear A22)) | (go_at_call 55; (with_reducible refine (observatoryref02_node.calls k (rdOf ByteArray.empty l4 (ji10)) t457 t459 _ A23.out).mono ?_); rintro e w27 ⟨rfl, hb⟩; have n0_ := Aside0.mk (below_step (by repeat (first | (with_reducible first | exact HB.out | apply below_alloc | apply pw_below_drewN | apply below_drew1) | exact HB.out)) hb); clear HB; have HB := n0_; clear n0_; (try clear hb); (try clear hb2); (try clear hk); (try clear hi); (try clear A23))))
      go_ret2
      exact ⟨by first | rfl | (simp [errW_none, errW_some] <;> rfl) | (simp only [← hji10]; first | rfl | (simp [errW_none, errW_some] <;> rfl)) | (simp [*, errW_none, errW_some] <;> rfl), by repeat (first | (with_reducible first | exact HB.out | apply below_alloc | apply pw_below_drewN | apply below_drew1) | exact HB.out)⟩
    ·
     rw [if_neg c14] at H
     exact absurd H (by simp)
   ·
    rw [if_neg c12] at H
    exact absurd H (by simp)
  ·
   rw [if_neg c11] at H
   exact absurd H (by simp)

/-! ### observatoryref02_LinkTexts: function 21 -/
def observatoryref02_LinkTexts.f : Nat → Int → Int → Bool → ByteArray → List ByteArray → Option (List ByteArray)
 | 0, _, _, _, _, _ => none
 | k + 1, a0, a1, a2, a3, l4 => if a1 = a0 then (some ([] : List ByteArray)) else ((observatoryref02_Half.f k a0).bind fun t460 => (if 0 ≤ (wrap64 ((l4.length : Int) - 1)) then (if (wrap64 ((l4.length : Int) - 1)) < (l4.length : Int) then (if (wrap64 ((l4.length : Int) - 1)) ≤ (l4.length : Int) then (if a1 ≤ t460 then ((observatoryref02_both.f k t460 a1 a2 a3 (l4.take ((wrap64 ((l4.length : Int) - 1)) : Int).toNat)).bind fun bt463 => ((observatoryref02_LinkTexts.f k t460 a1 a2 a3 (l4.take ((wrap64 ((l4.length : Int) - 1)) : Int).toNat)).bind fun t465 => ((observatoryref01_Joined.f k (([(⟨#[110, 111, 100, 101]⟩ : ByteArray), bt463.2, rdOf ByteArray.empty l4 (wrap64 ((l4.length : Int) - 1))] : List ByteArray))).bind fun t471 => (if t465.length < 8796093022208 then (some (t465 ++ [t471])) else (none))))) else ((observatoryref02_both.f k (wrap64 (a0 - t460)) (wrap64 (a1 - t460)) false a3 (l4.take ((wrap64 ((l4.length : Int) - 1)) : Int).toNat)).bind fun bt475 => ((observatoryref02_LinkTexts.f k (wrap64 (a0 - t460)) (wrap64 (a1 - t460)) false a3 (l4.take ((wrap64 ((l4.length : Int) - 1)) : Int).toNat)).bind fun t477 => ((observatoryref01_Joined.f k (([(⟨#[110, 111, 100, 101]⟩ : ByteArray), rdOf ByteArray.empty l4 (wrap64 ((l4.length : Int) - 1)), bt475.1] : List ByteArray))).bind fun t483 => (if t477.length < 8796093022208 then ((some (t477 ++ [t483] : List ByteArray)).bind fun y484 => ((observatoryref01_Joined.f k (([(⟨#[110, 111, 100, 101]⟩ : ByteArray), rdOf ByteArray.empty l4 (wrap64 ((l4.length : Int) - 1)), bt475.2] : List ByteArray))).bind fun t490 => (if y484.length < 8796093022208 then (some (y484 ++ [t490])) else (none)))) else (none)))))) else (none)) else (none)) else (none)))
theorem observatoryref02_LinkTexts.mono_l : ∀ k, (∀ y0 y1 y2 y3 y4, LeO (observatoryref02_LinkTexts.f k y0 y1 y2 y3 y4) (observatoryref02_LinkTexts.f (k + 1) y0 y1 y2 y3 y4))
 | 0 => fun _ _ _ _ _ r h => by simp [observatoryref02_LinkTexts.f] at h
 | k + 1 => by
  have ih0 := observatoryref02_LinkTexts.mono_l k
  ·
   intro y0 y1 y2 y3 y4
   unfold observatoryref02_LinkTexts.f
   repeat' first
   | (with_reducible exact ih0 _ _ _ _ _)
   | (with_reducible exact observatoryref01_Joined.mono _ _)
   | (with_reducible exact observatoryref02_Half.mono _ _)
   | (with_reducible exact observatoryref02_both.mono _ _ _ _ _ _)
   | (with_reducible exact LeO.refl _)
   | (with_reducible exact LeO.none _)
   | (with_reducible refine LeO.ite ?_ ?_)
   | (with_reducible refine LeO.bind ?_ (fun _ => ?_))
   | exact ih0 _ _ _ _ _
   | exact observatoryref01_Joined.mono _ _
   | exact observatoryref02_Half.mono _ _
   | exact observatoryref02_both.mono _ _ _ _ _ _
   | exact LeO.none _
   | refine LeO.ite ?_ ?_
   | refine LeO.bind ?_ (fun _ => ?_)
theorem observatoryref02_LinkTexts.mono : ∀ a0 a1 a2 a3 a4 k, LeO (observatoryref02_LinkTexts.f k a0 a1 a2 a3 a4) (observatoryref02_LinkTexts.f (k + 1) a0 a1 a2 a3 a4) := by
 intro a0 a1 a2 a3 a4 k
 have ih0 := observatoryref02_LinkTexts.mono_l k
 exact ih0 a0 a1 a2 a3 a4
set_option maxHeartbeats 8000000 in
set_option maxRecDepth 100000 in
theorem observatoryref02_LinkTexts.calls (k : Nat) : ∀ (a0 : Int) (a1 : Int) (a2 : Bool) (a3 : ByteArray) (A4 : Option Addr) (c4 : Nat) (l4 : List ByteArray) (r : List ByteArray) (w : World) (hr4 : Kd.C Kd.string w A4 l4.length l4) (hc4 : l4.length ≤ c4) (h : observatoryref02_LinkTexts.f k a0 a1 a2 a3 l4 = some r),
  Calls Tryd.prog 21 #[.int .i64 a0, .int .i64 a1, .bool a2, .string a3, .slice A4 l4.length c4] w fun e w' => ∃ v0_ : Value, e = .returned (v0_) ∧ Kd.R Kd.string 9 w' w.heap.size (fun _ => True) v0_ r ∧ Below w.heap.size w w' := by
 induction k using Nat.strongRecOn with
 | _ k ih =>
 intro a0 a1 a2 a3 A4 c4 l4 r w hr4 hc4 h
 cases k with
 | zero => exact absurd h (by simp [observatoryref02_LinkTexts.f])
 | succ k =>
 simp only [observatoryref02_LinkTexts.f] at h
 have HR4 := Aside0.mk hr4
 have HC4 := Aside0.mk hc4
 clear hr4 hc4
 have HB := Aside0.mk (Below.refl w.heap.size w)
 have H : (if a1 = a0 then (some ([] : List ByteArray)) else ((observatoryref02_Half.f k a0).bind fun t460 => (if 0 ≤ (wrap64 ((l4.length : Int) - 1)) then (if (wrap64 ((l4.length : Int) - 1)) < (l4.length : Int) then (if (wrap64 ((l4.length : Int) - 1)) ≤ (l4.length : Int) then (if a1 ≤ t460 then ((observatoryref02_both.f k t460 a1 a2 a3 (l4.take ((wrap64 ((l4.length : Int) - 1)) : Int).toNat)).bind fun bt463 => ((observatoryref02_LinkTexts.f k t460 a1 a2 a3 (l4.take ((wrap64 ((l4.length : Int) - 1)) : Int).toNat)).bind fun t465 => ((observatoryref01_Joined.f k (([(⟨#[110, 111, 100, 101]⟩ : ByteArray), bt463.2, rdOf ByteArray.empty l4 (wrap64 ((l4.length : Int) - 1))] : List ByteArray))).bind fun t471 => (if t465.length < 8796093022208 then (some (t465 ++ [t471])) else (none))))) else ((observatoryref02_both.f k (wrap64 (a0 - t460)) (wrap64 (a1 - t460)) false a3 (l4.take ((wrap64 ((l4.length : Int) - 1)) : Int).toNat)).bind fun bt475 => ((observatoryref02_LinkTexts.f k (wrap64 (a0 - t460)) (wrap64 (a1 - t460)) false a3 (l4.take ((wrap64 ((l4.length : Int) - 1)) : Int).toNat)).bind fun t477 => ((observatoryref01_Joined.f k (([(⟨#[110, 111, 100, 101]⟩ : ByteArray), rdOf ByteArray.empty l4 (wrap64 ((l4.length : Int) - 1)), bt475.1] : List ByteArray))).bind fun t483 => (if t477.length < 8796093022208 then ((some (t477 ++ [t483] : List ByteArray)).bind fun y484 => ((observatoryref01_Joined.f k (([(⟨#[110, 111, 100, 101]⟩ : ByteArray), rdOf ByteArray.empty l4 (wrap64 ((l4.length : Int) - 1)), bt475.2] : List ByteArray))).bind fun t490 => (if y484.length < 8796093022208 then (some (y484 ++ [t490])) else (none)))) else (none)))))) else (none)) else (none)) else (none)))) = some r := h
 clear h
 by_cases c6 : a1 = a0
 ·
  rw [if_pos c6] at H
  have c6b0 : (a1 == a0) = true := beq_iff_eq.mpr c6
  have c6b1 : (a1 != a0) = false := bne_eq_false_iff_eq.mpr c6
  clear c6
  obtain rfl := Option.some.inj H
  go_enter Tryd.func21, Tryd.ntmps21
  go_wp2
  go_ret
  exact ⟨_, by first | rfl | (simp [errW_none, errW_some] <;> rfl) | (simp [*, errW_none, errW_some] <;> rfl), by first | exact Kd.R_nil _ _ _ _ _ | exact Kd.N_nil _ _ _ _ _ | exact Kd.V_nil _ _ _ _ _ | exact Kd.Q_nil _ _ _ _ _ | exact Kd.S_nil _ _ _ _ _, by repeat (first | (with_reducible first | exact HB.out | apply below_alloc | apply pw_below_drewN | apply below_drew1) | exact HB.out)⟩
 ·
  rw [if_neg c6] at H
  have c6b0 : (a1 == a0) = false := beq_eq_false_iff_ne.mpr c6
  have c6b1 : (a1 != a0) = true := bne_iff_ne.mpr c6
  replace H := Option.bind_eq_some_iff.mp H
  obtain ⟨t460, A70, H⟩ := H
  replace H : (if 0 ≤ (wrap64 ((l4.length : Int) - 1)) then (if (wrap64 ((l4.length : Int) - 1)) < (l4.length : Int) then (if (wrap64 ((l4.length : Int) - 1)) ≤ (l4.length : Int) then (if a1 ≤ t460 then ((observatoryref02_both.f k t460 a1 a2 a3 (l4.take ((wrap64 ((l4.length : Int) - 1)) : Int).toNat)).bind fun bt463 => ((observatoryref02_LinkTexts.f k t460 a1 a2 a3 (l4.take ((wrap64 ((l4.length : Int) - 1)) : Int).toNat)).bind fun t465 => ((observatoryref01_Joined.f k (([(⟨#[110, 111, 100, 101]⟩ : ByteArray), bt463.2, rdOf ByteArray.empty l4 (wrap64 ((l4.length : Int) - 1))] : List ByteArray))).bind fun t471 => (if t465.length < 8796093022208 then (some (t465 ++ [t471])) else (none))))) else ((observatoryref02_both.f k (wrap64 (a0 - t460)) (wrap64 (a1 - t460)) false a3 (l4.take ((wrap64 ((l4.length : Int) - 1)) : Int).toNat)).bind fun bt475 => ((observatoryref02_LinkTexts.f k (wrap64 (a0 - t460)) (wrap64 (a1 - t460)) false a3 (l4.take ((wrap64 ((l4.length : Int) - 1)) : Int).toNat)).bind fun t477 => ((observatoryref01_Joined.f k (([(⟨#[110, 111, 100, 101]⟩ : ByteArray), rdOf ByteArray.empty l4 (wrap64 ((l4.length : Int) - 1)), bt475.1] : List ByteArray))).bind fun t483 => (if t477.length < 8796093022208 then ((some (t477 ++ [t483] : List ByteArray)).bind fun y484 => ((observatoryref01_Joined.f k (([(⟨#[110, 111, 100, 101]⟩ : ByteArray), rdOf ByteArray.empty l4 (wrap64 ((l4.length : Int) - 1)), bt475.2] : List ByteArray))).bind fun t490 => (if y484.length < 8796093022208 then (some (y484 ++ [t490])) else (none)))) else (none)))))) else (none)) else (none)) else (none)) = some r := H
  have A7 := Aside0.mk A70
  clear A70
  obtain ⟨ji8, hji8⟩ : ∃ j_ : Int, (wrap64 ((l4.length : Int) - 1)) = j_ := ⟨_, rfl⟩
  replace H : (if 0 ≤ (ji8) then (if (ji8) < (l4.length : Int) then (if (ji8) ≤ (l4.length : Int) then (if a1 ≤ t460 then ((observatoryref02_both.f k t460 a1 a2 a3 (l4.take ((ji8) : Int).toNat)).bind fun bt463 => ((observatoryref02_LinkTexts.f k t460 a1 a2 a3 (l4.take ((ji8) : Int).toNat)).bind fun t465 => ((observatoryref01_Joined.f k (([(⟨#[110, 111, 100, 101]⟩ : ByteArray), bt463.2, rdOf ByteArray.empty l4 (ji8)] : List ByteArray))).bind fun t471 => (if t465.length < 8796093022208 then (some (t465 ++ [t471])) else (none))))) else ((observatoryref02_both.f k (wrap64 (a0 - t460)) (wrap64 (a1 - t460)) false a3 (l4.take ((ji8) : Int).toNat)).bind fun bt475 => ((observatoryref02_LinkTexts.f k (wrap64 (a0 - t460)) (wrap64 (a1 - t460)) false a3 (l4.take ((ji8) : Int).toNat)).bind fun t477 => ((observatoryref01_Joined.f k (([(⟨#[110, 111, 100, 101]⟩ : ByteArray), rdOf ByteArray.empty l4 (ji8), bt475.1] : List ByteArray))).bind fun t483 => (if t477.length < 8796093022208 then ((some (t477 ++ [t483] : List ByteArray)).bind fun y484 => ((observatoryref01_Joined.f k (([(⟨#[110, 111, 100, 101]⟩ : ByteArray), rdOf ByteArray.empty l4 (ji8), bt475.2] : List ByteArray))).bind fun t490 => (if y484.length < 8796093022208 then (some (y484 ++ [t490])) else (none)))) else (none)))))) else (none)) else (none)) else (none)) = some r := by first | (rw [hji8] at H; exact H) | (simp only [hji8] at H ⊢; exact H)
  (try rw [hji8] at A7)
  have hji8w : (IntKind.i64.wrap ((l4.length : Int) - 1)) = ji8 := (i64_w _).trans hji8
  by_cases c9 : 0 ≤ (ji8)
  ·
   rw [if_pos c9] at H
   have c9b0 : decide (0 ≤ (ji8)) = true := decide_eq_true c9
   clear c9
   by_cases c10 : (ji8) < (l4.length : Int)
   ·
    rw [if_pos c10] at H
    have c10b0 : decide ((ji8) < (l4.length : Int)) = true := decide_eq_true c10
    clear c10
    have c11b0 := eq_true (of_decide_eq_true (by first | (with_reducible assumption) | assumption) : 0 ≤ (ji8))
    by_cases c12 : (ji8) ≤ (l4.length : Int)
    ·
     rw [if_pos c12] at H
     have c12b0 := eq_true c12
     have c12b1 : decide ((ji8) ≤ (l4.length : Int)) = true := decide_eq_true c12
     clear c12
     by_cases c13 : a1 ≤ t460
     ·
      rw [if_pos c13] at H
      have c13b0 : decide (a1 ≤ t460) = true := decide_eq_true c13
      clear c13
      replace H := Option.bind_eq_some_iff.mp H
      obtain ⟨⟨t463, t464⟩, A140, H⟩ := H
      replace H : ((observatoryref02_LinkTexts.f k t460 a1 a2 a3 (l4.take ((ji8) : Int).toNat)).bind fun t465 => ((observatoryref01_Joined.f k (([(⟨#[110, 111, 100, 101]⟩ : ByteArray), t464, rdOf ByteArray.empty l4 (ji8)] : List ByteArray))).bind fun t471 => (if t465.length < 8796093022208 then (some (t465 ++ [t471])) else (none)))) = some r := H
      have A14 := Aside0.mk A140
      clear A140
      replace H := Option.bind_eq_some_iff.mp H
      obtain ⟨t465, A150, H⟩ := H
      replace H : ((observatoryref01_Joined.f k (([(⟨#[110, 111, 100, 101]⟩ : ByteArray), t464, rdOf ByteArray.empty l4 (ji8)] : List ByteArray))).bind fun t471 => (if t465.length < 8796093022208 then (some (t465 ++ [t471])) else (none))) = some r := H
      have A15 := Aside0.mk A150
      clear A150
      obtain ⟨y468, hy468⟩ : ∃ y_ : List ByteArray, y_ = (([(⟨#[110, 111, 100, 101]⟩ : ByteArray), t464, rdOf ByteArray.empty l4 (ji8)] : List ByteArray)) := ⟨_, rfl⟩
      replace H : ((observatoryref01_Joined.f k y468).bind fun t471 => (if t465.length < 8796093022208 then (some (t465 ++ [t471])) else (none))) = some r := by first | (rw [hy468]; with_reducible exact H) | (have H2_ := (Option.bind_some _ _).symm.trans H; rw [hy468]; with_reducible exact H2_) | (have H2_ := (Option.bind_some _ _).symm.trans H; with_reducible exact H2_) | with_reducible exact H | (rw [hy468]; exact H) | exact H
      have Ny468 := Aside0.mk hy468
      clear hy468
      replace H := Option.bind_eq_some_iff.mp H
      obtain ⟨t471, A160, H⟩ := H
      replace H : (if t465.length < 8796093022208 then (some (t465 ++ [t471])) else (none)) = some r := H
      have A16 := Aside0.mk A160
      clear A160
      by_cases c17 : t465.length < 8796093022208
      ·
       rw [if_pos c17] at H
       have LMc17 := Aside0.mk c17
       clear c17
       obtain ⟨y472, hy472⟩ : ∃ y_ : List ByteArray, y_ = (t465 ++ [t471]) := ⟨_, rfl⟩
       replace H : (some y472) = some r := by first | (rw [hy472]; with_reducible exact H) | (have H2_ := (Option.bind_some _ _).symm.trans H; rw [hy472]; with_reducible exact H2_) | (have H2_ := (Option.bind_some _ _).symm.trans H; with_reducible exact H2_) | with_reducible exact H | (rw [hy472]; exact H) | exact H
       have Ny472 := Aside0.mk hy472
       clear hy472
       obtain rfl := Option.some.inj H
       go_enter Tryd.func21, Tryd.ntmps21
       go_wp2_with (first | ((with_reducible refine gate_callee (f := 37) rfl ?_); refine goesL_ (some 23) rfl rfl Tryd.func37 (by kernel_rfl) rfl #[.int .i64 a0] rfl (by (try simp only [List.map_toArray, List.map_cons, List.map_nil]); first | done | rfl | (simp only [List.length_drop, List.length_take]; rfl)) ?_; (with_reducible refine (observatoryref02_Half.calls k a0 t460 _ A7.out).mono ?_); rintro e w' ⟨rfl, ⟨nd, rfl⟩⟩; refine ⟨_, rfl, ?_⟩; (try clear A7); have p461 : 0 ≤ ((ji8) : Int) := of_decide_eq_true (by first | (with_reducible assumption) | assumption); have q461 : (ji8) < (l4.length : Int) := of_decide_eq_true (by first | (with_reducible assumption) | assumption); obtain ⟨ad461, e461, hx461_0⟩ := Kd.at_string HR4.out (ji8) p461 q461; cases e461; replace p461 := eq_true p461; replace q461 := eq_true q461; obtain ⟨i018, hi018, _, hsz18, _⟩ := info_parts info9; obtain ⟨hcut18, hA18, hC18⟩ := print_take_of (P := Tryd.prog) Value.string (⟨#[]⟩ : ByteArray) 22 9 .i64 Tryd.underlying22 hi018 hsz18 (some ad461) c4 l4 (ji8) (of_decide_eq_true (by first | (with_reducible assumption) | assumption)) (of_decide_eq_true (by first | (with_reducible assumption) | assumption)) HC4.out; have HR462 := Aside0.mk (Kd.C_of_reads (h1 := fun _ => rfl) (hA18 _ (Kd.reads_of_C HR4.out))); have HC462 := Aside0.mk hC18; clear hA18 hC18 hi018 hsz18) | ((with_reducible refine gate_callee (f := 41) rfl ?_); refine goesL_ (some 44) rfl rfl Tryd.func41 (by kernel_rfl) rfl #[.int .i64 t460, .int .i64 a1, .bool a2, .string a3, .slice (some ad461) (l4.take ((ji8) : Int).toNat).length c4] rfl (by (try simp only [List.map_toArray, List.map_cons, List.map_nil]); first | done | (rw [show (l4.take ((ji8) : Int).toNat).length = (ji8).toNat from (by rw [List.length_take]; have h_ : ((ji8) : Int) ≤ (l4.length : Int) := of_decide_eq_true (by first | (with_reducible assumption) | assumption); omega)] <;> rfl) | (simp only [hji8]; rfl) | rfl | (simp only [List.length_drop, List.length_take]; rfl)) ?_; (with_reducible refine (observatoryref02_both.calls k t460 a1 a2 a3 _ _ (l4.take ((ji8) : Int).toNat) t463 t464 _ ?side1 ?side2 A14.out).mono ?_); (case side1 => repeat (first | exact HR462.out | (with_reducible refine Kd.C_alloc ?_ _) | (with_reducible refine Kd.C_drewN ?_ _) | (with_reducible refine Kd.C_drew ?_))); (case side2 => exact HC462.out); rintro e w19 ⟨rfl, hb⟩; refine ⟨_, rfl, ?_⟩; have n0_ := Aside0.mk (below_step (by repeat (first | (with_reducible first | exact HB.out | apply below_alloc | apply pw_below_drewN | apply below_drew1) | exact HB.out)) hb); clear HB; have HB := n0_; clear n0_; (try clear hb); (try clear hb2); (try clear hk); (try clear hi); (try clear A14)) | ((with_reducible refine gate_callee (f := 21) rfl ?_); refine goesL_ (some 52) rfl rfl Tryd.func21 (by kernel_rfl) rfl #[.int .i64 t460, .int .i64 a1, .bool a2, .string a3, .slice (some ad461) (l4.take ((ji8) : Int).toNat).length c4] rfl (by (try simp only [List.map_toArray, List.map_cons, List.map_nil]); first | done | (rw [show (l4.take ((ji8) : Int).toNat).length = (ji8).toNat from (by rw [List.length_take]; have h_ : ((ji8) : Int) ≤ (l4.length : Int) := of_decide_eq_true (by first | (with_reducible assumption) | assumption); omega)] <;> rfl) | (simp only [hji8]; rfl) | rfl | (simp only [List.length_drop, List.length_take]; rfl)) ?_; (with_reducible refine (ih k (by omega) t460 a1 a2 a3 _ _ (l4.take ((ji8) : Int).toNat) t465 _ ?side1 ?side2 A15.out).mono ?_); (case side1 => repeat (first | exact (Kd.C_below HR462.out HB.out) | (with_reducible refine Kd.C_alloc ?_ _) | (with_reducible refine Kd.C_drewN ?_ _) | (with_reducible refine Kd.C_drew ?_))); (case side2 => exact HC462.out); rintro e w20 ⟨v466, rfl, ho0, hb⟩; refine ⟨_, rfl, ?_⟩; have n0_ := Aside0.mk (Kd.R_lower ho0 (below_size (by repeat (first | (with_reducible first | exact HB.out | apply below_alloc | apply pw_below_drewN | apply below_drew1) | exact HB.out)))); have n1_ := Aside0.mk (below_step (by repeat (first | (with_reducible first | exact HB.out | apply below_alloc | apply pw_below_drewN | apply below_drew1) | exact HB.out)) hb); clear HB; have HO467 := n0_; have HB := n1_; clear n0_ n1_; (try clear hb); (try clear hb2); (try clear hk); (try clear hi); (try clear ho0); (try clear A15)) | ((with_reducible refine gate_dst (N := 55) rfl ?_); refine Kd.R_lit Kd.string _ 9 ?hg (N := 55) ?hd (xs := ([(⟨#[110, 111, 100, 101]⟩ : ByteArray), t464, rdOf ByteArray.empty l4 (ji8)] : List ByteArray)) (inner := [.string (⟨#[110, 111, 100, 101]⟩ : ByteArray), .string t464, .string (rdOf ByteArray.empty l4 (ji8))]) (ok := fun _ => True) (okp := fun _ => True) ?hr ?hp (fun _ hk => hk) trivial (Below.refl _ _) (Nat.le_refl _) (by simp) ?_; (case hd => rfl); (case hg => rfl); (case hr => first | (go_simp; done) | (go_simp; rfl)); (case hp => exact (Reps.one (show Kd.M Kd.string _ _ _ (⟨#[110, 111, 100, 101]⟩ : ByteArray) [.string (⟨#[110, 111, 100, 101]⟩ : ByteArray)] from rfl) (Reps.one (show Kd.M Kd.string _ _ _ t464 [.string t464] from rfl) (Reps.one (show Kd.M Kd.string _ _ _ (rdOf ByteArray.empty l4 (ji8)) [.string (rdOf ByteArray.empty l4 (ji8))] from rfl) (Reps.none _ _))))); intro v469 w21 ho22 hb hg_ hnew_; clear hg_ hnew_; (first | rw [← Ny468.out] at ho22 | (simp only [Int.reduceToNat] at ho22; rw [← Ny468.out] at ho22)); have n0_ := Aside0.mk (Kd.R_elder' (by (with_reducible repeat (first | apply Kd.R_alloc | apply Kd.R_drewN | apply Kd.R_drew)); exact HO467.out) (Kd.R_base ho22) hb); have n1_ := Aside0.mk (Kd.R_lower (Kd.R_new' ho22 (Kd.R_lt (by (with_reducible repeat (first | apply Kd.R_alloc | apply Kd.R_drewN | apply Kd.R_drew)); exact HO467.out))) (below_size (by repeat (first | (with_reducible first | exact HB.out | apply below_alloc | apply pw_below_drewN | apply below_drew1) | exact HB.out)))); have n2_ := Aside0.mk (below_step (by repeat (first | (with_reducible first | exact HB.out | apply below_alloc | apply pw_below_drewN | apply below_drew1) | exact HB.out)) hb); clear HO467; clear HB; have HO467 := n0_; have HO470 := n1_; have HB := n2_; clear n0_ n1_ n2_; clear hb ho22; obtain ⟨Ao23, co23, eo23⟩ := Kd.R_slice HO470.out; subst eo23) | ((with_reducible refine gate_callee (f := 36) rfl ?_); refine goesL_ (some 56) rfl rfl Tryd.func36 (by kernel_rfl) rfl #[.slice Ao23 y468.length co23] rfl (by (try simp only [List.map_toArray, List.map_cons, List.map_nil]); first | done | rfl | (simp only [List.length_drop, List.length_take]; rfl)) ?_; (with_reducible refine (observatoryref01_Joined.calls k _ _ y468 t471 _ ?side1 ?side2 A16.out).mono ?_); (case side1 => repeat (first | exact (Kd.R_reads' HO470.out).2.2 | (with_reducible refine Kd.C_alloc ?_ _) | (with_reducible refine Kd.C_drewN ?_ _) | (with_reducible refine Kd.C_drew ?_))); (case side2 => exact (Kd.R_reads' HO470.out).2.1); rintro e w24 ⟨rfl, hb⟩; refine ⟨_, rfl, ?_⟩; have n0_ := Aside0.mk (Kd.R_below (by (with_reducible repeat (first | apply Kd.R_alloc | apply Kd.R_drewN | apply Kd.R_drew)); exact HO467.out) hb); have n1_ := Aside0.mk (Kd.R_below (by (with_reducible repeat (first | apply Kd.R_alloc | apply Kd.R_drewN | apply Kd.R_drew)); exact HO470.out) hb); have n2_ := Aside0.mk (below_step (by repeat (first | (with_reducible first | exact HB.out | apply below_alloc | apply pw_below_drewN | apply below_drew1) | exact HB.out)) hb); clear HO467; clear HO470; clear HB; have HO467 := n0_; have HO470 := n1_; have HB := n2_; clear n0_ n1_ n2_; (try clear hb); (try clear hb2); (try clear hk); (try clear hi); (try clear A16)) | ((with_reducible refine gate_builtin (b := .append) (xs := #[.tmp 52, .tmp 57]) rfl ?_); at_builtin; refine Kd.R_append Kd.string (w0 := w) w.heap.size rfl (.tmp 52) (.tmp 57) 22 9 (.string ⟨#[]⟩) 16 rfl Tryd.underlying22 info9 rfl (by decide) (by omega) v466 t465 t471 [.string t471] (fun k_ => some k_ ≠ (.slice Ao23 y468.length co23 : Value).ownBlock) (fun _ => False) rfl rfl ?aP (fun _ hk => hk.elim) ?aF ?aO ?aB ?aS ?aL ?_; (case aP => exact rfl); (case aB => exact (by repeat (first | (with_reducible first | exact HB.out | apply below_alloc | apply pw_below_drewN | apply below_drew1) | exact HB.out))); (case aF => exact (fun k_ hk => Kd.fresh' (Kd.R_lt (by (with_reducible repeat (first | apply Kd.R_alloc | apply Kd.R_drewN | apply Kd.R_drew)); exact HO470.out)) k_ hk)); (case aO => exact (by (with_reducible repeat (first | apply Kd.R_alloc | apply Kd.R_drewN | apply Kd.R_drew)); exact Kd.R_mono HO467.out (fun _ hk => hk.2))); (case aS => exact (below_size (by repeat (first | (with_reducible first | exact HB.out | apply below_alloc | apply pw_below_drewN | apply below_drew1) | exact HB.out)))); (case aL => have := LMc17.out; omega); intro v473 w25 ho hb hg hat; rw [← Ny472.out] at ho; have n0_ := Aside0.mk (Kd.R_after (ok := (fun _ => True)) (by (with_reducible repeat (first | apply Kd.R_alloc | apply Kd.R_drewN | apply Kd.R_drew)); exact HO470.out) hg hat); have n1_ := Aside0.mk (hb); have n2_ := Aside0.mk (ho); clear HO470; clear HB; clear HO467; have HO470 := n0_; have HB := n1_; have HO474 := n2_; clear n0_ n1_ n2_; clear ho hb hg hat))
       go_ret
       exact ⟨_, by first | rfl | (simp [errW_none, errW_some] <;> rfl) | (simp only [← hji8]; first | rfl | (simp [errW_none, errW_some] <;> rfl)) | (simp [*, errW_none, errW_some] <;> rfl), by (with_reducible repeat (first | apply Kd.R_alloc | apply Kd.R_drewN | apply Kd.R_drew)); exact Kd.R_mono HO474.out (fun _ hk => trivial), by repeat (first | (with_reducible first | exact HB.out | apply below_alloc | apply pw_below_drewN | apply below_drew1) | exact HB.out)⟩
      ·
       rw [if_neg c17] at H
       exact absurd H (by simp)
     ·
      rw [if_neg c13] at H
      have c13b0 : decide (a1 ≤ t460) = false := decide_eq_false c13
      clear c13
      replace H := Option.bind_eq_some_iff.mp H
      obtain ⟨⟨t475, t476⟩, A260, H⟩ := H
      replace H : ((observatoryref02_LinkTexts.f k (wrap64 (a0 - t460)) (wrap64 (a1 - t460)) false a3 (l4.take ((ji8) : Int).toNat)).bind fun t477 => ((observatoryref01_Joined.f k (([(⟨#[110, 111, 100, 101]⟩ : ByteArray), rdOf ByteArray.empty l4 (ji8), t475] : List ByteArray))).bind fun t483 => (if t477.length < 8796093022208 then ((some (t477 ++ [t483] : List ByteArray)).bind fun y484 => ((observatoryref01_Joined.f k (([(⟨#[110, 111, 100, 101]⟩ : ByteArray), rdOf ByteArray.empty l4 (ji8), t476] : List ByteArray))).bind fun t490 => (if y484.length < 8796093022208 then (some (y484 ++ [t490])) else (none)))) else (none)))) = some r := H
      have A26 := Aside0.mk A260
      clear A260
      replace H := Option.bind_eq_some_iff.mp H
      obtain ⟨t477, A270, H⟩ := H
      replace H : ((observatoryref01_Joined.f k (([(⟨#[110, 111, 100, 101]⟩ : ByteArray), rdOf ByteArray.empty l4 (ji8), t475] : List ByteArray))).bind fun t483 => (if t477.length < 8796093022208 then ((some (t477 ++ [t483] : List ByteArray)).bind fun y484 => ((observatoryref01_Joined.f k (([(⟨#[110, 111, 100, 101]⟩ : ByteArray), rdOf ByteArray.empty l4 (ji8), t476] : List ByteArray))).bind fun t490 => (if y484.length < 8796093022208 then (some (y484 ++ [t490])) else (none)))) else (none))) = some r := H
      have A27 := Aside0.mk A270
      clear A270
      obtain ⟨y480, hy480⟩ : ∃ y_ : List ByteArray, y_ = (([(⟨#[110, 111, 100, 101]⟩ : ByteArray), rdOf ByteArray.empty l4 (ji8), t475] : List ByteArray)) := ⟨_, rfl⟩
      replace H : ((observatoryref01_Joined.f k y480).bind fun t483 => (if t477.length < 8796093022208 then ((some (t477 ++ [t483] : List ByteArray)).bind fun y484 => ((observatoryref01_Joined.f k (([(⟨#[110, 111, 100, 101]⟩ : ByteArray), rdOf ByteArray.empty l4 (ji8), t476] : List ByteArray))).bind fun t490 => (if y484.length < 8796093022208 then (some (y484 ++ [t490])) else (none)))) else (none))) = some r := by first | (rw [hy480]; with_reducible exact H) | (have H2_ := (Option.bind_some _ _).symm.trans H; rw [hy480]; with_reducible exact H2_) | (have H2_ := (Option.bind_some _ _).symm.trans H; with_reducible exact H2_) | with_reducible exact H | (rw [hy480]; exact H) | exact H
      have Ny480 := Aside0.mk hy480
      clear hy480
      replace H := Option.bind_eq_some_iff.mp H
      obtain ⟨t483, A280, H⟩ := H
      replace H : (if t477.length < 8796093022208 then ((some (t477 ++ [t483] : List ByteArray)).bind fun y484 => ((observatoryref01_Joined.f k (([(⟨#[110, 111, 100, 101]⟩ : ByteArray), rdOf ByteArray.empty l4 (ji8), t476] : List ByteArray))).bind fun t490 => (if y484.length < 8796093022208 then (some (y484 ++ [t490])) else (none)))) else (none)) = some r := H
      have A28 := Aside0.mk A280
      clear A280
      by_cases c29 : t477.length < 8796093022208
      ·
       rw [if_pos c29] at H
       have LMc29 := Aside0.mk c29
       clear c29
       obtain ⟨y484, hy484⟩ : ∃ y_ : List ByteArray, y_ = (t477 ++ [t483]) := ⟨_, rfl⟩
       replace H : ((observatoryref01_Joined.f k (([(⟨#[110, 111, 100, 101]⟩ : ByteArray), rdOf ByteArray.empty l4 (ji8), t476] : List ByteArray))).bind fun t490 => (if y484.length < 8796093022208 then (some (y484 ++ [t490])) else (none))) = some r := by first | (rw [hy484]; with_reducible exact H) | (have H2_ := (Option.bind_some _ _).symm.trans H; rw [hy484]; with_reducible exact H2_) | (have H2_ := (Option.bind_some _ _).symm.trans H; with_reducible exact H2_) | with_reducible exact H | (rw [hy484]; exact H) | exact H
       have Ny484 := Aside0.mk hy484
       clear hy484
       obtain ⟨y487, hy487⟩ : ∃ y_ : List ByteArray, y_ = (([(⟨#[110, 111, 100, 101]⟩ : ByteArray), rdOf ByteArray.empty l4 (ji8), t476] : List ByteArray)) := ⟨_, rfl⟩
       replace H : ((observatoryref01_Joined.f k y487).bind fun t490 => (if y484.length < 8796093022208 then (some (y484 ++ [t490])) else (none))) = some r := by first | (rw [hy487]; with_reducible exact H) | (have H2_ := (Option.bind_some _ _).symm.trans H; rw [hy487]; with_reducible exact H2_) | (have H2_ := (Option.bind_some _ _).symm.trans H; with_reducible exact H2_) | with_reducible exact H | (rw [hy487]; exact H) | exact H
       have Ny487 := Aside0.mk hy487
       clear hy487
       replace H := Option.bind_eq_some_iff.mp H
       obtain ⟨t490, A300, H⟩ := H
       replace H : (if y484.length < 8796093022208 then (some (y484 ++ [t490])) else (none)) = some r := H
       have A30 := Aside0.mk A300
       clear A300
       by_cases c31 : y484.length < 8796093022208
       ·
        rw [if_pos c31] at H
        have LMc31 := Aside0.mk c31
        clear c31
        obtain ⟨y491, hy491⟩ : ∃ y_ : List ByteArray, y_ = (y484 ++ [t490]) := ⟨_, rfl⟩
        replace H : (some y491) = some r := by first | (rw [hy491]; with_reducible exact H) | (have H2_ := (Option.bind_some _ _).symm.trans H; rw [hy491]; with_reducible exact H2_) | (have H2_ := (Option.bind_some _ _).symm.trans H; with_reducible exact H2_) | with_reducible exact H | (rw [hy491]; exact H) | exact H
        have Ny491 := Aside0.mk hy491
        clear hy491
        obtain rfl := Option.some.inj H
        go_enter Tryd.func21, Tryd.ntmps21
        go_wp2_with (first | ((with_reducible refine gate_callee (f := 37) rfl ?_); refine goesL_ (some 23) rfl rfl Tryd.func37 (by kernel_rfl) rfl #[.int .i64 a0] rfl (by (try simp only [List.map_toArray, List.map_cons, List.map_nil]); first | done | rfl | (simp only [List.length_drop, List.length_take]; rfl)) ?_; (with_reducible refine (observatoryref02_Half.calls k a0 t460 _ A7.out).mono ?_); rintro e w' ⟨rfl, ⟨nd, rfl⟩⟩; refine ⟨_, rfl, ?_⟩; (try clear A7); have p461 : 0 ≤ ((ji8) : Int) := of_decide_eq_true (by first | (with_reducible assumption) | assumption); have q461 : (ji8) < (l4.length : Int) := of_decide_eq_true (by first | (with_reducible assumption) | assumption); obtain ⟨ad461, e461, hx461_0⟩ := Kd.at_string HR4.out (ji8) p461 q461; cases e461; replace p461 := eq_true p461; replace q461 := eq_true q461; obtain ⟨i032, hi032, _, hsz32, _⟩ := info_parts info9; obtain ⟨hcut32, hA32, hC32⟩ := print_take_of (P := Tryd.prog) Value.string (⟨#[]⟩ : ByteArray) 22 9 .i64 Tryd.underlying22 hi032 hsz32 (some ad461) c4 l4 (ji8) (of_decide_eq_true (by first | (with_reducible assumption) | assumption)) (of_decide_eq_true (by first | (with_reducible assumption) | assumption)) HC4.out; have HR462 := Aside0.mk (Kd.C_of_reads (h1 := fun _ => rfl) (hA32 _ (Kd.reads_of_C HR4.out))); have HC462 := Aside0.mk hC32; clear hA32 hC32 hi032 hsz32) | ((with_reducible refine gate_callee (f := 41) rfl ?_); refine goesL_ (some 68) rfl rfl Tryd.func41 (by kernel_rfl) rfl #[.int .i64 (wrap64 (a0 - t460)), .int .i64 (wrap64 (a1 - t460)), .bool false, .string a3, .slice (some ad461) (l4.take ((ji8) : Int).toNat).length c4] rfl (by (try simp only [List.map_toArray, List.map_cons, List.map_nil]); first | done | (rw [show (l4.take ((ji8) : Int).toNat).length = (ji8).toNat from (by rw [List.length_take]; have h_ : ((ji8) : Int) ≤ (l4.length : Int) := of_decide_eq_true (by first | (with_reducible assumption) | assumption); omega)] <;> rfl) | (simp only [hji8]; rfl) | rfl | (simp only [List.length_drop, List.length_take]; rfl)) ?_; (with_reducible refine (observatoryref02_both.calls k (wrap64 (a0 - t460)) (wrap64 (a1 - t460)) false a3 _ _ (l4.take ((ji8) : Int).toNat) t475 t476 _ ?side1 ?side2 A26.out).mono ?_); (case side1 => repeat (first | exact HR462.out | (with_reducible refine Kd.C_alloc ?_ _) | (with_reducible refine Kd.C_drewN ?_ _) | (with_reducible refine Kd.C_drew ?_))); (case side2 => exact HC462.out); rintro e w33 ⟨rfl, hb⟩; refine ⟨_, rfl, ?_⟩; have n0_ := Aside0.mk (below_step (by repeat (first | (with_reducible first | exact HB.out | apply below_alloc | apply pw_below_drewN | apply below_drew1) | exact HB.out)) hb); clear HB; have HB := n0_; clear n0_; (try clear hb); (try clear hb2); (try clear hk); (try clear hi); (try clear A26)) | ((with_reducible refine gate_callee (f := 21) rfl ?_); refine goesL_ (some 79) rfl rfl Tryd.func21 (by kernel_rfl) rfl #[.int .i64 (wrap64 (a0 - t460)), .int .i64 (wrap64 (a1 - t460)), .bool false, .string a3, .slice (some ad461) (l4.take ((ji8) : Int).toNat).length c4] rfl (by (try simp only [List.map_toArray, List.map_cons, List.map_nil]); first | done | (rw [show (l4.take ((ji8) : Int).toNat).length = (ji8).toNat from (by rw [List.length_take]; have h_ : ((ji8) : Int) ≤ (l4.length : Int) := of_decide_eq_true (by first | (with_reducible assumption) | assumption); omega)] <;> rfl) | (simp only [hji8]; rfl) | rfl | (simp only [List.length_drop, List.length_take]; rfl)) ?_; (with_reducible refine (ih k (by omega) (wrap64 (a0 - t460)) (wrap64 (a1 - t460)) false a3 _ _ (l4.take ((ji8) : Int).toNat) t477 _ ?side1 ?side2 A27.out).mono ?_); (case side1 => repeat (first | exact (Kd.C_below HR462.out HB.out) | (with_reducible refine Kd.C_alloc ?_ _) | (with_reducible refine Kd.C_drewN ?_ _) | (with_reducible refine Kd.C_drew ?_))); (case side2 => exact HC462.out); rintro e w34 ⟨v478, rfl, ho0, hb⟩; refine ⟨_, rfl, ?_⟩; have n0_ := Aside0.mk (Kd.R_lower ho0 (below_size (by repeat (first | (with_reducible first | exact HB.out | apply below_alloc | apply pw_below_drewN | apply below_drew1) | exact HB.out)))); have n1_ := Aside0.mk (below_step (by repeat (first | (with_reducible first | exact HB.out | apply below_alloc | apply pw_below_drewN | apply below_drew1) | exact HB.out)) hb); clear HB; have HO479 := n0_; have HB := n1_; clear n0_ n1_; (try clear hb); (try clear hb2); (try clear hk); (try clear hi); (try clear ho0); (try clear A27)) | ((with_reducible refine gate_dst (N := 82) rfl ?_); refine Kd.R_lit Kd.string _ 9 ?hg (N := 82) ?hd (xs := ([(⟨#[110, 111, 100, 101]⟩ : ByteArray), rdOf ByteArray.empty l4 (ji8), t475] : List ByteArray)) (inner := [.string (⟨#[110, 111, 100, 101]⟩ : ByteArray), .string (rdOf ByteArray.empty l4 (ji8)), .string t475]) (ok := fun _ => True) (okp := fun _ => True) ?hr ?hp (fun _ hk => hk) trivial (Below.refl _ _) (Nat.le_refl _) (by simp) ?_; (case hd => rfl); (case hg => rfl); (case hr => first | (go_simp; done) | (go_simp; rfl)); (case hp => exact (Reps.one (show Kd.M Kd.string _ _ _ (⟨#[110, 111, 100, 101]⟩ : ByteArray) [.string (⟨#[110, 111, 100, 101]⟩ : ByteArray)] from rfl) (Reps.one (show Kd.M Kd.string _ _ _ (rdOf ByteArray.empty l4 (ji8)) [.string (rdOf ByteArray.empty l4 (ji8))] from rfl) (Reps.one (show Kd.M Kd.string _ _ _ t475 [.string t475] from rfl) (Reps.none _ _))))); intro v481 w35 ho36 hb hg_ hnew_; clear hg_ hnew_; (first | rw [← Ny480.out] at ho36 | (simp only [Int.reduceToNat] at ho36; rw [← Ny480.out] at ho36)); have n0_ := Aside0.mk (Kd.R_elder' (by (with_reducible repeat (first | apply Kd.R_alloc | apply Kd.R_drewN | apply Kd.R_drew)); exact HO479.out) (Kd.R_base ho36) hb); have n1_ := Aside0.mk (Kd.R_lower (Kd.R_new' ho36 (Kd.R_lt (by (with_reducible repeat (first | apply Kd.R_alloc | apply Kd.R_drewN | apply Kd.R_drew)); exact HO479.out))) (below_size (by repeat (first | (with_reducible first | exact HB.out | apply below_alloc | apply pw_below_drewN | apply below_drew1) | exact HB.out)))); have n2_ := Aside0.mk (below_step (by repeat (first | (with_reducible first | exact HB.out | apply below_alloc | apply pw_below_drewN | apply below_drew1) | exact HB.out)) hb); clear HO479; clear HB; have HO479 := n0_; have HO482 := n1_; have HB := n2_; clear n0_ n1_ n2_; clear hb ho36; obtain ⟨Ao37, co37, eo37⟩ := Kd.R_slice HO482.out; subst eo37) | ((with_reducible refine gate_callee (f := 36) rfl ?_); refine goesL_ (some 83) rfl rfl Tryd.func36 (by kernel_rfl) rfl #[.slice Ao37 y480.length co37] rfl (by (try simp only [List.map_toArray, List.map_cons, List.map_nil]); first | done | rfl | (simp only [List.length_drop, List.length_take]; rfl)) ?_; (with_reducible refine (observatoryref01_Joined.calls k _ _ y480 t483 _ ?side1 ?side2 A28.out).mono ?_); (case side1 => repeat (first | exact (Kd.R_reads' HO482.out).2.2 | (with_reducible refine Kd.C_alloc ?_ _) | (with_reducible refine Kd.C_drewN ?_ _) | (with_reducible refine Kd.C_drew ?_))); (case side2 => exact (Kd.R_reads' HO482.out).2.1); rintro e w38 ⟨rfl, hb⟩; refine ⟨_, rfl, ?_⟩; have n0_ := Aside0.mk (Kd.R_below (by (with_reducible repeat (first | apply Kd.R_alloc | apply Kd.R_drewN | apply Kd.R_drew)); exact HO479.out) hb); have n1_ := Aside0.mk (Kd.R_below (by (with_reducible repeat (first | apply Kd.R_alloc | apply Kd.R_drewN | apply Kd.R_drew)); exact HO482.out) hb); have n2_ := Aside0.mk (below_step (by repeat (first | (with_reducible first | exact HB.out | apply below_alloc | apply pw_below_drewN | apply below_drew1) | exact HB.out)) hb); clear HO479; clear HO482; clear HB; have HO479 := n0_; have HO482 := n1_; have HB := n2_; clear n0_ n1_ n2_; (try clear hb); (try clear hb2); (try clear hk); (try clear hi); (try clear A28)) | ((with_reducible refine gate_builtin (b := .append) (xs := #[.tmp 79, .tmp 84]) rfl ?_); at_builtin; refine Kd.R_append Kd.string (w0 := w) w.heap.size rfl (.tmp 79) (.tmp 84) 22 9 (.string ⟨#[]⟩) 16 rfl Tryd.underlying22 info9 rfl (by decide) (by omega) v478 t477 t483 [.string t483] (fun k_ => some k_ ≠ (.slice Ao37 y480.length co37 : Value).ownBlock) (fun _ => False) rfl rfl ?aP (fun _ hk => hk.elim) ?aF ?aO ?aB ?aS ?aL ?_; (case aP => exact rfl); (case aB => exact (by repeat (first | (with_reducible first | exact HB.out | apply below_alloc | apply pw_below_drewN | apply below_drew1) | exact HB.out))); (case aF => exact (fun k_ hk => Kd.fresh' (Kd.R_lt (by (with_reducible repeat (first | apply Kd.R_alloc | apply Kd.R_drewN | apply Kd.R_drew)); exact HO482.out)) k_ hk)); (case aO => exact (by (with_reducible repeat (first | apply Kd.R_alloc | apply Kd.R_drewN | apply Kd.R_drew)); exact Kd.R_mono HO479.out (fun _ hk => hk.2))); (case aS => exact (below_size (by repeat (first | (with_reducible first | exact HB.out | apply below_alloc | apply pw_below_drewN | apply below_drew1) | exact HB.out)))); (case aL => have := LMc29.out; omega); intro v485 w39 ho hb hg hat; rw [← Ny484.out] at ho; have n0_ := Aside0.mk (Kd.R_after (ok := (fun _ => True)) (by (with_reducible repeat (first | apply Kd.R_alloc | apply Kd.R_drewN | apply Kd.R_drew)); exact HO482.out) hg hat); have n1_ := Aside0.mk (hb); have n2_ := Aside0.mk (ho); clear HO482; clear HB; clear HO479; have HO482 := n0_; have HB := n1_; have HO486 := n2_; clear n0_ n1_ n2_; clear ho hb hg hat) | ((with_reducible refine gate_dst (N := 89) rfl ?_); refine Kd.R_lit Kd.string _ 9 ?hg (N := 89) ?hd (xs := ([(⟨#[110, 111, 100, 101]⟩ : ByteArray), rdOf ByteArray.empty l4 (ji8), t476] : List ByteArray)) (inner := [.string (⟨#[110, 111, 100, 101]⟩ : ByteArray), .string (rdOf ByteArray.empty l4 (ji8)), .string t476]) (ok := fun _ => True) (okp := fun _ => True) ?hr ?hp (fun _ hk => hk) trivial (Below.refl _ _) (Nat.le_refl _) (by simp) ?_; (case hd => rfl); (case hg => rfl); (case hr => first | (go_simp; done) | (go_simp; rfl)); (case hp => exact (Reps.one (show Kd.M Kd.string _ _ _ (⟨#[110, 111, 100, 101]⟩ : ByteArray) [.string (⟨#[110, 111, 100, 101]⟩ : ByteArray)] from rfl) (Reps.one (show Kd.M Kd.string _ _ _ (rdOf ByteArray.empty l4 (ji8)) [.string (rdOf ByteArray.empty l4 (ji8))] from rfl) (Reps.one (show Kd.M Kd.string _ _ _ t476 [.string t476] from rfl) (Reps.none _ _))))); intro v488 w40 ho41 hb hg_ hnew_; clear hg_ hnew_; (first | rw [← Ny487.out] at ho41 | (simp only [Int.reduceToNat] at ho41; rw [← Ny487.out] at ho41)); have n0_ := Aside0.mk (Kd.R_elder' (by (with_reducible repeat (first | apply Kd.R_alloc | apply Kd.R_drewN | apply Kd.R_drew)); exact HO482.out) (Kd.R_base ho41) hb); have n1_ := Aside0.mk (Kd.R_elder' (by (with_reducible repeat (first | apply Kd.R_alloc | apply Kd.R_drewN | apply Kd.R_drew)); exact HO486.out) (Kd.R_base ho41) hb); have n2_ := Aside0.mk (Kd.R_lower (Kd.R_new' (Kd.R_new' ho41 (Kd.R_lt (by (with_reducible repeat (first | apply Kd.R_alloc | apply Kd.R_drewN | apply Kd.R_drew)); exact HO482.out))) (Kd.R_lt (by (with_reducible repeat (first | apply Kd.R_alloc | apply Kd.R_drewN | apply Kd.R_drew)); exact HO486.out))) (below_size (by repeat (first | (with_reducible first | exact HB.out | apply below_alloc | apply pw_below_drewN | apply below_drew1) | exact HB.out)))); have n3_ := Aside0.mk (below_step (by repeat (first | (with_reducible first | exact HB.out | apply below_alloc | apply pw_below_drewN | apply below_drew1) | exact HB.out)) hb); clear HO482; clear HO486; clear HB; have HO482 := n0_; have HO486 := n1_; have HO489 := n2_; have HB := n3_; clear n0_ n1_ n2_ n3_; clear hb ho41; obtain ⟨Ao42, co42, eo42⟩ := Kd.R_slice HO489.out; subst eo42) | ((with_reducible refine gate_callee (f := 36) rfl ?_); refine goesL_ (some 90) rfl rfl Tryd.func36 (by kernel_rfl) rfl #[.slice Ao42 y487.length co42] rfl (by (try simp only [List.map_toArray, List.map_cons, List.map_nil]); first | done | rfl | (simp only [List.length_drop, List.length_take]; rfl)) ?_; (with_reducible refine (observatoryref01_Joined.calls k _ _ y487 t490 _ ?side1 ?side2 A30.out).mono ?_); (case side1 => repeat (first | exact (Kd.R_reads' HO489.out).2.2 | (with_reducible refine Kd.C_alloc ?_ _) | (with_reducible refine Kd.C_drewN ?_ _) | (with_reducible refine Kd.C_drew ?_))); (case side2 => exact (Kd.R_reads' HO489.out).2.1); rintro e w43 ⟨rfl, hb⟩; refine ⟨_, rfl, ?_⟩; have n0_ := Aside0.mk (Kd.R_below (by (with_reducible repeat (first | apply Kd.R_alloc | apply Kd.R_drewN | apply Kd.R_drew)); exact HO482.out) hb); have n1_ := Aside0.mk (Kd.R_below (by (with_reducible repeat (first | apply Kd.R_alloc | apply Kd.R_drewN | apply Kd.R_drew)); exact HO486.out) hb); have n2_ := Aside0.mk (Kd.R_below (by (with_reducible repeat (first | apply Kd.R_alloc | apply Kd.R_drewN | apply Kd.R_drew)); exact HO489.out) hb); have n3_ := Aside0.mk (below_step (by repeat (first | (with_reducible first | exact HB.out | apply below_alloc | apply pw_below_drewN | apply below_drew1) | exact HB.out)) hb); clear HO482; clear HO486; clear HO489; clear HB; have HO482 := n0_; have HO486 := n1_; have HO489 := n2_; have HB := n3_; clear n0_ n1_ n2_ n3_; (try clear hb); (try clear hb2); (try clear hk); (try clear hi); (try clear A30)) | ((with_reducible refine gate_builtin (b := .append) (xs := #[.tmp 86, .tmp 91]) rfl ?_); at_builtin; refine Kd.R_append Kd.string (w0 := w) w.heap.size rfl (.tmp 86) (.tmp 91) 22 9 (.string ⟨#[]⟩) 16 rfl Tryd.underlying22 info9 rfl (by decide) (by omega) v485 y484 t490 [.string t490] (fun k_ => some k_ ≠ (.slice Ao37 y480.length co37 : Value).ownBlock ∧ some k_ ≠ (.slice Ao42 y487.length co42 : Value).ownBlock) (fun _ => False) rfl rfl ?aP (fun _ hk => hk.elim) ?aF ?aO ?aB ?aS ?aL ?_; (case aP => exact rfl); (case aB => exact (by repeat (first | (with_reducible first | exact HB.out | apply below_alloc | apply pw_below_drewN | apply below_drew1) | exact HB.out))); (case aF => exact (fun k_ hk => ⟨Kd.fresh' (Kd.R_lt (by (with_reducible repeat (first | apply Kd.R_alloc | apply Kd.R_drewN | apply Kd.R_drew)); exact HO482.out)) k_ hk, Kd.fresh' (Kd.R_lt (by (with_reducible repeat (first | apply Kd.R_alloc | apply Kd.R_drewN | apply Kd.R_drew)); exact HO489.out)) k_ hk⟩)); (case aO => exact (by (with_reducible repeat (first | apply Kd.R_alloc | apply Kd.R_drewN | apply Kd.R_drew)); exact HO486.out)); (case aS => exact (below_size (by repeat (first | (with_reducible first | exact HB.out | apply below_alloc | apply pw_below_drewN | apply below_drew1) | exact HB.out)))); (case aL => have := LMc31.out; omega); intro v492 w44 ho hb hg hat; rw [← Ny491.out] at ho; have n0_ := Aside0.mk (Kd.R_after (ok := (fun k_ => some k_ ≠ (.slice Ao42 y487.length co42 : Value).ownBlock)) (by (with_reducible repeat (first | apply Kd.R_alloc | apply Kd.R_drewN | apply Kd.R_drew)); exact Kd.R_mono HO482.out (fun _ hk => ⟨hk.2, hk.1.2⟩)) hg hat); have n1_ := Aside0.mk (Kd.R_after (ok := (fun k_ => some k_ ≠ (.slice Ao37 y480.length co37 : Value).ownBlock)) (by (with_reducible repeat (first | apply Kd.R_alloc | apply Kd.R_drewN | apply Kd.R_drew)); exact Kd.R_mono HO489.out (fun _ hk => ⟨hk.1.2, hk.2⟩)) hg hat); have n2_ := Aside0.mk (hb); have n3_ := Aside0.mk (ho); clear HO482; clear HO489; clear HB; clear HO486; have HO482 := n0_; have HO489 := n1_; have HB := n2_; have HO493 := n3_; clear n0_ n1_ n2_ n3_; clear ho hb hg hat))
        go_ret
        exact ⟨_, by first | rfl | (simp [errW_none, errW_some] <;> rfl) | (simp only [← hji8]; first | rfl | (simp [errW_none, errW_some] <;> rfl)) | (simp [*, errW_none, errW_some] <;> rfl), by (with_reducible repeat (first | apply Kd.R_alloc | apply Kd.R_drewN | apply Kd.R_drew)); exact Kd.R_mono HO493.out (fun _ hk => trivial), by repeat (first | (with_reducible first | exact HB.out | apply below_alloc | apply pw_below_drewN | apply below_drew1) | exact HB.out)⟩
       ·
        rw [if_neg c31] at H
        exact absurd H (by simp)
      ·
       rw [if_neg c29] at H
       exact absurd H (by simp)
    ·
     rw [if_neg c12] at H
     exact absurd H (by simp)
   ·
    rw [if_neg c10] at H
    exact absurd H (by simp)
  ·
   rw [if_neg c9] at H
   exact absurd H (by simp)

end Go.Proofs.YtapnakfhkdcfeaaDoor.P
