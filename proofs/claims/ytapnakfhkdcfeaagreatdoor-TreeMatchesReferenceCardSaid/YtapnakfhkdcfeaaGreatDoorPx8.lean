-- printed by wip/tools/oprint.py over the kit's print.py: this session's own program
import Derived.Test.YtapnakfhkdcfeaaGreatDoorPx0
import Derived.Test.YtapnakfhkdcfeaaGreatDoorPx4
import Derived.Test.YtapnakfhkdcfeaaGreatDoorPx5
import Derived.Test.YtapnakfhkdcfeaaGreatDoorPx7
namespace Go.Proofs.YtapnakfhkdcfeaaGreatDoor.P
open Go.RowKit Go.Proofs.YtapnakfhkdcfeaaGreatDoorW.PrintWords Go.Proofs.YtapnakfhkdcfeaaGreatDoorW.PrintLast Go.Proofs.YtapnakfhkdcfeaaGreatDoorW.PrintMore
attribute [local go_sem] max2_int min2_int max_two min_two max_three min_three max_four min_four   -- for this text's walks alone
set_option linter.unusedVariables false
set_option linter.unusedSimpArgs false
open Go.Proofs.YtapnakfhkdcfeaaGreatDoor.Dg

/-! ### observatoryref02_up: function 39 -/
def observatoryref02_up.f : Nat → Int → Int → ByteArray → List ByteArray → Option (ByteArray)
 | 0, _, _, _, _ => none
 | k + 1, a0, a1, a2, l3 => if a0 = 1 then (some a2) else ((observatoryref02_Half.f k a0).bind fun t356 => (if 0 ≤ (wrap64 ((l3.length : Int) - 1)) then (if (wrap64 ((l3.length : Int) - 1)) < (l3.length : Int) then (if (wrap64 ((l3.length : Int) - 1)) ≤ (l3.length : Int) then (if a1 < t356 then ((observatoryref02_up.f k t356 a1 a2 (l3.take ((wrap64 ((l3.length : Int) - 1)) : Int).toNat)).bind fun t359 => ((observatoryref02_node.f k t359 (rdOf ByteArray.empty l3 (wrap64 ((l3.length : Int) - 1)))).bind fun t360 => (some t360))) else ((observatoryref02_up.f k (wrap64 (a0 - t356)) (wrap64 (a1 - t356)) a2 (l3.take ((wrap64 ((l3.length : Int) - 1)) : Int).toNat)).bind fun t361 => ((observatoryref02_node.f k (rdOf ByteArray.empty l3 (wrap64 ((l3.length : Int) - 1))) t361).bind fun t362 => (some t362)))) else (none)) else (none)) else (none)))
theorem observatoryref02_up.mono_l : ∀ k, (∀ y0 y1 y2 y3, LeO (observatoryref02_up.f k y0 y1 y2 y3) (observatoryref02_up.f (k + 1) y0 y1 y2 y3))
 | 0 => fun _ _ _ _ r h => by simp [observatoryref02_up.f] at h
 | k + 1 => by
  have ih0 := observatoryref02_up.mono_l k
  ·
   intro y0 y1 y2 y3
   unfold observatoryref02_up.f
   repeat' first
   | (with_reducible exact ih0 _ _ _ _)
   | (with_reducible exact observatoryref02_Half.mono _ _)
   | (with_reducible exact observatoryref02_node.mono _ _ _)
   | (with_reducible exact LeO.refl _)
   | (with_reducible exact LeO.none _)
   | (with_reducible refine LeO.ite ?_ ?_)
   | (with_reducible refine LeO.bind ?_ (fun _ => ?_))
   | exact ih0 _ _ _ _
   | exact observatoryref02_Half.mono _ _
   | exact observatoryref02_node.mono _ _ _
   | exact LeO.none _
   | refine LeO.ite ?_ ?_
   | refine LeO.bind ?_ (fun _ => ?_)
theorem observatoryref02_up.mono : ∀ a0 a1 a2 a3 k, LeO (observatoryref02_up.f k a0 a1 a2 a3) (observatoryref02_up.f (k + 1) a0 a1 a2 a3) := by
 intro a0 a1 a2 a3 k
 have ih0 := observatoryref02_up.mono_l k
 exact ih0 a0 a1 a2 a3
set_option maxHeartbeats 8000000 in
set_option maxRecDepth 100000 in
theorem observatoryref02_up.calls (k : Nat) : ∀ (a0 : Int) (a1 : Int) (a2 : ByteArray) (A3 : Option Addr) (c3 : Nat) (l3 : List ByteArray) (r : ByteArray) (w : World) (hr3 : Kd.C Kd.string w A3 l3.length l3) (hc3 : l3.length ≤ c3) (h : observatoryref02_up.f k a0 a1 a2 l3 = some r),
  Calls Tryz.prog 39 #[.int .i64 a0, .int .i64 a1, .string a2, .slice A3 l3.length c3] w fun e w' => e = .returned (.string r) ∧ Below w.heap.size w w' := by
 induction k using Nat.strongRecOn with
 | _ k ih =>
 intro a0 a1 a2 A3 c3 l3 r w hr3 hc3 h
 cases k with
 | zero => exact absurd h (by simp [observatoryref02_up.f])
 | succ k =>
 simp only [observatoryref02_up.f] at h
 have HR3 := Aside0.mk hr3
 have HC3 := Aside0.mk hc3
 clear hr3 hc3
 have HB := Aside0.mk (Below.refl w.heap.size w)
 have H : (if a0 = 1 then (some a2) else ((observatoryref02_Half.f k a0).bind fun t356 => (if 0 ≤ (wrap64 ((l3.length : Int) - 1)) then (if (wrap64 ((l3.length : Int) - 1)) < (l3.length : Int) then (if (wrap64 ((l3.length : Int) - 1)) ≤ (l3.length : Int) then (if a1 < t356 then ((observatoryref02_up.f k t356 a1 a2 (l3.take ((wrap64 ((l3.length : Int) - 1)) : Int).toNat)).bind fun t359 => ((observatoryref02_node.f k t359 (rdOf ByteArray.empty l3 (wrap64 ((l3.length : Int) - 1)))).bind fun t360 => (some t360))) else ((observatoryref02_up.f k (wrap64 (a0 - t356)) (wrap64 (a1 - t356)) a2 (l3.take ((wrap64 ((l3.length : Int) - 1)) : Int).toNat)).bind fun t361 => ((observatoryref02_node.f k (rdOf ByteArray.empty l3 (wrap64 ((l3.length : Int) - 1))) t361).bind fun t362 => (some t362)))) else (none)) else (none)) else (none)))) = some r := h
 clear h
 by_cases c5 : a0 = 1
 ·
  rw [if_pos c5] at H
  have c5b0 : (a0 == 1) = true := beq_iff_eq.mpr c5
  have c5b1 : (a0 != 1) = false := bne_eq_false_iff_eq.mpr c5
  clear c5
  obtain rfl := Option.some.inj H
  go_enter Tryz.func39, Tryz.ntmps39
  go_wp2
  go_ret
  exact ⟨by first | rfl | (simp [errW_none, errW_some] <;> rfl) | (simp [*, errW_none, errW_some] <;> rfl), by repeat (first | (with_reducible first | exact HB.out | apply below_alloc | apply pw_below_drewN | apply below_drew1) | exact HB.out)⟩
 ·
  rw [if_neg c5] at H
  have c5b0 : (a0 == 1) = false := beq_eq_false_iff_ne.mpr c5
  have c5b1 : (a0 != 1) = true := bne_iff_ne.mpr c5
  replace H := Option.bind_eq_some_iff.mp H
  obtain ⟨t356, A60, H⟩ := H
  replace H : (if 0 ≤ (wrap64 ((l3.length : Int) - 1)) then (if (wrap64 ((l3.length : Int) - 1)) < (l3.length : Int) then (if (wrap64 ((l3.length : Int) - 1)) ≤ (l3.length : Int) then (if a1 < t356 then ((observatoryref02_up.f k t356 a1 a2 (l3.take ((wrap64 ((l3.length : Int) - 1)) : Int).toNat)).bind fun t359 => ((observatoryref02_node.f k t359 (rdOf ByteArray.empty l3 (wrap64 ((l3.length : Int) - 1)))).bind fun t360 => (some t360))) else ((observatoryref02_up.f k (wrap64 (a0 - t356)) (wrap64 (a1 - t356)) a2 (l3.take ((wrap64 ((l3.length : Int) - 1)) : Int).toNat)).bind fun t361 => ((observatoryref02_node.f k (rdOf ByteArray.empty l3 (wrap64 ((l3.length : Int) - 1))) t361).bind fun t362 => (some t362)))) else (none)) else (none)) else (none)) = some r := H
  have A6 := Aside0.mk A60
  clear A60
  obtain ⟨ji7, hji7⟩ : ∃ j_ : Int, (wrap64 ((l3.length : Int) - 1)) = j_ := ⟨_, rfl⟩
  replace H : (if 0 ≤ (ji7) then (if (ji7) < (l3.length : Int) then (if (ji7) ≤ (l3.length : Int) then (if a1 < t356 then ((observatoryref02_up.f k t356 a1 a2 (l3.take ((ji7) : Int).toNat)).bind fun t359 => ((observatoryref02_node.f k t359 (rdOf ByteArray.empty l3 (ji7))).bind fun t360 => (some t360))) else ((observatoryref02_up.f k (wrap64 (a0 - t356)) (wrap64 (a1 - t356)) a2 (l3.take ((ji7) : Int).toNat)).bind fun t361 => ((observatoryref02_node.f k (rdOf ByteArray.empty l3 (ji7)) t361).bind fun t362 => (some t362)))) else (none)) else (none)) else (none)) = some r := by first | (rw [hji7] at H; exact H) | (simp only [hji7] at H ⊢; exact H)
  (try rw [hji7] at A6)
  have hji7w : (IntKind.i64.wrap ((l3.length : Int) - 1)) = ji7 := (i64_w _).trans hji7
  by_cases c8 : 0 ≤ (ji7)
  ·
   rw [if_pos c8] at H
   have c8b0 : decide (0 ≤ (ji7)) = true := decide_eq_true c8
   clear c8
   by_cases c9 : (ji7) < (l3.length : Int)
   ·
    rw [if_pos c9] at H
    have c9b0 : decide ((ji7) < (l3.length : Int)) = true := decide_eq_true c9
    clear c9
    have c10b0 := eq_true (of_decide_eq_true (by first | (with_reducible assumption) | assumption) : 0 ≤ (ji7))
    by_cases c11 : (ji7) ≤ (l3.length : Int)
    ·
     rw [if_pos c11] at H
     have c11b0 := eq_true c11
     have c11b1 : decide ((ji7) ≤ (l3.length : Int)) = true := decide_eq_true c11
     clear c11
     by_cases c12 : a1 < t356
     ·
      rw [if_pos c12] at H
      have c12b0 : decide (a1 < t356) = true := decide_eq_true c12
      clear c12
      replace H := Option.bind_eq_some_iff.mp H
      obtain ⟨t359, A130, H⟩ := H
      replace H : ((observatoryref02_node.f k t359 (rdOf ByteArray.empty l3 (ji7))).bind fun t360 => (some t360)) = some r := H
      have A13 := Aside0.mk A130
      clear A130
      replace H := Option.bind_eq_some_iff.mp H
      obtain ⟨t360, A140, H⟩ := H
      replace H : (some t360) = some r := H
      have A14 := Aside0.mk A140
      clear A140
      obtain rfl := Option.some.inj H
      go_enter Tryz.func39, Tryz.ntmps39
      go_wp2_with (first | ((with_reducible refine gate_callee (f := 52) rfl ?_); refine goesL_ (some 16) rfl rfl Tryz.func52 (by kernel_rfl) rfl #[.int .i64 a0] rfl (by (try simp only [List.map_toArray, List.map_cons, List.map_nil]); first | done | rfl | (simp only [List.length_drop, List.length_take]; rfl)) ?_; (with_reducible refine (observatoryref02_Half.calls k a0 t356 _ A6.out).mono ?_); rintro e w' ⟨rfl, ⟨nd, rfl⟩⟩; refine ⟨_, rfl, ?_⟩; (try clear A6); have p357 : 0 ≤ ((ji7) : Int) := of_decide_eq_true (by first | (with_reducible assumption) | assumption); have q357 : (ji7) < (l3.length : Int) := of_decide_eq_true (by first | (with_reducible assumption) | assumption); obtain ⟨ad357, e357, hx357_0⟩ := Kd.at_string HR3.out (ji7) p357 q357; cases e357; replace p357 := eq_true p357; replace q357 := eq_true q357; obtain ⟨i015, hi015, _, hsz15, _⟩ := info_parts info9; obtain ⟨hcut15, hA15, hC15⟩ := print_take_of (P := Tryz.prog) Value.string (⟨#[]⟩ : ByteArray) 22 9 .i64 Tryz.underlying22 hi015 hsz15 (some ad357) c3 l3 (ji7) (of_decide_eq_true (by first | (with_reducible assumption) | assumption)) (of_decide_eq_true (by first | (with_reducible assumption) | assumption)) HC3.out; have HR358 := Aside0.mk (Kd.C_of_reads (h1 := fun _ => rfl) (hA15 _ (Kd.reads_of_C HR3.out))); have HC358 := Aside0.mk hC15; clear hA15 hC15 hi015 hsz15) | ((with_reducible refine gate_callee (f := 39) rfl ?_); refine goesL_ (some 35) rfl rfl Tryz.func39 (by kernel_rfl) rfl #[.int .i64 t356, .int .i64 a1, .string a2, .slice (some ad357) (l3.take ((ji7) : Int).toNat).length c3] rfl (by (try simp only [List.map_toArray, List.map_cons, List.map_nil]); first | done | (rw [show (l3.take ((ji7) : Int).toNat).length = (ji7).toNat from (by rw [List.length_take]; have h_ : ((ji7) : Int) ≤ (l3.length : Int) := of_decide_eq_true (by first | (with_reducible assumption) | assumption); omega)] <;> rfl) | (simp only [hji7]; rfl) | rfl | (simp only [List.length_drop, List.length_take]; rfl)) ?_; (with_reducible refine (ih k (by omega) t356 a1 a2 _ _ (l3.take ((ji7) : Int).toNat) t359 _ ?side1 ?side2 A13.out).mono ?_); (case side1 => repeat (first | exact HR358.out | (with_reducible refine Kd.C_alloc ?_ _) | (with_reducible refine Kd.C_drewN ?_ _) | (with_reducible refine Kd.C_drew ?_))); (case side2 => exact HC358.out); rintro e w16 ⟨rfl, hb⟩; refine ⟨_, rfl, ?_⟩; have n0_ := Aside0.mk (below_step (by repeat (first | (with_reducible first | exact HB.out | apply below_alloc | apply pw_below_drewN | apply below_drew1) | exact HB.out)) hb); clear HB; have HB := n0_; clear n0_; (try clear hb); (try clear hb2); (try clear hk); (try clear hi); (try clear A13)) | ((with_reducible refine gate_callee (f := 53) rfl ?_); refine goesL_ (some 37) rfl rfl Tryz.func53 (by kernel_rfl) rfl #[.string t359, .string (rdOf ByteArray.empty l3 (ji7))] rfl (by (try simp only [List.map_toArray, List.map_cons, List.map_nil]); first | done | (simp only [hji7]; rfl) | rfl | (simp only [List.length_drop, List.length_take]; rfl)) ?_; (with_reducible refine (observatoryref02_node.calls k t359 (rdOf ByteArray.empty l3 (ji7)) t360 _ A14.out).mono ?_); rintro e w17 ⟨rfl, hb⟩; refine ⟨_, rfl, ?_⟩; have n0_ := Aside0.mk (below_step (by repeat (first | (with_reducible first | exact HB.out | apply below_alloc | apply pw_below_drewN | apply below_drew1) | exact HB.out)) hb); clear HB; have HB := n0_; clear n0_; (try clear hb); (try clear hb2); (try clear hk); (try clear hi); (try clear A14)))
      go_ret
      exact ⟨by first | rfl | (simp [errW_none, errW_some] <;> rfl) | (simp only [← hji7]; first | rfl | (simp [errW_none, errW_some] <;> rfl)) | (simp [*, errW_none, errW_some] <;> rfl), by repeat (first | (with_reducible first | exact HB.out | apply below_alloc | apply pw_below_drewN | apply below_drew1) | exact HB.out)⟩
     ·
      rw [if_neg c12] at H
      have c12b0 : decide (a1 < t356) = false := decide_eq_false c12
      clear c12
      replace H := Option.bind_eq_some_iff.mp H
      obtain ⟨t361, A180, H⟩ := H
      replace H : ((observatoryref02_node.f k (rdOf ByteArray.empty l3 (ji7)) t361).bind fun t362 => (some t362)) = some r := H
      have A18 := Aside0.mk A180
      clear A180
      replace H := Option.bind_eq_some_iff.mp H
      obtain ⟨t362, A190, H⟩ := H
      replace H : (some t362) = some r := H
      have A19 := Aside0.mk A190
      clear A190
      obtain rfl := Option.some.inj H
      go_enter Tryz.func39, Tryz.ntmps39
      go_wp2_with (first | ((with_reducible refine gate_callee (f := 52) rfl ?_); refine goesL_ (some 16) rfl rfl Tryz.func52 (by kernel_rfl) rfl #[.int .i64 a0] rfl (by (try simp only [List.map_toArray, List.map_cons, List.map_nil]); first | done | rfl | (simp only [List.length_drop, List.length_take]; rfl)) ?_; (with_reducible refine (observatoryref02_Half.calls k a0 t356 _ A6.out).mono ?_); rintro e w' ⟨rfl, ⟨nd, rfl⟩⟩; refine ⟨_, rfl, ?_⟩; (try clear A6); have p357 : 0 ≤ ((ji7) : Int) := of_decide_eq_true (by first | (with_reducible assumption) | assumption); have q357 : (ji7) < (l3.length : Int) := of_decide_eq_true (by first | (with_reducible assumption) | assumption); obtain ⟨ad357, e357, hx357_0⟩ := Kd.at_string HR3.out (ji7) p357 q357; cases e357; replace p357 := eq_true p357; replace q357 := eq_true q357; obtain ⟨i020, hi020, _, hsz20, _⟩ := info_parts info9; obtain ⟨hcut20, hA20, hC20⟩ := print_take_of (P := Tryz.prog) Value.string (⟨#[]⟩ : ByteArray) 22 9 .i64 Tryz.underlying22 hi020 hsz20 (some ad357) c3 l3 (ji7) (of_decide_eq_true (by first | (with_reducible assumption) | assumption)) (of_decide_eq_true (by first | (with_reducible assumption) | assumption)) HC3.out; have HR358 := Aside0.mk (Kd.C_of_reads (h1 := fun _ => rfl) (hA20 _ (Kd.reads_of_C HR3.out))); have HC358 := Aside0.mk hC20; clear hA20 hC20 hi020 hsz20) | ((with_reducible refine gate_callee (f := 39) rfl ?_); refine goesL_ (some 47) rfl rfl Tryz.func39 (by kernel_rfl) rfl #[.int .i64 (wrap64 (a0 - t356)), .int .i64 (wrap64 (a1 - t356)), .string a2, .slice (some ad357) (l3.take ((ji7) : Int).toNat).length c3] rfl (by (try simp only [List.map_toArray, List.map_cons, List.map_nil]); first | done | (rw [show (l3.take ((ji7) : Int).toNat).length = (ji7).toNat from (by rw [List.length_take]; have h_ : ((ji7) : Int) ≤ (l3.length : Int) := of_decide_eq_true (by first | (with_reducible assumption) | assumption); omega)] <;> rfl) | (simp only [hji7]; rfl) | rfl | (simp only [List.length_drop, List.length_take]; rfl)) ?_; (with_reducible refine (ih k (by omega) (wrap64 (a0 - t356)) (wrap64 (a1 - t356)) a2 _ _ (l3.take ((ji7) : Int).toNat) t361 _ ?side1 ?side2 A18.out).mono ?_); (case side1 => repeat (first | exact HR358.out | (with_reducible refine Kd.C_alloc ?_ _) | (with_reducible refine Kd.C_drewN ?_ _) | (with_reducible refine Kd.C_drew ?_))); (case side2 => exact HC358.out); rintro e w21 ⟨rfl, hb⟩; refine ⟨_, rfl, ?_⟩; have n0_ := Aside0.mk (below_step (by repeat (first | (with_reducible first | exact HB.out | apply below_alloc | apply pw_below_drewN | apply below_drew1) | exact HB.out)) hb); clear HB; have HB := n0_; clear n0_; (try clear hb); (try clear hb2); (try clear hk); (try clear hi); (try clear A18)) | ((with_reducible refine gate_callee (f := 53) rfl ?_); refine goesL_ (some 48) rfl rfl Tryz.func53 (by kernel_rfl) rfl #[.string (rdOf ByteArray.empty l3 (ji7)), .string t361] rfl (by (try simp only [List.map_toArray, List.map_cons, List.map_nil]); first | done | (simp only [hji7]; rfl) | rfl | (simp only [List.length_drop, List.length_take]; rfl)) ?_; (with_reducible refine (observatoryref02_node.calls k (rdOf ByteArray.empty l3 (ji7)) t361 t362 _ A19.out).mono ?_); rintro e w22 ⟨rfl, hb⟩; refine ⟨_, rfl, ?_⟩; have n0_ := Aside0.mk (below_step (by repeat (first | (with_reducible first | exact HB.out | apply below_alloc | apply pw_below_drewN | apply below_drew1) | exact HB.out)) hb); clear HB; have HB := n0_; clear n0_; (try clear hb); (try clear hb2); (try clear hk); (try clear hi); (try clear A19)))
      go_ret
      exact ⟨by first | rfl | (simp [errW_none, errW_some] <;> rfl) | (simp only [← hji7]; first | rfl | (simp [errW_none, errW_some] <;> rfl)) | (simp [*, errW_none, errW_some] <;> rfl), by repeat (first | (with_reducible first | exact HB.out | apply below_alloc | apply pw_below_drewN | apply below_drew1) | exact HB.out)⟩
    ·
     rw [if_neg c11] at H
     exact absurd H (by simp)
   ·
    rw [if_neg c9] at H
    exact absurd H (by simp)
  ·
   rw [if_neg c8] at H
   exact absurd H (by simp)

/-! ### observatoryref02_Check: function 16 -/
def observatoryref02_Check.f (k : Nat) (a0 : ByteArray) (a1 : Int) (a2 : Int) (a3 : ByteArray) (l4 : List ByteArray) : Option (Bool) := if a1 > 1000000 then (some false) else (if a2 < 0 then (some false) else (if a2 ≥ a1 then (some false) else ((observatoryref02_length.f k a1 a2).bind fun t363 => (if (l4.length : Int) = t363 then ((observatoryref02_digests.f k l4).bind fun t364 => (if t364 = true then ((observatoryref01_Is.f k a3).bind fun t365 => (if t365 = true then ((observatoryref02_up.f k a1 a2 a3 l4).bind fun t366 => (some (t366.toList == a0.toList))) else (some false))) else (some false))) else (some false)))))
theorem observatoryref02_Check.mono : ∀ a0 a1 a2 a3 a4 k, LeO (observatoryref02_Check.f k a0 a1 a2 a3 a4) (observatoryref02_Check.f (k + 1) a0 a1 a2 a3 a4) := by
 intro a0 a1 a2 a3 a4 k
 unfold observatoryref02_Check.f
 repeat' first
   | (with_reducible exact observatoryref01_Is.mono _ _)
   | (with_reducible exact observatoryref02_digests.mono _ _)
   | (with_reducible exact observatoryref02_length.mono _ _ _)
   | (with_reducible exact observatoryref02_up.mono _ _ _ _ _)
   | (with_reducible exact LeO.refl _)
   | (with_reducible exact LeO.none _)
   | (with_reducible refine LeO.ite ?_ ?_)
   | (with_reducible refine LeO.bind ?_ (fun _ => ?_))
   | exact observatoryref01_Is.mono _ _
   | exact observatoryref02_digests.mono _ _
   | exact observatoryref02_length.mono _ _ _
   | exact observatoryref02_up.mono _ _ _ _ _
   | exact LeO.none _
   | refine LeO.ite ?_ ?_
   | refine LeO.bind ?_ (fun _ => ?_)
set_option maxHeartbeats 8000000 in
set_option maxRecDepth 100000 in
theorem observatoryref02_Check.calls (k : Nat) (a0 : ByteArray) (a1 : Int) (a2 : Int) (a3 : ByteArray) (A4 : Option Addr) (c4 : Nat) (l4 : List ByteArray) (r : Bool) (w : World) (hr4 : Kd.C Kd.string w A4 l4.length l4) (hc4 : l4.length ≤ c4) (h : observatoryref02_Check.f k a0 a1 a2 a3 l4 = some r) :
  Calls Tryz.prog 16 #[.string a0, .int .i64 a1, .int .i64 a2, .string a3, .slice A4 l4.length c4] w fun e w' => e = .returned (.bool r) ∧ Below w.heap.size w w' := by
 have HR4 := Aside0.mk hr4
 have HC4 := Aside0.mk hc4
 clear hr4 hc4
 have HB := Aside0.mk (Below.refl w.heap.size w)
 have H : (if a1 > 1000000 then (some false) else (if a2 < 0 then (some false) else (if a2 ≥ a1 then (some false) else ((observatoryref02_length.f k a1 a2).bind fun t363 => (if (l4.length : Int) = t363 then ((observatoryref02_digests.f k l4).bind fun t364 => (if t364 = true then ((observatoryref01_Is.f k a3).bind fun t365 => (if t365 = true then ((observatoryref02_up.f k a1 a2 a3 l4).bind fun t366 => (some (t366.toList == a0.toList))) else (some false))) else (some false))) else (some false)))))) = some r := h
 clear h
 by_cases c6 : a1 > 1000000
 ·
  rw [if_pos c6] at H
  have c6b0 : decide (1000000 < a1) = true := decide_eq_true c6
  clear c6
  obtain rfl := Option.some.inj H
  go_enter Tryz.func16, Tryz.ntmps16
  go_wp2
  go_ret
  exact ⟨by first | rfl | (simp [errW_none, errW_some] <;> rfl) | (simp [*, errW_none, errW_some] <;> rfl), by repeat (first | (with_reducible first | exact HB.out | apply below_alloc | apply pw_below_drewN | apply below_drew1) | exact HB.out)⟩
 ·
  rw [if_neg c6] at H
  have c6b0 : decide (1000000 < a1) = false := decide_eq_false c6
  clear c6
  by_cases c7 : a2 < 0
  ·
   rw [if_pos c7] at H
   have c7b0 : decide (a2 < 0) = true := decide_eq_true c7
   clear c7
   obtain rfl := Option.some.inj H
   go_enter Tryz.func16, Tryz.ntmps16
   go_wp2
   go_ret
   exact ⟨by first | rfl | (simp [errW_none, errW_some] <;> rfl) | (simp [*, errW_none, errW_some] <;> rfl), by repeat (first | (with_reducible first | exact HB.out | apply below_alloc | apply pw_below_drewN | apply below_drew1) | exact HB.out)⟩
  ·
   rw [if_neg c7] at H
   have c7b0 : decide (a2 < 0) = false := decide_eq_false c7
   clear c7
   by_cases c8 : a2 ≥ a1
   ·
    rw [if_pos c8] at H
    have c8b0 : decide (a1 ≤ a2) = true := decide_eq_true c8
    clear c8
    obtain rfl := Option.some.inj H
    go_enter Tryz.func16, Tryz.ntmps16
    go_wp2
    go_ret
    exact ⟨by first | rfl | (simp [errW_none, errW_some] <;> rfl) | (simp [*, errW_none, errW_some] <;> rfl), by repeat (first | (with_reducible first | exact HB.out | apply below_alloc | apply pw_below_drewN | apply below_drew1) | exact HB.out)⟩
   ·
    rw [if_neg c8] at H
    have c8b0 : decide (a1 ≤ a2) = false := decide_eq_false c8
    clear c8
    replace H := Option.bind_eq_some_iff.mp H
    obtain ⟨t363, A90, H⟩ := H
    replace H : (if (l4.length : Int) = t363 then ((observatoryref02_digests.f k l4).bind fun t364 => (if t364 = true then ((observatoryref01_Is.f k a3).bind fun t365 => (if t365 = true then ((observatoryref02_up.f k a1 a2 a3 l4).bind fun t366 => (some (t366.toList == a0.toList))) else (some false))) else (some false))) else (some false)) = some r := H
    have A9 := Aside0.mk A90
    clear A90
    by_cases c10 : (l4.length : Int) = t363
    ·
     rw [if_pos c10] at H
     have c10b0 : ((l4.length : Int) == t363) = true := beq_iff_eq.mpr c10
     have c10b1 : ((l4.length : Int) != t363) = false := bne_eq_false_iff_eq.mpr c10
     clear c10
     replace H := Option.bind_eq_some_iff.mp H
     obtain ⟨t364, A110, H⟩ := H
     replace H : (if t364 = true then ((observatoryref01_Is.f k a3).bind fun t365 => (if t365 = true then ((observatoryref02_up.f k a1 a2 a3 l4).bind fun t366 => (some (t366.toList == a0.toList))) else (some false))) else (some false)) = some r := H
     have A11 := Aside0.mk A110
     clear A110
     by_cases c12 : t364 = true
     ·
      subst c12
      have H1 : ((observatoryref01_Is.f k a3).bind fun t365 => (if t365 = true then ((observatoryref02_up.f k a1 a2 a3 l4).bind fun t366 => (some (t366.toList == a0.toList))) else (some false))) = some r := by rw [if_pos rfl] at H; exact H
      clear H
      have H := H1
      clear H1
      replace H := Option.bind_eq_some_iff.mp H
      obtain ⟨t365, A130, H⟩ := H
      replace H : (if t365 = true then ((observatoryref02_up.f k a1 a2 a3 l4).bind fun t366 => (some (t366.toList == a0.toList))) else (some false)) = some r := H
      have A13 := Aside0.mk A130
      clear A130
      by_cases c14 : t365 = true
      ·
       subst c14
       have H1 : ((observatoryref02_up.f k a1 a2 a3 l4).bind fun t366 => (some (t366.toList == a0.toList))) = some r := by rw [if_pos rfl] at H; exact H
       clear H
       have H := H1
       clear H1
       replace H := Option.bind_eq_some_iff.mp H
       obtain ⟨t366, A150, H⟩ := H
       replace H : (some (t366.toList == a0.toList)) = some r := H
       have A15 := Aside0.mk A150
       clear A150
       obtain rfl := Option.some.inj H
       go_enter Tryz.func16, Tryz.ntmps16
       go_wp2_with (first | (go_at_call 37; (with_reducible refine (observatoryref02_length.calls k a1 a2 t363 _ A9.out).mono ?_); rintro e w' ⟨rfl, ⟨nd, rfl⟩⟩; (try clear A9)) | (go_at_call 24; (with_reducible refine (observatoryref02_digests.calls k _ _ l4 true _ ?side1 ?side2 A11.out).mono ?_); (case side1 => repeat (first | exact HR4.out | (with_reducible refine Kd.C_alloc ?_ _) | (with_reducible refine Kd.C_drewN ?_ _) | (with_reducible refine Kd.C_drew ?_))); (case side2 => exact HC4.out); rintro e w' ⟨rfl, ⟨nd, rfl⟩⟩; (try clear A11)) | (go_at_call 38; (with_reducible refine (observatoryref01_Is.calls k a3 true _ A13.out).mono ?_); rintro e w' ⟨rfl, ⟨nd, rfl⟩⟩; (try clear A13)) | ((with_reducible refine gate_callee (f := 39) rfl ?_); refine goesL_ (some 44) rfl rfl Tryz.func39 (by kernel_rfl) rfl #[.int .i64 a1, .int .i64 a2, .string a3, .slice A4 l4.length c4] rfl (by (try simp only [List.map_toArray, List.map_cons, List.map_nil]); first | done | rfl | (simp only [List.length_drop, List.length_take]; rfl)) ?_; (with_reducible refine (observatoryref02_up.calls k a1 a2 a3 _ _ l4 t366 _ ?side1 ?side2 A15.out).mono ?_); (case side1 => repeat (first | exact HR4.out | (with_reducible refine Kd.C_alloc ?_ _) | (with_reducible refine Kd.C_drewN ?_ _) | (with_reducible refine Kd.C_drew ?_))); (case side2 => exact HC4.out); rintro e w16 ⟨rfl, hb⟩; refine ⟨_, rfl, ?_⟩; have n0_ := Aside0.mk (below_step (by repeat (first | (with_reducible first | exact HB.out | apply below_alloc | apply pw_below_drewN | apply below_drew1) | exact HB.out)) hb); clear HB; have HB := n0_; clear n0_; (try clear hb); (try clear hb2); (try clear hk); (try clear hi); (try clear A15)))
       go_ret
       exact ⟨by first | rfl | (simp [errW_none, errW_some] <;> rfl) | (simp [*, errW_none, errW_some] <;> rfl), by repeat (first | (with_reducible first | exact HB.out | apply below_alloc | apply pw_below_drewN | apply below_drew1) | exact HB.out)⟩
      ·
       replace c14 := Bool.eq_false_iff.mpr c14
       subst c14
       have H1 : (some false) = some r := by rw [if_neg (show ¬ (false = true) by decide)] at H; exact H
       clear H
       have H := H1
       clear H1
       obtain rfl := Option.some.inj H
       go_enter Tryz.func16, Tryz.ntmps16
       go_wp2_with (first | (go_at_call 37; (with_reducible refine (observatoryref02_length.calls k a1 a2 t363 _ A9.out).mono ?_); rintro e w' ⟨rfl, ⟨nd, rfl⟩⟩; (try clear A9)) | (go_at_call 24; (with_reducible refine (observatoryref02_digests.calls k _ _ l4 true _ ?side1 ?side2 A11.out).mono ?_); (case side1 => repeat (first | exact HR4.out | (with_reducible refine Kd.C_alloc ?_ _) | (with_reducible refine Kd.C_drewN ?_ _) | (with_reducible refine Kd.C_drew ?_))); (case side2 => exact HC4.out); rintro e w' ⟨rfl, ⟨nd, rfl⟩⟩; (try clear A11)) | (go_at_call 38; (with_reducible refine (observatoryref01_Is.calls k a3 false _ A13.out).mono ?_); rintro e w' ⟨rfl, ⟨nd, rfl⟩⟩; (try clear A13)))
       go_ret
       exact ⟨by first | rfl | (simp [errW_none, errW_some] <;> rfl) | (simp [*, errW_none, errW_some] <;> rfl), by repeat (first | (with_reducible first | exact HB.out | apply below_alloc | apply pw_below_drewN | apply below_drew1) | exact HB.out)⟩
     ·
      replace c12 := Bool.eq_false_iff.mpr c12
      subst c12
      have H1 : (some false) = some r := by rw [if_neg (show ¬ (false = true) by decide)] at H; exact H
      clear H
      have H := H1
      clear H1
      obtain rfl := Option.some.inj H
      go_enter Tryz.func16, Tryz.ntmps16
      go_wp2_with (first | (go_at_call 37; (with_reducible refine (observatoryref02_length.calls k a1 a2 t363 _ A9.out).mono ?_); rintro e w' ⟨rfl, ⟨nd, rfl⟩⟩; (try clear A9)) | (go_at_call 24; (with_reducible refine (observatoryref02_digests.calls k _ _ l4 false _ ?side1 ?side2 A11.out).mono ?_); (case side1 => repeat (first | exact HR4.out | (with_reducible refine Kd.C_alloc ?_ _) | (with_reducible refine Kd.C_drewN ?_ _) | (with_reducible refine Kd.C_drew ?_))); (case side2 => exact HC4.out); rintro e w' ⟨rfl, ⟨nd, rfl⟩⟩; (try clear A11)))
      go_ret
      exact ⟨by first | rfl | (simp [errW_none, errW_some] <;> rfl) | (simp [*, errW_none, errW_some] <;> rfl), by repeat (first | (with_reducible first | exact HB.out | apply below_alloc | apply pw_below_drewN | apply below_drew1) | exact HB.out)⟩
    ·
     rw [if_neg c10] at H
     have c10b0 : ((l4.length : Int) == t363) = false := beq_eq_false_iff_ne.mpr c10
     have c10b1 : ((l4.length : Int) != t363) = true := bne_iff_ne.mpr c10
     obtain rfl := Option.some.inj H
     go_enter Tryz.func16, Tryz.ntmps16
     go_wp2_with (first | (go_at_call 37; (with_reducible refine (observatoryref02_length.calls k a1 a2 t363 _ A9.out).mono ?_); rintro e w' ⟨rfl, ⟨nd, rfl⟩⟩; (try clear A9)))
     go_ret
     exact ⟨by first | rfl | (simp [errW_none, errW_some] <;> rfl) | (simp [*, errW_none, errW_some] <;> rfl), by repeat (first | (with_reducible first | exact HB.out | apply below_alloc | apply pw_below_drewN | apply below_drew1) | exact HB.out)⟩

/-! ### observatoryref02_long: function 42 -/
def observatoryref02_long.f : Nat → Int → Int → Bool → Option (Int)
 | 0, _, _, _ => none
 | k + 1, a0, a1, a2 => if a1 = a0 then (if a2 = true then (some 0) else (some 1)) else ((observatoryref02_Half.f k a0).bind fun t367 => (if a1 ≤ t367 then ((observatoryref02_long.f k t367 a1 a2).bind fun t368 => (some (wrap64 (1 + t368)))) else ((observatoryref02_long.f k (wrap64 (a0 - t367)) (wrap64 (a1 - t367)) false).bind fun t369 => (some (wrap64 (1 + t369))))))
theorem observatoryref02_long.mono_l : ∀ k, (∀ y0 y1 y2, LeO (observatoryref02_long.f k y0 y1 y2) (observatoryref02_long.f (k + 1) y0 y1 y2))
 | 0 => fun _ _ _ r h => by simp [observatoryref02_long.f] at h
 | k + 1 => by
  have ih0 := observatoryref02_long.mono_l k
  ·
   intro y0 y1 y2
   unfold observatoryref02_long.f
   repeat' first
   | (with_reducible exact ih0 _ _ _)
   | (with_reducible exact observatoryref02_Half.mono _ _)
   | (with_reducible exact LeO.refl _)
   | (with_reducible exact LeO.none _)
   | (with_reducible refine LeO.ite ?_ ?_)
   | (with_reducible refine LeO.bind ?_ (fun _ => ?_))
   | exact ih0 _ _ _
   | exact observatoryref02_Half.mono _ _
   | exact LeO.none _
   | refine LeO.ite ?_ ?_
   | refine LeO.bind ?_ (fun _ => ?_)
theorem observatoryref02_long.mono : ∀ a0 a1 a2 k, LeO (observatoryref02_long.f k a0 a1 a2) (observatoryref02_long.f (k + 1) a0 a1 a2) := by
 intro a0 a1 a2 k
 have ih0 := observatoryref02_long.mono_l k
 exact ih0 a0 a1 a2
set_option maxHeartbeats 8000000 in
set_option maxRecDepth 100000 in
theorem observatoryref02_long.calls (k : Nat) : ∀ (a0 : Int) (a1 : Int) (a2 : Bool) (r : Int) (w : World) (h : observatoryref02_long.f k a0 a1 a2 = some r),
  Calls Tryz.prog 42 #[.int .i64 a0, .int .i64 a1, .bool a2] w fun e w' => e = .returned (.int .i64 r) ∧ Drawn0 w w' := by
 induction k using Nat.strongRecOn with
 | _ k ih =>
 intro a0 a1 a2 r w h
 cases k with
 | zero => exact absurd h (by simp [observatoryref02_long.f])
 | succ k =>
 simp only [observatoryref02_long.f] at h
 have H : (if a1 = a0 then (if a2 = true then (some 0) else (some 1)) else ((observatoryref02_Half.f k a0).bind fun t367 => (if a1 ≤ t367 then ((observatoryref02_long.f k t367 a1 a2).bind fun t368 => (some (wrap64 (1 + t368)))) else ((observatoryref02_long.f k (wrap64 (a0 - t367)) (wrap64 (a1 - t367)) false).bind fun t369 => (some (wrap64 (1 + t369))))))) = some r := h
 clear h
 by_cases c4 : a1 = a0
 ·
  rw [if_pos c4] at H
  have c4b0 : (a1 == a0) = true := beq_iff_eq.mpr c4
  have c4b1 : (a1 != a0) = false := bne_eq_false_iff_eq.mpr c4
  clear c4
  by_cases c5 : a2 = true
  ·
   subst c5
   have H1 : (some 0) = some r := by rw [if_pos rfl] at H; exact H
   clear H
   have H := H1
   clear H1
   obtain rfl := Option.some.inj H
   go_enter Tryz.func42, Tryz.ntmps42
   go_wp2
   go_ret
   exact ⟨by first | rfl | (simp; done) | (simp [*]; done), by repeat (first | exact Drawn0.refl _ | apply Drawn0.step)⟩
  ·
   replace c5 := Bool.eq_false_iff.mpr c5
   subst c5
   have H1 : (some 1) = some r := by rw [if_neg (show ¬ (false = true) by decide)] at H; exact H
   clear H
   have H := H1
   clear H1
   obtain rfl := Option.some.inj H
   go_enter Tryz.func42, Tryz.ntmps42
   go_wp2
   go_ret
   exact ⟨by first | rfl | (simp; done) | (simp [*]; done), by repeat (first | exact Drawn0.refl _ | apply Drawn0.step)⟩
 ·
  rw [if_neg c4] at H
  have c4b0 : (a1 == a0) = false := beq_eq_false_iff_ne.mpr c4
  have c4b1 : (a1 != a0) = true := bne_iff_ne.mpr c4
  replace H := Option.bind_eq_some_iff.mp H
  obtain ⟨t367, A60, H⟩ := H
  replace H : (if a1 ≤ t367 then ((observatoryref02_long.f k t367 a1 a2).bind fun t368 => (some (wrap64 (1 + t368)))) else ((observatoryref02_long.f k (wrap64 (a0 - t367)) (wrap64 (a1 - t367)) false).bind fun t369 => (some (wrap64 (1 + t369))))) = some r := H
  have A6 := Aside0.mk A60
  clear A60
  by_cases c7 : a1 ≤ t367
  ·
   rw [if_pos c7] at H
   have c7b0 : decide (a1 ≤ t367) = true := decide_eq_true c7
   clear c7
   replace H := Option.bind_eq_some_iff.mp H
   obtain ⟨t368, A80, H⟩ := H
   replace H : (some (wrap64 (1 + t368))) = some r := H
   have A8 := Aside0.mk A80
   clear A80
   obtain rfl := Option.some.inj H
   go_enter Tryz.func42, Tryz.ntmps42
   go_wp2_with (first | ((with_reducible refine gate_callee (f := 52) rfl ?_); refine goesL_ (some 13) rfl rfl Tryz.func52 (by kernel_rfl) rfl #[.int .i64 a0] rfl (by (try simp only [List.map_toArray, List.map_cons, List.map_nil]); first | done | rfl | (simp only [List.length_drop, List.length_take]; rfl)) ?_; (with_reducible refine (observatoryref02_Half.calls k a0 t367 _ A6.out).mono ?_); rintro e w' ⟨rfl, ⟨nd, rfl⟩⟩; refine ⟨_, rfl, ?_⟩; (try clear A6)) | ((with_reducible refine gate_callee (f := 42) rfl ?_); refine goesL_ (some 20) rfl rfl Tryz.func42 (by kernel_rfl) rfl #[.int .i64 t367, .int .i64 a1, .bool a2] rfl (by (try simp only [List.map_toArray, List.map_cons, List.map_nil]); first | done | rfl | (simp only [List.length_drop, List.length_take]; rfl)) ?_; (with_reducible refine (ih k (by omega) t367 a1 a2 t368 _ A8.out).mono ?_); rintro e w' ⟨rfl, ⟨nd, rfl⟩⟩; refine ⟨_, rfl, ?_⟩; (try clear A8)))
   go_ret
   exact ⟨by first | rfl | (simp; done) | (simp [*]; done), by repeat (first | exact Drawn0.refl _ | apply Drawn0.step)⟩
  ·
   rw [if_neg c7] at H
   have c7b0 : decide (a1 ≤ t367) = false := decide_eq_false c7
   clear c7
   replace H := Option.bind_eq_some_iff.mp H
   obtain ⟨t369, A90, H⟩ := H
   replace H : (some (wrap64 (1 + t369))) = some r := H
   have A9 := Aside0.mk A90
   clear A90
   obtain rfl := Option.some.inj H
   go_enter Tryz.func42, Tryz.ntmps42
   go_wp2_with (first | ((with_reducible refine gate_callee (f := 52) rfl ?_); refine goesL_ (some 13) rfl rfl Tryz.func52 (by kernel_rfl) rfl #[.int .i64 a0] rfl (by (try simp only [List.map_toArray, List.map_cons, List.map_nil]); first | done | rfl | (simp only [List.length_drop, List.length_take]; rfl)) ?_; (with_reducible refine (observatoryref02_Half.calls k a0 t367 _ A6.out).mono ?_); rintro e w' ⟨rfl, ⟨nd, rfl⟩⟩; refine ⟨_, rfl, ?_⟩; (try clear A6)) | ((with_reducible refine gate_callee (f := 42) rfl ?_); refine goesL_ (some 28) rfl rfl Tryz.func42 (by kernel_rfl) rfl #[.int .i64 (wrap64 (a0 - t367)), .int .i64 (wrap64 (a1 - t367)), .bool false] rfl (by (try simp only [List.map_toArray, List.map_cons, List.map_nil]); first | done | rfl | (simp only [List.length_drop, List.length_take]; rfl)) ?_; (with_reducible refine (ih k (by omega) (wrap64 (a0 - t367)) (wrap64 (a1 - t367)) false t369 _ A9.out).mono ?_); rintro e w' ⟨rfl, ⟨nd, rfl⟩⟩; refine ⟨_, rfl, ?_⟩; (try clear A9)))
   go_ret
   exact ⟨by first | rfl | (simp; done) | (simp [*]; done), by repeat (first | exact Drawn0.refl _ | apply Drawn0.step)⟩

/-! ### observatoryref02_both: function 43 -/
def observatoryref02_both.f : Nat → Int → Int → Bool → ByteArray → List ByteArray → Option (ByteArray × ByteArray)
 | 0, _, _, _, _, _ => none
 | k + 1, a0, a1, a2, a3, l4 => if a1 = a0 then (if a2 = true then (some (a3, a3)) else (if 0 < (l4.length : Int) then (some (rdOf ByteArray.empty l4 0, rdOf ByteArray.empty l4 0)) else (none))) else ((observatoryref02_Half.f k a0).bind fun t372 => (if 0 ≤ (wrap64 ((l4.length : Int) - 1)) then (if (wrap64 ((l4.length : Int) - 1)) < (l4.length : Int) then (if (wrap64 ((l4.length : Int) - 1)) ≤ (l4.length : Int) then (if a1 ≤ t372 then ((observatoryref02_both.f k t372 a1 a2 a3 (l4.take ((wrap64 ((l4.length : Int) - 1)) : Int).toNat)).bind fun bt375 => ((observatoryref02_node.f k bt375.2 (rdOf ByteArray.empty l4 (wrap64 ((l4.length : Int) - 1)))).bind fun t377 => (some (bt375.1, t377)))) else ((observatoryref02_both.f k (wrap64 (a0 - t372)) (wrap64 (a1 - t372)) false a3 (l4.take ((wrap64 ((l4.length : Int) - 1)) : Int).toNat)).bind fun bt378 => ((observatoryref02_node.f k (rdOf ByteArray.empty l4 (wrap64 ((l4.length : Int) - 1))) bt378.1).bind fun t380 => ((observatoryref02_node.f k (rdOf ByteArray.empty l4 (wrap64 ((l4.length : Int) - 1))) bt378.2).bind fun t381 => (some (t380, t381)))))) else (none)) else (none)) else (none)))
theorem observatoryref02_both.mono_l : ∀ k, (∀ y0 y1 y2 y3 y4, LeO (observatoryref02_both.f k y0 y1 y2 y3 y4) (observatoryref02_both.f (k + 1) y0 y1 y2 y3 y4))
 | 0 => fun _ _ _ _ _ r h => by simp [observatoryref02_both.f] at h
 | k + 1 => by
  have ih0 := observatoryref02_both.mono_l k
  ·
   intro y0 y1 y2 y3 y4
   unfold observatoryref02_both.f
   repeat' first
   | (with_reducible exact ih0 _ _ _ _ _)
   | (with_reducible exact observatoryref02_Half.mono _ _)
   | (with_reducible exact observatoryref02_node.mono _ _ _)
   | (with_reducible exact LeO.refl _)
   | (with_reducible exact LeO.none _)
   | (with_reducible refine LeO.ite ?_ ?_)
   | (with_reducible refine LeO.bind ?_ (fun _ => ?_))
   | exact ih0 _ _ _ _ _
   | exact observatoryref02_Half.mono _ _
   | exact observatoryref02_node.mono _ _ _
   | exact LeO.none _
   | refine LeO.ite ?_ ?_
   | refine LeO.bind ?_ (fun _ => ?_)
theorem observatoryref02_both.mono : ∀ a0 a1 a2 a3 a4 k, LeO (observatoryref02_both.f k a0 a1 a2 a3 a4) (observatoryref02_both.f (k + 1) a0 a1 a2 a3 a4) := by
 intro a0 a1 a2 a3 a4 k
 have ih0 := observatoryref02_both.mono_l k
 exact ih0 a0 a1 a2 a3 a4
set_option maxHeartbeats 8000000 in
set_option maxRecDepth 100000 in
theorem observatoryref02_both.calls (k : Nat) : ∀ (a0 : Int) (a1 : Int) (a2 : Bool) (a3 : ByteArray) (A4 : Option Addr) (c4 : Nat) (l4 : List ByteArray) (r1 : ByteArray) (r2 : ByteArray) (w : World) (hr4 : Kd.C Kd.string w A4 l4.length l4) (hc4 : l4.length ≤ c4) (h : observatoryref02_both.f k a0 a1 a2 a3 l4 = some (r1, r2)),
  Calls Tryz.prog 43 #[.int .i64 a0, .int .i64 a1, .bool a2, .string a3, .slice A4 l4.length c4] w fun e w' => e = .returned (.tuple #[.string r1, .string r2]) ∧ Below w.heap.size w w' := by
 induction k using Nat.strongRecOn with
 | _ k ih =>
 intro a0 a1 a2 a3 A4 c4 l4 r1 r2 w hr4 hc4 h
 cases k with
 | zero => exact absurd h (by simp [observatoryref02_both.f])
 | succ k =>
 simp only [observatoryref02_both.f] at h
 have HR4 := Aside0.mk hr4
 have HC4 := Aside0.mk hc4
 clear hr4 hc4
 have HB := Aside0.mk (Below.refl w.heap.size w)
 have H : (if a1 = a0 then (if a2 = true then (some (a3, a3)) else (if 0 < (l4.length : Int) then (some (rdOf ByteArray.empty l4 0, rdOf ByteArray.empty l4 0)) else (none))) else ((observatoryref02_Half.f k a0).bind fun t372 => (if 0 ≤ (wrap64 ((l4.length : Int) - 1)) then (if (wrap64 ((l4.length : Int) - 1)) < (l4.length : Int) then (if (wrap64 ((l4.length : Int) - 1)) ≤ (l4.length : Int) then (if a1 ≤ t372 then ((observatoryref02_both.f k t372 a1 a2 a3 (l4.take ((wrap64 ((l4.length : Int) - 1)) : Int).toNat)).bind fun bt375 => ((observatoryref02_node.f k bt375.2 (rdOf ByteArray.empty l4 (wrap64 ((l4.length : Int) - 1)))).bind fun t377 => (some (bt375.1, t377)))) else ((observatoryref02_both.f k (wrap64 (a0 - t372)) (wrap64 (a1 - t372)) false a3 (l4.take ((wrap64 ((l4.length : Int) - 1)) : Int).toNat)).bind fun bt378 => ((observatoryref02_node.f k (rdOf ByteArray.empty l4 (wrap64 ((l4.length : Int) - 1))) bt378.1).bind fun t380 => ((observatoryref02_node.f k (rdOf ByteArray.empty l4 (wrap64 ((l4.length : Int) - 1))) bt378.2).bind fun t381 => (some (t380, t381)))))) else (none)) else (none)) else (none)))) = some (r1, r2) := h
 clear h
 by_cases c6 : a1 = a0
 ·
  rw [if_pos c6] at H
  have c6b0 : (a1 == a0) = true := beq_iff_eq.mpr c6
  have c6b1 : (a1 != a0) = false := bne_eq_false_iff_eq.mpr c6
  clear c6
  by_cases c7 : a2 = true
  ·
   subst c7
   have H1 : (some (a3, a3)) = some (r1, r2) := by rw [if_pos rfl] at H; exact H
   clear H
   have H := H1
   clear H1
   simp only [Option.some.injEq, Prod.mk.injEq] at H
   obtain ⟨rfl, rfl⟩ := H
   go_enter Tryz.func43, Tryz.ntmps43
   go_wp2
   repeat (go_quiet (fail); try go_wp2)
   go_ret2
   exact ⟨by first | rfl | (simp [errW_none, errW_some] <;> rfl) | (simp [*, errW_none, errW_some] <;> rfl), by repeat (first | (with_reducible first | exact HB.out | apply below_alloc | apply pw_below_drewN | apply below_drew1) | exact HB.out)⟩
  ·
   replace c7 := Bool.eq_false_iff.mpr c7
   subst c7
   have H1 : (if 0 < (l4.length : Int) then (some (rdOf ByteArray.empty l4 0, rdOf ByteArray.empty l4 0)) else (none)) = some (r1, r2) := by rw [if_neg (show ¬ (false = true) by decide)] at H; exact H
   clear H
   have H := H1
   clear H1
   by_cases c8 : 0 < (l4.length : Int)
   ·
    rw [if_pos c8] at H
    have c8b0 : decide (0 < (l4.length : Int)) = true := decide_eq_true c8
    have c8b1 : decide (0 < l4.length) = true := decide_eq_true (by omega)
    clear c8
    simp only [Option.some.injEq, Prod.mk.injEq] at H
    obtain ⟨rfl, rfl⟩ := H
    have p370 : 0 ≤ (0 : Int) := (by omega)
    have q370 : 0 < (l4.length : Int) := of_decide_eq_true (by first | (with_reducible assumption) | assumption)
    obtain ⟨ad370, e370, hx370_0⟩ := Kd.at_string HR4.out 0 p370 q370
    cases e370
    have qi370 : (0 < l4.length) = True := eq_true (by omega)
    (try rw [show ((0 : Int)).toNat = 0 from rfl] at hx370_0)
    (try rw [Addr.add_zero'] at hx370_0)
    replace p370 := eq_true p370
    replace q370 := eq_true q370
    have p371 : 0 ≤ (0 : Int) := (by omega)
    have q371 : 0 < (l4.length : Int) := of_decide_eq_true (by first | (with_reducible assumption) | assumption)
    obtain ⟨ad371, e371, hx371_0⟩ := Kd.at_string HR4.out 0 p371 q371
    obtain rfl : ad370 = ad371 := (by injection e371)
    have qi371 : (0 < l4.length) = True := eq_true (by omega)
    (try rw [show ((0 : Int)).toNat = 0 from rfl] at hx371_0)
    (try rw [Addr.add_zero'] at hx371_0)
    replace p371 := eq_true p371
    replace q371 := eq_true q371
    go_enter Tryz.func43, Tryz.ntmps43
    go_wp2
    repeat (go_quiet (fail); try go_wp2)
    go_ret2
    exact ⟨by first | rfl | (simp [errW_none, errW_some] <;> rfl) | (simp [*, errW_none, errW_some] <;> rfl), by repeat (first | (with_reducible first | exact HB.out | apply below_alloc | apply pw_below_drewN | apply below_drew1) | exact HB.out)⟩
   ·
    rw [if_neg c8] at H
    exact absurd H (by simp)
 ·
  rw [if_neg c6] at H
  have c6b0 : (a1 == a0) = false := beq_eq_false_iff_ne.mpr c6
  have c6b1 : (a1 != a0) = true := bne_iff_ne.mpr c6
  replace H := Option.bind_eq_some_iff.mp H
  obtain ⟨t372, A90, H⟩ := H
  replace H : (if 0 ≤ (wrap64 ((l4.length : Int) - 1)) then (if (wrap64 ((l4.length : Int) - 1)) < (l4.length : Int) then (if (wrap64 ((l4.length : Int) - 1)) ≤ (l4.length : Int) then (if a1 ≤ t372 then ((observatoryref02_both.f k t372 a1 a2 a3 (l4.take ((wrap64 ((l4.length : Int) - 1)) : Int).toNat)).bind fun bt375 => ((observatoryref02_node.f k bt375.2 (rdOf ByteArray.empty l4 (wrap64 ((l4.length : Int) - 1)))).bind fun t377 => (some (bt375.1, t377)))) else ((observatoryref02_both.f k (wrap64 (a0 - t372)) (wrap64 (a1 - t372)) false a3 (l4.take ((wrap64 ((l4.length : Int) - 1)) : Int).toNat)).bind fun bt378 => ((observatoryref02_node.f k (rdOf ByteArray.empty l4 (wrap64 ((l4.length : Int) - 1))) bt378.1).bind fun t380 => ((observatoryref02_node.f k (rdOf ByteArray.empty l4 (wrap64 ((l4.length : Int) - 1))) bt378.2).bind fun t381 => (some (t380, t381)))))) else (none)) else (none)) else (none)) = some (r1, r2) := H
  have A9 := Aside0.mk A90
  clear A90
  obtain ⟨ji10, hji10⟩ : ∃ j_ : Int, (wrap64 ((l4.length : Int) - 1)) = j_ := ⟨_, rfl⟩
  replace H : (if 0 ≤ (ji10) then (if (ji10) < (l4.length : Int) then (if (ji10) ≤ (l4.length : Int) then (if a1 ≤ t372 then ((observatoryref02_both.f k t372 a1 a2 a3 (l4.take ((ji10) : Int).toNat)).bind fun bt375 => ((observatoryref02_node.f k bt375.2 (rdOf ByteArray.empty l4 (ji10))).bind fun t377 => (some (bt375.1, t377)))) else ((observatoryref02_both.f k (wrap64 (a0 - t372)) (wrap64 (a1 - t372)) false a3 (l4.take ((ji10) : Int).toNat)).bind fun bt378 => ((observatoryref02_node.f k (rdOf ByteArray.empty l4 (ji10)) bt378.1).bind fun t380 => ((observatoryref02_node.f k (rdOf ByteArray.empty l4 (ji10)) bt378.2).bind fun t381 => (some (t380, t381)))))) else (none)) else (none)) else (none)) = some (r1, r2) := by first | (rw [hji10] at H; exact H) | (simp only [hji10] at H ⊢; exact H)
  (try rw [hji10] at A9)
  have hji10w : (IntKind.i64.wrap ((l4.length : Int) - 1)) = ji10 := (i64_w _).trans hji10
  by_cases c11 : 0 ≤ (ji10)
  ·
   rw [if_pos c11] at H
   have c11b0 : decide (0 ≤ (ji10)) = true := decide_eq_true c11
   clear c11
   by_cases c12 : (ji10) < (l4.length : Int)
   ·
    rw [if_pos c12] at H
    have c12b0 : decide ((ji10) < (l4.length : Int)) = true := decide_eq_true c12
    clear c12
    have c13b0 := eq_true (of_decide_eq_true (by first | (with_reducible assumption) | assumption) : 0 ≤ (ji10))
    by_cases c14 : (ji10) ≤ (l4.length : Int)
    ·
     rw [if_pos c14] at H
     have c14b0 := eq_true c14
     have c14b1 : decide ((ji10) ≤ (l4.length : Int)) = true := decide_eq_true c14
     clear c14
     by_cases c15 : a1 ≤ t372
     ·
      rw [if_pos c15] at H
      have c15b0 : decide (a1 ≤ t372) = true := decide_eq_true c15
      clear c15
      replace H := Option.bind_eq_some_iff.mp H
      obtain ⟨⟨t375, t376⟩, A160, H⟩ := H
      replace H : ((observatoryref02_node.f k t376 (rdOf ByteArray.empty l4 (ji10))).bind fun t377 => (some (t375, t377))) = some (r1, r2) := H
      have A16 := Aside0.mk A160
      clear A160
      replace H := Option.bind_eq_some_iff.mp H
      obtain ⟨t377, A170, H⟩ := H
      replace H : (some (t375, t377)) = some (r1, r2) := H
      have A17 := Aside0.mk A170
      clear A170
      simp only [Option.some.injEq, Prod.mk.injEq] at H
      obtain ⟨rfl, rfl⟩ := H
      go_enter Tryz.func43, Tryz.ntmps43
      have hlen_ : (l4.take ((ji10) : Int).toNat).length = ji10.toNat := by rw [List.length_take]; simp only [eq_iff_iff, iff_true, decide_eq_true_eq] at *; omega
      go_wp2_with (first | (go_at_call 52; (with_reducible refine (observatoryref02_Half.calls k a0 t372 _ A9.out).mono ?_); rintro e w' ⟨rfl, ⟨nd, rfl⟩⟩; (try clear A9); (try first | exact ⟨rfl, _, World.drewN_drewN _ _ _⟩ | exact ⟨rfl, _, Eq.trans (World.drewN_drewN _ _ _) (congrArg (World.drewN _) (Nat.add_assoc _ _ _))⟩); have p373 : 0 ≤ ((ji10) : Int) := of_decide_eq_true (by first | (with_reducible assumption) | assumption); have q373 : (ji10) < (l4.length : Int) := of_decide_eq_true (by first | (with_reducible assumption) | assumption); obtain ⟨ad373, e373, hx373_0⟩ := Kd.at_string HR4.out (ji10) p373 q373; cases e373; replace p373 := eq_true p373; replace q373 := eq_true q373; obtain ⟨i018, hi018, _, hsz18, _⟩ := info_parts info9; obtain ⟨hcut18, hA18, hC18⟩ := print_take_of (P := Tryz.prog) Value.string (⟨#[]⟩ : ByteArray) 22 9 .i64 Tryz.underlying22 hi018 hsz18 (some ad373) c4 l4 (ji10) (of_decide_eq_true (by first | (with_reducible assumption) | assumption)) (of_decide_eq_true (by first | (with_reducible assumption) | assumption)) HC4.out; have HR374 := Aside0.mk (Kd.C_of_reads (h1 := fun _ => rfl) (hA18 _ (Kd.reads_of_C HR4.out))); have HC374 := Aside0.mk hC18; clear hA18 hC18 hi018 hsz18) | (go_at_call 43; refine calls_of_args (args' := #[_, _, _, _, .slice _ (l4.take ((ji10) : Int).toNat).length _]) (by rw [hlen_]) ?_; (with_reducible refine (ih k (by omega) t372 a1 a2 a3 _ _ (l4.take ((ji10) : Int).toNat) t375 t376 _ ?side1 ?side2 A16.out).mono ?_); (case side1 => repeat (first | exact HR374.out | (with_reducible refine Kd.C_alloc ?_ _) | (with_reducible refine Kd.C_drewN ?_ _) | (with_reducible refine Kd.C_drew ?_))); (case side2 => exact HC374.out); rintro e w19 ⟨rfl, hb⟩; have n0_ := Aside0.mk (below_step (by repeat (first | (with_reducible first | exact HB.out | apply below_alloc | apply pw_below_drewN | apply below_drew1) | exact HB.out)) hb); clear HB; have HB := n0_; clear n0_; (try clear hb); (try clear hb2); (try clear hk); (try clear hi); (try clear A16)) | (go_at_call 53; (with_reducible refine (observatoryref02_node.calls k t376 (rdOf ByteArray.empty l4 (ji10)) t377 _ A17.out).mono ?_); rintro e w20 ⟨rfl, hb⟩; have n0_ := Aside0.mk (below_step (by repeat (first | (with_reducible first | exact HB.out | apply below_alloc | apply pw_below_drewN | apply below_drew1) | exact HB.out)) hb); clear HB; have HB := n0_; clear n0_; (try clear hb); (try clear hb2); (try clear hk); (try clear hi); (try clear A17)))
      repeat (go_quiet (first | (go_at_call 52; (with_reducible refine (observatoryref02_Half.calls k a0 t372 _ A9.out).mono ?_); rintro e w' ⟨rfl, ⟨nd, rfl⟩⟩; (try clear A9); (try first | exact ⟨rfl, _, World.drewN_drewN _ _ _⟩ | exact ⟨rfl, _, Eq.trans (World.drewN_drewN _ _ _) (congrArg (World.drewN _) (Nat.add_assoc _ _ _))⟩); have p373 : 0 ≤ ((ji10) : Int) := of_decide_eq_true (by first | (with_reducible assumption) | assumption); have q373 : (ji10) < (l4.length : Int) := of_decide_eq_true (by first | (with_reducible assumption) | assumption); obtain ⟨ad373, e373, hx373_0⟩ := Kd.at_string HR4.out (ji10) p373 q373; cases e373; replace p373 := eq_true p373; replace q373 := eq_true q373; obtain ⟨i018, hi018, _, hsz18, _⟩ := info_parts info9; obtain ⟨hcut18, hA18, hC18⟩ := print_take_of (P := Tryz.prog) Value.string (⟨#[]⟩ : ByteArray) 22 9 .i64 Tryz.underlying22 hi018 hsz18 (some ad373) c4 l4 (ji10) (of_decide_eq_true (by first | (with_reducible assumption) | assumption)) (of_decide_eq_true (by first | (with_reducible assumption) | assumption)) HC4.out; have HR374 := Aside0.mk (Kd.C_of_reads (h1 := fun _ => rfl) (hA18 _ (Kd.reads_of_C HR4.out))); have HC374 := Aside0.mk hC18; clear hA18 hC18 hi018 hsz18) | (go_at_call 43; refine calls_of_args (args' := #[_, _, _, _, .slice _ (l4.take ((ji10) : Int).toNat).length _]) (by rw [hlen_]) ?_; (with_reducible refine (ih k (by omega) t372 a1 a2 a3 _ _ (l4.take ((ji10) : Int).toNat) t375 t376 _ ?side1 ?side2 A16.out).mono ?_); (case side1 => repeat (first | exact HR374.out | (with_reducible refine Kd.C_alloc ?_ _) | (with_reducible refine Kd.C_drewN ?_ _) | (with_reducible refine Kd.C_drew ?_))); (case side2 => exact HC374.out); rintro e w19 ⟨rfl, hb⟩; have n0_ := Aside0.mk (below_step (by repeat (first | (with_reducible first | exact HB.out | apply below_alloc | apply pw_below_drewN | apply below_drew1) | exact HB.out)) hb); clear HB; have HB := n0_; clear n0_; (try clear hb); (try clear hb2); (try clear hk); (try clear hi); (try clear A16)) | (go_at_call 53; (with_reducible refine (observatoryref02_node.calls k t376 (rdOf ByteArray.empty l4 (ji10)) t377 _ A17.out).mono ?_); rintro e w20 ⟨rfl, hb⟩; have n0_ := Aside0.mk (below_step (by repeat (first | (with_reducible first | exact HB.out | apply below_alloc | apply pw_below_drewN | apply below_drew1) | exact HB.out)) hb); clear HB; have HB := n0_; clear n0_; (try clear hb); (try clear hb2); (try clear hk); (try clear hi); (try clear A17))); try go_wp2_with (first | (go_at_call 52; (with_reducible refine (observatoryref02_Half.calls k a0 t372 _ A9.out).mono ?_); rintro e w' ⟨rfl, ⟨nd, rfl⟩⟩; (try clear A9); (try first | exact ⟨rfl, _, World.drewN_drewN _ _ _⟩ | exact ⟨rfl, _, Eq.trans (World.drewN_drewN _ _ _) (congrArg (World.drewN _) (Nat.add_assoc _ _ _))⟩); have p373 : 0 ≤ ((ji10) : Int) := of_decide_eq_true (by first | (with_reducible assumption) | assumption); have q373 : (ji10) < (l4.length : Int) := of_decide_eq_true (by first | (with_reducible assumption) | assumption); obtain ⟨ad373, e373, hx373_0⟩ := Kd.at_string HR4.out (ji10) p373 q373; cases e373; replace p373 := eq_true p373; replace q373 := eq_true q373; obtain ⟨i018, hi018, _, hsz18, _⟩ := info_parts info9; obtain ⟨hcut18, hA18, hC18⟩ := print_take_of (P := Tryz.prog) Value.string (⟨#[]⟩ : ByteArray) 22 9 .i64 Tryz.underlying22 hi018 hsz18 (some ad373) c4 l4 (ji10) (of_decide_eq_true (by first | (with_reducible assumption) | assumption)) (of_decide_eq_true (by first | (with_reducible assumption) | assumption)) HC4.out; have HR374 := Aside0.mk (Kd.C_of_reads (h1 := fun _ => rfl) (hA18 _ (Kd.reads_of_C HR4.out))); have HC374 := Aside0.mk hC18; clear hA18 hC18 hi018 hsz18) | (go_at_call 43; refine calls_of_args (args' := #[_, _, _, _, .slice _ (l4.take ((ji10) : Int).toNat).length _]) (by rw [hlen_]) ?_; (with_reducible refine (ih k (by omega) t372 a1 a2 a3 _ _ (l4.take ((ji10) : Int).toNat) t375 t376 _ ?side1 ?side2 A16.out).mono ?_); (case side1 => repeat (first | exact HR374.out | (with_reducible refine Kd.C_alloc ?_ _) | (with_reducible refine Kd.C_drewN ?_ _) | (with_reducible refine Kd.C_drew ?_))); (case side2 => exact HC374.out); rintro e w19 ⟨rfl, hb⟩; have n0_ := Aside0.mk (below_step (by repeat (first | (with_reducible first | exact HB.out | apply below_alloc | apply pw_below_drewN | apply below_drew1) | exact HB.out)) hb); clear HB; have HB := n0_; clear n0_; (try clear hb); (try clear hb2); (try clear hk); (try clear hi); (try clear A16)) | (go_at_call 53; (with_reducible refine (observatoryref02_node.calls k t376 (rdOf ByteArray.empty l4 (ji10)) t377 _ A17.out).mono ?_); rintro e w20 ⟨rfl, hb⟩; have n0_ := Aside0.mk (below_step (by repeat (first | (with_reducible first | exact HB.out | apply below_alloc | apply pw_below_drewN | apply below_drew1) | exact HB.out)) hb); clear HB; have HB := n0_; clear n0_; (try clear hb); (try clear hb2); (try clear hk); (try clear hi); (try clear A17))))
      go_ret2
      exact ⟨by first | rfl | (simp [errW_none, errW_some] <;> rfl) | (simp only [← hji10]; first | rfl | (simp [errW_none, errW_some] <;> rfl)) | (simp [*, errW_none, errW_some] <;> rfl), by repeat (first | (with_reducible first | exact HB.out | apply below_alloc | apply pw_below_drewN | apply below_drew1) | exact HB.out)⟩
     ·
      rw [if_neg c15] at H
      have c15b0 : decide (a1 ≤ t372) = false := decide_eq_false c15
      clear c15
      replace H := Option.bind_eq_some_iff.mp H
      obtain ⟨⟨t378, t379⟩, A210, H⟩ := H
      replace H : ((observatoryref02_node.f k (rdOf ByteArray.empty l4 (ji10)) t378).bind fun t380 => ((observatoryref02_node.f k (rdOf ByteArray.empty l4 (ji10)) t379).bind fun t381 => (some (t380, t381)))) = some (r1, r2) := H
      have A21 := Aside0.mk A210
      clear A210
      replace H := Option.bind_eq_some_iff.mp H
      obtain ⟨t380, A220, H⟩ := H
      replace H : ((observatoryref02_node.f k (rdOf ByteArray.empty l4 (ji10)) t379).bind fun t381 => (some (t380, t381))) = some (r1, r2) := H
      have A22 := Aside0.mk A220
      clear A220
      replace H := Option.bind_eq_some_iff.mp H
      obtain ⟨t381, A230, H⟩ := H
      replace H : (some (t380, t381)) = some (r1, r2) := H
      have A23 := Aside0.mk A230
      clear A230
      simp only [Option.some.injEq, Prod.mk.injEq] at H
      obtain ⟨rfl, rfl⟩ := H
      go_enter Tryz.func43, Tryz.ntmps43
      have hlen_ : (l4.take ((ji10) : Int).toNat).length = ji10.toNat := by rw [List.length_take]; simp only [eq_iff_iff, iff_true, decide_eq_true_eq] at *; omega
      go_wp2_with (first | (go_at_call 52; (with_reducible refine (observatoryref02_Half.calls k a0 t372 _ A9.out).mono ?_); rintro e w' ⟨rfl, ⟨nd, rfl⟩⟩; (try clear A9); (try first | exact ⟨rfl, _, World.drewN_drewN _ _ _⟩ | exact ⟨rfl, _, Eq.trans (World.drewN_drewN _ _ _) (congrArg (World.drewN _) (Nat.add_assoc _ _ _))⟩); have p373 : 0 ≤ ((ji10) : Int) := of_decide_eq_true (by first | (with_reducible assumption) | assumption); have q373 : (ji10) < (l4.length : Int) := of_decide_eq_true (by first | (with_reducible assumption) | assumption); obtain ⟨ad373, e373, hx373_0⟩ := Kd.at_string HR4.out (ji10) p373 q373; cases e373; replace p373 := eq_true p373; replace q373 := eq_true q373; obtain ⟨i024, hi024, _, hsz24, _⟩ := info_parts info9; obtain ⟨hcut24, hA24, hC24⟩ := print_take_of (P := Tryz.prog) Value.string (⟨#[]⟩ : ByteArray) 22 9 .i64 Tryz.underlying22 hi024 hsz24 (some ad373) c4 l4 (ji10) (of_decide_eq_true (by first | (with_reducible assumption) | assumption)) (of_decide_eq_true (by first | (with_reducible assumption) | assumption)) HC4.out; have HR374 := Aside0.mk (Kd.C_of_reads (h1 := fun _ => rfl) (hA24 _ (Kd.reads_of_C HR4.out))); have HC374 := Aside0.mk hC24; clear hA24 hC24 hi024 hsz24) | (go_at_call 43; refine calls_of_args (args' := #[_, _, _, _, .slice _ (l4.take ((ji10) : Int).toNat).length _]) (by rw [hlen_]) ?_; (with_reducible refine (ih k (by omega) (wrap64 (a0 - t372)) (wrap64 (a1 - t372)) false a3 _ _ (l4.take ((ji10) : Int).toNat) t378 t379 _ ?side1 ?side2 A21.out).mono ?_); (case side1 => repeat (first | exact HR374.out | (with_reducible refine Kd.C_alloc ?_ _) | (with_reducible refine Kd.C_drewN ?_ _) | (with_reducible refine Kd.C_drew ?_))); (case side2 => exact HC374.out); rintro e w25 ⟨rfl, hb⟩; have n0_ := Aside0.mk (below_step (by repeat (first | (with_reducible first | exact HB.out | apply below_alloc | apply pw_below_drewN | apply below_drew1) | exact HB.out)) hb); clear HB; have HB := n0_; clear n0_; (try clear hb); (try clear hb2); (try clear hk); (try clear hi); (try clear A21)) | (go_at_call 53; (with_reducible refine (observatoryref02_node.calls k (rdOf ByteArray.empty l4 (ji10)) t378 t380 _ A22.out).mono ?_); rintro e w26 ⟨rfl, hb⟩; have n0_ := Aside0.mk (below_step (by repeat (first | (with_reducible first | exact HB.out | apply below_alloc | apply pw_below_drewN | apply below_drew1) | exact HB.out)) hb); clear HB; have HB := n0_; clear n0_; (try clear hb); (try clear hb2); (try clear hk); (try clear hi); (try clear A22)) | (go_at_call 53; (with_reducible refine (observatoryref02_node.calls k (rdOf ByteArray.empty l4 (ji10)) t379 t381 _ A23.out).mono ?_); rintro e w27 ⟨rfl, hb⟩; have n0_ := Aside0.mk (below_step (by repeat (first | (with_reducible first | exact HB.out | apply below_alloc | apply pw_below_drewN | apply below_drew1) | exact HB.out)) hb); clear HB; have HB := n0_; clear n0_; (try clear hb); (try clear hb2); (try clear hk); (try clear hi); (try clear A23)))
      repeat (go_quiet (first | (go_at_call 52; (with_reducible refine (observatoryref02_Half.calls k a0 t372 _ A9.out).mono ?_); rintro e w' ⟨rfl, ⟨nd, rfl⟩⟩; (try clear A9); (try first | exact ⟨rfl, _, World.drewN_drewN _ _ _⟩ | exact ⟨rfl, _, Eq.trans (World.drewN_drewN _ _ _) (congrArg (World.drewN _) (Nat.add_assoc _ _ _))⟩); have p373 : 0 ≤ ((ji10) : Int) := of_decide_eq_true (by first | (with_reducible assumption) | assumption); have q373 : (ji10) < (l4.length : Int) := of_decide_eq_true (by first | (with_reducible assumption) | assumption); obtain ⟨ad373, e373, hx373_0⟩ := Kd.at_string HR4.out (ji10) p373 q373; cases e373; replace p373 := eq_true p373; replace q373 := eq_true q373; obtain ⟨i024, hi024, _, hsz24, _⟩ := info_parts info9; obtain ⟨hcut24, hA24, hC24⟩ := print_take_of (P := Tryz.prog) Value.string (⟨#[]⟩ : ByteArray) 22 9 .i64 Tryz.underlying22 hi024 hsz24 (some ad373) c4 l4 (ji10) (of_decide_eq_true (by first | (with_reducible assumption) | assumption)) (of_decide_eq_true (by first | (with_reducible assumption) | assumption)) HC4.out; have HR374 := Aside0.mk (Kd.C_of_reads (h1 := fun _ => rfl) (hA24 _ (Kd.reads_of_C HR4.out))); have HC374 := Aside0.mk hC24; clear hA24 hC24 hi024 hsz24) | (go_at_call 43; refine calls_of_args (args' := #[_, _, _, _, .slice _ (l4.take ((ji10) : Int).toNat).length _]) (by rw [hlen_]) ?_; (with_reducible refine (ih k (by omega) (wrap64 (a0 - t372)) (wrap64 (a1 - t372)) false a3 _ _ (l4.take ((ji10) : Int).toNat) t378 t379 _ ?side1 ?side2 A21.out).mono ?_); (case side1 => repeat (first | exact HR374.out | (with_reducible refine Kd.C_alloc ?_ _) | (with_reducible refine Kd.C_drewN ?_ _) | (with_reducible refine Kd.C_drew ?_))); (case side2 => exact HC374.out); rintro e w25 ⟨rfl, hb⟩; have n0_ := Aside0.mk (below_step (by repeat (first | (with_reducible first | exact HB.out | apply below_alloc | apply pw_below_drewN | apply below_drew1) | exact HB.out)) hb); clear HB; have HB := n0_; clear n0_; (try clear hb); (try clear hb2); (try clear hk); (try clear hi); (try clear A21)) | (go_at_call 53; (with_reducible refine (observatoryref02_node.calls k (rdOf ByteArray.empty l4 (ji10)) t378 t380 _ A22.out).mono ?_); rintro e w26 ⟨rfl, hb⟩; have n0_ := Aside0.mk (below_step (by repeat (first | (with_reducible first | exact HB.out | apply below_alloc | apply pw_below_drewN | apply below_drew1) | exact HB.out)) hb); clear HB; have HB := n0_; clear n0_; (try clear hb); (try clear hb2); (try clear hk); (try clear hi); (try clear A22)) | (go_at_call 53; (with_reducible refine (observatoryref02_node.calls k (rdOf ByteArray.empty l4 (ji10)) t379 t381 _ A23.out).mono ?_); rintro e w27 ⟨rfl, hb⟩; have n0_ := Aside0.mk (below_step (by repeat (first | (with_reducible first | exact HB.out | apply below_alloc | apply pw_below_drewN | apply below_drew1) | exact HB.out)) hb); clear HB; have HB := n0_; clear n0_; (try clear hb); (try clear hb2); (try clear hk); (try clear hi); (try clear A23))); try go_wp2_with (first | (go_at_call 52; (with_reducible refine (observatoryref02_Half.calls k a0 t372 _ A9.out).mono ?_); rintro e w' ⟨rfl, ⟨nd, rfl⟩⟩; (try clear A9); (try first | exact ⟨rfl, _, World.drewN_drewN _ _ _⟩ | exact ⟨rfl, _, Eq.trans (World.drewN_drewN _ _ _) (congrArg (World.drewN _) (Nat.add_assoc _ _ _))⟩); have p373 : 0 ≤ ((ji10) : Int) := of_decide_eq_true (by first | (with_reducible assumption) | assumption); have q373 : (ji10) < (l4.length : Int) := of_decide_eq_true (by first | (with_reducible assumption) | assumption); obtain ⟨ad373, e373, hx373_0⟩ := Kd.at_string HR4.out (ji10) p373 q373; cases e373; replace p373 := eq_true p373; replace q373 := eq_true q373; obtain ⟨i024, hi024, _, hsz24, _⟩ := info_parts info9; obtain ⟨hcut24, hA24, hC24⟩ := print_take_of (P := Tryz.prog) Value.string (⟨#[]⟩ : ByteArray) 22 9 .i64 Tryz.underlying22 hi024 hsz24 (some ad373) c4 l4 (ji10) (of_decide_eq_true (by first | (with_reducible assumption) | assumption)) (of_decide_eq_true (by first | (with_reducible assumption) | assumption)) HC4.out; have HR374 := Aside0.mk (Kd.C_of_reads (h1 := fun _ => rfl) (hA24 _ (Kd.reads_of_C HR4.out))); have HC374 := Aside0.mk hC24; clear hA24 hC24 hi024 hsz24) | (go_at_call 43; refine calls_of_args (args' := #[_, _, _, _, .slice _ (l4.take ((ji10) : Int).toNat).length _]) (by rw [hlen_]) ?_; (with_reducible refine (ih k (by omega) (wrap64 (a0 - t372)) (wrap64 (a1 - t372)) false a3 _ _ (l4.take ((ji10) : Int).toNat) t378 t379 _ ?side1 ?side2 A21.out).mono ?_); (case side1 => repeat (first | exact HR374.out | (with_reducible refine Kd.C_alloc ?_ _) | (with_reducible refine Kd.C_drewN ?_ _) | (with_reducible refine Kd.C_drew ?_))); (case side2 => exact HC374.out); rintro e w25 ⟨rfl, hb⟩; have n0_ := Aside0.mk (below_step (by repeat (first | (with_reducible first | exact HB.out | apply below_alloc | apply pw_below_drewN | apply below_drew1) | exact HB.out)) hb); clear HB; have HB := n0_; clear n0_; (try clear hb); (try clear hb2); (try clear hk); (try clear hi); (try clear A21)) | (go_at_call 53; (with_reducible refine (observatoryref02_node.calls k (rdOf ByteArray.empty l4 (ji10)) t378 t380 _ A22.out).mono ?_); rintro e w26 ⟨rfl, hb⟩; have n0_ := Aside0.mk (below_step (by repeat (first | (with_reducible first | exact HB.out | apply below_alloc | apply pw_below_drewN | apply below_drew1) | exact HB.out)) hb); clear HB; have HB := n0_; clear n0_; (try clear hb); (try clear hb2); (try clear hk); (try clear hi); (try clear A22)) | (go_at_call 53; (with_reducible refine (observatoryref02_node.calls k (rdOf ByteArray.empty l4 (ji10)) t379 t381 _ A23.out).mono ?_); rintro e w27 ⟨rfl, hb⟩; have n0_ := Aside0.mk (below_step (by repeat (first | (with_reducible first | exact HB.out | apply below_alloc | apply pw_below_drewN | apply below_drew1) | exact HB.out)) hb); clear HB; have HB := n0_; clear n0_; (try clear hb); (try clear hb2); (try clear hk); (try clear hi); (try clear A23))))
      go_ret2
      exact ⟨by first | rfl | (simp [errW_none, errW_some] <;> rfl) | (simp only [← hji10]; first | rfl | (simp [errW_none, errW_some] <;> rfl)) | (simp [*, errW_none, errW_some] <;> rfl), by repeat (first | (with_reducible first | exact HB.out | apply below_alloc | apply pw_below_drewN | apply below_drew1) | exact HB.out)⟩
    ·
     rw [if_neg c14] at H
     exact absurd H (by simp)
   ·
    rw [if_neg c12] at H
    exact absurd H (by simp)
  ·
   rw [if_neg c11] at H
   exact absurd H (by simp)

/-! ### observatoryref02_Extends: function 18 -/
def observatoryref02_Extends.j0 : Nat → ByteArray → Int → ByteArray → Int → List ByteArray → Bool → Option (Bool)
 | 0, _, _, _, _, _, _ => none
 | k + 1, x0, x1, x2, x3, x4, x35 => if x35 = true then (some false) else (if x1 = 0 then (if (x4.length : Int) = 0 then ((observatoryref02_Empty.f k).bind fun t387 => (if x0.toList = t387.toList then (if x3 > 0 then (some true) else (some (x2.toList == x0.toList))) else (some false))) else (some false)) else (if x1 = x3 then (if (x4.length : Int) = 0 then (some (x0.toList == x2.toList)) else (some false)) else ((observatoryref02_long.f k x3 x1 true).bind fun t388 => (if (x4.length : Int) = t388 then ((observatoryref02_both.f k x3 x1 true x0 x4).bind fun bt389 => (if bt389.1.toList = x0.toList then (some (bt389.2.toList == x2.toList)) else (some false))) else (some false)))))
def observatoryref02_Extends.f (k : Nat) (a0 : ByteArray) (a1 : Int) (a2 : ByteArray) (a3 : Int) (l4 : List ByteArray) : Option (Bool) := if a1 < 0 then (observatoryref02_Extends.j0 k a0 a1 a2 a3 l4 true) else (if a1 > a3 then (observatoryref02_Extends.j0 k a0 a1 a2 a3 l4 true) else (if a3 > 1000000 then (observatoryref02_Extends.j0 k a0 a1 a2 a3 l4 true) else ((observatoryref02_digests.f k (([a0, a2] : List ByteArray))).bind fun t385 => (if t385 = true then ((observatoryref02_digests.f k l4).bind fun t386 => (observatoryref02_Extends.j0 k a0 a1 a2 a3 l4 (!t386))) else (observatoryref02_Extends.j0 k a0 a1 a2 a3 l4 true)))))
theorem observatoryref02_Extends.mono_l : ∀ k, (∀ y0 y1 y2 y3 y4 y5, LeO (observatoryref02_Extends.j0 k y0 y1 y2 y3 y4 y5) (observatoryref02_Extends.j0 (k + 1) y0 y1 y2 y3 y4 y5))
 | 0 => fun _ _ _ _ _ _ r h => by simp [observatoryref02_Extends.j0] at h
 | k + 1 => by
  have ih0 := observatoryref02_Extends.mono_l k
  ·
   intro y0 y1 y2 y3 y4 y5
   unfold observatoryref02_Extends.j0
   repeat' first
   | (with_reducible exact ih0 _ _ _ _ _ _)
   | (with_reducible exact observatoryref02_Empty.mono _)
   | (with_reducible exact observatoryref02_both.mono _ _ _ _ _ _)
   | (with_reducible exact observatoryref02_digests.mono _ _)
   | (with_reducible exact observatoryref02_long.mono _ _ _ _)
   | (with_reducible exact LeO.refl _)
   | (with_reducible exact LeO.none _)
   | (with_reducible refine LeO.ite ?_ ?_)
   | (with_reducible refine LeO.bind ?_ (fun _ => ?_))
   | exact ih0 _ _ _ _ _ _
   | exact observatoryref02_Empty.mono _
   | exact observatoryref02_both.mono _ _ _ _ _ _
   | exact observatoryref02_digests.mono _ _
   | exact observatoryref02_long.mono _ _ _ _
   | exact LeO.none _
   | refine LeO.ite ?_ ?_
   | refine LeO.bind ?_ (fun _ => ?_)
theorem observatoryref02_Extends.mono : ∀ a0 a1 a2 a3 a4 k, LeO (observatoryref02_Extends.f k a0 a1 a2 a3 a4) (observatoryref02_Extends.f (k + 1) a0 a1 a2 a3 a4) := by
 intro a0 a1 a2 a3 a4 k
 have ih0 := observatoryref02_Extends.mono_l k
 unfold observatoryref02_Extends.f
 repeat' first
   | (with_reducible exact ih0 _ _ _ _ _ _)
   | (with_reducible exact observatoryref02_Empty.mono _)
   | (with_reducible exact observatoryref02_both.mono _ _ _ _ _ _)
   | (with_reducible exact observatoryref02_digests.mono _ _)
   | (with_reducible exact observatoryref02_long.mono _ _ _ _)
   | (with_reducible exact LeO.refl _)
   | (with_reducible exact LeO.none _)
   | (with_reducible refine LeO.ite ?_ ?_)
   | (with_reducible refine LeO.bind ?_ (fun _ => ?_))
   | exact ih0 _ _ _ _ _ _
   | exact observatoryref02_Empty.mono _
   | exact observatoryref02_both.mono _ _ _ _ _ _
   | exact observatoryref02_digests.mono _ _
   | exact observatoryref02_long.mono _ _ _ _
   | exact LeO.none _
   | refine LeO.ite ?_ ?_
   | refine LeO.bind ?_ (fun _ => ?_)
set_option maxHeartbeats 8000000 in
set_option maxRecDepth 100000 in
theorem observatoryref02_Extends.calls (k : Nat) (a0 : ByteArray) (a1 : Int) (a2 : ByteArray) (a3 : Int) (A4 : Option Addr) (c4 : Nat) (l4 : List ByteArray) (r : Bool) (w : World) (hr4 : Kd.C Kd.string w A4 l4.length l4) (hc4 : l4.length ≤ c4) (h : observatoryref02_Extends.f k a0 a1 a2 a3 l4 = some r) :
  Calls Tryz.prog 18 #[.string a0, .int .i64 a1, .string a2, .int .i64 a3, .slice A4 l4.length c4] w fun e w' => e = .returned (.bool r) ∧ Below w.heap.size w w' := by
 have HR4 := Aside0.mk hr4
 have HC4 := Aside0.mk hc4
 clear hr4 hc4
 have HB := Aside0.mk (Below.refl w.heap.size w)
 have H : (if a1 < 0 then (observatoryref02_Extends.j0 k a0 a1 a2 a3 l4 true) else (if a1 > a3 then (observatoryref02_Extends.j0 k a0 a1 a2 a3 l4 true) else (if a3 > 1000000 then (observatoryref02_Extends.j0 k a0 a1 a2 a3 l4 true) else ((observatoryref02_digests.f k (([a0, a2] : List ByteArray))).bind fun t385 => (if t385 = true then ((observatoryref02_digests.f k l4).bind fun t386 => (observatoryref02_Extends.j0 k a0 a1 a2 a3 l4 (!t386))) else (observatoryref02_Extends.j0 k a0 a1 a2 a3 l4 true)))))) = some r := h
 clear h
 have HC6 := Aside0.mk H
 clear H
 go_enter Tryz.func18, Tryz.ntmps18
 go_upto_region 1 with (fail)
 go_cut [35] (fun v35 wc => ∃ (kq : Nat) (x35_5 : Bool), v35 = .bool x35_5 ∧ Aside0 (observatoryref02_Extends.j0 kq a0 a1 a2 a3 l4 x35_5 = some r) ∧ Aside0 (kq ≤ k) ∧ Aside0 (Below w.heap.size w wc))
 case first =>
  have H := HC6.out
  clear HC6
  by_cases c7 : a1 < 0
  ·
   rw [if_pos c7] at H
   have c7b0 : decide (a1 < 0) = true := decide_eq_true c7
   clear c7
   (first | rw [c7b0] | (simp only [i64_w, i32_w]; rw [c7b0]) | skip)
   have H' := Aside0.mk H
   clear H
   go_wp2
   go_meet
   case rel => exact ⟨_, (true), (by first | rfl | (simp; done) | (simp [*]; done)), H', ⟨by first | omega | exact Nat.le_refl _⟩, ⟨by repeat (first | (with_reducible first | exact HB.out | apply below_alloc | apply pw_below_drewN | apply below_drew1) | exact HB.out)⟩⟩
  ·
   rw [if_neg c7] at H
   have c7b0 : decide (a1 < 0) = false := decide_eq_false c7
   clear c7
   (first | rw [c7b0] | (simp only [i64_w, i32_w]; rw [c7b0]) | skip)
   by_cases c8 : a1 > a3
   ·
    rw [if_pos c8] at H
    have c8b0 : decide (a3 < a1) = true := decide_eq_true c8
    clear c8
    have H' := Aside0.mk H
    clear H
    go_wp2
    go_meet
    case rel => exact ⟨_, (true), (by first | rfl | (simp; done) | (simp [*]; done)), H', ⟨by first | omega | exact Nat.le_refl _⟩, ⟨by repeat (first | (with_reducible first | exact HB.out | apply below_alloc | apply pw_below_drewN | apply below_drew1) | exact HB.out)⟩⟩
   ·
    rw [if_neg c8] at H
    have c8b0 : decide (a3 < a1) = false := decide_eq_false c8
    clear c8
    by_cases c9 : a3 > 1000000
    ·
     rw [if_pos c9] at H
     have c9b0 : decide (1000000 < a3) = true := decide_eq_true c9
     clear c9
     have H' := Aside0.mk H
     clear H
     go_wp2
     go_meet
     case rel => exact ⟨_, (true), (by first | rfl | (simp; done) | (simp [*]; done)), H', ⟨by first | omega | exact Nat.le_refl _⟩, ⟨by repeat (first | (with_reducible first | exact HB.out | apply below_alloc | apply pw_below_drewN | apply below_drew1) | exact HB.out)⟩⟩
    ·
     rw [if_neg c9] at H
     have c9b0 : decide (1000000 < a3) = false := decide_eq_false c9
     clear c9
     obtain ⟨y382, hy382⟩ : ∃ y_ : List ByteArray, y_ = (([a0, a2] : List ByteArray)) := ⟨_, rfl⟩
     replace H : ((observatoryref02_digests.f k y382).bind fun t385 => (if t385 = true then ((observatoryref02_digests.f k l4).bind fun t386 => (observatoryref02_Extends.j0 k a0 a1 a2 a3 l4 (!t386))) else (observatoryref02_Extends.j0 k a0 a1 a2 a3 l4 true))) = some r := by first | (rw [hy382]; with_reducible exact H) | (have H2_ := (Option.bind_some _ _).symm.trans H; rw [hy382]; with_reducible exact H2_) | (have H2_ := (Option.bind_some _ _).symm.trans H; with_reducible exact H2_) | with_reducible exact H | (rw [hy382]; exact H) | exact H
     have Ny382 := Aside0.mk hy382
     clear hy382
     replace H := Option.bind_eq_some_iff.mp H
     obtain ⟨t385, A100, H⟩ := H
     replace H : (if t385 = true then ((observatoryref02_digests.f k l4).bind fun t386 => (observatoryref02_Extends.j0 k a0 a1 a2 a3 l4 (!t386))) else (observatoryref02_Extends.j0 k a0 a1 a2 a3 l4 true)) = some r := H
     have A10 := Aside0.mk A100
     clear A100
     by_cases c11 : t385 = true
     ·
      subst c11
      have H1 : ((observatoryref02_digests.f k l4).bind fun t386 => (observatoryref02_Extends.j0 k a0 a1 a2 a3 l4 (!t386))) = some r := by rw [if_pos rfl] at H; exact H
      clear H
      have H := H1
      clear H1
      replace H := Option.bind_eq_some_iff.mp H
      obtain ⟨t386, A120, H⟩ := H
      replace H : (observatoryref02_Extends.j0 k a0 a1 a2 a3 l4 (!t386)) = some r := H
      have A12 := Aside0.mk A120
      clear A120
      have H' := Aside0.mk H
      clear H
      go_wp2_with (first | ((with_reducible refine gate_dst (N := 27) rfl ?_); (try (refine gate_guard (by rfl) ?_; dsimp only)); refine Kd.R_lit Kd.string _ 9 ?hg (N := 27) ?hd (xs := ([a0, a2] : List ByteArray)) (inner := [.string a0, .string a2]) (ok := fun _ => True) (okp := fun _ => True) ?hr ?hp (fun _ hk => hk) trivial (Below.refl _ _) (Nat.le_refl _) (by simp) ?_; (case hd => rfl); (case hg => rfl); (case hr => first | (go_simp; done) | (go_simp; rfl)); (case hp => exact (Reps.one (show Kd.M Kd.string _ _ _ a0 [.string a0] from rfl) (Reps.one (show Kd.M Kd.string _ _ _ a2 [.string a2] from rfl) (Reps.none _ _)))); intro v383 w13 ho14 hb hg_ hnew_; clear hg_ hnew_; (first | rw [← Ny382.out] at ho14 | (simp only [Int.reduceToNat] at ho14; rw [← Ny382.out] at ho14)); have n0_ := Aside0.mk (Kd.R_lower ho14 (below_size (by repeat (first | (with_reducible first | exact HB.out | apply below_alloc | apply pw_below_drewN | apply below_drew1) | exact HB.out)))); have n1_ := Aside0.mk (below_step (by repeat (first | (with_reducible first | exact HB.out | apply below_alloc | apply pw_below_drewN | apply below_drew1) | exact HB.out)) hb); clear HB; have HO384 := n0_; have HB := n1_; clear n0_ n1_; clear hb ho14; obtain ⟨Ao15, co15, eo15⟩ := Kd.R_slice HO384.out; subst eo15) | (go_at_call 24; (with_reducible refine (observatoryref02_digests.calls k _ _ y382 true _ ?side1 ?side2 A10.out).mono ?_); (case side1 => repeat (first | exact (Kd.R_reads' HO384.out).2.2 | (with_reducible refine Kd.C_alloc ?_ _) | (with_reducible refine Kd.C_drewN ?_ _) | (with_reducible refine Kd.C_drew ?_))); (case side2 => exact (Kd.R_reads' HO384.out).2.1); rintro e w' ⟨rfl, ⟨nd, rfl⟩⟩; (try clear A10)) | (go_at_call 24; (with_reducible refine (observatoryref02_digests.calls k _ _ l4 t386 _ ?side1 ?side2 A12.out).mono ?_); (case side1 => repeat (first | exact (Kd.C_below HR4.out (by repeat (first | (with_reducible first | exact HB.out | apply below_alloc | apply pw_below_drewN | apply below_drew1) | exact HB.out))) | (with_reducible refine Kd.C_alloc ?_ _) | (with_reducible refine Kd.C_drewN ?_ _) | (with_reducible refine Kd.C_drew ?_))); (case side2 => exact HC4.out); rintro e w' ⟨rfl, ⟨nd, rfl⟩⟩; (try clear A12)))
      go_meet
      case rel => exact ⟨_, (!t386), (by first | rfl | (simp; done) | (simp [*]; done)), H', ⟨by first | omega | exact Nat.le_refl _⟩, ⟨by repeat (first | (with_reducible first | exact HB.out | apply below_alloc | apply pw_below_drewN | apply below_drew1) | exact HB.out)⟩⟩
     ·
      replace c11 := Bool.eq_false_iff.mpr c11
      subst c11
      have H1 : (observatoryref02_Extends.j0 k a0 a1 a2 a3 l4 true) = some r := by rw [if_neg (show ¬ (false = true) by decide)] at H; exact H
      clear H
      have H := H1
      clear H1
      have H' := Aside0.mk H
      clear H
      go_wp2_with (first | ((with_reducible refine gate_dst (N := 27) rfl ?_); (try (refine gate_guard (by rfl) ?_; dsimp only)); refine Kd.R_lit Kd.string _ 9 ?hg (N := 27) ?hd (xs := ([a0, a2] : List ByteArray)) (inner := [.string a0, .string a2]) (ok := fun _ => True) (okp := fun _ => True) ?hr ?hp (fun _ hk => hk) trivial (Below.refl _ _) (Nat.le_refl _) (by simp) ?_; (case hd => rfl); (case hg => rfl); (case hr => first | (go_simp; done) | (go_simp; rfl)); (case hp => exact (Reps.one (show Kd.M Kd.string _ _ _ a0 [.string a0] from rfl) (Reps.one (show Kd.M Kd.string _ _ _ a2 [.string a2] from rfl) (Reps.none _ _)))); intro v383 w16 ho17 hb hg_ hnew_; clear hg_ hnew_; (first | rw [← Ny382.out] at ho17 | (simp only [Int.reduceToNat] at ho17; rw [← Ny382.out] at ho17)); have n0_ := Aside0.mk (Kd.R_lower ho17 (below_size (by repeat (first | (with_reducible first | exact HB.out | apply below_alloc | apply pw_below_drewN | apply below_drew1) | exact HB.out)))); have n1_ := Aside0.mk (below_step (by repeat (first | (with_reducible first | exact HB.out | apply below_alloc | apply pw_below_drewN | apply below_drew1) | exact HB.out)) hb); clear HB; have HO384 := n0_; have HB := n1_; clear n0_ n1_; clear hb ho17; obtain ⟨Ao18, co18, eo18⟩ := Kd.R_slice HO384.out; subst eo18) | (go_at_call 24; (with_reducible refine (observatoryref02_digests.calls k _ _ y382 false _ ?side1 ?side2 A10.out).mono ?_); (case side1 => repeat (first | exact (Kd.R_reads' HO384.out).2.2 | (with_reducible refine Kd.C_alloc ?_ _) | (with_reducible refine Kd.C_drewN ?_ _) | (with_reducible refine Kd.C_drew ?_))); (case side2 => exact (Kd.R_reads' HO384.out).2.1); rintro e w' ⟨rfl, ⟨nd, rfl⟩⟩; (try clear A10)))
      go_meet
      case rel => exact ⟨_, (true), (by first | rfl | (simp; done) | (simp [*]; done)), H', ⟨by first | omega | exact Nat.le_refl _⟩, ⟨by repeat (first | (with_reducible first | exact HB.out | apply below_alloc | apply pw_below_drewN | apply below_drew1) | exact HB.out)⟩⟩
 case rest =>
  clear HC6
  try clear c1
  try clear p2
  try clear c4
  try clear c7
  try clear c7b0
  try clear c8
  try clear c8b0
  try clear c9
  try clear c9b0
  try clear c11
  try clear c18
  obtain ⟨kq, x35_5, rfl, HA, HJ5, HB⟩ := hcut
  cases kq with
  | zero => exact absurd HA.out (by simp [observatoryref02_Extends.j0])
  | succ kj5 =>
   have H := HA.out
   clear HA
   simp only [observatoryref02_Extends.j0] at H
   by_cases c19 : x35_5 = true
   ·
    subst c19
    have H1 : (some false) = some r := by rw [if_pos rfl] at H; exact H
    clear H
    have H := H1
    clear H1
    obtain rfl := Option.some.inj H
    go_wp2
    go_ret
    exact ⟨by first | rfl | (simp [errW_none, errW_some] <;> rfl) | (simp [*, errW_none, errW_some] <;> rfl), by repeat (first | (with_reducible first | exact HB.out | apply below_alloc | apply pw_below_drewN | apply below_drew1) | exact HB.out)⟩
   ·
    replace c19 := Bool.eq_false_iff.mpr c19
    subst c19
    have H1 : (if a1 = 0 then (if (l4.length : Int) = 0 then ((observatoryref02_Empty.f kj5).bind fun t387 => (if a0.toList = t387.toList then (if a3 > 0 then (some true) else (some (a2.toList == a0.toList))) else (some false))) else (some false)) else (if a1 = a3 then (if (l4.length : Int) = 0 then (some (a0.toList == a2.toList)) else (some false)) else ((observatoryref02_long.f kj5 a3 a1 true).bind fun t388 => (if (l4.length : Int) = t388 then ((observatoryref02_both.f kj5 a3 a1 true a0 l4).bind fun bt389 => (if bt389.1.toList = a0.toList then (some (bt389.2.toList == a2.toList)) else (some false))) else (some false))))) = some r := by rw [if_neg (show ¬ (false = true) by decide)] at H; exact H
    clear H
    have H := H1
    clear H1
    by_cases c20 : a1 = 0
    ·
     rw [if_pos c20] at H
     have c20b0 : (a1 == 0) = true := beq_iff_eq.mpr c20
     have c20b1 : (a1 != 0) = false := bne_eq_false_iff_eq.mpr c20
     clear c20
     by_cases c21 : (l4.length : Int) = 0
     ·
      rw [if_pos c21] at H
      have c21b0 : ((l4.length : Int) == 0) = true := beq_iff_eq.mpr c21
      have c21b1 : ((l4.length : Int) != 0) = false := bne_eq_false_iff_eq.mpr c21
      clear c21
      replace H := Option.bind_eq_some_iff.mp H
      obtain ⟨t387, A220, H⟩ := H
      replace H : (if a0.toList = t387.toList then (if a3 > 0 then (some true) else (some (a2.toList == a0.toList))) else (some false)) = some r := H
      have A22 := Aside0.mk A220
      clear A220
      by_cases c23 : a0.toList = t387.toList
      ·
       rw [if_pos c23] at H
       have c23b0 : (a0.toList == t387.toList) = true := beq_iff_eq.mpr c23
       have c23b1 : (a0.toList != t387.toList) = false := bne_eq_false_iff_eq.mpr c23
       clear c23
       by_cases c24 : a3 > 0
       ·
        rw [if_pos c24] at H
        have c24b0 : decide (0 < a3) = true := decide_eq_true c24
        clear c24
        obtain rfl := Option.some.inj H
        go_wp2_with (first | (go_at_call 41; (with_reducible refine (observatoryref02_Empty.calls kj5  t387 _ A22.out).mono ?_); rintro e w25 ⟨rfl, hb⟩; have n0_ := Aside0.mk (below_step (by repeat (first | (with_reducible first | exact HB.out | apply below_alloc | apply pw_below_drewN | apply below_drew1) | exact HB.out)) hb); clear HB; have HB := n0_; clear n0_; (try clear hb); (try clear hb2); (try clear hk); (try clear hi); (try clear A22)))
        go_ret
        exact ⟨by first | rfl | (simp [errW_none, errW_some] <;> rfl) | (simp [*, errW_none, errW_some] <;> rfl), by repeat (first | (with_reducible first | exact HB.out | apply below_alloc | apply pw_below_drewN | apply below_drew1) | exact HB.out)⟩
       ·
        rw [if_neg c24] at H
        have c24b0 : decide (0 < a3) = false := decide_eq_false c24
        clear c24
        obtain rfl := Option.some.inj H
        go_wp2_with (first | (go_at_call 41; (with_reducible refine (observatoryref02_Empty.calls kj5  t387 _ A22.out).mono ?_); rintro e w26 ⟨rfl, hb⟩; have n0_ := Aside0.mk (below_step (by repeat (first | (with_reducible first | exact HB.out | apply below_alloc | apply pw_below_drewN | apply below_drew1) | exact HB.out)) hb); clear HB; have HB := n0_; clear n0_; (try clear hb); (try clear hb2); (try clear hk); (try clear hi); (try clear A22)))
        go_ret
        exact ⟨by first | rfl | (simp [errW_none, errW_some] <;> rfl) | (simp [*, errW_none, errW_some] <;> rfl), by repeat (first | (with_reducible first | exact HB.out | apply below_alloc | apply pw_below_drewN | apply below_drew1) | exact HB.out)⟩
      ·
       rw [if_neg c23] at H
       have c23b0 : (a0.toList == t387.toList) = false := beq_eq_false_iff_ne.mpr c23
       have c23b1 : (a0.toList != t387.toList) = true := bne_iff_ne.mpr c23
       obtain rfl := Option.some.inj H
       go_wp2_with (first | (go_at_call 41; (with_reducible refine (observatoryref02_Empty.calls kj5  t387 _ A22.out).mono ?_); rintro e w27 ⟨rfl, hb⟩; have n0_ := Aside0.mk (below_step (by repeat (first | (with_reducible first | exact HB.out | apply below_alloc | apply pw_below_drewN | apply below_drew1) | exact HB.out)) hb); clear HB; have HB := n0_; clear n0_; (try clear hb); (try clear hb2); (try clear hk); (try clear hi); (try clear A22)))
       go_ret
       exact ⟨by first | rfl | (simp [errW_none, errW_some] <;> rfl) | (simp [*, errW_none, errW_some] <;> rfl), by repeat (first | (with_reducible first | exact HB.out | apply below_alloc | apply pw_below_drewN | apply below_drew1) | exact HB.out)⟩
     ·
      rw [if_neg c21] at H
      have c21b0 : ((l4.length : Int) == 0) = false := beq_eq_false_iff_ne.mpr c21
      have c21b1 : ((l4.length : Int) != 0) = true := bne_iff_ne.mpr c21
      have c21b2 : ¬ (l4 = []) := fun h_ => c21 (by rw [h_]; rfl)
      obtain rfl := Option.some.inj H
      go_wp2
      go_ret
      exact ⟨by first | rfl | (simp [errW_none, errW_some] <;> rfl) | (simp [*, errW_none, errW_some] <;> rfl), by repeat (first | (with_reducible first | exact HB.out | apply below_alloc | apply pw_below_drewN | apply below_drew1) | exact HB.out)⟩
    ·
     rw [if_neg c20] at H
     have c20b0 : (a1 == 0) = false := beq_eq_false_iff_ne.mpr c20
     have c20b1 : (a1 != 0) = true := bne_iff_ne.mpr c20
     by_cases c28 : a1 = a3
     ·
      rw [if_pos c28] at H
      have c28b0 : (a1 == a3) = true := beq_iff_eq.mpr c28
      have c28b1 : (a1 != a3) = false := bne_eq_false_iff_eq.mpr c28
      clear c28
      by_cases c29 : (l4.length : Int) = 0
      ·
       rw [if_pos c29] at H
       have c29b0 : ((l4.length : Int) == 0) = true := beq_iff_eq.mpr c29
       have c29b1 : ((l4.length : Int) != 0) = false := bne_eq_false_iff_eq.mpr c29
       clear c29
       obtain rfl := Option.some.inj H
       go_wp2
       go_ret
       exact ⟨by first | rfl | (simp [errW_none, errW_some] <;> rfl) | (simp [*, errW_none, errW_some] <;> rfl), by repeat (first | (with_reducible first | exact HB.out | apply below_alloc | apply pw_below_drewN | apply below_drew1) | exact HB.out)⟩
      ·
       rw [if_neg c29] at H
       have c29b0 : ((l4.length : Int) == 0) = false := beq_eq_false_iff_ne.mpr c29
       have c29b1 : ((l4.length : Int) != 0) = true := bne_iff_ne.mpr c29
       have c29b2 : ¬ (l4 = []) := fun h_ => c29 (by rw [h_]; rfl)
       obtain rfl := Option.some.inj H
       go_wp2
       go_ret
       exact ⟨by first | rfl | (simp [errW_none, errW_some] <;> rfl) | (simp [*, errW_none, errW_some] <;> rfl), by repeat (first | (with_reducible first | exact HB.out | apply below_alloc | apply pw_below_drewN | apply below_drew1) | exact HB.out)⟩
     ·
      rw [if_neg c28] at H
      have c28b0 : (a1 == a3) = false := beq_eq_false_iff_ne.mpr c28
      have c28b1 : (a1 != a3) = true := bne_iff_ne.mpr c28
      replace H := Option.bind_eq_some_iff.mp H
      obtain ⟨t388, A300, H⟩ := H
      replace H : (if (l4.length : Int) = t388 then ((observatoryref02_both.f kj5 a3 a1 true a0 l4).bind fun bt389 => (if bt389.1.toList = a0.toList then (some (bt389.2.toList == a2.toList)) else (some false))) else (some false)) = some r := H
      have A30 := Aside0.mk A300
      clear A300
      by_cases c31 : (l4.length : Int) = t388
      ·
       rw [if_pos c31] at H
       have c31b0 : ((l4.length : Int) == t388) = true := beq_iff_eq.mpr c31
       have c31b1 : ((l4.length : Int) != t388) = false := bne_eq_false_iff_eq.mpr c31
       clear c31
       replace H := Option.bind_eq_some_iff.mp H
       obtain ⟨⟨t389, t390⟩, A320, H⟩ := H
       replace H : (if t389.toList = a0.toList then (some (t390.toList == a2.toList)) else (some false)) = some r := H
       have A32 := Aside0.mk A320
       clear A320
       by_cases c33 : t389.toList = a0.toList
       ·
        rw [if_pos c33] at H
        have c33b0 : (t389.toList == a0.toList) = true := beq_iff_eq.mpr c33
        have c33b1 : (t389.toList != a0.toList) = false := bne_eq_false_iff_eq.mpr c33
        clear c33
        obtain rfl := Option.some.inj H
        go_wp2_with (first | ((with_reducible refine gate_callee (f := 42) rfl ?_); refine goesL_ (some 70) rfl rfl Tryz.func42 (by kernel_rfl) rfl #[.int .i64 a3, .int .i64 a1, .bool true] rfl (by (try simp only [List.map_toArray, List.map_cons, List.map_nil]); first | done | rfl | (simp only [List.length_drop, List.length_take]; rfl)) ?_; (with_reducible refine (observatoryref02_long.calls kj5 a3 a1 true t388 _ A30.out).mono ?_); rintro e w' ⟨rfl, ⟨nd, rfl⟩⟩; refine ⟨_, rfl, ?_⟩; (try clear A30)) | ((with_reducible refine gate_callee (f := 43) rfl ?_); refine goesL_ (some 77) rfl rfl Tryz.func43 (by kernel_rfl) rfl #[.int .i64 a3, .int .i64 a1, .bool true, .string a0, .slice A4 l4.length c4] rfl (by (try simp only [List.map_toArray, List.map_cons, List.map_nil]); first | done | rfl | (simp only [List.length_drop, List.length_take]; rfl)) ?_; (with_reducible refine (observatoryref02_both.calls kj5 a3 a1 true a0 _ _ l4 t389 t390 _ ?side1 ?side2 A32.out).mono ?_); (case side1 => repeat (first | exact (Kd.C_below HR4.out (by repeat (first | (with_reducible first | exact HB.out | apply below_alloc | apply pw_below_drewN | apply below_drew1) | exact HB.out))) | (with_reducible refine Kd.C_alloc ?_ _) | (with_reducible refine Kd.C_drewN ?_ _) | (with_reducible refine Kd.C_drew ?_))); (case side2 => exact HC4.out); rintro e w34 ⟨rfl, hb⟩; refine ⟨_, rfl, ?_⟩; have n0_ := Aside0.mk (below_step (by repeat (first | (with_reducible first | exact HB.out | apply below_alloc | apply pw_below_drewN | apply below_drew1) | exact HB.out)) hb); clear HB; have HB := n0_; clear n0_; (try clear hb); (try clear hb2); (try clear hk); (try clear hi); (try clear A32)))
        go_ret
        exact ⟨by first | rfl | (simp [errW_none, errW_some] <;> rfl) | (simp [*, errW_none, errW_some] <;> rfl), by repeat (first | (with_reducible first | exact HB.out | apply below_alloc | apply pw_below_drewN | apply below_drew1) | exact HB.out)⟩
       ·
        rw [if_neg c33] at H
        have c33b0 : (t389.toList == a0.toList) = false := beq_eq_false_iff_ne.mpr c33
        have c33b1 : (t389.toList != a0.toList) = true := bne_iff_ne.mpr c33
        obtain rfl := Option.some.inj H
        go_wp2_with (first | ((with_reducible refine gate_callee (f := 42) rfl ?_); refine goesL_ (some 70) rfl rfl Tryz.func42 (by kernel_rfl) rfl #[.int .i64 a3, .int .i64 a1, .bool true] rfl (by (try simp only [List.map_toArray, List.map_cons, List.map_nil]); first | done | rfl | (simp only [List.length_drop, List.length_take]; rfl)) ?_; (with_reducible refine (observatoryref02_long.calls kj5 a3 a1 true t388 _ A30.out).mono ?_); rintro e w' ⟨rfl, ⟨nd, rfl⟩⟩; refine ⟨_, rfl, ?_⟩; (try clear A30)) | ((with_reducible refine gate_callee (f := 43) rfl ?_); refine goesL_ (some 77) rfl rfl Tryz.func43 (by kernel_rfl) rfl #[.int .i64 a3, .int .i64 a1, .bool true, .string a0, .slice A4 l4.length c4] rfl (by (try simp only [List.map_toArray, List.map_cons, List.map_nil]); first | done | rfl | (simp only [List.length_drop, List.length_take]; rfl)) ?_; (with_reducible refine (observatoryref02_both.calls kj5 a3 a1 true a0 _ _ l4 t389 t390 _ ?side1 ?side2 A32.out).mono ?_); (case side1 => repeat (first | exact (Kd.C_below HR4.out (by repeat (first | (with_reducible first | exact HB.out | apply below_alloc | apply pw_below_drewN | apply below_drew1) | exact HB.out))) | (with_reducible refine Kd.C_alloc ?_ _) | (with_reducible refine Kd.C_drewN ?_ _) | (with_reducible refine Kd.C_drew ?_))); (case side2 => exact HC4.out); rintro e w35 ⟨rfl, hb⟩; refine ⟨_, rfl, ?_⟩; have n0_ := Aside0.mk (below_step (by repeat (first | (with_reducible first | exact HB.out | apply below_alloc | apply pw_below_drewN | apply below_drew1) | exact HB.out)) hb); clear HB; have HB := n0_; clear n0_; (try clear hb); (try clear hb2); (try clear hk); (try clear hi); (try clear A32)))
        go_ret
        exact ⟨by first | rfl | (simp [errW_none, errW_some] <;> rfl) | (simp [*, errW_none, errW_some] <;> rfl), by repeat (first | (with_reducible first | exact HB.out | apply below_alloc | apply pw_below_drewN | apply below_drew1) | exact HB.out)⟩
      ·
       rw [if_neg c31] at H
       have c31b0 : ((l4.length : Int) == t388) = false := beq_eq_false_iff_ne.mpr c31
       have c31b1 : ((l4.length : Int) != t388) = true := bne_iff_ne.mpr c31
       obtain rfl := Option.some.inj H
       go_wp2_with (first | ((with_reducible refine gate_callee (f := 42) rfl ?_); refine goesL_ (some 70) rfl rfl Tryz.func42 (by kernel_rfl) rfl #[.int .i64 a3, .int .i64 a1, .bool true] rfl (by (try simp only [List.map_toArray, List.map_cons, List.map_nil]); first | done | rfl | (simp only [List.length_drop, List.length_take]; rfl)) ?_; (with_reducible refine (observatoryref02_long.calls kj5 a3 a1 true t388 _ A30.out).mono ?_); rintro e w' ⟨rfl, ⟨nd, rfl⟩⟩; refine ⟨_, rfl, ?_⟩; (try clear A30)))
       go_ret
       exact ⟨by first | rfl | (simp [errW_none, errW_some] <;> rfl) | (simp [*, errW_none, errW_some] <;> rfl), by repeat (first | (with_reducible first | exact HB.out | apply below_alloc | apply pw_below_drewN | apply below_drew1) | exact HB.out)⟩

end Go.Proofs.YtapnakfhkdcfeaaGreatDoor.P
