/-
  noise.Distribution.
-/
import Derived.Test.YtlhfgjblcckifaaGreatDoorPx0
import Derived.Test.YtlhfgjblcckifaaGreatDoorMgNoise
import Derived.Laws.EntriesVeiled
set_option linter.unusedVariables false
set_option linter.unusedSimpArgs false
namespace Go.Proofs.YtlhfgjblcckifaaGreatDoor.P
open Go.RowKit Go.Shelf Go.Maps
open Go.Proofs.YtlhfgjblcckifaaGreatDoorW.PrintWords Go.Proofs.YtlhfgjblcckifaaGreatDoorW.PrintMore Go.Proofs.YtlhfgjblcckifaaGreatDoorW.PrintLast
open Go.Proofs.YtlhfgjblcckifaaGreatDoor.Dg

def mkO (p : Int × Nat) : S38 := ⟨p.1, decN p.2⟩
def outN (t : List Int) (n : Nat) : List S38 := (Nz.distN t n).map mkO
theorem info38 : (Tryz.prog.info? 38).map (fun i => (i.zero, i.size, i.bytes)) = some (some (.agg #[.int .i64 0, .string ⟨#[]⟩]), 2, 24) := by kernel_rfl

theorem decN_one : decN 1 = ⟨#[49]⟩ := by
  unfold decN
  rw [show ((1 : Nat) : Int) = ((1 : Nat) : Int) from rfl, Lib.itoa_nonneg]; unfold Lib.decDigits; rw [dif_pos (by decide)]; rfl
section
variable {P : Program} (w : World) {ops : Array Oper} {rest : List Oper} {o : Oper} {a : Act} {Q : Exit → Act → World → Prop}
theorem wpList_look_cnts (hg : o.guard = none) (m x : Operand) (t : TypeId) (hop : o.op = Op.lookup t m x false)
    (k e : TypeId) (K : Keyed P k) (ht : P.underlying t = some (.map k e)) (he : P.underlying e = some .string) (hz : (zeroValue e).run P w = .ok (.string ⟨#[]⟩) w) (b n : Nat) (D : DU) (g : Int → Nat) (hC : Cnts D g)
    (hm : a.eval m = .map (some b)) (hown : w.ownsMap P k (plainElem P e) b n D) (v : Int) (hx : a.eval x = .int .i64 v) (hkey : keyOf P k (.int .i64 v) = some (KI v))
    (c : Nat) (hs : g v = c) (h0 : c ≠ 0)
    (hK : wpList P ops Q rest (a.put o.dst (.string (decN c))) w) :
    wpList P ops Q (o :: rest) a w := by
  refine wpList_plain hg fun K' hK' => ?_
  obtain ⟨u, ps, hrun, hu⟩ := hown.lookup K ht hz (plainElem_string he (Nat.zero_le _)) hkey
  obtain ⟨s, rfl, hc, _⟩ := plainElem_string_inv he hu
  have hc1 := congrArg Prod.fst hc
  dsimp only at hc1
  rw [hC.at_ v (by rw [hs]; exact h0), hs] at hc1
  unfold datN at hc1
  injection hc1 with hc2
  injection hc2 with hc3
  obtain rfl : s = decN c := ByteArray.ext (Array.toList_inj.1 hc3.symm)
  unfold Oper.wp
  simp [execOp, hop, hm, hx, hrun, Result.andThen]
  exact hK' _ _ hK
end
theorem step0 (w : World) (b B0 : Nat) (hb : w.ownsMap Tryz.prog 3 (plainElem Tryz.prog 29) b 1 ((.map [] : DU).put (KI 0) (datN 1))) (t : List Int) : Cnts ((.map [] : DU).put (KI 0) (datN 1)) (Nz.cntN t 0) :=
  (Cnts.empty.put 0 1 (by decide)).congr fun x => by unfold Nz.cntN; rfl

set_option maxHeartbeats 8000000 in
set_option maxRecDepth 100000 in
theorem dist_calls (t : List Int) (ht : validT t = true) (n : Nat) (hn : n ≤ 9) (A : Option Addr) (c : Nat) (w : World) (hx : Kd.C (Kd.int .i64) w A t.length t) (hc : t.length ≤ c) (hT : Tabs w) :
    Calls Tryz.prog 11 #[.slice A t.length c, .int .i64 (n : Int)] w fun e w' => ∃ v, e = .returned (.tuple #[v, .int .i64 0]) ∧ Kd.R k38 38 w' w.heap.size (fun _ => True) v (outN t n) ∧ Below w.heap.size w w' := by
  obtain ⟨h1, h9, htt⟩ := (validT_iff t).1 ht
  have hmm := @run_makeMap Tryz.prog
  have hmf : ∀ (fn : Fn) (first cap : Array Value) (w : World), (Instr.makeFunc fn first cap).run Tryz.prog w = .ok (.func fn first cap) w := fun _ _ _ _ => rfl
  have HT := Lib.hid hT
  have HX := Lib.hid hx
  have HVT := Lib.hid ht
  have HCC := Lib.hid hc
  have c1 : decide ((n : Int) < 0) = false := decide_eq_false (by omega)
  have c2 : decide ((n : Int) > 40) = false := decide_eq_false (by omega)
  have e1 : (w.alloc (.cells #[.slice A t.length c] 22)).heap.size = w.heap.size + 1 := by simp
  clear hT hx ht hc
  go_enter Tryz.func11, Tryz.ntmps11
  go_wp2_with fail
  refine (Valid_calls t A c _ (Kd.C_alloc HX.out _)).mono ?_
  rintro e w' ⟨rfl, rfl⟩
  rw [HVT.out]
  obtain ⟨W1, hW1⟩ : ∃ W1, w.alloc (.cells #[.slice A t.length c] 22) = W1 := ⟨_, rfl⟩
  have htape : W1.heap[w.heap.size]? = some (.cells #[.slice A t.length c] 22 (0, 0)) := by rw [← hW1]; exact heap_alloc_new _ _
  have hbel1 : Below w.heap.size w W1 := by rw [← hW1]; exact (Below.refl _ _).alloc (Nat.le_refl _) _
  rw [hW1] at e1 ⊢
  have hmade := World.ownsMap_made (H := Unit) W1 Tryz.prog 3 (plainElem Tryz.prog 29)
  rw [e1] at hmade
  have hval0 : plainElem (H := Unit) Tryz.prog 29 (.string ⟨#[49]⟩) = some (datN 1, []) := by
    rw [← decN_one]; exact plainElem_string Tryz.underlying29 (decN_max 1 (by decide))
  have HM0 := Lib.hid hmade
  have HV0 := Lib.hid hval0
  have HTA := Lib.hid htape
  have HB1 := Lib.hid hbel1
  have hk0 : keyOf Tryz.prog 3 (.int .i64 0) = some (KI 0) := keyOf_int_mk Tryz.underlying3 (WalkArith.wf_i64 (by omega))
  have HK0 := Lib.hid hk0
  clear hW1 hmade hval0 htape hbel1 hk0
  go_wp2_with (first
    | (refine wpList_insert_own _ rfl _ _ _ 46 rfl 3 29 law3 Tryz.underlying46 _ (w.heap.size + 1) 0 (.map []) rfl HM0.out (by unfold maxLen; omega) (.int .i64 0) (.string ⟨#[49]⟩) (KI 0) rfl rfl HK0.out _ [] HV0.out ?_; intro w1 hown1 hg1)
    | fail)
  have hw1 : w.heap.size + 2 ≤ w1.heap.size := by have := hg1.size; simp at this; omega
  have hB1 : Below w.heap.size w w1 := (HB1.out.alloc (by omega) _).grown hg1 (by simp; omega) (fun j hj => by cases hj; omega)
  have hta1 : w1.heap[w.heap.size]? = some (.cells #[.slice A t.length c] 22 (0, 0)) := (hg1.block _ (by simp; omega) (ne_some (by omega))).trans (blk_alloc HTA.out _)
  obtain ⟨Bt, hBt⟩ : ∃ Bt, w1.heap.size = Bt := ⟨_, rfl⟩
  rw [hBt] at hw1 ⊢
  have hcnt0 := step0 w1 (w.heap.size + 1) 0 hown1 t
  have hpow : ∀ k, k ≤ 9 → t.length ^ k < 1000000000 := fun k hk => Nat.lt_of_le_of_lt (Nat.pow_le_pow_left h9 k) (Nat.lt_of_le_of_lt (Nat.pow_le_pow_right (by decide) hk) (by decide))
  go_loopw [26] (fun v26 wr => ∃ (k : Nat) (b nn : Nat) (D : DU), k ≤ n ∧ v26 = .int .i64 (k : Int) ∧ Hid (wr.heap[Bt]? = some (.cells #[.map (some b)] 46 (0, 0))) ∧ Hid (wr.heap[w.heap.size]? = some (.cells #[.slice A t.length c] 22 (0, 0))) ∧
      Hid (wr.ownsMap Tryz.prog 3 (plainElem Tryz.prog 29) b nn D) ∧ Hid (Cnts D (Nz.cntN t k)) ∧ Hid (Below w.heap.size w wr) ∧ w.heap.size < b)
    (fun v26 _ => (n - RowKit.intOf v26).toNat)
  case atStart =>
    refine ⟨0, w.heap.size + 1, _, _, by omega, rfl, ?_, blk_alloc hta1 _, hown1.alloc _, hcnt0, hB1.alloc (by omega) _, by omega⟩
    show _ = _
    rw [← hBt]; exact heap_alloc_new _ _
  case round =>
    obtain ⟨k, b, nn, D, hk, rfl, HC, HTP, HO, HCN, HB, hbw⟩ := hrel
    rename World => W0
    by_cases hlt : k < n
    · have HS := Lib.hid (step_calls t htt k (by omega) h9 (hpow (k + 1) (by omega)) Bt w.heap.size b nn c A D W0 HCN.out HC.out HTP.out (Kd.C_below HX.out HB.out) HCC.out HO.out (HT.out.below HB.out))
      go_wp2_with fail
      refine HS.out.mono ?_
      rintro e w2 ⟨rfl, b', n', D', hc2, ho2, hcn2, hb2, hg2⟩
      have hsz0 : w.heap.size < W0.heap.size := (Array.getElem?_eq_some_iff.1 HTP.out).1
      have HC2 := Lib.hid hc2
      have HO2 := Lib.hid ho2
      have HCN2 := Lib.hid hcn2
      have HTP2 : Hid (w2.heap[w.heap.size]? = some (.cells #[.slice A t.length c] 22 (0, 0))) := (hg2.block _ hsz0 (ne_some (by omega))).trans HTP.out
      have HB2 : Hid (Below w.heap.size w w2) := HB.out.grown hg2 (by omega) (fun j hj => by cases hj; omega)
      have hbw2 : w.heap.size < b' := by omega
      clear hc2 ho2 hcn2 hg2 hb2
      go_wp2_with fail
      go_roundw
      case rel => exact ⟨k + 1, b', n', D', by omega, by go_num, HC2.out, HTP2.out, HO2.out, HCN2.out, HB2.out, hbw2⟩
      case measure => simp [RowKit.intOf]; omega
    · obtain rfl : k = n := by omega
      have kb := blk_cell HC.out 0
      have hcan := HO.out.canon law3
      have hsD := keys_size htt k HCN.out hcan
      go_wp2_with fail
      refine (keys_calls b W0).mono ?_
      rintro e w2 ⟨rfl, rfl⟩
      go_wp2_with fail
      refine (sorted_calls b nn D _ W0 HO.out (by omega)).mono ?_
      rintro e W3 ⟨v, ss, rfl, hss, hrow, hb3⟩
      rw [keys_sorted htt k HCN.out hcan hss] at hrow
      have hlen : ss.length = ((Nz.distN t k).map (·.1)).length := by
        have h := congrArg List.length (keys_sorted htt k HCN.out hcan hss)
        rwa [List.length_mergeSort] at h
      obtain ⟨ks, hks⟩ : ∃ ks, (Nz.distN t k).map (·.1) = ks := ⟨_, rfl⟩
      rw [hks] at hrow hlen
      rw [hlen] at hrow
      have hKR : Kd.R (Kd.int .i64) 3 W3 (W0.heap.size + 1) (fun _ => True) v ks := Kd.R_of_own hrow (fun _ _ => trivial)
      obtain ⟨A2, c2, rfl, hc2, hKC⟩ := Kd.R_reads hKR
      have hb3' : Below W0.heap.size W0 W3 := ((Below.refl _ _).alloc (Nat.le_refl _) _).trans (hb3.mono (Nat.le_succ _))
      have hksm : ks.length ≤ 1000 := by
        rw [← hks, List.length_map]
        have h4 : (Nz.distN t k).length ≤ (Nz.span k).length := List.length_filterMap_le _ _
        have h5 : (Nz.span k).length = 100 * k + 1 := by unfold Nz.span; simp
        omega
      have hol : (outN t k).length = ks.length := by unfold outN; rw [← hks, List.length_map, List.length_map]
      obtain ⟨m, hm⟩ : ∃ m, ks.length = m := ⟨_, rfl⟩
      rw [hm] at hKC hc2 hksm hol ⊢
      have HKC := Lib.hid hKC
      have HC3 := Lib.hid (blk_below HC.out hb3')
      have HO3 := Lib.hid (HO.out.kept (grownB hb3' none) (by simp))
      have HB3 : Hid (Below w.heap.size w W3) := HB.out.trans (hb3'.mono HB.out.size)
      have HOL := Lib.hid hol
      have HKS := Lib.hid hks
      have HM := Lib.hid hm
      clear hrow hKR hKC hb3 hb3' hss hlen hol hks hm kb hc2
      go_wp2_with fail
      go_loopw [8, 35] (fun v8 v35 wr => ∃ (j : Nat), j ≤ m ∧ v35 = .int .i64 (j : Int) ∧ Hid (Kd.R k38 38 wr W3.heap.size (fun _ => True) v8 ((outN t k).take j)) ∧ Hid (Below W3.heap.size W3 wr))
        (fun _ v35 _ => (m - RowKit.intOf v35).toNat)
      case atStart => exact ⟨0, by omega, rfl, Kd.R_nil _ _ _ _ _, Below.refl _ _⟩
      case round =>
        obtain ⟨j, hj, rfl, HR, HBj⟩ := hrel
        rename World => Wj
        by_cases hlt : j < m
        · obtain ⟨ad, rfl, hcell⟩ := Kd.at_int (Kd.C_below HKC.out HBj.out) (j : Int) (by omega) (by omega)
          obtain ⟨p, hp⟩ : ∃ p, (Nz.distN t k)[j]? = some p := ⟨_, List.getElem?_eq_getElem (by have := HOL.out; unfold outN at this; rw [List.length_map] at this; omega)⟩
          have hrd : rd ks (j : Int) = p.1 := by
            unfold rd
            rw [Int.toNat_natCast, List.getD_eq_getElem?_getD, ← HKS.out, List.getElem?_map, hp]; rfl
          rw [hrd, Int.toNat_natCast] at hcell
          obtain ⟨hpc, hp0⟩ := (Nz.mem_dist htt k p.1 p.2).1 (List.mem_of_getElem? hp)
          have hsup := Nz.support t htt k p.1 (by rw [← hpc]; exact hp0)
          obtain ⟨x, cx⟩ := p
          dsimp only at hpc hp0 hcell hsup hp
          have hpow2 := hpow k hn
          have hcx : cx < 1000000000 := by rw [hpc]; exact Nat.lt_of_le_of_lt (Nz.count_le t k x) hpow2
          have HKEY : Hid (keyOf Tryz.prog 3 (.int .i64 x) = some (KI x)) := keyOf_int_mk Tryz.underlying3 (WalkArith.wf_i64 (by omega))
          have kc := blk_cell (blk_below HC3.out HBj.out) 0
          have HOj := Lib.hid (HO3.out.kept (grownB HBj.out none) (by simp))
          have HPC := Lib.hid hpc
          have HPP := Lib.hid hp
          have HP0 := Lib.hid hp0
          have hlj : ((outN t k).take j).length ≤ 1000 := by rw [List.length_take]; omega
          have HLJ := Lib.hid hlj
          clear hpc hp hp0 hrd hpow2 hlj
          go_wp2_with (first
            | (at_lookup; refine wpList_look_cnts _ rfl _ _ 46 rfl 3 29 law3 Tryz.underlying46 Tryz.underlying29 (zeroNat _) b nn D _ HCN.out rfl HOj.out x rfl HKEY.out cx HPC.out.symm HP0.out ?_)
            | ((with_reducible refine gate_builtin (b := .append) (xs := #[.tmp 39, .tmp 45]) rfl ?_); at_builtin; refine Kd.R_append k38 (w0 := W3) W3.heap.size rfl (.tmp 39) (.tmp 45) 25 38 (.agg #[.int .i64 0, .string ⟨#[]⟩]) 24 rfl Tryz.underlying25 info38 rfl (by decide) (by omega) _ ((outN t k).take j) ⟨x, decN cx⟩ [.int .i64 x, .string (decN cx)] (fun _ => True) (fun _ => False) rfl rfl (k38_mkM _ _ _ _) (fun _ hk => hk.elim) (fun _ _ => trivial) HR.out HBj.out HBj.out.size (by have := HLJ.out; omega) ?_; intro v1 w4 hR4 hB4 hg4 hat4)
            | fail)
          clear hg4 hat4
          have HR4 := Lib.hid hR4
          have HB4 := Lib.hid hB4
          clear hR4 hB4
          go_roundw
          case rel =>
            refine ⟨j + 1, by omega, by go_num, ?_, HB4.out⟩
            have e : (outN t k).take (j + 1) = (outN t k).take j ++ [⟨x, decN cx⟩] := by
              rw [List.take_add_one]
              unfold outN
              rw [List.getElem?_map, HPP.out]; rfl
            show Kd.R _ _ _ _ _ _ _
            rw [e]
            exact HR4.out
          case measure => simp [RowKit.intOf]; omega
        · obtain rfl : j = m := by omega
          go_wp2_with fail
          go_ret2
          have h := HR.out
          rw [← HOL.out, List.take_length] at h
          exact ⟨_, rfl, Kd.R_lower h HB3.out.size, HB3.out.trans (HBj.out.mono HB3.out.size)⟩

set_option maxHeartbeats 4000000 in
set_option maxRecDepth 100000 in
theorem dist_err (t : List Int) (n : Int) (hbad : validT t = false ∨ n < 0 ∨ 40 < n) (A : Option Addr) (c : Nat) (w : World) (hx : Kd.C (Kd.int .i64) w A t.length t) :
    Calls Tryz.prog 11 #[.slice A t.length c, .int .i64 n] w fun e w' => e = .returned (.tuple #[.slice none 0 0, .int .i64 1]) ∧ Below w.heap.size w w' := by
  have HX := Lib.hid hx
  have HB := Lib.hid ((Below.refl w.heap.size w).alloc (Nat.le_refl _) (.cells #[.slice A t.length c] 22))
  clear hx
  cases hv : validT t with
  | false =>
    have HV := Lib.hid hv
    clear hbad hv
    go_enter Tryz.func11, Tryz.ntmps11
    go_wp2_with fail
    refine (Valid_calls t A c _ (Kd.C_alloc HX.out _)).mono ?_
    rintro e w' ⟨rfl, rfl⟩
    rw [HV.out]
    go_wp2_with fail
    go_ret2
    exact ⟨rfl, HB.out⟩
  | true =>
    have HV := Lib.hid hv
    have hb2 : n < 0 ∨ 40 < n := by rcases hbad with h | h; (rw [hv] at h; cases h); exact h
    clear hbad hv
    by_cases h0 : n < 0
    · have c1 : decide (n < 0) = true := decide_eq_true h0
      clear h0 hb2
      go_enter Tryz.func11, Tryz.ntmps11
      go_wp2_with fail
      refine (Valid_calls t A c _ (Kd.C_alloc HX.out _)).mono ?_
      rintro e w' ⟨rfl, rfl⟩
      rw [HV.out]
      go_wp2_with fail
      go_ret2
      exact ⟨rfl, HB.out⟩
    · have c1 : decide (n < 0) = false := decide_eq_false h0
      have c2 : decide (n > 40) = true := decide_eq_true (by omega)
      clear h0 hb2
      go_enter Tryz.func11, Tryz.ntmps11
      go_wp2_with fail
      refine (Valid_calls t A c _ (Kd.C_alloc HX.out _)).mono ?_
      rintro e w' ⟨rfl, rfl⟩
      rw [HV.out]
      go_wp2_with fail
      go_ret2
      exact ⟨rfl, HB.out⟩

/-- noise.Distribution at numbers of at most 9, and at what it refuses. -/
def noise_Distribution.f (l0 : List Int) (a1 : Int) : Option (List S38 × Int) :=
  if validT l0 = true then (if a1 < 0 ∨ 40 < a1 then some ([], 1) else if a1 ≤ 9 then some (outN l0 a1.toNat, 0) else none) else some ([], 1)
theorem noise_Distribution.calls (A0 : Option Addr) (c0 : Nat) (l0 : List Int) (a1 : Int) (r1 : List S38) (r2 : Int) (w : World) (hr0 : Kd.C (Kd.int .i64) w A0 l0.length l0) (hc0 : l0.length ≤ c0) (hT : Tabs w) (h : noise_Distribution.f l0 a1 = some (r1, r2)) :
    Calls Tryz.prog 11 #[.slice A0 l0.length c0, .int .i64 a1] w fun e w' => ∃ v0_ : Value, e = .returned (.tuple #[v0_, .int .i64 r2]) ∧ Kd.R k38 38 w' w.heap.size (fun _ => True) v0_ r1 ∧ Below w.heap.size w w' := by
  have bad : (validT l0 = false ∨ a1 < 0 ∨ 40 < a1) → r1 = [] → r2 = 1 → Calls Tryz.prog 11 #[.slice A0 l0.length c0, .int .i64 a1] w (fun e w' => ∃ v0_ : Value, e = .returned (.tuple #[v0_, .int .i64 r2]) ∧ Kd.R k38 38 w' w.heap.size (fun _ => True) v0_ r1 ∧ Below w.heap.size w w') := fun hb e1 e2 => by
    subst e1 e2
    exact (dist_err l0 a1 hb A0 c0 w hr0).mono fun e w' ⟨he, hw⟩ => ⟨_, he, Kd.R_nil _ _ _ _ _, hw⟩
  unfold noise_Distribution.f at h
  split at h
  · rename_i hv
    split at h
    · rename_i hb
      have e := Option.some.inj h
      injection e with e1 e2
      exact bad (Or.inr hb) e1.symm e2.symm
    · rename_i hb
      split at h
      · rename_i h9
        have e := Option.some.inj h
        injection e with e1 e2
        subst e1 e2
        have := dist_calls l0 hv a1.toNat (by omega) A0 c0 w hr0 hc0 hT
        rwa [Int.toNat_of_nonneg (by omega)] at this
      · cases h
  · rename_i hv
    have e := Option.some.inj h
    injection e with e1 e2
    exact bad (Or.inl (by simpa using hv)) e1.symm e2.symm
end Go.Proofs.YtlhfgjblcckifaaGreatDoor.P
