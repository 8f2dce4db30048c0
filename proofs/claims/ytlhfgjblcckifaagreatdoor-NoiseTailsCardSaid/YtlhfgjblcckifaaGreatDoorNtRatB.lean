/-
  rational.Compare (case B) at two different quotients in lowest terms that are not negative, numbers below 10^9.
-/
import Derived.Test.YtlhfgjblcckifaaGreatDoorNtFit
set_option linter.unusedVariables false
set_option linter.unusedSimpArgs false
namespace Go.Proofs.YtlhfgjblcckifaaGreatDoor.Dg
open Go.RowKit Go.Shelf
open Go.Proofs.YtlhfgjblcckifaaGreatDoor.PA
open Go.Proofs.YtlhfgjblcckifaaGreatDoorW.PrintWords Go.Proofs.YtlhfgjblcckifaaGreatDoorW.PrintMore Go.Proofs.YtlhfgjblcckifaaGreatDoorW.PrintLast

set_option maxHeartbeats 2000000 in
set_option maxRecDepth 100000 in
theorem Rat_walkB (n1 d1 n2 d2 : Nat) (h1 : Low n1 d1) (h2 : Low n2 d2) (s1 t1 s2 t2 : ByteArray) (hs1 : s1 = decN n1) (ht1 : t1 = decN d1) (hs2 : s2 = decN n2) (ht2 : t2 = decN d2) (heq : ¬ (s1 = s2 ∧ t1 = t2)) (hne1 : s1.toList = s2.toList) (hne2 : ¬ t1.toList = t2.toList) (w : World) (hT : Tabs w) :
    Calls Tryz.prog 21 #[.agg #[.bool false, .string s1, .string t1], .agg #[.bool false, .string s2, .string t2]] w fun e w' => e = .returned (.int .i64 (ratI n1 d1 n2 d2)) ∧ Below w.heap.size w w' := by
  have HT := Lib.hid hT
  have HV1 := Lib.hid fun W => Valid_rat n1 d1 h1 s1 t1 hs1 ht1 W
  have HV2 := Lib.hid fun W => Valid_rat n2 d2 h2 s2 t2 hs2 ht2 W
  have HH := Lib.hid (And.intro h1 (And.intro h2 (And.intro hs1 (And.intro ht1 (And.intro hs2 ht2)))))
  obtain ⟨R, hR⟩ : ∃ R, ratI n1 d1 n2 d2 = R := ⟨_, rfl⟩
  rw [hR]
  have HR := Lib.hid hR
  clear hT h1 h2 hs1 ht1 hs2 ht2 hR
  go_enter Tryz.func21, Tryz.ntmps21
  go_wp2_with fail
  obtain ⟨W1, hW1⟩ : ∃ W1, (w.alloc (.cells #[.bool false, .string s1, .string t1] 31)).alloc (.cells #[.bool false, .string s2, .string t2] 31) = W1 := ⟨_, rfl⟩
  have HA1 : Hid (W1.heap[w.heap.size]? = some (.cells #[.bool false, .string s1, .string t1] 31 (0, 0))) := by rw [← hW1]; exact blk_alloc (heap_alloc_new _ _) _
  have HC1 : Hid (W1.heap[w.heap.size + 1]? = some (.cells #[.bool false, .string s2, .string t2] 31 (0, 0))) := by
    have e : w.heap.size + 1 = (w.alloc (.cells #[.bool false, .string s1, .string t1] 31)).heap.size := by simp
    show _ = _
    rw [e, ← hW1]; exact heap_alloc_new _ _
  have HB1 : Hid (Below w.heap.size w W1) := by rw [← hW1]; exact ((Below.refl _ _).alloc (Nat.le_refl _) _).alloc (by simp) _
  have e1 : (w.alloc (.cells #[.bool false, .string s1, .string t1] 31)).heap.size = w.heap.size + 1 := by simp
  rw [hW1]
  clear hW1
  refine (HV1.out W1 (HT.out.below HB1.out)).mono ?_
  rintro e w2 ⟨rfl, hb2⟩
  have HB2 : Hid (Below w.heap.size w w2) := HB1.out.trans (hb2.mono HB1.out.size)
  have HA2 := Lib.hid (blk_below HA1.out hb2)
  have HC2 := Lib.hid (blk_below HC1.out hb2)
  clear hb2 HA1 HC1 HB1
  have p0 := blk_cell HA2.out 0
  have p1 := blk_cell HA2.out 1
  have p2 := blk_cell HA2.out 2
  have q0 := blk_cell HC2.out 0
  have q1 := blk_cell HC2.out 1
  have q2 := blk_cell HC2.out 2
  go_wp2_with fail
  refine (HV2.out w2 (HT.out.below HB2.out)).mono ?_
  rintro e w3 ⟨rfl, hb3⟩
  have HB3 : Hid (Below w.heap.size w w3) := HB2.out.trans (hb3.mono HB2.out.size)
  have HA3 := Lib.hid (blk_below HA2.out hb3)
  have HC3 := Lib.hid (blk_below HC2.out hb3)
  clear hb3 HA2 HC2 HB2 p0 p1 p2 q0 q1 q2
  have p0 : w3.cell? ⟨w.heap.size, 0, none⟩ = some (.bool false) := blk_cell HA3.out 0
  have p1 : w3.cell? ⟨w.heap.size, 1, none⟩ = some (.string s1) := blk_cell HA3.out 1
  have p2 : w3.cell? ⟨w.heap.size, 2, none⟩ = some (.string t1) := blk_cell HA3.out 2
  have q0 : w3.cell? ⟨w.heap.size + 1, 0, none⟩ = some (.bool false) := blk_cell HC3.out 0
  have q1 : w3.cell? ⟨w.heap.size + 1, 1, none⟩ = some (.string s2) := blk_cell HC3.out 1
  have q2 : w3.cell? ⟨w.heap.size + 1, 2, none⟩ = some (.string t2) := blk_cell HC3.out 2
  have pa1 : ∀ O, (w3.alloc O).cell? ⟨w.heap.size, 1, none⟩ = some (.string s1) := fun O => blk_cell (blk_alloc HA3.out O) 1
  have pa2 : ∀ O, (w3.alloc O).cell? ⟨w.heap.size, 2, none⟩ = some (.string t1) := fun O => blk_cell (blk_alloc HA3.out O) 2
  have qa1 : ∀ O, (w3.alloc O).cell? ⟨w.heap.size + 1, 1, none⟩ = some (.string s2) := fun O => blk_cell (blk_alloc HC3.out O) 1
  have qa2 : ∀ O, (w3.alloc O).cell? ⟨w.heap.size + 1, 2, none⟩ = some (.string t2) := fun O => blk_cell (blk_alloc HC3.out O) 2
  have pb1 : ∀ O O', ((w3.alloc O).alloc O').cell? ⟨w.heap.size, 1, none⟩ = some (.string s1) := fun O O' => blk_cell (blk_alloc (blk_alloc HA3.out O) O') 1
  have pb2 : ∀ O O', ((w3.alloc O).alloc O').cell? ⟨w.heap.size, 2, none⟩ = some (.string t1) := fun O O' => blk_cell (blk_alloc (blk_alloc HA3.out O) O') 2
  have qb1 : ∀ O O', ((w3.alloc O).alloc O').cell? ⟨w.heap.size + 1, 1, none⟩ = some (.string s2) := fun O O' => blk_cell (blk_alloc (blk_alloc HC3.out O) O') 1
  have qb2 : ∀ O O', ((w3.alloc O).alloc O').cell? ⟨w.heap.size + 1, 2, none⟩ = some (.string t2) := fun O O' => blk_cell (blk_alloc (blk_alloc HC3.out O) O') 2
  have HNE := Lib.hid heq
  clear heq
  have HFIT : Hid (∃ P0 P1 Q0 Q1 : Nat, P1 + Q1 ≤ d1 + d2 ∧ Fit P0 P1 Q0 Q1 s1 t1 s2 t2 R) := by
    obtain ⟨h1, h2, hs1, ht1, hs2, ht2⟩ := HH.out
    have hn : ¬ (n1 = n2 ∧ d1 = d2) := fun e => HNE.out ⟨by rw [hs1, hs2, e.1], by rw [ht1, ht2, e.2]⟩
    refine ⟨n1, d1, n2, d2, Nat.le_refl _, hs1, ht1, hs2, ht2, h1.1, h1.2.1, h1.2.2.1, h2.1, h2.2.1, h2.2.2.1, cross_ne n1 d1 n2 d2 h1 h2 hn, ?_⟩
    rw [← HR.out]
    unfold ratI
    rw [if_neg hn]
  clear HR HH HV1 HV2
  go_wp2_with fail
  go_region
  · clear hne1 hne2
    generalize hWl : World.drew _ = Wl
    have HP0 : Hid (Wl.heap[w3.heap.size]? = some (.cells #[.string s1, .string t1] 65 (0, 0))) := by rw [← hWl]; exact blk_drew (blk_alloc (blk_new _ _) _)
    have HQ0 : Hid (Wl.heap[w3.heap.size + 1]? = some (.cells #[.string s2, .string t2] 65 (0, 0))) := by rw [← hWl]; exact blk_drew (by rw [show w3.heap.size + 1 = (w3.alloc (.cells #[.string s1, .string t1] 65)).heap.size by simp]; exact blk_new _ _)
    have HBl : Hid (Below w.heap.size w Wl) := by rw [← hWl]; exact ((HB3.out.alloc HB3.out.size _).alloc (Nat.le_trans HB3.out.size (by simp)) _).drew
    have hw3 : w.heap.size ≤ w3.heap.size := HB3.out.size
    clear hWl p0 p1 p2 q0 q1 q2 pa1 pa2 qa1 qa2 pb1 pb2 qb1 qb2 HA3 HC3 HB3
    clear HNE
    go_wp2_with fail
    go_loopg [] (d1 + d2) (fun kq wr => ∃ (P0 P1 Q0 Q1 : Nat) (x0 x1 y0 y1 : ByteArray), Hid (P1 + Q1 ≤ kq ∧ kq ≤ d1 + d2 ∧ Fit P0 P1 Q0 Q1 x0 x1 y0 y1 R) ∧ Hid (wr.heap[w3.heap.size]? = some (.cells #[.string x0, .string x1] 65 (0, 0))) ∧ Hid (wr.heap[w3.heap.size + 1]? = some (.cells #[.string y0, .string y1] 65 (0, 0))) ∧ Hid (Below w.heap.size w wr))
    case atStart =>
      obtain ⟨P0, P1, Q0, Q1, hk, hfit⟩ := HFIT.out
      exact ⟨P0, P1, Q0, Q1, _, _, _, _, ⟨hk, Nat.le_refl _, hfit⟩, HP0.out, HQ0.out, HBl.out⟩
    case round =>
      clear HP0 HQ0 HBl HFIT
      obtain ⟨P0, P1, Q0, Q1, x0, x1, y0, y1, HF, HP, HQ, HB⟩ := hrel
      cases gk with
      | zero => exact (fit_zero HF.out.1 HF.out.2.2).elim
      | succ k1 =>
        obtain ⟨sm, sr, sn, ss, cm, m, r, n, s, HD1, HD2, HCM, HX0⟩ := fit_calls HF.out.2.2
        have HXH := Lib.hid HX0
        clear HX0
        rename World => V0
        have kp0 : V0.cell? ⟨w3.heap.size, 0, none⟩ = some (.string x0) := blk_cell HP.out 0
        have kp1 : V0.cell? ⟨w3.heap.size, 1, none⟩ = some (.string x1) := blk_cell HP.out 1
        go_wp2_with fail
        refine (HD1.out V0 (HT.out.below HB.out)).mono ?_
        rintro e V1 ⟨rfl, hb1⟩
        replace HP := Lib.hid (blk_below HP.out hb1)
        replace HQ := Lib.hid (blk_below HQ.out hb1)
        replace HB : Hid (Below w.heap.size w V1) := HB.out.trans (hb1.mono HB.out.size)
        clear hb1 kp0 kp1
        have kq0 : V1.cell? ⟨w3.heap.size + 1, 0, none⟩ = some (.string y0) := blk_cell HQ.out 0
        have kq1 : V1.cell? ⟨w3.heap.size + 1, 1, none⟩ = some (.string y1) := blk_cell HQ.out 1
        go_wp2_with fail
        refine (HD2.out V1 (HT.out.below HB.out)).mono ?_
        rintro e V2 ⟨rfl, hb1⟩
        replace HP := Lib.hid (blk_below HP.out hb1)
        replace HQ := Lib.hid (blk_below HQ.out hb1)
        replace HB : Hid (Below w.heap.size w V2) := HB.out.trans (hb1.mono HB.out.size)
        clear hb1 kq0 kq1
        go_wp2_with fail
        refine (HCM.out V2).mono ?_
        rintro e V3 ⟨rfl, hb1⟩
        replace HP := Lib.hid (blk_below HP.out hb1)
        replace HQ := Lib.hid (blk_below HQ.out hb1)
        replace HB : Hid (Below w.heap.size w V3) := HB.out.trans (hb1.mono HB.out.size)
        clear hb1
        have HX := HXH.out
        clear HXH
        rcases HX with ⟨hc, HX⟩ | ⟨rfl, HX⟩
        · have hc2 : decide (cm = 0) = false := decide_eq_false hc
          have HX2 := Lib.hid HX
          clear HX
          go_wp2_with fail
          go_ret
          exact ⟨by rw [HX2.out]; rfl, HB.out⟩
        · rcases HX with ⟨rfl, HX⟩ | ⟨hr1, HX⟩
          · have HX2 := Lib.hid HX
            clear HX
            go_wp2_with fail
            go_ret
            exact ⟨by rw [HX2.out]; rfl, HB.out⟩
          · rcases HX with ⟨rfl, HX⟩ | ⟨hs1, HX⟩
            · have HX2 := Lib.hid HX
              clear HX
              go_wp2_with fail
              go_ret
              exact ⟨by rw [HX2.out]; rfl, HB.out⟩
            · have HX2 := Lib.hid HX
              clear HX
              have kp0 : V3.cell? ⟨w3.heap.size, 0, none⟩ = some (.string x0) := blk_cell HP.out 0
              have kp1 : V3.cell? ⟨w3.heap.size, 1, none⟩ = some (.string x1) := blk_cell HP.out 1
              have kq0 : V3.cell? ⟨w3.heap.size + 1, 0, none⟩ = some (.string y0) := blk_cell HQ.out 0
              have kq1 : V3.cell? ⟨w3.heap.size + 1, 1, none⟩ = some (.string y1) := blk_cell HQ.out 1
              have fp0 : V3.frozen? ⟨w3.heap.size, 0, none⟩ = false := blk_frozen HP.out 0
              have fp1 : V3.frozen? ⟨w3.heap.size, 1, none⟩ = false := blk_frozen HP.out 1
              have fq0 : V3.frozen? ⟨w3.heap.size + 1, 0, none⟩ = false := blk_frozen HQ.out 0
              have fq1 : V3.frozen? ⟨w3.heap.size + 1, 1, none⟩ = false := blk_frozen HQ.out 1
              go_wp2_with fail
              clear kp0 kp1 kq0 kq1 fp0 fp1 fq0 fq1 hr1 hs1
              go_roundg k1
              case measure => omega
              case rel =>
                have hPQ : w3.heap.size ≠ w3.heap.size + 1 := by omega
                refine ⟨Q1, s, P1, r, y1, ss, x1, sr, ⟨by have a1 := HX2.out.1; have a2 := HF.out.1; omega, by have a3 := HF.out.2.1; omega, HX2.out.2⟩, ?_, ?_, ?_⟩
                · exact blk_far (blk_far (blk_put (blk_put HP.out 0 (.string y1) rfl) 1 (.string ss) rfl) hPQ _) hPQ _
                · exact blk_put (blk_put (blk_far (blk_far HQ.out (Ne.symm hPQ) _) (Ne.symm hPQ) _) 0 (.string x1) rfl) 1 (.string sr) rfl
                · exact (((HB.out.setCell (p := ⟨w3.heap.size, 0, none⟩) (by show _ ≤ w3.heap.size; omega) _).setCell (p := ⟨w3.heap.size, 1, none⟩) (by show _ ≤ w3.heap.size; omega) _).setCell (p := ⟨w3.heap.size + 1, 0, none⟩) (by show _ ≤ w3.heap.size + 1; omega) _).setCell (p := ⟨w3.heap.size + 1, 1, none⟩) (by show _ ≤ w3.heap.size + 1; omega) _
  · clear hne1 hne2
    generalize hWl : World.drew _ = Wl
    have HP0 : Hid (Wl.heap[w3.heap.size + 1]? = some (.cells #[.string s1, .string t1] 65 (0, 0))) := by rw [← hWl]; exact blk_drew (by rw [show w3.heap.size + 1 = (w3.alloc (.cells #[.string s2, .string t2] 65)).heap.size by simp]; exact blk_new _ _)
    have HQ0 : Hid (Wl.heap[w3.heap.size]? = some (.cells #[.string s2, .string t2] 65 (0, 0))) := by rw [← hWl]; exact blk_drew (blk_alloc (blk_new _ _) _)
    have HBl : Hid (Below w.heap.size w Wl) := by rw [← hWl]; exact ((HB3.out.alloc HB3.out.size _).alloc (Nat.le_trans HB3.out.size (by simp)) _).drew
    have hw3 : w.heap.size ≤ w3.heap.size := HB3.out.size
    clear hWl p0 p1 p2 q0 q1 q2 pa1 pa2 qa1 qa2 pb1 pb2 qb1 qb2 HA3 HC3 HB3
    clear HNE
    go_wp2_with fail
    go_loopg [] (d1 + d2) (fun kq wr => ∃ (P0 P1 Q0 Q1 : Nat) (x0 x1 y0 y1 : ByteArray), Hid (P1 + Q1 ≤ kq ∧ kq ≤ d1 + d2 ∧ Fit P0 P1 Q0 Q1 x0 x1 y0 y1 R) ∧ Hid (wr.heap[w3.heap.size + 1]? = some (.cells #[.string x0, .string x1] 65 (0, 0))) ∧ Hid (wr.heap[w3.heap.size]? = some (.cells #[.string y0, .string y1] 65 (0, 0))) ∧ Hid (Below w.heap.size w wr))
    case atStart =>
      obtain ⟨P0, P1, Q0, Q1, hk, hfit⟩ := HFIT.out
      exact ⟨P0, P1, Q0, Q1, _, _, _, _, ⟨hk, Nat.le_refl _, hfit⟩, HP0.out, HQ0.out, HBl.out⟩
    case round =>
      clear HP0 HQ0 HBl HFIT
      obtain ⟨P0, P1, Q0, Q1, x0, x1, y0, y1, HF, HP, HQ, HB⟩ := hrel
      cases gk with
      | zero => exact (fit_zero HF.out.1 HF.out.2.2).elim
      | succ k1 =>
        obtain ⟨sm, sr, sn, ss, cm, m, r, n, s, HD1, HD2, HCM, HX0⟩ := fit_calls HF.out.2.2
        have HXH := Lib.hid HX0
        clear HX0
        rename World => V0
        have kp0 : V0.cell? ⟨w3.heap.size + 1, 0, none⟩ = some (.string x0) := blk_cell HP.out 0
        have kp1 : V0.cell? ⟨w3.heap.size + 1, 1, none⟩ = some (.string x1) := blk_cell HP.out 1
        go_wp2_with fail
        refine (HD1.out V0 (HT.out.below HB.out)).mono ?_
        rintro e V1 ⟨rfl, hb1⟩
        replace HP := Lib.hid (blk_below HP.out hb1)
        replace HQ := Lib.hid (blk_below HQ.out hb1)
        replace HB : Hid (Below w.heap.size w V1) := HB.out.trans (hb1.mono HB.out.size)
        clear hb1 kp0 kp1
        have kq0 : V1.cell? ⟨w3.heap.size, 0, none⟩ = some (.string y0) := blk_cell HQ.out 0
        have kq1 : V1.cell? ⟨w3.heap.size, 1, none⟩ = some (.string y1) := blk_cell HQ.out 1
        go_wp2_with fail
        refine (HD2.out V1 (HT.out.below HB.out)).mono ?_
        rintro e V2 ⟨rfl, hb1⟩
        replace HP := Lib.hid (blk_below HP.out hb1)
        replace HQ := Lib.hid (blk_below HQ.out hb1)
        replace HB : Hid (Below w.heap.size w V2) := HB.out.trans (hb1.mono HB.out.size)
        clear hb1 kq0 kq1
        go_wp2_with fail
        refine (HCM.out V2).mono ?_
        rintro e V3 ⟨rfl, hb1⟩
        replace HP := Lib.hid (blk_below HP.out hb1)
        replace HQ := Lib.hid (blk_below HQ.out hb1)
        replace HB : Hid (Below w.heap.size w V3) := HB.out.trans (hb1.mono HB.out.size)
        clear hb1
        have HX := HXH.out
        clear HXH
        rcases HX with ⟨hc, HX⟩ | ⟨rfl, HX⟩
        · have hc2 : decide (cm = 0) = false := decide_eq_false hc
          have HX2 := Lib.hid HX
          clear HX
          go_wp2_with fail
          go_ret
          exact ⟨by rw [HX2.out]; rfl, HB.out⟩
        · rcases HX with ⟨rfl, HX⟩ | ⟨hr1, HX⟩
          · have HX2 := Lib.hid HX
            clear HX
            go_wp2_with fail
            go_ret
            exact ⟨by rw [HX2.out]; rfl, HB.out⟩
          · rcases HX with ⟨rfl, HX⟩ | ⟨hs1, HX⟩
            · have HX2 := Lib.hid HX
              clear HX
              go_wp2_with fail
              go_ret
              exact ⟨by rw [HX2.out]; rfl, HB.out⟩
            · have HX2 := Lib.hid HX
              clear HX
              have kp0 : V3.cell? ⟨w3.heap.size + 1, 0, none⟩ = some (.string x0) := blk_cell HP.out 0
              have kp1 : V3.cell? ⟨w3.heap.size + 1, 1, none⟩ = some (.string x1) := blk_cell HP.out 1
              have kq0 : V3.cell? ⟨w3.heap.size, 0, none⟩ = some (.string y0) := blk_cell HQ.out 0
              have kq1 : V3.cell? ⟨w3.heap.size, 1, none⟩ = some (.string y1) := blk_cell HQ.out 1
              have fp0 : V3.frozen? ⟨w3.heap.size + 1, 0, none⟩ = false := blk_frozen HP.out 0
              have fp1 : V3.frozen? ⟨w3.heap.size + 1, 1, none⟩ = false := blk_frozen HP.out 1
              have fq0 : V3.frozen? ⟨w3.heap.size, 0, none⟩ = false := blk_frozen HQ.out 0
              have fq1 : V3.frozen? ⟨w3.heap.size, 1, none⟩ = false := blk_frozen HQ.out 1
              go_wp2_with fail
              clear kp0 kp1 kq0 kq1 fp0 fp1 fq0 fq1 hr1 hs1
              go_roundg k1
              case measure => omega
              case rel =>
                have hPQ : w3.heap.size + 1 ≠ w3.heap.size := by omega
                refine ⟨Q1, s, P1, r, y1, ss, x1, sr, ⟨by have a1 := HX2.out.1; have a2 := HF.out.1; omega, by have a3 := HF.out.2.1; omega, HX2.out.2⟩, ?_, ?_, ?_⟩
                · exact blk_far (blk_far (blk_put (blk_put HP.out 0 (.string y1) rfl) 1 (.string ss) rfl) hPQ _) hPQ _
                · exact blk_put (blk_put (blk_far (blk_far HQ.out (Ne.symm hPQ) _) (Ne.symm hPQ) _) 0 (.string x1) rfl) 1 (.string sr) rfl
                · exact (((HB.out.setCell (p := ⟨w3.heap.size + 1, 0, none⟩) (by show _ ≤ w3.heap.size + 1; omega) _).setCell (p := ⟨w3.heap.size + 1, 1, none⟩) (by show _ ≤ w3.heap.size + 1; omega) _).setCell (p := ⟨w3.heap.size, 0, none⟩) (by show _ ≤ w3.heap.size; omega) _).setCell (p := ⟨w3.heap.size, 1, none⟩) (by show _ ≤ w3.heap.size; omega) _
end Go.Proofs.YtlhfgjblcckifaaGreatDoor.Dg
