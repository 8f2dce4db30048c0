/-
  natural.Compare at numbers below 10^9; rational.abs at ints below 10^9 (strconv.FormatUint at base 10).
-/
import Derived.Test.YtlhfgjblcckifaaGreatDoorMgDivs
import Derived.Lib.ItoaMem
set_option linter.unusedVariables false
set_option linter.unusedSimpArgs false
namespace Go.Proofs.YtlhfgjblcckifaaGreatDoor.Dg
open Go.RowKit Go.Shelf Go.Sort Go.Lib
open Go.Proofs.YtlhfgjblcckifaaGreatDoor.PA
open Go.Proofs.YtlhfgjblcckifaaGreatDoorW.PrintWords Go.Proofs.YtlhfgjblcckifaaGreatDoorW.PrintMore Go.Proofs.YtlhfgjblcckifaaGreatDoorW.PrintLast

def cmpI (a b : Nat) : Int := if a = b then 0 else if a < b then -1 else 1
theorem cmp_limbsN (a b : Nat) : natural_limbs_compare.f 3 (limbsN a) (limbsN b) = some (cmpI a b) := by
  unfold limbsN cmpI
  by_cases ha : a = 0
  · by_cases hb : b = 0
    · subst ha hb
      unfold natural_limbs_compare.f
      simp [natural_limbs_compare.l0, wrap64]
    · subst ha
      rw [if_pos rfl, if_neg hb, if_neg (by omega), if_pos (by omega)]
      unfold natural_limbs_compare.f
      simp
  · by_cases hb : b = 0
    · subst hb
      rw [if_neg ha, if_pos rfl, if_neg ha, if_neg (by omega)]
      unfold natural_limbs_compare.f
      simp
    · rw [if_neg ha, if_neg hb, cmp_one]
      congr 1
      by_cases h : a = b
      · rw [if_pos (by omega), if_pos h]
      · rw [if_neg (by omega), if_neg h]
        by_cases h2 : a < b
        · rw [if_pos (by omega), if_pos h2]
        · rw [if_neg (by omega), if_neg h2]

set_option maxHeartbeats 1000000 in
set_option maxRecDepth 100000 in
theorem Compare_calls (a b : Nat) (ha : a < 1000000000) (hb : b < 1000000000) (sa sb : ByteArray) (hsa : sa = decN a) (hsb : sb = decN b) (w : World) :
    Calls Tryz.prog 38 #[.string sa, .string sb] w fun e w' => e = .returned (.int .i64 (cmpI a b)) ∧ Below w.heap.size w w' := by
  have hva : natural_Valid.f sa = some true := by rw [hsa]; exact valid_dec a (by omega)
  have hvb : natural_Valid.f sb = some true := by rw [hsb]; exact valid_dec b (by omega)
  have hra : natural_read.f 5 sa = some (limbsN a) := by rw [hsa]; exact read_dec a 0 (by omega)
  have hrb : natural_read.f 5 sb = some (limbsN b) := by rw [hsb]; exact read_dec b 0 (by omega)
  have hc := cmp_limbsN a b
  obtain ⟨la, hla⟩ : ∃ la, limbsN a = la := ⟨_, rfl⟩
  obtain ⟨lb, hlb⟩ : ∃ lb, limbsN b = lb := ⟨_, rfl⟩
  obtain ⟨r, hr⟩ : ∃ r, cmpI a b = r := ⟨_, rfl⟩
  rw [hla] at hra hc
  rw [hlb] at hrb hc
  rw [hr] at hc ⊢
  clear hla hlb hsa hsb hr ha hb
  go_enter Tryz.func38, Tryz.ntmps38
  go_wp2_with fail
  refine (natural_Valid.calls sa true w hva).mono ?_
  rintro e w1 ⟨rfl, hb1⟩
  have HB1 := Lib.hid hb1
  clear hb1
  go_wp2_with fail
  refine (natural_Valid.calls sb true w1 hvb).mono ?_
  rintro e w2 ⟨rfl, hb2⟩
  have HB2 : Hid (Below w.heap.size w w2) := HB1.out.trans (hb2.mono HB1.out.size)
  clear hb2
  go_wp2_with fail
  refine (natural_read.calls 5 sa la w2 hra).mono ?_
  rintro e w3 ⟨va, rfl, hr3, hb3⟩
  have hA3 := Lib.hid (Kd.R_lower hr3 HB2.out.size)
  have HB3 : Hid (Below w.heap.size w w3) := HB2.out.trans (hb3.mono HB2.out.size)
  clear hr3 hb3
  go_wp2_with fail
  refine (natural_read.calls 5 sb lb w3 hrb).mono ?_
  rintro e w4 ⟨vb, rfl, hr4, hb4⟩
  have hA4 := Lib.hid (Kd.R_below hA3.out (hb4.mono (Nat.le_refl _)))
  have hB4 := Lib.hid (Kd.R_lower hr4 HB3.out.size)
  have HB4 : Hid (Below w.heap.size w w4) := HB3.out.trans (hb4.mono HB3.out.size)
  clear hr4 hb4
  go_wp2_with fail
  obtain ⟨A1, c1, rfl, hc1, k1⟩ := Kd.R_reads hA4.out
  obtain ⟨A2, c2, rfl, hc2, k2⟩ := Kd.R_reads hB4.out
  refine (natural_limbs_compare.calls 3 A1 c1 la A2 c2 lb r w4 k1 hc1 k2 hc2 hc).mono ?_
  rintro e w5 ⟨rfl, hd5⟩
  have HB5 : Hid (Below w.heap.size w w5) := HB4.out.trans (hd5.below.mono HB4.out.size)
  clear hd5 k1 k2 hc1 hc2
  go_wp2_with fail
  go_ret
  exact ⟨rfl, HB5.out⟩
def natural_Compare.f (a0 a1 : ByteArray) : Option Int :=
  if a0 = decN (natV a0) ∧ a1 = decN (natV a1) ∧ natV a0 < 1000000000 ∧ natV a1 < 1000000000 then some (cmpI (natV a0) (natV a1)) else none
theorem natural_Compare.calls (a0 a1 : ByteArray) (r : Int) (w : World) (h : natural_Compare.f a0 a1 = some r) :
    Calls Tryz.prog 38 #[.string a0, .string a1] w fun e w' => e = .returned (.int .i64 r) ∧ Below w.heap.size w w' := by
  unfold natural_Compare.f at h
  split at h
  · rename_i hh
    obtain ⟨h1, h2, h3, h4⟩ := hh
    have e := Option.some.inj h
    subst e
    exact Compare_calls _ _ h3 h4 a0 a1 h1 h2 w
  · exact absurd h (by simp)

/-! ### rational.abs -/
theorem holds_zero0 (w : World) (T : TypeId) (nd : Nat) (hs : nd ≤ 24) : Holds (fun (b : UInt8) => Value.int .u8 (b.toNat : Int)) (w.alloc (.cells Lib.zeros24 T)) w.heap.size 0 (Array.replicate nd (0 : UInt8)) := fun j hj => by
  have hj' : j < nd := by simpa using hj
  refine ⟨?_, World.frozen?_alloc_new _ _ _ _⟩
  rw [World.cell?_alloc_new, Lib.zeros24_at _ (by omega), getElem!_pos _ j hj]
  simp
theorem fin0 (w : World) (o : Obj) (dk : Array UInt8) (k : Nat) : ∃ os, (putRow (fun (b : UInt8) => Value.int .u8 (b.toNat : Int)) (w.alloc o) w.heap.size 0 dk).drewN k = grow (w.drewN k) os := by
  rw [alloc_eq_grow]
  obtain ⟨os', _, e⟩ := putRow_grow_new (fun (b : UInt8) => Value.int .u8 (b.toNat : Int)) w #[o] w.heap.size 0 dk (Nat.le_refl _)
  exact ⟨os', by rw [e]; rfl⟩
set_option maxHeartbeats 1600000 in
set_option maxRecDepth 100000 in
theorem format_inner (u : Nat) (hu : u < 1000000000) (w : World) (hT : Tabs w) :
    Calls Tryz.prog 82 #[.int .u64 (u : Int), .int .i64 10] w fun e w' => e = .returned (.string (decN u)) ∧ ∃ k os, w' = grow (w.drewN k) os := by
  have hdec : decN u = ⟨(Lib.decDigits u).toArray⟩ := by unfold decN; rw [Lib.itoa_nonneg]
  rw [hdec]
  by_cases hs : u < 100
  · have c1 : decide ((u : Int) < 100) = true := decide_eq_true (by omega)
    go_enter Tryz.func82, Tryz.ntmps82
    go_wp2_with fail
    refine (Tryz.internal_strconv_small u hs _).mono ?_
    rintro e w' ⟨rfl, rfl⟩
    go_wp2_with fail
    go_ret
    exact ⟨rfl, 0, #[], by simp [World.drewN_zero]⟩
  · have c1 : decide ((u : Int) < 100) = false := decide_eq_false (by omega)
    have hu1 : 1 ≤ u := by omega
    have hu64 : u < 18446744073709551616 := by omega
    have hnd20 : Lib.nDigits u ≤ 20 := by have := Lib.numDigits_eq u hu1 hu64; split at this <;> omega
    have hal : Tryz.prog.arrayLen 144 = 24 := by simp [Program.arrayLen, Tryz.underlying144]
    have hsl1 : ∀ W, (Instr.sliceAt 144 (.pointer (some ⟨w.heap.size, 0, none⟩)) none (some (.int .i64 (Lib.nDigits u : Int))) none).run Tryz.prog W = .ok (.slice (some ⟨w.heap.size, 0, none⟩) (Lib.nDigits u) 24) W := fun W => by
      rw [run_sliceAt_array_h W 144 ⟨w.heap.size, 0, none⟩ (by simp [Program.arrayLen, Program.elem, Tryz.underlying144]) .i64 (Lib.nDigits u : Int) (by omega) (by rw [hal]; omega)]
      go_simp
    have hH0 := holds_zero0 w 144 (Lib.nDigits u) (by omega)
    have hfmt := Tryz.internal_strconv_formatBase10 w.heap.size 0 24 u (Array.replicate (Lib.nDigits u) 0) (w.alloc (.cells Lib.zeros24 144)) hH0 (by rw [Array.size_replicate]; exact Lib.lt_pow_nDigits u) hu64 (by rw [Array.size_replicate]; omega)
    rw [Array.size_replicate] at hfmt
    have HH0 := Lib.hid hH0
    have HT := Lib.hid hT
    have HF := Lib.hid hfmt
    clear hH0 hal hT hfmt hdec
    go_enter Tryz.func82, Tryz.ntmps82
    go_wp2_with fail
    refine (Tryz.internal_strconv_numDigits u hu1 hu64 _ (Lib.tabIs_alloc HT.out.pow10 _)).mono ?_
    rintro e w' ⟨rfl, rfl⟩
    go_wp2_with fail
    refine HF.out.mono ?_
    rintro e w' ⟨rfl, k, v', dk, rfl, hF⟩
    have hcv : (convert 94 9 (.slice (some ⟨w.heap.size, 0, none⟩) (Lib.nDigits u) 24)).run Tryz.prog ((putRow (fun (b : UInt8) => Value.int .u8 (b.toNat : Int)) (w.alloc (.cells Lib.zeros24 144)) w.heap.size 0 dk).drewN k) = .ok (.string ⟨(Lib.decDigits u).toArray⟩) ((putRow (fun (b : UInt8) => Value.int .u8 (b.toNat : Int)) (w.alloc (.cells Lib.zeros24 144)) w.heap.size 0 dk).drewN k) := by
      have h := run_convert_bytes_back (P := Tryz.prog) ((putRow (fun (b : UInt8) => Value.int .u8 (b.toNat : Int)) (w.alloc (.cells Lib.zeros24 144)) w.heap.size 0 dk).drewN k) 94 9 5 ⟨w.heap.size, 0, none⟩ 24 (Lib.decDigits u) Tryz.underlying94 Tryz.underlying5 Tryz.underlying9 (fun j hj => by
        rw [Lib.row_is_numeral hF j hj, Lib.add_plain, World.cell?_drewN]
        exact cell?_putRow (fun (b : UInt8) => Value.int .u8 (b.toNat : Int)) _ w.heap.size 0 _ dk HH0.out (by rw [hF.size, Array.size_replicate]) j (by rw [hF.size]; rw [Lib.decDigits_length] at hj; exact hj))
      rw [Lib.decDigits_length] at h
      exact h
    go_wp2_with fail
    go_ret
    obtain ⟨os, eo⟩ := fin0 w (.cells Lib.zeros24 144) dk k
    exact ⟨rfl, k, os, eo⟩
set_option maxRecDepth 100000 in
theorem format_calls (u : Nat) (hu : u < 1000000000) (w : World) (hT : Tabs w) :
    Calls Tryz.prog 53 #[.int .u64 (u : Int), .int .i64 10] w fun e w' => e = .returned (.string (decN u)) ∧ Below w.heap.size w w' := by
  have HF := Lib.hid (format_inner u hu w hT)
  obtain ⟨s, hs⟩ : ∃ s, decN u = s := ⟨_, rfl⟩
  rw [hs] at HF ⊢
  clear hT hs
  go_enter Tryz.func53, Tryz.ntmps53
  go_wp2_with fail
  refine HF.out.mono ?_
  rintro e w1 ⟨rfl, k, os, rfl⟩
  go_wp2_with fail
  go_ret
  exact ⟨rfl, below_grow w k os⟩
set_option maxRecDepth 100000 in
theorem abs_calls (u : Nat) (hu : u < 1000000000) (w : World) (hT : Tabs w) :
    Calls Tryz.prog 34 #[.int .i64 (u : Int)] w fun e w' => e = .returned (.string (decN u)) ∧ Below w.heap.size w w' := by
  have HF := Lib.hid (format_calls u hu w hT)
  have c1 : decide ((u : Int) < 0) = false := decide_eq_false (by omega)
  have hwr : IntKind.u64.wrap (u : Int) = (u : Int) := by rw [IntKind.wrap_u64]; omega
  obtain ⟨s, hs⟩ : ∃ s, decN u = s := ⟨_, rfl⟩
  rw [hs] at HF ⊢
  clear hT hs
  go_enter Tryz.func34, Tryz.ntmps34
  go_wp2_with fail
  refine HF.out.mono ?_
  rintro e w1 ⟨rfl, hb⟩
  have HB := Lib.hid hb
  clear hb
  go_wp2_with fail
  go_ret
  exact ⟨rfl, HB.out⟩
def rational_abs.f (a0 : Int) : Option ByteArray := if 0 ≤ a0 ∧ a0 < 1000000000 then some (decN a0.toNat) else none
theorem rational_abs.calls (a0 : Int) (r : ByteArray) (w : World) (hT : Tabs w) (h : rational_abs.f a0 = some r) :
    Calls Tryz.prog 34 #[.int .i64 a0] w fun e w' => e = .returned (.string r) ∧ Below w.heap.size w w' := by
  unfold rational_abs.f at h
  split at h
  · rename_i hh
    have e := Option.some.inj h
    subst e
    have := abs_calls a0.toNat (by omega) w hT
    rwa [Int.toNat_of_nonneg hh.1] at this
  · exact absurd h (by simp)
end Go.Proofs.YtlhfgjblcckifaaGreatDoor.Dg
