/-
  Numbers of one limb: natural.Div, natural.Gcd.
-/
import Derived.Test.YtlhfgjblcckifaaGreatDoorMgNum
set_option linter.unusedVariables false
set_option linter.unusedSimpArgs false
namespace Go.Proofs.YtlhfgjblcckifaaGreatDoor.Dg
open Go.RowKit Go.Shelf
open Go.Proofs.YtlhfgjblcckifaaGreatDoor.PA
open Go.Proofs.YtlhfgjblcckifaaGreatDoorW.PrintWords Go.Proofs.YtlhfgjblcckifaaGreatDoorW.PrintMore Go.Proofs.YtlhfgjblcckifaaGreatDoorW.PrintLast

/-- The limbs of a number below 10^18, not 0. -/
def limbs2 (v : Int) : List Int := if v < 1000000000 then [v] else [v % 1000000000, v / 1000000000]
theorem limbAt_one (y : Int) (i : Nat) : limbAt [y] i = if i = 0 then y else 0 := by
  unfold limbAt
  match i with
  | 0 => rfl
  | i + 1 => rfl
theorem trim_two (k : Nat) (a b : Int) (hb : b ≠ 0) : natural_limbs_trimmed.f (k + 3) [a, b] = some [a, b] := by
  unfold natural_limbs_trimmed.f
  simp [natural_limbs_trimmed.l0, wrap64, rd, hb]
theorem times_row (q y : Int) (hq : 1 ≤ q) (hy : 1 ≤ y) (hqy : q * y < 1000000000000000000) : natural_limbs_trimmed.f 3 (rowN (fun i => q * limbAt [y] i) 2 2) = some (limbs2 (q * y)) := by
  have h1 : 1 ≤ q * y := by
    have := Int.mul_le_mul hq hy (by omega) (by omega)
    omega
  have e : rowN (fun i => q * limbAt [y] i) 2 2 = [(q * y) % 1000000000, (q * y) / 1000000000] := by
    have r2 : List.range 2 = [0, 1] := rfl
    unfold rowN
    rw [r2]
    simp only [List.map_cons, List.map_nil, digN, carN, limbAt_one]
    simp
    omega
  rw [e]
  unfold limbs2
  by_cases h : q * y < 1000000000
  · rw [if_pos h, show (q * y) / 1000000000 = 0 by omega, show (q * y) % 1000000000 = q * y by omega]
    exact trim2 0 _ (by omega)
  · rw [if_neg h]
    exact trim_two 0 _ _ (by omega)
theorem sub_row (x y : Nat) (h : y ≤ x) (hx : x < 1000000000) (hx0 : x ≠ 0) : natural_limbs_trimmed.f 3 (rowN (fun i => limbAt [(x : Int)] i - limbAt [(y : Int)] i) 1 1) = some (limbsN (x - y)) := by
  have e : rowN (fun i => limbAt [(x : Int)] i - limbAt [(y : Int)] i) 1 1 = [((x - y : Nat) : Int)] := by
    have r1 : List.range 1 = [0] := rfl
    unfold rowN
    rw [r1]
    simp only [List.map_cons, List.map_nil, digN, carN, limbAt_one]
    simp
    omega
  rw [e]
  exact trimN (x - y) 0

set_option maxHeartbeats 2000000 in
set_option maxRecDepth 100000 in
theorem timesOf_calls (i : Nat) (bx bq cx : Nat) (Ax : Option Addr) (x : List Int) (q : Int) (w : World) (hi : i ≤ 1000) (hxs : 0 ≤ limbAt x i ∧ limbAt x i ≤ 1000000000) (hqs : 0 ≤ q ∧ q ≤ 1000000000)
    (hbq : w.heap[bq]? = some (.cells #[.int .i64 q] 3 (0, 0))) (hbx : w.heap[bx]? = some (.cells #[.slice Ax x.length cx] 72 (0, 0)))
    (hx : Kd.C (Kd.int .i64) w Ax x.length x) (hcx : x.length ≤ cx) :
    Calls Tryz.prog 117 #[.int .i64 i, .pointer (some ⟨bq, 0, none⟩), .pointer (some ⟨bx, 0, none⟩)] w fun e w' => e = .returned (.int .i64 (q * limbAt x i)) ∧ Below w.heap.size w w' := by
  obtain ⟨u, hu⟩ : ∃ u, limbAt x i = u := ⟨_, rfl⟩
  rw [hu] at hxs ⊢
  obtain ⟨s, hs⟩ : ∃ s, q * u = s := ⟨_, rfl⟩
  have hs1 : 0 ≤ s := by rw [← hs]; exact Int.mul_nonneg hqs.1 hxs.1
  have hs2 : s ≤ 1000000000000000000 := by
    rw [← hs]
    exact Int.le_trans (Int.mul_le_mul hqs.2 hxs.2 hxs.1 (by omega)) (by omega)
  have hw : IntKind.i64.wrap (q * u) = s := by rw [hs, i64_w]; unfold wrap64; omega
  rw [hs]
  have fx : natural_limbs_limb.f x (i : Int) = some u := by rw [limb_f, hu]
  have kx : w.cell? ⟨bx, 0, none⟩ = some (.slice Ax x.length cx) := blk_cell hbx 0
  have kq : w.cell? ⟨bq, 0, none⟩ = some (.int .i64 q) := blk_cell hbq 0
  have HX := Lib.hid hx
  have FX := Lib.hid fx
  have GX := Lib.hid hcx
  clear hx hcx fx hu hbx hbq hs
  go_enter Tryz.func117, Tryz.ntmps117
  go_wp2
  go_quiet (first
    | (go_at_call 61; (with_reducible refine (natural_limbs_limb.calls Ax cx x (i : Int) u _ ?s1 GX.out FX.out).mono ?_); (case s1 => repeat (first | exact HX.out | (with_reducible refine Kd.C_drewN ?_ _) | (with_reducible refine Kd.C_drew ?_))); rintro e w' ⟨rfl, ⟨nd, rfl⟩⟩; (try first | exact ⟨rfl, _, World.drewN_drewN _ _ _⟩ | exact ⟨rfl, _, Eq.trans (World.drewN_drewN _ _ _) (congrArg (World.drewN _) (Nat.add_assoc _ _ _))⟩)))
  go_wp2
  go_ret
  exact ⟨by first | rfl | simp, pw_below_drewN (Below.refl _ _) _⟩

set_option maxHeartbeats 2000000 in
set_option maxRecDepth 100000 in
theorem subOf_calls (i : Nat) (bx bz cx cz : Nat) (Ax Az : Option Addr) (x z : List Int) (w : World) (hi : i < x.length) (hi2 : i ≤ 1000) (hxs : 0 ≤ limbAt x i ∧ limbAt x i ≤ 1000000000) (hzs : 0 ≤ limbAt z i ∧ limbAt z i ≤ 1000000000)
    (hbx : w.heap[bx]? = some (.cells #[.slice Ax x.length cx] 72 (0, 0))) (hbz : w.heap[bz]? = some (.cells #[.slice Az z.length cz] 72 (0, 0)))
    (hx : Kd.C (Kd.int .i64) w Ax x.length x) (hz : Kd.C (Kd.int .i64) w Az z.length z) (hcz : z.length ≤ cz) :
    Calls Tryz.prog 118 #[.int .i64 i, .pointer (some ⟨bx, 0, none⟩), .pointer (some ⟨bz, 0, none⟩)] w fun e w' => e = .returned (.int .i64 (limbAt x i - limbAt z i)) ∧ Below w.heap.size w w' := by
  obtain ⟨ad, rfl, hcell⟩ := Kd.at_int hx (i : Int) (by omega) (by omega)
  have hrd : rd x (i : Int) = limbAt x i := by unfold rd limbAt; rw [Int.toNat_natCast]
  rw [hrd, Int.toNat_natCast] at hcell
  obtain ⟨u, hu⟩ : ∃ u, limbAt x i = u := ⟨_, rfl⟩
  obtain ⟨v, hv⟩ : ∃ v, limbAt z i = v := ⟨_, rfl⟩
  rw [hu] at hxs hcell ⊢
  rw [hv] at hzs ⊢
  have hw : IntKind.i64.wrap (u - v) = u - v := by rw [i64_w]; unfold wrap64; omega
  have fz : natural_limbs_limb.f z (i : Int) = some v := by rw [limb_f, hv]
  have kx : w.cell? ⟨bx, 0, none⟩ = some (.slice (some ad) x.length cx) := blk_cell hbx 0
  have kz : w.cell? ⟨bz, 0, none⟩ = some (.slice Az z.length cz) := blk_cell hbz 0
  obtain ⟨m, hm⟩ : ∃ m, x.length = m := ⟨_, rfl⟩
  rw [hm] at hi kx
  have c1 : ((i : Int) < 0 ∨ (m : Int) ≤ (i : Int)) = False := by simp; omega
  have HZ := Lib.hid hz
  have FZ := Lib.hid fz
  have GZ := Lib.hid hcz
  clear hx hz hcz fz hu hv hbx hbz hm hrd
  go_enter Tryz.func118, Tryz.ntmps118
  go_wp2
  go_quiet (first
    | (go_at_call 61; (with_reducible refine (natural_limbs_limb.calls Az cz z (i : Int) v _ ?s1 GZ.out FZ.out).mono ?_); (case s1 => repeat (first | exact HZ.out | (with_reducible refine Kd.C_drewN ?_ _) | (with_reducible refine Kd.C_drew ?_))); rintro e w' ⟨rfl, ⟨nd, rfl⟩⟩; (try first | exact ⟨rfl, _, World.drewN_drewN _ _ _⟩ | exact ⟨rfl, _, Eq.trans (World.drewN_drewN _ _ _) (congrArg (World.drewN _) (Nat.add_assoc _ _ _))⟩)))
  go_wp2
  go_ret
  exact ⟨by first | rfl | simp, pw_below_drewN (Below.refl _ _) _⟩
end Go.Proofs.YtlhfgjblcckifaaGreatDoor.Dg

set_option linter.unusedVariables false
set_option linter.unusedSimpArgs false
namespace Go.Proofs.YtlhfgjblcckifaaGreatDoor.Dg
open Go.RowKit Go.Shelf
open Go.Proofs.YtlhfgjblcckifaaGreatDoor.PA
open Go.Proofs.YtlhfgjblcckifaaGreatDoorW.PrintWords Go.Proofs.YtlhfgjblcckifaaGreatDoorW.PrintMore Go.Proofs.YtlhfgjblcckifaaGreatDoorW.PrintLast

theorem limb1_bound (y : Int) (i : Nat) (h0 : 0 ≤ y) (h1 : y ≤ 1000000000) : 0 ≤ limbAt [y] i ∧ limbAt [y] i ≤ 1000000000 := by
  rw [limbAt_one]; split <;> omega

set_option maxHeartbeats 4000000 in
set_option maxRecDepth 100000 in
theorem times_calls (y q : Int) (hy : 1 ≤ y) (hy2 : y < 1000000000) (hq : 1 ≤ q) (hq2 : q < 1000000000) (Ax : Option Addr) (cx : Nat) (x : List Int) (hx1 : x = [y]) (w : World)
    (hx : Kd.C (Kd.int .i64) w Ax x.length x) (hcx : x.length ≤ cx) :
    Calls Tryz.prog 85 #[.slice Ax x.length cx, .int .i64 q] w fun e w' => ∃ v, e = .returned v ∧ Kd.R (Kd.int .i64) 3 w' w.heap.size (fun _ => True) v (limbs2 (q * y)) ∧ Below w.heap.size w w' := by
  have hqy : q * y < 1000000000000000000 := by
    have := Int.mul_le_mul (show q ≤ 999999999 by omega) (show y ≤ 999999999 by omega) (by omega) (by omega)
    omega
  subst hx1
  have hb : ∀ i, 0 ≤ limbAt [y] i ∧ limbAt [y] i ≤ 1000000000 := fun i => limb1_bound y i (by omega) (by omega)
  have hrow : ∃ k, natural_limbs_trimmed.f k (rowN (fun i => q * limbAt [y] i) (1 + 1) (1 + 1)) = some (limbs2 (q * y)) := ⟨3, times_row q y hq hy hqy⟩
  let W1 := w.alloc (.cells #[.slice Ax [y].length cx] 72 (0, 0))
  let W2 := W1.alloc (.cells #[.int .i64 q] 3 (0, 0))
  have e1 : W1.heap.size = w.heap.size + 1 := by simp [W1]
  have b1 : Below w.heap.size w W1 := (Below.refl _ _).alloc (Nat.le_refl _) _
  have b2 : Below w.heap.size w W2 := b1.alloc (by rw [e1]; omega) _
  have k1 : W2.heap[w.heap.size]? = some (.cells #[.slice Ax [y].length cx] 72 (0, 0)) := blk_alloc (heap_alloc_new w _) _
  have k2 : W2.heap[w.heap.size + 1]? = some (.cells #[.int .i64 q] 3 (0, 0)) := by rw [← e1]; exact heap_alloc_new W1 _
  have hcol := collect_row (1 + 1) (by omega) (by omega) (fun i => q * limbAt [y] i) (fun i _ => by
      have := hb i
      exact ⟨Int.mul_nonneg (by omega) this.1, Int.le_trans (Int.mul_le_mul (show q ≤ 1000000000 by omega) this.2 this.1 (by omega)) (by omega)⟩)
    117 _ Tryz.func117 (by kernel_rfl) rfl
    #[.pointer (some ⟨w.heap.size + 1, 0, none⟩), .pointer (some ⟨w.heap.size, 0, none⟩)] W2 (fun i hi w' hbw => timesOf_calls i w.heap.size (w.heap.size + 1) cx Ax [y] q w' (by omega) (hb i) ⟨by omega, by omega⟩ (blk_below k2 hbw) (blk_below k1 hbw)
      (Kd.C_below hx (b2.trans (hbw.mono b2.size))) hcx) (limbs2 (q * y)) hrow
  have HCOL := Lib.hid hcol
  have HB2 := Lib.hid b2
  clear hcol b1 b2 hx hrow hb hqy
  go_enter Tryz.func85, Tryz.ntmps85
  go_wp2_with fail
  refine HCOL.out.mono ?_
  rintro e w3 ⟨v, rfl, hR, hb⟩
  have HR3 := Lib.hid (Kd.R_lower hR HB2.out.size)
  have HB3 : Hid (Below w.heap.size w w3) := HB2.out.trans (hb.mono HB2.out.size)
  clear hR hb
  go_wp2_with fail
  go_ret
  exact ⟨v, rfl, HR3.out, HB3.out⟩

set_option maxHeartbeats 4000000 in
set_option maxRecDepth 100000 in
theorem sub_calls (a b : Nat) (hab : b ≤ a) (ha0 : a ≠ 0) (ha : a < 1000000000) (Ax Az : Option Addr) (cx cz : Nat) (x z : List Int) (hxa : x = [(a : Int)]) (hzb : z = [(b : Int)]) (w : World)
    (hx : Kd.C (Kd.int .i64) w Ax x.length x) (hz : Kd.C (Kd.int .i64) w Az z.length z) (hcx : x.length ≤ cx) (hcz : z.length ≤ cz) :
    Calls Tryz.prog 86 #[.slice Ax x.length cx, .slice Az z.length cz] w fun e w' => ∃ v, e = .returned v ∧ Kd.R (Kd.int .i64) 3 w' w.heap.size (fun _ => True) v (limbsN (a - b)) ∧ Below w.heap.size w w' := by
  subst hxa hzb
  let x : List Int := [(a : Int)]
  let z : List Int := [(b : Int)]
  have hrow : ∃ k, natural_limbs_trimmed.f k (rowN (fun i => limbAt x i - limbAt z i) 1 1) = some (limbsN (a - b)) := ⟨3, sub_row a b hab ha ha0⟩
  have hbx : ∀ i, 0 ≤ limbAt x i ∧ limbAt x i ≤ 1000000000 := fun i => limb1_bound a i (by omega) (by omega)
  have hbz : ∀ i, 0 ≤ limbAt z i ∧ limbAt z i ≤ 1000000000 := fun i => limb1_bound b i (by omega) (by omega)
  have hle : limbAt z 0 ≤ limbAt x 0 := by show limbAt [(b : Int)] 0 ≤ limbAt [(a : Int)] 0; rw [limbAt_one, limbAt_one]; simp; omega
  let W1 := w.alloc (.cells #[.slice Ax x.length cx] 72 (0, 0))
  let W2 := W1.alloc (.cells #[.slice Az z.length cz] 72 (0, 0))
  have e1 : W1.heap.size = w.heap.size + 1 := by simp [W1]
  have b1 : Below w.heap.size w W1 := (Below.refl _ _).alloc (Nat.le_refl _) _
  have b2 : Below w.heap.size w W2 := b1.alloc (by rw [e1]; omega) _
  have k1 : W2.heap[w.heap.size]? = some (.cells #[.slice Ax x.length cx] 72 (0, 0)) := blk_alloc (heap_alloc_new w _) _
  have k2 : W2.heap[w.heap.size + 1]? = some (.cells #[.slice Az z.length cz] 72 (0, 0)) := by rw [← e1]; exact heap_alloc_new W1 _
  have hcol := collect_row 1 (by omega) (by omega) (fun i => limbAt x i - limbAt z i) (fun i hi => by
      obtain rfl : i = 0 := by omega
      have := hbx 0; have := hbz 0
      show 0 ≤ limbAt x 0 - limbAt z 0 ∧ limbAt x 0 - limbAt z 0 ≤ 2000000000000000000
      omega)
    118 _ Tryz.func118 (by kernel_rfl) rfl
    #[.pointer (some ⟨w.heap.size, 0, none⟩), .pointer (some ⟨w.heap.size + 1, 0, none⟩)] W2 (fun i hi w' hb => subOf_calls i w.heap.size (w.heap.size + 1) cx cz Ax Az x z w' (by show i < 1; omega) (by omega) (hbx i) (hbz i) (blk_below k1 hb) (blk_below k2 hb)
      (Kd.C_below hx (b2.trans (hb.mono b2.size))) (Kd.C_below hz (b2.trans (hb.mono b2.size))) hcz) (limbsN (a - b)) hrow
  have HCOL := Lib.hid hcol
  have HB2 := Lib.hid b2
  clear hcol b1 b2 hx hz hrow hbx hbz hle
  go_enter Tryz.func86, Tryz.ntmps86
  go_wp2_with fail
  refine HCOL.out.mono ?_
  rintro e w3 ⟨v, rfl, hR, hb⟩
  have HR3 := Lib.hid (Kd.R_lower hR HB2.out.size)
  have HB3 : Hid (Below w.heap.size w w3) := HB2.out.trans (hb.mono HB2.out.size)
  clear hR hb
  go_wp2_with fail
  go_ret
  exact ⟨v, rfl, HR3.out, HB3.out⟩
end Go.Proofs.YtlhfgjblcckifaaGreatDoor.Dg

set_option linter.unusedVariables false
set_option linter.unusedSimpArgs false
namespace Go.Proofs.YtlhfgjblcckifaaGreatDoor.Dg
open Go.RowKit Go.Shelf
open Go.Proofs.YtlhfgjblcckifaaGreatDoor.PA
open Go.Proofs.YtlhfgjblcckifaaGreatDoorW.PrintWords Go.Proofs.YtlhfgjblcckifaaGreatDoorW.PrintMore Go.Proofs.YtlhfgjblcckifaaGreatDoorW.PrintLast

theorem some_ne {a b : Nat} (h : a ≠ b) : (some a : Option Nat) ≠ some b := fun e => h (Option.some.inj e)
theorem trim0 (k : Nat) : natural_limbs_trimmed.f (k + 3) [] = some [] := by
  unfold natural_limbs_trimmed.f
  simp [natural_limbs_trimmed.l0]

theorem R_cells (w : World) (base g : Nat) (l : List Int) (h : w.heap[g]? = some (.cells (l.map (Value.int .i64)).toArray 3 (0, 0))) (hb : base ≤ g) (hl : l.length ≤ 1000) : Kd.R (Kd.int .i64) 3 w base (fun k => k = g) (.slice (some ⟨g, 0, none⟩) l.length l.length) l := by
  refine Kd.R_of_own ⟨by simp [encs], Or.inr ⟨g, l.length, _, rfl, hb, h, Nat.le_refl _, by unfold maxLen; omega, by simp, ?_⟩⟩ (fun k hk => by simpa [Value.ownBlock, eq_comm] using hk)
  simp [encs]
  exact List.take_of_length_le (by simp)
theorem cmp_one (a b : Int) : natural_limbs_compare.f 3 [a] [b] = some (if a = b then 0 else if a < b then -1 else 1) := by
  unfold natural_limbs_compare.f
  simp [natural_limbs_compare.l0, wrap64, rd]
  split
  · rfl
  · split <;> rfl
theorem cmp_two (a b c : Int) : natural_limbs_compare.f 3 [a, b] [c] = some 1 := by
  unfold natural_limbs_compare.f
  simp
theorem cmp_limbs2 (v r : Int) (hr : r < 1000000000) : ∃ c, natural_limbs_compare.f 3 (limbs2 v) [r] = some c ∧ (c ≤ 0 ↔ v ≤ r) := by
  unfold limbs2
  by_cases h : v < 1000000000
  · rw [if_pos h]
    refine ⟨_, cmp_one v r, ?_⟩
    split
    · omega
    · split <;> omega
  · rw [if_neg h]
    exact ⟨1, cmp_two _ _ _, by omega⟩

set_option maxHeartbeats 4000000 in
set_option maxRecDepth 100000 in
theorem div_zero (b : Nat) (hb : 1 ≤ b) (hb2 : b < 1000000000) (Ax Az : Option Addr) (cx cz : Nat) (w : World) (hz : Kd.C (Kd.int .i64) w Az 1 [(b : Int)]) (hcz : 1 ≤ cz) :
    Calls Tryz.prog 56 #[.slice Ax 0 cx, .slice Az 1 cz] w fun e w' => ∃ v1 v2, e = .returned (.tuple #[v1, v2]) ∧ Kd.R (Kd.int .i64) 3 w' w.heap.size (fun _ => True) v1 [] ∧ Kd.R (Kd.int .i64) 3 w' w.heap.size (fun _ => True) v2 [] ∧ Below w.heap.size w w' := by
  have HB := Lib.hid (Below.refl w.heap.size w)
  clear hz
  go_enter Tryz.func56, Tryz.ntmps56
  go_wp2_with (first | ((with_reducible refine gate_dst (N := 14) rfl ?_); refine Kd.R_make (Kd.int .i64) w.heap.size 3 rfl (N := 14) rfl 72 _ _ rfl (0 : Int) rfl rfl Tryz.underlying72 (.int .i64 0) 8 info3 rfl (by decide) (by omega) (0 : Int) (ok := fun _ => True) (okp := fun _ => True) (by rfl) (fun _ h => h) trivial (by omega) (by omega) HB.out (Nat.le_refl _) ?_; intro v1 w1 hR1 hB1 hg1 hn1; have HR1 := Lib.hid hR1; have HB1 := Lib.hid hB1; clear hR1 hB1 hg1 hn1) | fail)
  have HE := Lib.hid (R_cells (w1.alloc (.cells #[] 3)) w.heap.size w1.heap.size [] (heap_alloc_new _ _) HB1.out.size (by simp))
  have HB2 : Hid (Below w.heap.size w (w1.alloc (.cells #[] 3))) := HB1.out.alloc HB1.out.size _
  refine wp_loop_rounds 1 ?_
  rw [rounds_succ]
  go_wp2_with fail
  refine (natural_limbs_trimmed.calls 3 (fun k => some k = v1.ownBlock) v1 [] [] w _ HB2.out (Kd.R_alloc (Kd.R_tight rfl HR1.out) _) (trim0 0)).mono ?_
  rintro e w3 ⟨v0, rfl, hr3, hb3, hk3⟩
  have HR3 := Lib.hid hr3
  have HB3 := Lib.hid hb3
  have HE3 : Hid (Kd.R (Kd.int .i64) 3 w3 w.heap.size (fun _ => True) (.slice (some ⟨w1.heap.size, 0, none⟩) 0 0) []) := by
    exact Kd.R_mono (Kd.R_kept HE.out hk3 (fun k hk he => by
      have := Kd.R_lt HR1.out k he.symm
      omega)) (fun _ _ => trivial)
  clear hr3 hb3 hk3
  go_wp2_with fail
  go_ret2
  exact ⟨_, _, rfl, Kd.R_mono HR3.out (fun _ _ => trivial), HE3.out, HB3.out⟩

set_option maxHeartbeats 8000000 in
set_option maxRecDepth 100000 in
theorem div_pos (a b : Nat) (ha : 1 ≤ a) (ha2 : a < 1000000000) (hb : 1 ≤ b) (hb2 : b < 1000000000) (Ax Az : Option Addr) (cx cz : Nat) (w : World) (hx : Kd.C (Kd.int .i64) w Ax 1 [(a : Int)]) (hz : Kd.C (Kd.int .i64) w Az 1 [(b : Int)]) (hcx : 1 ≤ cx) (hcz : 1 ≤ cz) :
    Calls Tryz.prog 56 #[.slice Ax 1 cx, .slice Az 1 cz] w fun e w' => ∃ v1 v2, e = .returned (.tuple #[v1, v2]) ∧ Kd.R (Kd.int .i64) 3 w' w.heap.size (fun _ => True) v1 (limbsN (a / b)) ∧ Kd.R (Kd.int .i64) 3 w' w.heap.size (fun _ => True) v2 (limbsN (a % b)) ∧ Below w.heap.size w w' := by
  have HB := Lib.hid (Below.refl w.heap.size w)
  have HX := Lib.hid hx
  have HZ := Lib.hid hz
  obtain ⟨ad, rfl, _⟩ := Kd.at_int hx 0 (by omega) (by omega)
  have hax : ∀ w', Below w.heap.size w w' → w'.cell? ad = some (.int .i64 (a : Int)) := fun w' hb => by
    obtain ⟨ad', e, hcell⟩ := Kd.at_int (Kd.C_below hx hb) 0 (by omega) (by omega)
    cases e
    simpa [Addr.add_zero', rd] using hcell
  have HAX := Lib.hid hax
  clear hx hz hax
  go_enter Tryz.func56, Tryz.ntmps56
  go_wp2_with (first | ((with_reducible refine gate_dst (N := 14) rfl ?_); refine Kd.R_make (Kd.int .i64) w.heap.size 3 rfl (N := 14) rfl 72 _ _ rfl (1 : Int) rfl rfl Tryz.underlying72 (.int .i64 0) 8 info3 rfl (by decide) (by omega) (0 : Int) (ok := fun _ => True) (okp := fun _ => True) (by rfl) (fun _ h => h) trivial (by omega) (by omega) HB.out (Nat.le_refl _) ?_; intro v1 w1 hR1 hB1 hg1 hn1; have HR1 := Lib.hid hR1; have HB1 := Lib.hid hB1; clear hR1 hB1 hg1 hn1) | fail)
  obtain ⟨g, cap, rfl, hg0, hg1, _⟩ := Kd.R_form HR1.out (by simp)
  have HQ : Hid (Kd.R (Kd.int .i64) 3 (w1.alloc (.cells #[] 3)) w.heap.size (fun k => k = g) (.slice (some ⟨g, 0, none⟩) 1 cap) [0]) := Kd.R_mono (Kd.R_alloc (Kd.R_tight rfl HR1.out) _) (fun k hk => by simpa [Value.ownBlock] using hk)
  have HB2 : Hid (Below w.heap.size w (w1.alloc (.cells #[] 3))) := HB1.out.alloc HB1.out.size _
  have e1 : (w1.alloc (.cells #[] 3)).heap.size = w1.heap.size + 1 := by simp
  obtain ⟨W2, hW2⟩ : ∃ W2, w1.alloc (.cells #[] 3) = W2 := ⟨_, rfl⟩
  rw [hW2] at HQ HB2 e1 ⊢
  have hcx := HAX.out W2 HB2.out
  have HE1 := Lib.hid e1
  clear hW2 HR1 e1
  have HN : Hid (Kd.R (Kd.int .i64) 3 (W2.alloc (.cells #[.int .i64 (a : Int)] 3)) w.heap.size (fun k => W2.heap.size ≤ k) (.slice (some ⟨W2.heap.size, 0, none⟩) 1 1) [(a : Int)]) :=
    Kd.R_mono (R_cells (W2.alloc (.cells #[.int .i64 (a : Int)] 3)) w.heap.size W2.heap.size [(a : Int)] (heap_alloc_new _ _) HB2.out.size (by simp)) (fun k hk => by omega)
  have HB2' : Hid (Below w.heap.size w (W2.alloc (.cells #[.int .i64 (a : Int)] 3))) := HB2.out.alloc HB2.out.size _
  have HES : Hid (ReadsRow (fun (x : Int) cs => cs = [.int .i64 x]) 1 W2 (some ⟨w1.heap.size, 0, none⟩) 0 []) := ⟨rfl, by omega, fun h => absurd h (Nat.lt_irrefl 0)⟩
  refine wp_loop_rounds 2 ?_
  rw [rounds_succ]
  go_wp2_with (first
    | ((with_reducible refine gate_builtin (b := .append) (xs := #[.tmp 27, .tmp 28]) rfl ?_); at_builtin; refine Kd.R_append_rows (Kd.int .i64) (Rr := fun (x : Int) cs => cs = [.int .i64 x]) (w0 := w) w.heap.size rfl (.tmp 27) (.tmp 28) 72 3 (.int .i64 0) 8 rfl Tryz.underlying72 info3 rfl (by decide) (by omega) (.slice (some ⟨W2.heap.size, 0, none⟩) 1 1) [(a : Int)] [] (some ⟨w1.heap.size, 0, none⟩) 0 0 (fun k => W2.heap.size ≤ k) (fun _ => False) rfl rfl HN.out ⟨rfl, by omega, fun h => absurd h (Nat.lt_irrefl 0)⟩ (fun _ _ h => h) (fun _ hk => hk.elim) (fun k hk => by simp at hk; omega) HB2'.out HB2'.out.size (by simp) ?_; intro v2 w3 hR3 hB3 hg3 hat3)
    | fail)
  rw [List.append_nil] at hR3
  have HQ3 : Hid (Kd.R (Kd.int .i64) 3 w3 w.heap.size (fun k => k = g) (.slice (some ⟨g, 0, none⟩) 1 cap) [0]) := Kd.R_grown (Kd.R_alloc HQ.out _) hg3 (fun k hk => some_ne (by have h1 := HE1.out; have h2 : k = g := hk; show k ≠ W2.heap.size; omega))
  refine (natural_limbs_trimmed.calls 3 (fun k => W2.heap.size ≤ k) v2 [(a : Int)] [(a : Int)] w w3 hB3 hR3 (trim_one 0 _ (by omega))).mono ?_
  rintro e w4 ⟨v30, rfl, hR4, hB4, hk4⟩
  have HQ4 := Lib.hid (Kd.R_kept HQ3.out hk4 (fun k hk he => by have := HE1.out; omega))
  have hs3 := hB3.size
  have HR4 : Hid (Kd.R (Kd.int .i64) 3 w4 w.heap.size (fun k => W2.heap.size ≤ k) v30 [(a : Int)]) := Kd.R_mono hR4 (fun k hk => hk.elim id (fun h => Nat.le_trans (by have h1 := hg3.size; simp at h1; omega) h))
  have HB4 := Lib.hid hB4
  clear hR3 hB3 hg3 hat3 hR4 hB4 hk4 HQ3 HES hs3
  go_wp2_with fail
  obtain ⟨A30, c30, rfl, hc30, k30⟩ := Kd.R_reads HR4.out
  have HC30 := Lib.hid hc30
  by_cases hab : a < b
  · have hcmp : natural_limbs_compare.f 3 [(a : Int)] [(b : Int)] = some (-1) := by rw [cmp_one, if_neg (by omega), if_pos (by omega)]
    refine (natural_limbs_compare.calls 3 A30 c30 [(a : Int)] Az cz [(b : Int)] (-1) w4 k30 hc30 (Kd.C_below HZ.out HB4.out) hcz hcmp).mono ?_
    rintro e w5 ⟨rfl, ⟨nd, hw5⟩⟩
    have hb45 : Below w4.heap.size w4 w5 := by rw [hw5]; exact pw_below_drewN (Below.refl _ _) _
    have HB5 : Hid (Below w.heap.size w w5) := HB4.out.trans (hb45.mono HB4.out.size)
    have HQ5 := Lib.hid (Kd.R_below HQ4.out hb45)
    have HR5 := Lib.hid (Kd.R_below HR4.out hb45)
    clear hw5 hb45 hcmp k30 hc30
    go_wp2_with fail
    rw [rounds_succ]
    go_wp2_with fail
    refine (natural_limbs_trimmed.calls 3 (fun k => k = g) (.slice (some ⟨g, 0, none⟩) 1 cap) [0] [] w w5 HB5.out HQ5.out (trim1 0)).mono ?_
    rintro e w6 ⟨v6, rfl, hr6, hb6, hk6⟩
    have HR6 := Lib.hid hr6
    have HB6 := Lib.hid hb6
    have HS6 := Lib.hid (Kd.R_kept HR5.out hk6 (fun k hk he => by have := HE1.out; omega))
    clear hr6 hb6 hk6
    go_wp2_with fail
    go_ret2
    rw [show a / b = 0 from Nat.div_eq_of_lt hab, show a % b = a from Nat.mod_eq_of_lt hab, show limbsN a = [(a : Int)] from if_neg (by omega)]
    exact ⟨_, _, rfl, Kd.R_mono HR6.out (fun _ _ => trivial), Kd.R_mono HS6.out (fun _ _ => trivial), HB6.out⟩
  · have hcmp : natural_limbs_compare.f 3 [(a : Int)] [(b : Int)] = some (if (a : Int) = b then 0 else 1) := by
      rw [cmp_one]
      split
      · rfl
      · rw [if_neg (by omega)]
    obtain ⟨r, hr⟩ : ∃ r : Int, (if (a : Int) = b then 0 else 1) = r := ⟨_, rfl⟩
    rw [hr] at hcmp
    have c1 : decide (r < 0) = false := decide_eq_false (by rw [← hr]; split <;> omega)
    refine (natural_limbs_compare.calls 3 A30 c30 [(a : Int)] Az cz [(b : Int)] r w4 k30 hc30 (Kd.C_below HZ.out HB4.out) hcz hcmp).mono ?_
    rintro e w5 ⟨rfl, ⟨nd, hw5⟩⟩
    have hb45 : Below w4.heap.size w4 w5 := by rw [hw5]; exact pw_below_drewN (Below.refl _ _) _
    have HB5 : Hid (Below w.heap.size w w5) := HB4.out.trans (hb45.mono HB4.out.size)
    have HQ5 := Lib.hid (Kd.R_below HQ4.out hb45)
    have HR5 := Lib.hid (Kd.R_below HR4.out hb45)
    clear hw5 hb45 hcmp k30 hc30 hr
    go_wp2_with fail
    go_loopw [9, 10] (fun v9 v10 wr => ∃ lo hi : Nat, 1 ≤ lo ∧ lo ≤ hi ∧ hi ≤ 999999999 ∧ v9 = .int .i64 (lo : Int) ∧ v10 = .int .i64 (hi : Int) ∧ Hid (lo * b ≤ a) ∧ Hid (a < (hi + 1) * b) ∧ Hid (Below w5.heap.size w5 wr))
      (fun v9 v10 _ => (RowKit.intOf v10 - RowKit.intOf v9).toNat)
    case atStart => exact ⟨1, 999999999, by omega, by omega, by omega, rfl, rfl, (show 1 * b ≤ a by omega), (show a < (999999999 + 1) * b by omega), Below.refl _ _⟩
    case round =>
      obtain ⟨lo, hi, h1, h2, h3, rfl, rfl, HL, HH, HBw⟩ := hrel
      rename World => Wr
      have HBr : Hid (Below w.heap.size w Wr) := HB5.out.trans (HBw.out.mono HB5.out.size)
      by_cases hlt : lo < hi
      · obtain ⟨mid, hmid⟩ : ∃ mid : Nat, (lo + hi + 1) / 2 = mid := ⟨_, rfl⟩
        have hm1 : lo < mid := by omega
        have hm2 : mid ≤ hi := by omega
        obtain ⟨s0, hs0⟩ : ∃ s0 : Int, (lo : Int) + (hi : Int) = s0 := ⟨_, rfl⟩
        have w1_ : IntKind.i64.wrap ((lo : Int) + (hi : Int)) = s0 := by rw [hs0, i64_w]; unfold wrap64; omega
        obtain ⟨s1, hs1⟩ : ∃ s1 : Int, s0 + 1 = s1 := ⟨_, rfl⟩
        have w2_ : IntKind.i64.wrap (s0 + 1) = s1 := by rw [hs1, i64_w]; unfold wrap64; omega
        have w3_ : IntKind.i64.wrap (s1.tdiv 2) = (mid : Int) := by
          rw [Int.tdiv_eq_ediv_of_nonneg (by omega), i64_w]; unfold wrap64; omega
        have w4_ : IntKind.i64.wrap ((mid : Int) - 1) = ((mid - 1 : Nat) : Int) := by rw [i64_w]; unfold wrap64; omega
        have HTI := Lib.hid (times_calls (b : Int) (mid : Int) (by omega) (by omega) (by omega) (by omega) Az cz [(b : Int)] rfl Wr (Kd.C_below HZ.out HBr.out) hcz)
        clear hs0 hs1 hmid
        go_wp2_with fail
        refine HTI.out.mono ?_
        rintro e w6 ⟨v6, rfl, hr6, hb6⟩
        obtain ⟨A6, c6, rfl, hc6, k6⟩ := Kd.R_reads hr6
        have HR56 := Lib.hid (Kd.C_below (Kd.R_reads' HR5.out).2.2 (HBw.out.trans (hb6.mono HBw.out.size)))
        obtain ⟨cm, hcm1, hcm2⟩ := cmp_limbs2 ((mid : Int) * (b : Int)) (a : Int) (by omega)
        have HBw6 : Hid (Below w5.heap.size w5 w6) := HBw.out.trans (hb6.mono HBw.out.size)
        have HC6 := Lib.hid (natural_limbs_compare.calls 3 A6 c6 _ A30 c30 [(a : Int)] cm w6 k6 hc6 HR56.out HC30.out hcm1)
        obtain ⟨l6, hl6⟩ : ∃ l6, (limbs2 ((mid : Int) * (b : Int))).length = l6 := ⟨_, rfl⟩
        rw [hl6] at HC6 ⊢
        have hcast : ((mid : Int) * (b : Int)) = ((mid * b : Nat) : Int) := by push_cast; rfl
        rw [hcast] at hcm2
        by_cases hle : mid * b ≤ a
        · have HLE := Lib.hid hle
          have c2 : decide (cm ≤ 0) = true := decide_eq_true (hcm2.2 (by omega))
          clear hr6 hb6 k6 hc6 hcm1 hcm2 hcast hle hl6 HTI
          go_wp2_with fail
          refine HC6.out.mono ?_
          rintro e w7 ⟨rfl, ⟨nd, hw7⟩⟩
          have HBw7 : Hid (Below w5.heap.size w5 w7) := HBw6.out.trans (by rw [hw7]; exact pw_below_drewN (Below.refl _ _) _)
          clear hw7
          go_wp2_with fail
          go_roundw
          case rel => exact ⟨mid, hi, by omega, by omega, by omega, rfl, rfl, HLE.out, HH.out, HBw7.out⟩
          case measure => simp [RowKit.intOf]; omega
        · have HLE := Lib.hid hle
          have c2 : decide (cm ≤ 0) = false := decide_eq_false (fun h => by have := hcm2.1 h; omega)
          clear hr6 hb6 k6 hc6 hcm1 hcm2 hcast hle hl6 HTI
          go_wp2_with fail
          refine HC6.out.mono ?_
          rintro e w7 ⟨rfl, ⟨nd, hw7⟩⟩
          have HBw7 : Hid (Below w5.heap.size w5 w7) := HBw6.out.trans (by rw [hw7]; exact pw_below_drewN (Below.refl _ _) _)
          clear hw7
          go_wp2_with fail
          go_roundw
          case rel =>
            refine ⟨lo, mid - 1, by omega, by omega, by omega, rfl, rfl, HL.out, ?_, HBw7.out⟩
            show a < (mid - 1 + 1) * b
            rw [Nat.sub_add_cancel (by omega)]
            have := HLE.out; omega
          case measure => simp [RowKit.intOf]; omega
      · obtain rfl : lo = hi := by omega
        have hle : lo * b ≤ a := HL.out
        have hq : a / b = lo := Nat.div_eq_of_lt_le hle HH.out
        have hrem : a % b = a - lo * b := by
          have h := Nat.div_add_mod a b
          rw [hq, Nat.mul_comm] at h
          omega
        have hmul : limbs2 ((lo : Int) * (b : Int)) = [((lo * b : Nat) : Int)] := by
          rw [show ((lo : Int) * (b : Int)) = ((lo * b : Nat) : Int) by push_cast; rfl]
          unfold limbs2
          rw [if_pos (by omega)]
        have HTI := Lib.hid (times_calls (b : Int) (lo : Int) (by omega) (by omega) (by omega) (by omega) Az cz [(b : Int)] rfl Wr (Kd.C_below HZ.out HBr.out) hcz)
        rw [hmul] at HTI
        have HQE := Lib.hid hq
        have HRE := Lib.hid hrem
        have HLE := Lib.hid hle
        clear hq hrem hmul hle
        go_wp2_with fail
        refine HTI.out.mono ?_
        rintro e w6 ⟨v6, rfl, hr6, hb6⟩
        obtain ⟨A6, c6, rfl, hc6, k6⟩ := Kd.R_reads hr6
        have hb56 : Below w5.heap.size w5 w6 := HBw.out.trans (hb6.mono HBw.out.size)
        have hk30 := Kd.C_below (Kd.R_reads' HR5.out).2.2 hb56
        have HSUB := Lib.hid (sub_calls a (lo * b) HLE.out (by omega) ha2 A30 A6 c30 c6 [(a : Int)] [((lo * b : Nat) : Int)] rfl rfl w6 hk30 k6 HC30.out hc6)
        have HB56 := Lib.hid hb56
        clear hr6 hb6 k6 hc6 hb56 hk30 HTI
        go_wp2_with fail
        refine HSUB.out.mono ?_
        rintro e w7 ⟨v7, rfl, hr7, hb7⟩
        have HB57 : Hid (Below w5.heap.size w5 w7) := HB56.out.trans (hb7.mono HB56.out.size)
        have hQ7 := Kd.R_below HQ5.out HB57.out
        have hgl : g < w5.heap.size := Kd.R_lt HQ5.out g rfl
        have hs56 := HB56.out.size
        have HR7 : Hid (Kd.R (Kd.int .i64) 3 w7 w6.heap.size (fun k => w6.heap.size ≤ k) v7 (limbsN (a - lo * b))) := Kd.R_mono (Kd.R_bound hr7) (fun k hk => hk.2.1)
        obtain ⟨cr1, cr2⟩ := Kd.R_cell (0 : Int) hQ7 0 (by omega) (by simp)
        rw [Int.toNat_zero] at cr1 cr2
        have HQ7 := Lib.hid hQ7
        have HB7 : Hid (Below w.heap.size w w7) := HB5.out.trans (HB57.out.mono HB5.out.size)
        clear hr7 hb7 hQ7 HSUB
        go_wp2_with fail
        have hp := (Kd.R_put HQ7.out (0 : Int) (lo : Int)).1
        rw [Int.toNat_zero] at hp
        have HP := Lib.hid hp
        have HB8 : Hid (Below w.heap.size w (w7.setCell ⟨g, 0, none⟩ (.int .i64 (lo : Int)))) := HB7.out.setCell hg0 _
        have HR8 : Hid (Kd.R (Kd.int .i64) 3 (w7.setCell ⟨g, 0, none⟩ (.int .i64 (lo : Int))) w6.heap.size (fun k => w6.heap.size ≤ k) v7 (limbsN (a - lo * b))) := Kd.R_far HR7.out (fun k hk => by show k ≠ g; omega) _
        clear hp
        rw [rounds_succ]
        go_wp2_with fail
        refine (natural_limbs_trimmed.calls 3 (fun k => k = g) (.slice (some ⟨g, 0, none⟩) 1 cap) [(lo : Int)] [(lo : Int)] w _ HB8.out HP.out (trim_one 0 _ (by omega))).mono ?_
        rintro e w9 ⟨v9, rfl, hr9, hb9, hk9⟩
        have HR9 := Lib.hid hr9
        have HB9 := Lib.hid hb9
        have HS9 := Lib.hid (Kd.R_kept HR8.out hk9 (fun k hk he => by omega))
        clear hr9 hb9 hk9
        go_wp2_with fail
        go_ret2
        rw [HQE.out, HRE.out, show limbsN lo = [(lo : Int)] from if_neg (by omega)]
        exact ⟨_, _, rfl, Kd.R_mono HR9.out (fun _ _ => trivial), Kd.R_lower (Kd.R_mono HS9.out (fun _ _ => trivial)) (by have := HB5.out.size; omega), HB9.out⟩
end Go.Proofs.YtlhfgjblcckifaaGreatDoor.Dg

set_option linter.unusedVariables false
set_option linter.unusedSimpArgs false
namespace Go.Proofs.YtlhfgjblcckifaaGreatDoor.Dg
open Go.RowKit Go.Shelf
open Go.Proofs.YtlhfgjblcckifaaGreatDoor.PA
open Go.Proofs.YtlhfgjblcckifaaGreatDoorW.PrintWords Go.Proofs.YtlhfgjblcckifaaGreatDoorW.PrintMore Go.Proofs.YtlhfgjblcckifaaGreatDoorW.PrintLast

theorem gcd_lt (a b : Nat) (ha : a < 1000000000) (hb : b < 1000000000) : Nat.gcd a b < 1000000000 := by
  by_cases h : a = 0
  · subst h; rw [Nat.gcd_zero_left]; exact hb
  · exact Nat.lt_of_le_of_lt (Nat.gcd_le_left b (by omega)) ha
theorem div_calls (a b : Nat) (ha : a < 1000000000) (hb1 : 1 ≤ b) (hb : b < 1000000000) (Ax Az : Option Addr) (cx cz : Nat) (x z : List Int) (hxa : x = limbsN a) (hzb : z = limbsN b) (w : World)
    (hx : Kd.C (Kd.int .i64) w Ax x.length x) (hz : Kd.C (Kd.int .i64) w Az z.length z) (hcx : x.length ≤ cx) (hcz : z.length ≤ cz) :
    Calls Tryz.prog 56 #[.slice Ax x.length cx, .slice Az z.length cz] w fun e w' => ∃ v1 v2, e = .returned (.tuple #[v1, v2]) ∧ Kd.R (Kd.int .i64) 3 w' w.heap.size (fun _ => True) v1 (limbsN (a / b)) ∧ Kd.R (Kd.int .i64) 3 w' w.heap.size (fun _ => True) v2 (limbsN (a % b)) ∧ Below w.heap.size w w' := by
  have e2 : limbsN b = [(b : Int)] := if_neg (by omega)
  subst hxa hzb
  rw [e2] at hz hcz ⊢
  by_cases h0 : a = 0
  · subst h0
    rw [Nat.zero_div, Nat.zero_mod]
    exact div_zero b hb1 hb Ax Az cx cz w hz hcz
  · have e1 : limbsN a = [(a : Int)] := if_neg h0
    rw [e1] at hx hcx ⊢
    exact div_pos a b (by omega) ha hb1 hb Ax Az cx cz w hx hz hcx hcz

/-- The number that a row of at most one limb holds. -/
def rowV (v : Value) (w : World) : Nat := match v with
  | .slice (some ad) (_ + 1) _ => (match w.cell? ad with | some (.int _ z) => z.toNat | _ => 0)
  | _ => 0
theorem rowV_of {w : World} {A : Option Addr} {c b : Nat} {l : List Int} (hl : l = limbsN b) (h : Kd.C (Kd.int .i64) w A l.length l) : rowV (.slice A l.length c) w = b := by
  subst hl
  by_cases h0 : b = 0
  · subst h0
    show rowV (.slice A 0 c) w = 0
    cases A <;> rfl
  · have e : limbsN b = [(b : Int)] := if_neg h0
    rw [e] at h ⊢
    obtain ⟨ad, rfl, hc⟩ := Kd.at_int h 0 (by omega) (by simp)
    have hc2 : w.cell? ad = some (.int .i64 (b : Int)) := by simpa [Addr.add_zero', rd] using hc
    show (match w.cell? ad with | some (.int _ z) => z.toNat | _ => 0) = b
    rw [hc2]
    simp

set_option maxHeartbeats 4000000 in
set_option maxRecDepth 100000 in
theorem gcdOf_calls (a0 b0 : Nat) (ha : a0 < 1000000000) (hb : b0 < 1000000000) (Ax Az : Option Addr) (cx cz : Nat) (x z : List Int) (hxa : x = limbsN a0) (hzb : z = limbsN b0) (w : World)
    (hx : Kd.C (Kd.int .i64) w Ax x.length x) (hz : Kd.C (Kd.int .i64) w Az z.length z) (hcx : x.length ≤ cx) (hcz : z.length ≤ cz) :
    Calls Tryz.prog 83 #[.slice Ax x.length cx, .slice Az z.length cz] w fun e w' => ∃ v, e = .returned v ∧ (∃ A c l, v = .slice A l.length c ∧ l = limbsN (Nat.gcd a0 b0) ∧ l.length ≤ c ∧ Kd.C (Kd.int .i64) w' A l.length l) ∧ Below w.heap.size w w' := by
  have HX := Lib.hid hx
  have HZ := Lib.hid hz
  have HXA := Lib.hid hxa
  have HZB := Lib.hid hzb
  have HCX := Lib.hid hcx
  have HCZ := Lib.hid hcz
  clear hx hz hxa hzb hcx hcz
  go_enter Tryz.func83, Tryz.ntmps83
  go_wp2_with fail
  go_loopw [0, 1] (fun v0 v1 wr => ∃ (a b : Nat) (A1 A2 : Option Addr) (c1 c2 : Nat) (l1 l2 : List Int), a < 1000000000 ∧ b < 1000000000 ∧ v0 = .slice A1 l1.length c1 ∧ v1 = .slice A2 l2.length c2 ∧ Hid (l1 = limbsN a) ∧ Hid (l2 = limbsN b) ∧ Hid (l1.length ≤ c1) ∧ Hid (l2.length ≤ c2) ∧
      Hid (Kd.C (Kd.int .i64) wr A1 l1.length l1) ∧ Hid (Kd.C (Kd.int .i64) wr A2 l2.length l2) ∧ Hid (Nat.gcd a b = Nat.gcd a0 b0) ∧ Hid (Below w.heap.size w wr))
    (fun _ v1 wr => rowV v1 wr)
  case atStart => exact ⟨a0, b0, Ax, Az, cx, cz, x, z, ha, hb, rfl, rfl, HXA.out, HZB.out, HCX.out, HCZ.out, HX.out, HZ.out, rfl, Below.refl _ _⟩
  case round =>
    obtain ⟨a, b, A1, A2, c1, c2, l1, l2, ha1, hb1, rfl, rfl, H1, H2, HC1, HC2, HK1, HK2, HG, HB⟩ := hrel
    rename World => W0
    by_cases h0 : b = 0
    · have hl2 : l2 = [] := by rw [H2.out, h0]; rfl
      subst hl2
      go_wp2_with fail
      go_ret
      refine ⟨_, rfl, ⟨A1, c1, l1, rfl, ?_, HC1.out, HK1.out⟩, HB.out⟩
      have := HG.out
      rw [h0, Nat.gcd_zero_right] at this
      rw [← this]; exact H1.out
    · have HD := Lib.hid (div_calls a b ha1 (by omega) hb1 A1 A2 c1 c2 l1 l2 H1.out H2.out W0 HK1.out HK2.out HC1.out HC2.out)
      have hm : l2.length = 1 := by rw [H2.out, limbsN_length, if_neg h0]
      have HMM := Lib.hid hm
      rw [hm] at HD ⊢
      clear hm
      go_wp2_with fail
      refine HD.out.mono ?_
      rintro e w2 ⟨v1, v2, rfl, hr1, hr2, hb2⟩
      obtain ⟨A3, c3, rfl, hc3, k3⟩ := Kd.R_reads hr2
      have HK3 := Lib.hid k3
      have HC3 := Lib.hid hc3
      have HB2 : Hid (Below w.heap.size w w2) := HB.out.trans (hb2.mono HB.out.size)
      have HK2' := Lib.hid (Kd.C_below HK2.out hb2)
      have hmod := Nat.mod_lt a (show b > 0 by omega)
      have HV0 : Hid (rowV (.slice A2 1 c2) W0 = b) := by
        show _ = _
        rw [← HMM.out]; exact rowV_of H2.out HK2.out
      have HV2 : Hid (rowV (.slice A3 (limbsN (a % b)).length c3) w2 = a % b) := rowV_of rfl k3
      obtain ⟨l3, hl3⟩ : ∃ l3, limbsN (a % b) = l3 := ⟨_, rfl⟩
      rw [hl3] at HK3 HC3 HV2 ⊢
      have HL3 := Lib.hid hl3
      clear hr1 hr2 hb2 k3 hc3 HD hl3
      go_wp2_with fail
      go_roundw
      case rel =>
        refine ⟨b, a % b, A2, A3, c2, c3, l2, l3, hb1, by omega, by rw [HMM.out], rfl, H2.out, HL3.out.symm, HC2.out, HC3.out, HK2'.out, HK3.out, ?_, HB2.out⟩
        show Nat.gcd b (a % b) = Nat.gcd a0 b0
        rw [← HG.out, Nat.gcd_comm a b, Nat.gcd_rec b a, Nat.gcd_comm]
      case measure =>
        show rowV (.slice A3 l3.length c3) w2 < rowV (.slice A2 1 c2) W0
        rw [HV0.out, HV2.out]
        exact hmod

set_option maxHeartbeats 4000000 in
set_option maxRecDepth 100000 in
theorem both_gcd (a b G : Nat) (hG : Nat.gcd a b = G) (hGl : G < 1000000000) (ha : a < 1000000000) (hb : b < 1000000000) (sa sb : ByteArray) (hsa : sa = decN a) (hsb : sb = decN b) (w : World) (hT : Tabs w) :
    Calls Tryz.prog 39 #[.string sa, .string sb, .func (.func 83) #[] #[]] w fun e w' => e = .returned (.tuple #[.string (decN G), .int .i64 0]) ∧ Below w.heap.size w w' := by
  have HGG := Lib.hid hG
  clear hG
  have hva : natural_Valid.f sa = some true := by rw [hsa]; exact valid_dec a (by omega)
  have hvb : natural_Valid.f sb = some true := by rw [hsb]; exact valid_dec b (by omega)
  have hra : natural_read.f 5 sa = some (limbsN a) := by rw [hsa]; exact read_dec a 0 (by omega)
  have hrb : natural_read.f 5 sb = some (limbsN b) := by rw [hsb]; exact read_dec b 0 (by omega)
  obtain ⟨la, hla⟩ : ∃ la, limbsN a = la := ⟨_, rfl⟩
  obtain ⟨lb, hlb⟩ : ∃ lb, limbsN b = lb := ⟨_, rfl⟩
  have lla : la.length ≤ 1 := by rw [← hla, limbsN_length]; split <;> omega
  have llb : lb.length ≤ 1 := by rw [← hlb, limbsN_length]; split <;> omega
  rw [hla] at hra
  rw [hlb] at hrb
  have HT := Lib.hid hT
  clear hsa hsb hT
  go_enter Tryz.func39, Tryz.ntmps39
  go_wp2_with fail
  refine (natural_Valid.calls sa true w hva).mono ?_
  rintro e w1 ⟨rfl, hb1⟩
  have HB1 := Lib.hid hb1
  clear hb1
  go_wp2_with fail
  refine (natural_Valid.calls sb true w1 hvb).mono ?_
  rintro e w2 ⟨rfl, hb2⟩
  have HB2 : Hid (Below w.heap.size w w2) := HB1.out.trans (hb2.mono HB1.out.size)
  clear hb2
  go_wp2_with fail
  refine (natural_read.calls 5 sa la w2 hra).mono ?_
  rintro e w3 ⟨va, rfl, hr3, hb3⟩
  have hA3 := Lib.hid (Kd.R_lower hr3 HB2.out.size)
  have HB3 : Hid (Below w.heap.size w w3) := HB2.out.trans (hb3.mono HB2.out.size)
  clear hr3 hb3
  go_wp2_with fail
  refine (natural_read.calls 5 sb lb w3 hrb).mono ?_
  rintro e w4 ⟨vb, rfl, hr4, hb4⟩
  have hA4 := Lib.hid (Kd.R_below hA3.out (hb4.mono (Nat.le_refl _)))
  have hB4 := Lib.hid (Kd.R_lower hr4 HB3.out.size)
  have HB4 : Hid (Below w.heap.size w w4) := HB3.out.trans (hb4.mono HB3.out.size)
  clear hr4 hb4
  go_wp2_with fail
  obtain ⟨A1, c1, rfl, hc1, k1⟩ := Kd.R_reads hA4.out
  obtain ⟨A2, c2, rfl, hc2, k2⟩ := Kd.R_reads hB4.out
  have hgc := gcdOf_calls a b ha hb A1 A2 c1 c2 la lb hla.symm hlb.symm w4 k1 k2 hc1 hc2
  rw [HGG.out] at hgc
  refine hgc.mono ?_
  rintro e w5 ⟨vs, rfl, ⟨A3, c3, ls, rfl, hls, hc3, k3⟩, hb5⟩
  have HB5 : Hid (Below w.heap.size w w5) := HB4.out.trans (hb5.mono HB4.out.size)
  have HLS := Lib.hid hls
  have HK3 := Lib.hid k3
  have HC3 := Lib.hid hc3
  clear hb5 k1 k2 hgc hls k3 hc3
  go_wp2_with fail
  refine (text_calls G hGl A3 c3 ls HLS.out w5 HK3.out HC3.out (HT.out.below HB5.out)).mono ?_
  rintro e w6 ⟨rfl, hb6⟩
  have HB6 : Hid (Below w.heap.size w w6) := HB5.out.trans (hb6.mono HB5.out.size)
  clear hb6
  go_wp2_with fail
  go_ret2
  exact ⟨rfl, HB6.out⟩


set_option maxHeartbeats 4000000 in
set_option maxRecDepth 100000 in
theorem Gcd_calls (a b G : Nat) (hG : Nat.gcd a b = G) (hGl : G < 1000000000) (ha : a < 1000000000) (hb : b < 1000000000) (w : World) (hT : Tabs w) :
    Calls Tryz.prog 54 #[.string (decN a), .string (decN b)] w fun e w' => e = .returned (.tuple #[.string (decN G), .int .i64 0]) ∧ Below w.heap.size w w' := by
  have HGG := Lib.hid hG
  clear hG
  obtain ⟨sa, hsa⟩ : ∃ s, decN a = s := ⟨_, rfl⟩
  obtain ⟨sb, hsb⟩ : ∃ s, decN b = s := ⟨_, rfl⟩
  rw [hsa, hsb]
  have HT := Lib.hid hT
  clear hT
  go_enter Tryz.func54, Tryz.ntmps54
  go_wp2_with fail
  refine (both_gcd a b G HGG.out hGl ha hb sa sb hsa.symm hsb.symm w HT.out).mono ?_
  rintro e w1 ⟨rfl, hb1⟩
  have HB1 := Lib.hid hb1
  clear hb1
  go_wp2_with fail
  go_ret2
  exact ⟨rfl, HB1.out⟩

end Go.Proofs.YtlhfgjblcckifaaGreatDoor.Dg

set_option linter.unusedVariables false
set_option linter.unusedSimpArgs false
namespace Go.Proofs.YtlhfgjblcckifaaGreatDoor.Dg
open Go.RowKit Go.Shelf
open Go.Proofs.YtlhfgjblcckifaaGreatDoor.PA
open Go.Proofs.YtlhfgjblcckifaaGreatDoorW.PrintWords Go.Proofs.YtlhfgjblcckifaaGreatDoorW.PrintMore Go.Proofs.YtlhfgjblcckifaaGreatDoorW.PrintLast

set_option maxHeartbeats 1000000 in
set_option maxRecDepth 100000 in
theorem Div_calls (a b Q R : Nat) (hQ : a / b = Q) (hR : a % b = R) (hQl : Q < 1000000000) (hRl : R < 1000000000) (ha : a < 1000000000) (hb1 : 1 ≤ b) (hb : b < 1000000000) (w : World) (hT : Tabs w) :
    Calls Tryz.prog 37 #[.string (decN a), .string (decN b)] w fun e w' => e = .returned (.tuple #[.string (decN Q), .string (decN R), .int .i64 0]) ∧ Below w.heap.size w w' := by
  obtain ⟨sa, hsa⟩ : ∃ s, decN a = s := ⟨_, rfl⟩
  obtain ⟨sb, hsb⟩ : ∃ s, decN b = s := ⟨_, rfl⟩
  have hva : natural_Valid.f sa = some true := by rw [← hsa]; exact valid_dec a (by omega)
  have hvb : natural_Valid.f sb = some true := by rw [← hsb]; exact valid_dec b (by omega)
  have hra : natural_read.f 5 sa = some (limbsN a) := by rw [← hsa]; exact read_dec a 0 (by omega)
  have hrb : natural_read.f 5 sb = some (limbsN b) := by rw [← hsb]; exact read_dec b 0 (by omega)
  have hne : sb ≠ ⟨#[48]⟩ := by
    rw [← hsb, ← decN_zero]
    intro e
    have := decN_inj e
    omega
  obtain ⟨la, hla⟩ : ∃ la, limbsN a = la := ⟨_, rfl⟩
  obtain ⟨lb, hlb⟩ : ∃ lb, limbsN b = lb := ⟨_, rfl⟩
  rw [hsa, hsb]
  rw [hla] at hra
  rw [hlb] at hrb
  have HT := Lib.hid hT
  have HLA := Lib.hid hla
  have HLB := Lib.hid hlb
  have HQ := Lib.hid hQ
  have HR := Lib.hid hR
  have HNE := Lib.hid hne
  have hbe : (sb.toList == ([48] : List UInt8)) = false := by
    rw [beq_eq_false_iff_ne]
    intro e
    rw [ByteArray.toList_eq] at e
    exact hne (ByteArray.ext (Array.toList_inj.1 e))
  clear hsa hsb hT hla hlb hQ hR hne
  go_enter Tryz.func37, Tryz.ntmps37
  go_wp2_with fail
  refine (natural_Valid.calls sa true w hva).mono ?_
  rintro e w1 ⟨rfl, hb1⟩
  have HB1 := Lib.hid hb1
  clear hb1
  go_wp2_with fail
  refine (natural_Valid.calls sb true w1 hvb).mono ?_
  rintro e w2 ⟨rfl, hb2⟩
  have HB2 : Hid (Below w.heap.size w w2) := HB1.out.trans (hb2.mono HB1.out.size)
  clear hb2
  go_wp2_with fail
  refine (natural_read.calls 5 sa la w2 hra).mono ?_
  rintro e w3 ⟨va, rfl, hr3, hb3⟩
  have hA3 := Lib.hid (Kd.R_lower hr3 HB2.out.size)
  have HB3 : Hid (Below w.heap.size w w3) := HB2.out.trans (hb3.mono HB2.out.size)
  clear hr3 hb3
  go_wp2_with fail
  refine (natural_read.calls 5 sb lb w3 hrb).mono ?_
  rintro e w4 ⟨vb, rfl, hr4, hb4⟩
  have hA4 := Lib.hid (Kd.R_below hA3.out (hb4.mono (Nat.le_refl _)))
  have hB4 := Lib.hid (Kd.R_lower hr4 HB3.out.size)
  have HB4 : Hid (Below w.heap.size w w4) := HB3.out.trans (hb4.mono HB3.out.size)
  clear hr4 hb4
  go_wp2_with fail
  obtain ⟨A1, c1, rfl, hc1, k1⟩ := Kd.R_reads hA4.out
  obtain ⟨A2, c2, rfl, hc2, k2⟩ := Kd.R_reads hB4.out
  have hdc := div_calls a b ha hb1 hb A1 A2 c1 c2 la lb HLA.out.symm HLB.out.symm w4 k1 k2 hc1 hc2
  rw [HQ.out, HR.out] at hdc
  refine hdc.mono ?_
  rintro e w5 ⟨v1, v2, rfl, hr5, hs5, hb5⟩
  have HB5 : Hid (Below w.heap.size w w5) := HB4.out.trans (hb5.mono HB4.out.size)
  have HQ5 := Lib.hid hr5
  have HR5 := Lib.hid hs5
  clear hr5 hs5 hb5 hdc k1 k2 hc1 hc2
  go_wp2_with fail
  obtain ⟨lq, hlq⟩ : ∃ l, limbsN Q = l := ⟨_, rfl⟩
  obtain ⟨lr, hlr⟩ : ∃ l, limbsN R = l := ⟨_, rfl⟩
  rw [hlq] at HQ5
  rw [hlr] at HR5
  obtain ⟨A5, c5, rfl, hc5, k5⟩ := Kd.R_reads HQ5.out
  have HLR := Lib.hid hlr
  refine (text_calls Q hQl A5 c5 lq hlq.symm w5 k5 hc5 (HT.out.below HB5.out)).mono ?_
  rintro e w6 ⟨rfl, hb6⟩
  have HB6 : Hid (Below w.heap.size w w6) := HB5.out.trans (hb6.mono HB5.out.size)
  have HR6 := Lib.hid (Kd.R_below HR5.out (hb6.mono (Nat.le_refl _)))
  clear hb6 k5 hc5 hlq hlr
  go_wp2_with fail
  obtain ⟨A6, c6, rfl, hc6, k6⟩ := Kd.R_reads HR6.out
  refine (text_calls R hRl A6 c6 lr HLR.out.symm w6 k6 hc6 (HT.out.below HB6.out)).mono ?_
  rintro e w7 ⟨rfl, hb7⟩
  have HB7 : Hid (Below w.heap.size w w7) := HB6.out.trans (hb7.mono HB6.out.size)
  clear hb7 k6 hc6
  go_wp2_with fail
  go_ret3
  exact ⟨rfl, HB7.out⟩

def natural_Div.f (a0 a1 : ByteArray) : Option (ByteArray × ByteArray × Int) :=
  if a0 = decN (natV a0) ∧ a1 = decN (natV a1) ∧ natV a0 < 1000000000 ∧ 1 ≤ natV a1 ∧ natV a1 < 1000000000 then some (decN (natV a0 / natV a1), decN (natV a0 % natV a1), 0) else none
theorem div_dec (a b : Nat) (ha : a < 1000000000) (hb1 : 1 ≤ b) (hb : b < 1000000000) : natural_Div.f (decN a) (decN b) = some (decN (a / b), decN (a % b), 0) := by
  unfold natural_Div.f
  rw [natV_dec, natV_dec, if_pos ⟨rfl, rfl, ha, hb1, hb⟩]
theorem natural_Div.calls (a0 a1 : ByteArray) (r1 r2 : ByteArray) (r3 : Int) (w : World) (hT : Tabs w) (h : natural_Div.f a0 a1 = some (r1, r2, r3)) :
    Calls Tryz.prog 37 #[.string a0, .string a1] w fun e w' => e = .returned (.tuple #[.string r1, .string r2, .int .i64 r3]) ∧ Below w.heap.size w w' := by
  unfold natural_Div.f at h
  split at h
  · rename_i hh
    obtain ⟨h1, h2, h3, h4, h5⟩ := hh
    have e := Option.some.inj h
    injection e with e1 e
    injection e with e2 e3
    subst e1 e2 e3
    have := Div_calls (natV a0) (natV a1) _ _ rfl rfl (Nat.lt_of_le_of_lt (Nat.div_le_self _ _) h3) (Nat.lt_trans (Nat.mod_lt _ (by omega)) h5) h3 h4 h5 w hT
    rwa [← h1, ← h2] at this
  · exact absurd h (by simp)
def natural_Gcd.f (a0 a1 : ByteArray) : Option (ByteArray × Int) :=
  if a0 = decN (natV a0) ∧ a1 = decN (natV a1) ∧ natV a0 < 1000000000 ∧ natV a1 < 1000000000 then some (decN (Nat.gcd (natV a0) (natV a1)), 0) else none
theorem gcd_dec (a b : Nat) (ha : a < 1000000000) (hb : b < 1000000000) : natural_Gcd.f (decN a) (decN b) = some (decN (Nat.gcd a b), 0) := by
  unfold natural_Gcd.f
  rw [natV_dec, natV_dec, if_pos ⟨rfl, rfl, ha, hb⟩]
theorem natural_Gcd.calls (a0 a1 : ByteArray) (r1 : ByteArray) (r2 : Int) (w : World) (hT : Tabs w) (h : natural_Gcd.f a0 a1 = some (r1, r2)) :
    Calls Tryz.prog 54 #[.string a0, .string a1] w fun e w' => e = .returned (.tuple #[.string r1, .int .i64 r2]) ∧ Below w.heap.size w w' := by
  unfold natural_Gcd.f at h
  split at h
  · rename_i hh
    obtain ⟨h1, h2, h3, h4⟩ := hh
    have e := Option.some.inj h
    injection e with e1 e2
    subst e1 e2
    have := Gcd_calls (natV a0) (natV a1) _ rfl (gcd_lt _ _ h3 h4) h3 h4 w hT
    rwa [← h1, ← h2] at this
  · exact absurd h (by simp)
end Go.Proofs.YtlhfgjblcckifaaGreatDoor.Dg
