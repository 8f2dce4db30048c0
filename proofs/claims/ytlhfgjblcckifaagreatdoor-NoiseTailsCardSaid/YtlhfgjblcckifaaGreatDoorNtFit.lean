/-
  The plain side of rational.Compare at two quotients in lowest terms that are not negative, numbers below 10^9.
-/
import Derived.Test.YtlhfgjblcckifaaGreatDoorNtVal
set_option linter.unusedVariables false
set_option linter.unusedSimpArgs false
namespace Go.Proofs.YtlhfgjblcckifaaGreatDoor.Dg
open Go.RowKit Go.Shelf
open Go.Proofs.YtlhfgjblcckifaaGreatDoor.PA
open Go.Proofs.YtlhfgjblcckifaaGreatDoorW.PrintWords Go.Proofs.YtlhfgjblcckifaaGreatDoorW.PrintMore Go.Proofs.YtlhfgjblcckifaaGreatDoorW.PrintLast

def ratI (n1 d1 n2 d2 : Nat) : Int := if n1 = n2 ∧ d1 = d2 then 0 else if n1 * d2 < n2 * d1 then -1 else 1

/-! ### the Euclidean step -/
theorem step_lt (p0 p1 q0 q1 : Nat) (hp : 1 ≤ p1) (hq : 1 ≤ q1) (h : p0 / p1 < q0 / q1) : p0 * q1 < q0 * p1 := by
  have e1 : p0 < p1 * (p0 / p1 + 1) := by
    have := Nat.div_add_mod p0 p1
    have := Nat.mod_lt p0 (show p1 > 0 by omega)
    rw [Nat.mul_add, Nat.mul_one]; omega
  have e2 : q1 * (q0 / q1) ≤ q0 := Nat.mul_div_le q0 q1
  have a1 : p0 * q1 < p1 * (p0 / p1 + 1) * q1 := Nat.mul_lt_mul_of_pos_right e1 (by omega)
  have a2 : p1 * (p0 / p1 + 1) * q1 ≤ p1 * (q0 / q1) * q1 := Nat.mul_le_mul_right _ (Nat.mul_le_mul_left _ h)
  have a3 : p1 * (q0 / q1) * q1 = p1 * (q1 * (q0 / q1)) := by rw [Nat.mul_assoc, Nat.mul_comm q1]
  have a4 : p1 * (q1 * (q0 / q1)) ≤ p1 * q0 := Nat.mul_le_mul_left _ e2
  rw [Nat.mul_comm q0 p1]; omega
theorem step_eq (p0 p1 q0 q1 : Nat) (h : p0 / p1 = q0 / q1) : ∃ c, p0 * q1 = c + q1 * (p0 % p1) ∧ q0 * p1 = c + p1 * (q0 % q1) := by
  refine ⟨p1 * (p0 / p1) * q1, ?_, ?_⟩
  · conv => lhs; rw [← Nat.div_add_mod p0 p1]
    rw [Nat.add_mul, Nat.mul_comm (p0 % p1)]
  · conv => lhs; rw [← Nat.div_add_mod q0 q1]
    rw [Nat.add_mul, Nat.mul_comm (q0 % q1), h]
    congr 1
    rw [Nat.mul_comm q1, Nat.mul_comm p1, Nat.mul_assoc, Nat.mul_assoc, Nat.mul_comm q1 p1]
theorem cross_ne (n1 d1 n2 d2 : Nat) (h1 : Low n1 d1) (h2 : Low n2 d2) (hne : ¬ (n1 = n2 ∧ d1 = d2)) : n1 * d2 ≠ n2 * d1 := by
  intro e
  obtain ⟨a1, a2, a3, a4, a5⟩ := h1
  obtain ⟨b1, b2, b3, b4, b5⟩ := h2
  have c1 : Nat.Coprime n1 d1 := a5
  have c2 : Nat.Coprime n2 d2 := b5
  have k1 : d1 ∣ d2 := by
    have : d1 ∣ n1 * d2 := ⟨n2, by rw [e, Nat.mul_comm]⟩
    exact c1.symm.dvd_of_dvd_mul_left this
  have k2 : d2 ∣ d1 := by
    have : d2 ∣ n2 * d1 := ⟨n1, by rw [← e, Nat.mul_comm]⟩
    exact c2.symm.dvd_of_dvd_mul_left this
  have k3 : d1 = d2 := Nat.dvd_antisymm k1 k2
  subst k3
  exact hne ⟨Nat.eq_of_mul_eq_mul_right (by omega) e, rfl⟩

/-- What a round of the comparison begins with. -/
def Fit (P0 P1 Q0 Q1 : Nat) (x0 x1 y0 y1 : ByteArray) (R : Int) : Prop :=
  x0 = decN P0 ∧ x1 = decN P1 ∧ y0 = decN Q0 ∧ y1 = decN Q1 ∧ P0 < 1000000000 ∧ 1 ≤ P1 ∧ P1 < 1000000000 ∧ Q0 < 1000000000 ∧ 1 ≤ Q1 ∧ Q1 < 1000000000 ∧ P0 * Q1 ≠ Q0 * P1 ∧ R = if P0 * Q1 < Q0 * P1 then -1 else 1
theorem fit_zero {P0 P1 Q0 Q1 : Nat} {x0 x1 y0 y1 : ByteArray} {R : Int} (h : P1 + Q1 ≤ 0) (hf : Fit P0 P1 Q0 Q1 x0 x1 y0 y1 R) : False := by
  have := hf.2.2.2.2.2.1
  omega
theorem fit_ne {P0 P1 Q0 Q1 : Nat} {x0 x1 y0 y1 : ByteArray} {R : Int} (hf : Fit P0 P1 Q0 Q1 x0 x1 y0 y1 R) (h : P0 / P1 ≠ Q0 / Q1) : cmpI (P0 / P1) (Q0 / Q1) = R ∧ cmpI (P0 / P1) (Q0 / Q1) ≠ 0 := by
  obtain ⟨_, _, _, _, _, hp1, _, _, hq1, _, hne, hR⟩ := hf
  unfold cmpI
  rw [if_neg h, hR]
  by_cases q : P0 / P1 < Q0 / Q1
  · rw [if_pos q, if_pos (step_lt P0 P1 Q0 Q1 hp1 hq1 q)]
    exact ⟨rfl, by decide⟩
  · have q2 : Q0 / Q1 < P0 / P1 := by
      generalize P0 / P1 = a at *
      generalize Q0 / Q1 = b at *
      omega
    have q3 := step_lt Q0 Q1 P0 P1 hq1 hp1 q2
    rw [if_neg q, if_neg (Nat.not_lt.2 (Nat.le_of_lt q3))]
    exact ⟨rfl, by decide⟩
theorem fit_eq {P0 P1 Q0 Q1 : Nat} {x0 x1 y0 y1 : ByteArray} {R : Int} (hf : Fit P0 P1 Q0 Q1 x0 x1 y0 y1 R) (h : P0 / P1 = Q0 / Q1) : Q1 * (P0 % P1) ≠ P1 * (Q0 % Q1) ∧ R = if Q1 * (P0 % P1) < P1 * (Q0 % Q1) then -1 else 1 := by
  obtain ⟨_, _, _, _, _, hp1, _, _, hq1, _, hne, hR⟩ := hf
  obtain ⟨C, e1, e2⟩ := step_eq P0 P1 Q0 Q1 h
  rw [e1, e2] at hne hR
  rw [hR]
  generalize Q1 * (P0 % P1) = a at *
  generalize P1 * (Q0 % Q1) = b at *
  refine ⟨by omega, ?_⟩
  by_cases q : a < b
  · rw [if_pos q, if_pos (by omega)]
  · rw [if_neg q, if_neg (by omega)]
theorem fit_calls {P0 P1 Q0 Q1 : Nat} {x0 x1 y0 y1 : ByteArray} {R : Int} (hf : Fit P0 P1 Q0 Q1 x0 x1 y0 y1 R) : ∃ (sm sr sn ss : ByteArray) (cm : Int) (m r n s : Nat),
    Hid (∀ W : World, Tabs W → Calls Tryz.prog 37 #[.string x0, .string x1] W fun e w' => e = .returned (.tuple #[.string sm, .string sr, .int .i64 0]) ∧ Below W.heap.size W w') ∧
    Hid (∀ W : World, Tabs W → Calls Tryz.prog 37 #[.string y0, .string y1] W fun e w' => e = .returned (.tuple #[.string sn, .string ss, .int .i64 0]) ∧ Below W.heap.size W w') ∧
    Hid (∀ W : World, Calls Tryz.prog 38 #[.string sm, .string sn] W fun e w' => e = .returned (.int .i64 cm) ∧ Below W.heap.size W w') ∧
    ((cm ≠ 0 ∧ cm = R) ∨ (cm = 0 ∧ ((sr = ⟨#[48]⟩ ∧ (-1 : Int) = R) ∨ ((sr.toList == ([48] : List UInt8)) = false ∧ ((ss = ⟨#[48]⟩ ∧ (1 : Int) = R) ∨ ((ss.toList == ([48] : List UInt8)) = false ∧ s + r < P1 + Q1 ∧ Fit Q1 s P1 r y1 ss x1 sr R)))))) := by
  have hf2 := hf
  obtain ⟨hx0, hx1, hy0, hy1, hp0, hp1, hp2, hq0, hq1, hq2, hne, hR⟩ := hf2
  have hlt1 : P0 % P1 < P1 := Nat.mod_lt _ (by omega)
  have hlt2 : Q0 % Q1 < Q1 := Nat.mod_lt _ (by omega)
  have hm : P0 / P1 < 1000000000 := Nat.lt_of_le_of_lt (Nat.div_le_self P0 P1) hp0
  have hn : Q0 / Q1 < 1000000000 := Nat.lt_of_le_of_lt (Nat.div_le_self Q0 Q1) hq0
  refine ⟨decN (P0 / P1), decN (P0 % P1), decN (Q0 / Q1), decN (Q0 % Q1), cmpI (P0 / P1) (Q0 / Q1), P0 / P1, P0 % P1, Q0 / Q1, Q0 % Q1, ?_, ?_, ?_, ?_⟩
  · intro W hT
    rw [hx0, hx1]
    exact Div_calls P0 P1 _ _ rfl rfl hm (Nat.lt_trans hlt1 hp2) hp0 hp1 hp2 W hT
  · intro W hT
    rw [hy0, hy1]
    exact Div_calls Q0 Q1 _ _ rfl rfl hn (Nat.lt_trans hlt2 hq2) hq0 hq1 hq2 W hT
  · intro W
    exact Compare_calls _ _ hm hn _ _ rfl rfl W
  · by_cases h : P0 / P1 = Q0 / Q1
    · right
      obtain ⟨g1, g2⟩ := fit_eq hf h
      refine ⟨by unfold cmpI; rw [if_pos h], ?_⟩
      by_cases hr : P0 % P1 = 0
      · left
        refine ⟨by rw [hr, decN_zero], ?_⟩
        rw [hr, Nat.mul_zero] at g1 g2
        rw [g2, if_pos (Nat.pos_of_ne_zero (Ne.symm g1))]
      · right
        refine ⟨ne_lit _ _ 0 rfl [48] decN_zero hr, ?_⟩
        by_cases hs : Q0 % Q1 = 0
        · left
          refine ⟨by rw [hs, decN_zero], ?_⟩
          rw [hs, Nat.mul_zero] at g2
          rw [g2, if_neg (Nat.not_lt_zero _)]
        · right
          refine ⟨ne_lit _ _ 0 rfl [48] decN_zero hs, ?_, hy1, rfl, hx1, rfl, hq2, ?_, ?_, hp2, ?_, ?_, g1, g2⟩
          all_goals
            clear g1 g2 hne hR hf
            omega
    · left
      obtain ⟨g1, g2⟩ := fit_ne hf h
      exact ⟨g2, g1⟩

end Go.Proofs.YtlhfgjblcckifaaGreatDoor.Dg
