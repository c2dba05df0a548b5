/- Plain arithmetic of a division of two digits by one, each digit below B (Knuth's algorithm D, one step). -/
import Derived.WalkKit
namespace Go.Proofs.Ytonacegkhkncmaa.DivM
set_option linter.unusedVariables false

/-- The step's invariant: qh and rh make up the upper digits, and qh is not below the quotient. -/
structure Inv (B y1 y0 u32 u1 qh rh : Nat) : Prop where
  sum : qh * y1 + rh = u32
  ge : (u32 * B + u1) / (y1 * B + y0) ≤ qh

theorem ypos {B y1 y0 : Nat} (hB : 1 < B) (hy : B ≤ 2 * y1) : 0 < y1 * B + y0 := by
  have : 0 < y1 := by omega
  have := Nat.mul_pos this (show 0 < B by omega)
  omega

theorem quo_lt {B y1 y0 u32 u1 : Nat} (hu : u32 < y1 * B + y0) (h1 : u1 < B) : (u32 * B + u1) / (y1 * B + y0) < B := by
  rw [Nat.div_lt_iff_lt_mul (by omega)]
  have : (u32 + 1) * B ≤ (y1 * B + y0) * B := Nat.mul_le_mul_right _ (by omega)
  rw [Nat.add_mul, Nat.one_mul] at this
  rw [Nat.mul_comm B]; omega

theorem inv_start {B y1 y0 u32 u1 : Nat} (hy1 : 0 < y1) (h1 : u1 < B) (hB : 0 < B) : Inv B y1 y0 u32 u1 (u32 / y1) (u32 - u32 / y1 * y1) := by
  have hd := Nat.div_add_mod u32 y1
  rw [Nat.mul_comm] at hd
  refine ⟨by omega, ?_⟩
  have h2 : (u32 * B + u1) / (y1 * B + y0) ≤ (u32 * B + u1) / (y1 * B) := Nat.div_le_div_left (by omega) (Nat.mul_pos hy1 hB)
  have h3 : (u32 * B + u1) / (y1 * B) = u32 / y1 := by
    rw [Nat.mul_comm y1 B, ← Nat.div_div_eq_div_mul, Nat.mul_comm u32 B, Nat.mul_add_div hB, Nat.div_eq_of_lt h1, Nat.add_zero]
  omega

/-- The test says yes: the next candidate. -/
theorem inv_next {B y1 y0 u32 u1 qh rh : Nat} (h : Inv B y1 y0 u32 u1 qh rh) (hu : u32 < y1 * B + y0) (h1 : u1 < B) (ht : B ≤ qh ∨ B * rh + u1 < qh * y0) : 0 < qh ∧ Inv B y1 y0 u32 u1 (qh - 1) (rh + y1) := by
  have hq := quo_lt hu h1
  have hgt : (u32 * B + u1) / (y1 * B + y0) < qh := by
    rcases ht with ht | ht
    · omega
    · rw [Nat.div_lt_iff_lt_mul (by omega), Nat.mul_add, ← Nat.mul_assoc, ← h.sum, Nat.add_mul]
      rw [Nat.mul_comm B] at ht; omega
  have hpos : 0 < qh := Nat.lt_of_le_of_lt (Nat.zero_le _) hgt
  refine ⟨hpos, ?_, Nat.le_sub_one_of_lt hgt⟩
  obtain ⟨k, rfl⟩ : ∃ k, qh = k + 1 := ⟨qh - 1, by omega⟩
  have := h.sum
  rw [Nat.add_mul, Nat.one_mul] at this
  simp; omega

/-- It says no: qh is the quotient. -/
theorem inv_end {B y1 y0 u32 u1 qh rh : Nat} (h : Inv B y1 y0 u32 u1 qh rh) (hy : 0 < y1 * B + y0) (ht : qh * y0 ≤ B * rh + u1) : qh = (u32 * B + u1) / (y1 * B + y0) := by
  have : qh ≤ (u32 * B + u1) / (y1 * B + y0) := by
    rw [Nat.le_div_iff_mul_le hy, Nat.mul_add, ← Nat.mul_assoc, ← h.sum, Nat.add_mul]
    rw [Nat.mul_comm B] at ht; omega
  have := h.ge
  omega

/-- The break: qh is the quotient as well. -/
theorem inv_break {B y1 y0 u32 u1 qh rh : Nat} (h : Inv B y1 y0 u32 u1 qh rh) (hy1 : 0 < y1) (hy0 : y0 < B) (hu : u32 < y1 * B + y0) (hr : B ≤ rh) : qh < B ∧ qh = (u32 * B + u1) / (y1 * B + y0) := by
  have hs := h.sum
  have hqB : qh < B := by
    apply Classical.byContradiction; intro hn
    have : B * y1 ≤ qh * y1 := Nat.mul_le_mul_right _ (by omega)
    rw [Nat.mul_comm B] at this; omega
  refine ⟨hqB, inv_end h (by have := Nat.mul_pos hy1 (show 0 < B by omega); omega) ?_⟩
  have a : qh * y0 ≤ B * B := Nat.mul_le_mul (by omega) (by omega)
  have b : B * B ≤ B * rh := Nat.mul_le_mul_left _ hr
  omega

theorem qh_le {B y1 y0 u32 u1 qh rh : Nat} (h : Inv B y1 y0 u32 u1 qh rh) (hy1 : B ≤ 2 * y1) (hy0 : y0 < B) (hB : 1 < B) (hu : u32 < y1 * B + y0) : qh ≤ B + 1 := by
  have hs := h.sum
  apply Classical.byContradiction; intro hn
  have : (B + 2) * y1 ≤ qh * y1 := Nat.mul_le_mul_right _ (by omega)
  rw [Nat.add_mul, Nat.mul_comm B] at this; omega

/-- Two steps, and the digits put together. -/
theorem two_steps {B y U u1 u0 : Nat} (hy : 0 < y) (hB : 0 < B) (h0 : u0 < B) :
    ((U * B + u1) * B + u0) / y = (U * B + u1) / y * B + ((U * B + u1) % y * B + u0) / y ∧ ((U * B + u1) * B + u0) % y = ((U * B + u1) % y * B + u0) % y := by
  have hd := Nat.div_add_mod (U * B + u1) y
  generalize (U * B + u1) = X at *
  have e : X * B + u0 = y * (X / y * B) + (X % y * B + u0) := by
    calc X * B + u0 = (y * (X / y) + X % y) * B + u0 := by rw [hd]
      _ = y * (X / y * B) + (X % y * B + u0) := by rw [Nat.add_mul, Nat.mul_assoc, Nat.add_assoc]
  constructor
  · rw [e, Nat.mul_add_div hy]
  · rw [e, Nat.mul_add_mod]
end Go.Proofs.Ytonacegkhkncmaa.DivM
