/- Whole numbers as the nearest double: the word, by numbers alone. -/
import Ieee.Arith
namespace Go.Proofs.YtepmcblnhibfeaaDoor.Wf
open Ieee

/-- n / 2^d to the nearest whole number; between two the even one. -/
def rnd (n d : Nat) : Nat := n / 2 ^ d + (if 2 ^ d < 2 * (n % 2 ^ d) ∨ (2 ^ d = 2 * (n % 2 ^ d) ∧ n / 2 ^ d % 2 = 1) then 1 else 0)

/-- The significand, 2^52 to 2^53. -/
def sig (N : Nat) : Nat := if N.log2 ≤ 52 then N * 2 ^ (52 - N.log2) else rnd N (N.log2 - 52)

/-- The rung of a whole number. -/
def rung (N : Nat) : Nat := if N = 0 then 0 else (N.log2 + 1022) * 4503599627370496 + sig N

theorem cut_even (neg : Bool) (n d : Nat) (h : d ≤ n.log2 + 2) : Toward.even.cut neg n d = rnd n d := by
  unfold Toward.cut rnd
  rw [Nat.min_eq_left h, Nat.one_shiftLeft]
  simp only
  congr 1
  by_cases h1 : 2 ^ d < 2 * (n % 2 ^ d)
  · simp [h1]
  · by_cases h2 : 2 ^ d = 2 * (n % 2 ^ d)
    · by_cases h3 : n / 2 ^ d % 2 = 1
      · simp [← h2, h3]
      · simp [← h2, h3]
    · simp [h1, h2]

theorem rnd_zero (n : Nat) : rnd n 0 = n := by
  unfold rnd
  rw [Nat.pow_zero, Nat.div_one, Nat.mod_one, if_neg (by omega)]
  omega

theorem log2_shl (N k : Nat) (h : N ≠ 0) : (N * 2 ^ k).log2 = N.log2 + k := by
  have hp : 0 < 2 ^ k := Nat.two_pow_pos k
  have hne : N * 2 ^ k ≠ 0 := Nat.mul_ne_zero h (by omega)
  have h1 := Nat.log2_self_le h
  have h2 := Nat.lt_log2_self (n := N)
  apply Nat.le_antisymm
  · apply Nat.le_of_lt_succ
    rw [Nat.log2_lt hne, show (N.log2 + k).succ = (N.log2 + 1) + k by omega, Nat.pow_add]
    exact Nat.mul_lt_mul_of_pos_right h2 hp
  · rw [Nat.le_log2 hne, Nat.pow_add]
    exact Nat.mul_le_mul_right _ h1

theorem pow_split {a b : Nat} (h : a ≤ b) : 2 ^ b = 2 ^ a * 2 ^ (b - a) := by rw [← Nat.pow_add]; congr 1; omega

theorem rnd_between {N : Nat} (h : N ≠ 0) (h52 : 52 < N.log2) : 4503599627370496 ≤ N / 2 ^ (N.log2 - 52) ∧ N / 2 ^ (N.log2 - 52) < 9007199254740992 := by
  have h1 := Nat.log2_self_le h
  have h2 := Nat.lt_log2_self (n := N)
  have hp : 0 < 2 ^ (N.log2 - 52) := Nat.two_pow_pos _
  constructor
  · rw [Nat.le_div_iff_mul_le hp]
    rw [pow_split (a := 52) (b := N.log2) (by omega)] at h1
    exact h1
  · rw [Nat.div_lt_iff_lt_mul hp]
    rw [pow_split (a := 53) (b := N.log2 + 1) (by omega), show N.log2 + 1 - 53 = N.log2 - 52 by omega] at h2
    exact h2

theorem sig_between {N : Nat} (h : N ≠ 0) : 4503599627370496 ≤ sig N ∧ sig N ≤ 9007199254740992 := by
  unfold sig
  split
  · rename_i h52
    have h1 := Nat.log2_self_le h
    have h2 := Nat.lt_log2_self (n := N)
    have hp : 0 < 2 ^ (52 - N.log2) := Nat.two_pow_pos _
    have e1 := pow_split (a := N.log2) (b := 52) h52
    have e2 := pow_split (a := N.log2 + 1) (b := 53) (by omega)
    rw [show 53 - (N.log2 + 1) = 52 - N.log2 by omega] at e2
    have m1 := Nat.mul_le_mul_right (2 ^ (52 - N.log2)) h1
    have m2 := Nat.mul_le_mul_right (2 ^ (52 - N.log2)) (Nat.le_of_lt h2)
    rw [← e1] at m1
    rw [← e2] at m2
    exact ⟨m1, m2⟩
  · rename_i h52
    have := rnd_between h (by omega)
    unfold rnd
    split <;> omega

theorem least_double : double.leastPlace = -1074 := by decide
theorem binade_double : double.binade = 4503599627370496 := by decide
theorem inf_double : double.infRung = 9218868437227405312 := by decide
theorem sign_double : double.signWeight = 9223372036854775808 := by decide

theorem rung_lt {N : Nat} (h : N < 2 ^ 128) : rung N < 9218868437227405312 := by
  unfold rung
  split
  · omega
  · rename_i h0
    have := sig_between h0
    have : N.log2 < 128 := (Nat.log2_lt h0).2 h
    omega

theorem nearest_eq (neg : Bool) {N : Nat} (h : N < 2 ^ 128) : double.nearest neg N 0 = double.word neg (rung N) := by
  by_cases h0 : N = 0
  · subst h0; simp [Format.nearest, rung]
  · have hb := rung_lt h
    unfold Format.nearest
    rw [if_neg h0, least_double, binade_double, inf_double]
    have hf : ((double.fractionBits : Nat) : Int) = 52 := by decide
    simp only [hf]
    have hl : max ((0 : Int) + (N.log2 : Nat) - 52) (-1074) = (N.log2 : Int) - 52 := by omega
    rw [hl]
    have key : ((N.log2 : Int) - 52 - -1074).toNat * 4503599627370496 + Toward.even.cut neg (N <<< (0 - ((N.log2 : Int) - 52)).toNat) ((N.log2 : Int) - 52 - 0).toNat = rung N := by
      rw [rung, if_neg h0, show ((N.log2 : Int) - 52 - -1074).toNat = N.log2 + 1022 by omega]
      congr 1
      unfold sig
      split
      · rename_i h52
        rw [show ((N.log2 : Int) - 52 - 0).toNat = 0 by omega, show (0 - ((N.log2 : Int) - 52)).toNat = 52 - N.log2 by omega, cut_even _ _ _ (by omega), rnd_zero, Nat.shiftLeft_eq]
      · rename_i h52
        rw [show ((N.log2 : Int) - 52 - 0).toNat = N.log2 - 52 by omega, show (0 - ((N.log2 : Int) - 52)).toNat = 0 by omega, Nat.shiftLeft_zero, cut_even _ _ _ (by omega)]
    rw [key, Nat.min_eq_left (by omega)]

end Go.Proofs.YtepmcblnhibfeaaDoor.Wf
