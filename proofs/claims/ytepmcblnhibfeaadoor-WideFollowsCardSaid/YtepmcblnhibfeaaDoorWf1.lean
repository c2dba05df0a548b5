/- Whole numbers as the nearest double: the sticky bit, the half's bit, the order. -/
import Derived.Test.YtepmcblnhibfeaaDoorWf0
namespace Go.Proofs.YtepmcblnhibfeaaDoor.Wf
open Ieee

theorem or_one (T : Nat) : T ||| 1 = T + (1 - T % 2) := by
  have h : T = 2 ^ 1 * (T / 2) ||| T % 2 := by
    rw [← Nat.two_pow_add_eq_or_of_lt (by omega)]; omega
  have h2 : T % 2 ||| 1 = 1 := by
    rcases Nat.mod_two_eq_zero_or_one T with e | e <;> rw [e] <;> decide
  have h3 : T ||| 1 = 2 ^ 1 * (T / 2) ||| 1 := by
    conv => lhs; rw [h]
    rw [Nat.or_assoc, h2]
  rw [h3, ← Nat.two_pow_add_eq_or_of_lt (by omega)]
  omega

/-- The top bits, the rest told by the last of them. -/
def sticky (N k : Nat) : Nat := if N % 2 ^ k = 0 then N / 2 ^ k else N / 2 ^ k + (1 - N / 2 ^ k % 2)

theorem rnd_sticky (N k : Nat) : rnd (sticky N k) 11 = rnd N (11 + k) := by
  have hp : 0 < 2 ^ k := Nat.two_pow_pos k
  have e1 : 2 ^ (11 + k) = 2 ^ k * 2048 := by rw [Nat.pow_add]; omega
  have e2 : N / (2 ^ k * 2048) = N / 2 ^ k / 2048 := by rw [Nat.div_div_eq_div_mul]
  have e3 : N % (2 ^ k * 2048) = N % 2 ^ k + 2 ^ k * (N / 2 ^ k % 2048) := Nat.mod_mul
  have hl : N % 2 ^ k < 2 ^ k := Nat.mod_lt _ hp
  unfold rnd
  rw [e1, e2, e3]
  unfold sticky
  generalize hT : N / 2 ^ k = T
  generalize hlow : N % 2 ^ k = low at *
  generalize 2 ^ k = p at *
  have h11 : 2 ^ 11 = 2048 := rfl
  rw [h11]
  obtain ⟨t, ht⟩ : ∃ t, t = T % 2048 := ⟨_, rfl⟩
  rw [← ht]
  have htl : t < 2048 := by omega
  rcases Nat.lt_trichotomy t 1024 with h | h | h
  · have hm : p * t ≤ p * 1023 := Nat.mul_le_mul_left _ (by omega)
    rw [if_neg (c := p * 2048 < _ ∨ _) (by omega)]
    split
    · rw [if_neg (by omega)]
    · rw [if_neg (by omega)]; omega
  · subst h
    rw [show p * 1024 = 1024 * p by omega]
    by_cases h0 : low = 0
    · subst h0
      rw [if_pos (c := (0 : Nat) = 0) rfl]
      by_cases ho : T / 2048 % 2 = 1
      · rw [if_pos (by omega), if_pos (by omega)]
      · rw [if_neg (by omega), if_neg (by omega)]
    · rw [if_neg (c := low = 0) h0, if_pos (by omega), if_pos (by omega)]; omega
  · have hm : p * 1025 ≤ p * t := Nat.mul_le_mul_left _ (by omega)
    rw [if_pos (c := p * 2048 < _ ∨ _) (by omega)]
    split
    · rw [if_pos (by omega)]
    · rw [if_pos (by omega)]; omega

theorem log2_eq {N L : Nat} (h1 : 2 ^ L ≤ N) (h2 : N < 2 ^ (L + 1)) : N.log2 = L := by
  have h0 : N ≠ 0 := by have := Nat.two_pow_pos L; omega
  have a := (Nat.le_log2 h0).2 h1
  have b := (Nat.log2_lt h0).2 h2
  omega

/-- The rung of a number of more than 64 bits is that of its top bits, so many binades up. -/
theorem rung_sticky {N k : Nat} (h1 : 9223372036854775808 ≤ N / 2 ^ k) (h2 : N / 2 ^ k < 18446744073709551616) :
    rung N = rung (sticky N k) + k * 4503599627370496 ∧ 9223372036854775808 ≤ sticky N k ∧ sticky N k < 18446744073709551616 := by
  have hp : 0 < 2 ^ k := Nat.two_pow_pos k
  have hs : 9223372036854775808 ≤ sticky N k ∧ sticky N k < 18446744073709551616 := by unfold sticky; split <;> omega
  have hL : N.log2 = 63 + k := by
    apply log2_eq
    · rw [Nat.pow_add]; exact (Nat.le_div_iff_mul_le hp).1 h1
    · rw [show 63 + k + 1 = 64 + k by omega, Nat.pow_add]; exact (Nat.div_lt_iff_lt_mul hp).1 h2
  have hS : (sticky N k).log2 = 63 := log2_eq hs.1 hs.2
  have hN : N ≠ 0 := by rintro rfl; simp at h1
  refine ⟨?_, hs⟩
  rw [rung, if_neg hN, rung, if_neg (by omega), hL, hS, sig, if_neg (by omega), sig, if_neg (by omega), hL, hS, show 63 + k - 52 = 11 + k by omega, show 63 - 52 = 11 by omega, rnd_sticky]
  omega

/-- By the half's bit and what is below it. -/
theorem rnd_half (N i : Nat) : rnd N (i + 1) = N / 2 ^ (i + 1) + (if N / 2 ^ i % 2 = 1 ∧ (N % 2 ^ i ≠ 0 ∨ N / 2 ^ (i + 1) % 2 = 1) then 1 else 0) := by
  have hp : 0 < 2 ^ i := Nat.two_pow_pos i
  have e1 : 2 ^ (i + 1) = 2 ^ i * 2 := Nat.pow_succ 2 i
  have e3 : N % (2 ^ i * 2) = N % 2 ^ i + 2 ^ i * (N / 2 ^ i % 2) := Nat.mod_mul
  have hl : N % 2 ^ i < 2 ^ i := Nat.mod_lt _ hp
  unfold rnd
  rw [e1, e3]
  generalize N / (2 ^ i * 2) = q
  generalize N % 2 ^ i = low at *
  generalize 2 ^ i = p at *
  congr 1
  rcases Nat.mod_two_eq_zero_or_one (N / p) with e | e
  · rw [e, Nat.mul_zero, if_neg (by omega), if_neg (by omega)]
  · rw [e, Nat.mul_one]
    by_cases h0 : low = 0
    · subst h0
      by_cases h1 : q % 2 = 1
      · rw [if_pos (by omega), if_pos (by omega)]
      · rw [if_neg (by omega), if_neg (by omega)]
    · rw [if_pos (by omega), if_pos (by omega)]

/-! The order. -/

theorem rnd_mono {a b : Nat} (d : Nat) (h : a ≤ b) : rnd a d ≤ rnd b d := by
  have hd : a / 2 ^ d ≤ b / 2 ^ d := Nat.div_le_div_right h
  unfold rnd
  rcases Nat.lt_or_ge (a / 2 ^ d) (b / 2 ^ d) with hlt | hge
  · split <;> split <;> omega
  · have e : a / 2 ^ d = b / 2 ^ d := by omega
    have ea := Nat.div_add_mod a (2 ^ d)
    have eb := Nat.div_add_mod b (2 ^ d)
    rw [e] at ea
    rw [e]
    generalize 2 ^ d * (b / 2 ^ d) = m at *
    split
    · split
      · omega
      · omega
    · omega

theorem rung_mono {a b : Nat} (h : a ≤ b) : rung a ≤ rung b := by
  by_cases ha : a = 0
  · subst ha; rw [rung, if_pos rfl]; omega
  · have hb : b ≠ 0 := by omega
    have hl : a.log2 ≤ b.log2 := by
      rw [Nat.le_log2 hb]; exact Nat.le_trans (Nat.log2_self_le ha) h
    have sa := sig_between ha
    have sb := sig_between hb
    rw [rung, if_neg ha, rung, if_neg hb]
    rcases Nat.lt_or_ge a.log2 b.log2 with hlt | hge
    · omega
    · have e : a.log2 = b.log2 := by omega
      have : sig a ≤ sig b := by
        unfold sig; rw [e]
        split
        · exact Nat.mul_le_mul_right _ h
        · exact rnd_mono _ h
      omega

end Go.Proofs.YtepmcblnhibfeaaDoor.Wf
