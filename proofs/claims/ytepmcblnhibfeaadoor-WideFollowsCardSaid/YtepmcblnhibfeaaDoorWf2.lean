/- Doubles as words: how they are read, compared, multiplied by one. -/
import Derived.Test.YtepmcblnhibfeaaDoorWf1
import Derived.Laws.FloatArith
namespace Go.Proofs.YtepmcblnhibfeaaDoor.Wf
open Ieee

/-- The parts of a finite word: r = k * 2^52 + m. -/
structure Parts (r k m : Nat) : Prop where
  eq : r = k * 4503599627370496 + m
  lt : m < 9007199254740992
  ge : 0 < k → 4503599627370496 ≤ m

theorem parts_of (r : Nat) : ∃ k m, Parts r k m ∧ (r < 9218868437227405312 → ∀ (neg : Bool), double.read (double.word neg r) = .number neg m (-1074 + (k : Int))) := by
  have hneg : ∀ neg : Bool, r < 9218868437227405312 → (double.word neg r / double.signWeight % 2 == 1) = neg ∧ double.word neg r % double.signWeight = r := by
    intro neg h
    rw [sign_double]
    cases neg
    · unfold Format.word; simp only [Bool.false_eq_true, if_false]
      constructor
      · rw [beq_eq_false_iff_ne]; omega
      · omega
    · unfold Format.word; simp only [if_true, sign_double]
      constructor
      · rw [beq_iff_eq]; omega
      · omega
  by_cases h : r < 4503599627370496
  · refine ⟨0, r, ⟨by omega, by omega, by omega⟩, fun hr neg => ?_⟩
    obtain ⟨h1, h2⟩ := hneg neg hr
    unfold Format.read
    simp only [h1, h2, binade_double, least_double]
    rw [if_pos h]; rfl
  · refine ⟨r / 4503599627370496 - 1, 4503599627370496 + r % 4503599627370496, ⟨by omega, by omega, by omega⟩, fun hr neg => ?_⟩
    obtain ⟨h1, h2⟩ := hneg neg hr
    unfold Format.read
    simp only [h1, h2, binade_double, least_double, inf_double]
    rw [if_neg h, if_pos hr]

theorem parts_lt {r k m r' k' m' : Nat} (h : Parts r k m) (h' : Parts r' k' m') (hk : k < k') : m * 2 ^ (k - min k k') < m' * 2 ^ (k' - min k k') ∧ r < r' := by
  have e1 : k - min k k' = 0 := by omega
  obtain ⟨d, hd⟩ : ∃ d, k' - min k k' = d + 1 := ⟨k' - k - 1, by omega⟩
  rw [e1, hd, Nat.pow_zero, Nat.mul_one, Nat.pow_succ]
  have hp : 1 ≤ 2 ^ d := Nat.one_le_two_pow
  have hg := h'.ge (by omega)
  have hl := h.lt
  have hm : 4503599627370496 * 1 ≤ m' * 2 ^ d := Nat.mul_le_mul hg hp
  rw [← Nat.mul_assoc]
  have := h.eq
  have := h'.eq
  omega

/-- Magnitudes stand as their rungs stand. -/
theorem parts_cmp {r k m r' k' m' : Nat} (h : Parts r k m) (h' : Parts r' k' m') :
    (m * 2 ^ (k - min k k') < m' * 2 ^ (k' - min k k') ↔ r < r') ∧ (m * 2 ^ (k - min k k') = m' * 2 ^ (k' - min k k') ↔ r = r') := by
  rcases Nat.lt_trichotomy k k' with hk | hk | hk
  · have := parts_lt h h' hk; omega
  · subst hk
    have e : k - min k k = 0 := by omega
    rw [e, Nat.pow_zero, Nat.mul_one, Nat.mul_one]
    have := h.eq
    have := h'.eq
    omega
  · have := parts_lt h' h hk
    rw [Nat.min_comm] at this
    omega

theorem parts_zero {r k m : Nat} (h : Parts r k m) (d : Nat) : m * 2 ^ d = 0 ↔ r = 0 := by
  have hp : 0 < 2 ^ d := Nat.two_pow_pos d
  have h1 := h.eq
  have h2 := h.ge
  constructor
  · intro e
    rcases Nat.mul_eq_zero.1 e with e | e
    · subst e; omega
    · omega
  · intro e
    have : m = 0 := by omega
    subst this; simp

/-- A sign before a number. -/
def sg (neg : Bool) (r : Nat) : Int := if neg then -(r : Int) else (r : Int)

theorem signed_eq (neg : Bool) (m d : Nat) : signed neg m d = sg neg (m * 2 ^ d) := by
  unfold signed sg; rw [Nat.shiftLeft_eq]

theorem cmp_sg {A A' r r' : Nat} (s s' : Bool) (h1 : A < A' ↔ r < r') (h2 : A = A' ↔ r = r') (z1 : A = 0 ↔ r = 0) (z2 : A' = 0 ↔ r' = 0) : compare (sg s A) (sg s' A') = compare (sg s r) (sg s' r') := by
  have e : ∀ x y : Int, compare x y = if x < y then Ordering.lt else if x = y then Ordering.eq else Ordering.gt := fun _ _ => rfl
  rw [e, e]
  have c1 : sg s A < sg s' A' ↔ sg s r < sg s' r' := by
    cases s <;> cases s' <;> simp only [sg, Bool.false_eq_true, if_false, if_true] <;> omega
  have c2 : sg s A = sg s' A' ↔ sg s r = sg s' r' := by
    cases s <;> cases s' <;> simp only [sg, Bool.false_eq_true, if_false, if_true] <;> omega
  by_cases g : sg s A < sg s' A'
  · rw [if_pos g, if_pos (c1.1 g)]
  · rw [if_neg g, if_neg (fun x => g (c1.2 x))]
    by_cases q : sg s A = sg s' A'
    · rw [if_pos q, if_pos (c2.1 q)]
    · rw [if_neg q, if_neg (fun x => q (c2.2 x))]

/-- Two finite words stand as their rungs with their signs. -/
theorem order_words {r r' : Nat} (s s' : Bool) (h : r < 9218868437227405312) (h' : r' < 9218868437227405312) : double.order (double.word s r) (double.word s' r') = some (compare (sg s r) (sg s' r')) := by
  obtain ⟨k, m, p, e⟩ := parts_of r
  obtain ⟨k', m', p', e'⟩ := parts_of r'
  unfold Format.order
  rw [e h s, e' h' s']
  unfold Datum.order
  simp only
  rw [signed_eq, signed_eq]
  have e1 : (-1074 + (k : Int) - min (-1074 + (k : Int)) (-1074 + (k' : Int))).toNat = k - min k k' := by omega
  have e2 : (-1074 + (k' : Int) - min (-1074 + (k : Int)) (-1074 + (k' : Int))).toNat = k' - min k k' := by omega
  rw [e1, e2]
  obtain ⟨c1, c2⟩ := parts_cmp p p'
  rw [cmp_sg s s' c1 c2 (parts_zero p _) (parts_zero p' _)]

/-- One times a normal number. -/
theorem mul_one_word {r : Nat} (h1 : 4503599627370496 ≤ r) (h2 : r < 9218868437227405312) : double.mul 4607182418800017408 r = some r := by
  obtain ⟨k, m, p, e⟩ := parts_of r
  have e0 := e h2 false
  have ew : double.word false r = r := rfl
  rw [ew] at e0
  have e1 : double.read 4607182418800017408 = .number false 4503599627370496 (-52) := by decide
  have hk1 := p.eq
  have hk2 := p.lt
  have hm : 4503599627370496 ≤ m := by
    rcases Nat.eq_zero_or_pos k with h | h
    · omega
    · exact p.ge h
  have hlog : (4503599627370496 * m).log2 = 104 := by
    apply log2_eq
    · have : (2 : Nat) ^ 104 = 4503599627370496 * 4503599627370496 := by decide
      rw [this]; exact Nat.mul_le_mul_left _ hm
    · have : (2 : Nat) ^ (104 + 1) = 4503599627370496 * 9007199254740992 := by decide
      rw [this]; exact Nat.mul_lt_mul_of_pos_left hk2 (by decide)
  unfold Format.mul
  rw [e1, e0]
  simp only [Datum.product, Option.map_some, Option.some.injEq, Format.write, Bool.xor_self]
  unfold Format.nearest
  rw [if_neg (Nat.mul_ne_zero (by decide) (by omega)), hlog, least_double, binade_double, inf_double]
  have hf : ((double.fractionBits : Nat) : Int) = 52 := by decide
  simp only [hf]
  have hl : max ((-52 : Int) + (-1074 + (k : Int)) + ((104 : Nat) : Int) - 52) (-1074) = -1074 + (k : Int) := by omega
  rw [hl, show (-52 + (-1074 + (k : Int)) - (-1074 + (k : Int))).toNat = 0 by omega, show (-1074 + (k : Int) - (-52 + (-1074 + (k : Int)))).toNat = 52 by omega, show (-1074 + (k : Int) - -1074).toNat = k by omega, Nat.shiftLeft_zero, cut_even _ _ _ (by rw [hlog]; omega)]
  have hr : rnd (4503599627370496 * m) 52 = m := by
    unfold rnd
    have e52 : (2 : Nat) ^ 52 = 4503599627370496 := by decide
    rw [e52, Nat.mul_div_cancel_left _ (by decide), Nat.mul_mod_right]
    rw [if_neg (by omega)]; omega
  rw [hr, Nat.min_eq_left (by omega)]
  show k * 4503599627370496 + m = r
  omega

end Go.Proofs.YtepmcblnhibfeaaDoor.Wf
