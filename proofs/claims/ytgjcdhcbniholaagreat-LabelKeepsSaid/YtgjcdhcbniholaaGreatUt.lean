/- Right UTF-8, as the document reckons it: plain. -/
import Derived.Test.YtgjcdhcbniholaaGreatLa5
namespace Go.Proofs.YtgjcdhcbniholaaGreat.Ut
open Go.RowKit Go.Proofs.YtgjcdhcbniholaaGreat.La
set_option linter.unusedVariables false

/-- A byte, as a number. -/
def bn (s : ByteArray) (i : Nat) : Nat := (s.get! i).toNat
theorem bn_at (s : ByteArray) (i : Nat) (h : i < s.size) : bn s i = s[i].toNat := by
  unfold bn
  rw [show s.get! i = s[i] from by
    show s.data[i]! = s.data[i]
    rw [getElem!_pos s.data i h]]
theorem bn_lt (s : ByteArray) (i : Nat) : bn s i < 256 := (s.get! i).toNat_lt
def tailB (s : ByteArray) (j : Nat) : Bool := decide (j < s.size ∧ 128 ≤ bn s j ∧ bn s j < 192)
/-- The number that the bytes behind the first come to. -/
def vN (s : ByteArray) (i c0 : Nat) : Nat → Nat
  | 0 => c0
  | k + 1 => 64 * vN s i c0 k + (bn s (i + (k + 1)) - 128)
def tailsB (s : ByteArray) (i : Nat) : Nat → Bool
  | 0 => true
  | k + 1 => tailsB s i k && tailB s (i + (k + 1))
def badC (n c : Nat) : Bool := decide (n = 1 ∧ c < 128 ∨ n = 2 ∧ c < 2048 ∨ n = 3 ∧ c < 65536 ∨ 1114111 < c ∨ 55296 ≤ c ∧ c ≤ 57343)
def chk (s : ByteArray) (i n c0 : Nat) : Option Nat := if tailsB s i n = true then (if badC n (vN s i c0 n) = true then none else some (n + 1)) else none
/-- How many bytes the one from a place on has; none: it is not right. -/
def refS (s : ByteArray) (i : Nat) : Option Nat :=
  if bn s i < 128 then some 1
  else if bn s i < 192 then none
  else if bn s i < 224 then chk s i 1 (bn s i - 192)
  else if bn s i < 240 then chk s i 2 (bn s i - 224)
  else if bn s i < 248 then chk s i 3 (bn s i - 240)
  else none
def refF (s : ByteArray) : Nat → Nat → Bool
  | 0, _ => true
  | b + 1, pos => if pos < s.size then (match refS s pos with
    | none => false
    | some n => refF s b (pos + n)) else true

theorem pre_iff (s : ByteArray) (i : Nat) : Lib.hasPrefix (s.data.toList.drop i) [239, 191, 189] = decide (i + 2 < s.size ∧ bn s i = 239 ∧ bn s (i + 1) = 191 ∧ bn s (i + 2) = 189) := by
  rw [Bool.eq_iff_iff, decide_eq_true_iff]
  have key : ∀ (j : Nat) (b : UInt8), (∃ h : j < s.size, s[j] = b) ↔ j < s.size ∧ bn s j = b.toNat := by
    intro j b
    constructor
    · rintro ⟨h, e⟩; exact ⟨h, by rw [bn_at s j h, e]⟩
    · rintro ⟨h, e⟩; exact ⟨h, by rw [bn_at s j h] at e; exact UInt8.toNat_inj.1 e⟩
  have cons : ∀ (j : Nat) (b : UInt8) (r : List UInt8), Lib.hasPrefix (s.data.toList.drop j) (b :: r) = true ↔ (j < s.size ∧ bn s j = b.toNat) ∧ Lib.hasPrefix (s.data.toList.drop (j + 1)) r = true := by
    intro j b r
    by_cases h : j < s.size
    · have e : s.data.toList.drop j = s[j] :: s.data.toList.drop (j + 1) := by
        rw [List.drop_eq_getElem_cons (by simpa using h)]; rfl
      rw [e, ← key]
      simp only [Lib.hasPrefix, List.isPrefixOf, Bool.and_eq_true, beq_iff_eq]
      constructor
      · rintro ⟨a, b⟩; exact ⟨⟨h, a.symm⟩, b⟩
      · rintro ⟨⟨_, a⟩, b⟩; exact ⟨a.symm, b⟩
    · have e : s.data.toList.drop j = [] := List.drop_of_length_le (by simp; omega)
      rw [e]
      simp [Lib.hasPrefix, h]
  rw [cons, cons, cons]
  have n0 : Lib.hasPrefix (s.data.toList.drop (i + 1 + 1 + 1)) [] = true := by simp [Lib.hasPrefix]
  rw [n0]
  simp only [and_true, show (239 : UInt8).toNat = 239 from rfl, show (191 : UInt8).toNat = 191 from rfl, show (189 : UInt8).toNat = 189 from rfl]
  rw [show i + 1 + 1 = i + 2 by omega]
  constructor
  · rintro ⟨⟨_, h1⟩, ⟨_, h2⟩, h3, h4⟩; exact ⟨h3, h1, h2, h4⟩
  · rintro ⟨h3, h1, h2, h4⟩; exact ⟨⟨by omega, h1⟩, ⟨by omega, h2⟩, h3, h4⟩

def StepOk (bad : Bool) (m : Nat) : Option Nat → Prop
  | none => bad = true
  | some n => bad = false ∧ m = n

set_option maxRecDepth 100000 in
theorem step_eq (s : ByteArray) (i : Nat) (h : i < s.size) : StepOk (badAt s i) (Utf8.decode s i).2 (refS s i) := by
  unfold badAt
  rw [pre_iff]
  have e0 : (s.get! (i + 0)).toNat = bn s i := rfl
  have e1 : (s.get! (i + 1)).toNat = bn s (i + 1) := rfl
  have e2 : (s.get! (i + 2)).toNat = bn s (i + 2) := rfl
  have e3 : (s.get! (i + 3)).toNat = bn s (i + 3) := rfl
  have l0 := bn_lt s i
  have l1 := bn_lt s (i + 1)
  have l2 := bn_lt s (i + 2)
  have l3 := bn_lt s (i + 3)
  unfold Utf8.decode refS chk
  have v1 : ∀ c, vN s i c 1 = 64 * c + (bn s (i + 1) - 128) := fun _ => rfl
  have v2 : ∀ c, vN s i c 2 = 64 * (64 * c + (bn s (i + 1) - 128)) + (bn s (i + 2) - 128) := fun _ => rfl
  have v3 : ∀ c, vN s i c 3 = 64 * (64 * (64 * c + (bn s (i + 1) - 128)) + (bn s (i + 2) - 128)) + (bn s (i + 3) - 128) := fun _ => rfl
  simp only [e0, e1, e2, e3, tailsB, tailB, v1, v2, v3, badC, Utf8.runeError, Utf8.valid]
  generalize bn s i = b0 at *
  generalize bn s (i + 1) = b1 at *
  generalize bn s (i + 2) = b2 at *
  generalize bn s (i + 3) = b3 at *
  by_cases c0 : b0 < 128
  · rw [if_pos c0, if_pos c0]; simp [StepOk]; omega
  rw [if_neg c0, if_neg c0]
  by_cases c1 : b0 < 192
  · rw [if_pos c1, if_neg (by simp; omega), if_neg (by simp; omega), if_neg (by simp; omega)]; simp [StepOk]; omega
  rw [if_neg c1]
  by_cases c2 : b0 < 224
  · rw [if_pos c2]
    by_cases t1 : i + 1 < s.size ∧ 128 ≤ b1 ∧ b1 < 192
    · have u1 : (b0 / 32 == 6 && (decide (i + 1 < s.size) && b1 / 64 == 2)) = true := by simp; omega
      rw [if_pos u1]
      by_cases k : 128 ≤ 64 * (b0 - 192) + (b1 - 128)
      · rw [if_pos (by omega), if_pos (by simp; omega), if_neg (by simp; omega)]; simp [StepOk]; omega
      · rw [if_neg (by omega), if_pos (by simp; omega), if_pos (by simp; omega)]; simp [StepOk]; omega
    · rw [if_neg (by simp; omega), if_neg (by simp; omega), if_neg (by simp; omega), if_neg (by simp; omega)]; simp [StepOk]; omega
  rw [if_neg c2]
  by_cases c3 : b0 < 240
  · rw [if_pos c3]
    by_cases t1 : (i + 1 < s.size ∧ 128 ≤ b1 ∧ b1 < 192) ∧ i + 2 < s.size ∧ 128 ≤ b2 ∧ b2 < 192
    · rw [if_neg (by simp; omega), if_pos (by simp; omega)]
      by_cases k : 2048 ≤ 64 * (64 * (b0 - 224) + (b1 - 128)) + (b2 - 128) ∧ ¬ (55296 ≤ 64 * (64 * (b0 - 224) + (b1 - 128)) + (b2 - 128) ∧ 64 * (64 * (b0 - 224) + (b1 - 128)) + (b2 - 128) ≤ 57343)
      · rw [if_pos (by simp; omega), if_pos (by simp; omega), if_neg (by simp; omega)]; simp [StepOk]; omega
      · rw [if_neg (by simp; omega), if_pos (by simp; omega), if_pos (by simp; omega)]; simp [StepOk]; omega
    · rw [if_neg (by simp; omega), if_neg (by simp; omega), if_neg (by simp; omega), if_neg (by simp; omega)]; simp [StepOk]; omega
  rw [if_neg c3]
  by_cases c4 : b0 < 248
  · rw [if_pos c4]
    by_cases t1 : ((i + 1 < s.size ∧ 128 ≤ b1 ∧ b1 < 192) ∧ i + 2 < s.size ∧ 128 ≤ b2 ∧ b2 < 192) ∧ i + 3 < s.size ∧ 128 ≤ b3 ∧ b3 < 192
    · rw [if_neg (by simp; omega), if_neg (by simp; omega), if_pos (by simp; omega)]
      by_cases k : 65536 ≤ 64 * (64 * (64 * (b0 - 240) + (b1 - 128)) + (b2 - 128)) + (b3 - 128) ∧ 64 * (64 * (64 * (b0 - 240) + (b1 - 128)) + (b2 - 128)) + (b3 - 128) ≤ 1114111
      · rw [if_pos (by simp; omega), if_pos (by simp; omega), if_neg (by simp; omega)]; simp [StepOk]; omega
      · rw [if_neg (by simp; omega), if_pos (by simp; omega), if_pos (by simp; omega)]; simp [StepOk]; omega
    · rw [if_neg (by simp; omega), if_neg (by simp; omega), if_neg (by simp; omega), if_neg (by simp; omega)]; simp [StepOk]; omega
  · rw [if_neg c4, if_neg (by simp; omega), if_neg (by simp; omega), if_neg (by simp; omega)]; simp [StepOk]; omega
theorem ref_utf (s : ByteArray) : ∀ b pos, refF s b pos = utfF s b pos
  | 0, _ => rfl
  | b + 1, pos => by
    rw [refF, utfF]
    by_cases h : pos < s.size
    · rw [if_pos h, if_pos h]
      have := step_eq s pos h
      cases hr : refS s pos with
      | none => rw [hr] at this; simp only [StepOk] at this; rw [this]; rfl
      | some n =>
        rw [hr] at this
        simp only [StepOk] at this
        rw [this.1, this.2]
        simp only [Bool.not_false, Bool.true_and]
        exact ref_utf s b _
    · rw [if_neg h, if_neg h]
end Go.Proofs.YtgjcdhcbniholaaGreat.Ut
