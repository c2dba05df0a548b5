/- Lemmas for the laws of this seat, laid together of Wf0, Wf2, Fb, BkM, Shelf, Bk, Fc, Fe, La0, La1, La2. -/
import Ieee.Arith
import Derived.Laws.FloatArith
import Derived.WalkKit
import Derived.Shelf.Small.Strs
import Derived.Shelf.Strings.Prefix
import Derived.Shelf.Bits.Mul64
import Derived.Test.YtpiegngjpnpohaaProg
import Derived.Test.YtpiegngjpnpohaaChecked
import Derived.BigQuiet
import Derived.Deep.QuietTactic
import Derived.RegionTactic
import Derived.ChangeAlike
import Derived.Outline
import Derived.Lib.Hide
import Derived.Lib.ItoaNum
import Derived.IntWalk
import Derived.Laws.BitsAllLaws
import Derived.WalkLawsBesides
import GoSem.Extern.MathFloatBits
import Derived.LoopTactic
import Derived.Deep.DeepCutAuto
import Derived.ProofKit
import Derived.WalkSmall
import Derived.Handy
import Derived.WalkSpells

namespace Go.Proofs.Ytpiegngjpnpohaa.Wf
open Ieee
theorem least_double : double.leastPlace = -1074 := by decide
theorem binade_double : double.binade = 4503599627370496 := by decide
theorem inf_double : double.infRung = 9218868437227405312 := by decide
theorem sign_double : double.signWeight = 9223372036854775808 := by decide
end Go.Proofs.Ytpiegngjpnpohaa.Wf

namespace Go.Proofs.Ytpiegngjpnpohaa.Wf
open Ieee
structure Parts (r k m : Nat) : Prop where
  eq : r = k * 4503599627370496 + m
  lt : m < 9007199254740992
  ge : 0 < k → 4503599627370496 ≤ m
theorem parts_of (r : Nat) : ∃ k m, Parts r k m ∧ (r < 9218868437227405312 → ∀ (neg : Bool), double.read (double.word neg r) = .number neg m (-1074 + (k : Int))) := by
  have hneg : ∀ neg : Bool, r < 9218868437227405312 → (double.word neg r / double.signWeight % 2 == 1) = neg ∧ double.word neg r % double.signWeight = r := by
    intro neg h
    rw [sign_double]
    cases neg
    · unfold Format.word; simp only [Bool.false_eq_true, if_false]
      constructor
      · rw [beq_eq_false_iff_ne]; omega
      · omega
    · unfold Format.word; simp only [if_true, sign_double]
      constructor
      · rw [beq_iff_eq]; omega
      · omega
  by_cases h : r < 4503599627370496
  · refine ⟨0, r, ⟨by omega, by omega, by omega⟩, fun hr neg => ?_⟩
    obtain ⟨h1, h2⟩ := hneg neg hr
    unfold Format.read
    simp only [h1, h2, binade_double, least_double]
    rw [if_pos h]; rfl
  · refine ⟨r / 4503599627370496 - 1, 4503599627370496 + r % 4503599627370496, ⟨by omega, by omega, by omega⟩, fun hr neg => ?_⟩
    obtain ⟨h1, h2⟩ := hneg neg hr
    unfold Format.read
    simp only [h1, h2, binade_double, least_double, inf_double]
    rw [if_neg h, if_pos hr]
theorem parts_lt {r k m r' k' m' : Nat} (h : Parts r k m) (h' : Parts r' k' m') (hk : k < k') : m * 2 ^ (k - min k k') < m' * 2 ^ (k' - min k k') ∧ r < r' := by
  have e1 : k - min k k' = 0 := by omega
  obtain ⟨d, hd⟩ : ∃ d, k' - min k k' = d + 1 := ⟨k' - k - 1, by omega⟩
  rw [e1, hd, Nat.pow_zero, Nat.mul_one, Nat.pow_succ]
  have hp : 1 ≤ 2 ^ d := Nat.one_le_two_pow
  have hg := h'.ge (by omega)
  have hl := h.lt
  have hm : 4503599627370496 * 1 ≤ m' * 2 ^ d := Nat.mul_le_mul hg hp
  rw [← Nat.mul_assoc]
  have := h.eq
  have := h'.eq
  omega
theorem parts_cmp {r k m r' k' m' : Nat} (h : Parts r k m) (h' : Parts r' k' m') :
    (m * 2 ^ (k - min k k') < m' * 2 ^ (k' - min k k') ↔ r < r') ∧ (m * 2 ^ (k - min k k') = m' * 2 ^ (k' - min k k') ↔ r = r') := by
  rcases Nat.lt_trichotomy k k' with hk | hk | hk
  · have := parts_lt h h' hk; omega
  · subst hk
    have e : k - min k k = 0 := by omega
    rw [e, Nat.pow_zero, Nat.mul_one, Nat.mul_one]
    have := h.eq
    have := h'.eq
    omega
  · have := parts_lt h' h hk
    rw [Nat.min_comm] at this
    omega
theorem parts_zero {r k m : Nat} (h : Parts r k m) (d : Nat) : m * 2 ^ d = 0 ↔ r = 0 := by
  have hp : 0 < 2 ^ d := Nat.two_pow_pos d
  have h1 := h.eq
  have h2 := h.ge
  constructor
  · intro e
    rcases Nat.mul_eq_zero.1 e with e | e
    · subst e; omega
    · omega
  · intro e
    have : m = 0 := by omega
    subst this; simp
def sg (neg : Bool) (r : Nat) : Int := if neg then -(r : Int) else (r : Int)
theorem signed_eq (neg : Bool) (m d : Nat) : signed neg m d = sg neg (m * 2 ^ d) := by
  unfold signed sg; rw [Nat.shiftLeft_eq]
theorem cmp_sg {A A' r r' : Nat} (s s' : Bool) (h1 : A < A' ↔ r < r') (h2 : A = A' ↔ r = r') (z1 : A = 0 ↔ r = 0) (z2 : A' = 0 ↔ r' = 0) : compare (sg s A) (sg s' A') = compare (sg s r) (sg s' r') := by
  have e : ∀ x y : Int, compare x y = if x < y then Ordering.lt else if x = y then Ordering.eq else Ordering.gt := fun _ _ => rfl
  rw [e, e]
  have c1 : sg s A < sg s' A' ↔ sg s r < sg s' r' := by
    cases s <;> cases s' <;> simp only [sg, Bool.false_eq_true, if_false, if_true] <;> omega
  have c2 : sg s A = sg s' A' ↔ sg s r = sg s' r' := by
    cases s <;> cases s' <;> simp only [sg, Bool.false_eq_true, if_false, if_true] <;> omega
  by_cases g : sg s A < sg s' A'
  · rw [if_pos g, if_pos (c1.1 g)]
  · rw [if_neg g, if_neg (fun x => g (c1.2 x))]
    by_cases q : sg s A = sg s' A'
    · rw [if_pos q, if_pos (c2.1 q)]
    · rw [if_neg q, if_neg (fun x => q (c2.2 x))]
theorem order_words {r r' : Nat} (s s' : Bool) (h : r < 9218868437227405312) (h' : r' < 9218868437227405312) : double.order (double.word s r) (double.word s' r') = some (compare (sg s r) (sg s' r')) := by
  obtain ⟨k, m, p, e⟩ := parts_of r
  obtain ⟨k', m', p', e'⟩ := parts_of r'
  unfold Format.order
  rw [e h s, e' h' s']
  unfold Datum.order
  simp only
  rw [signed_eq, signed_eq]
  have e1 : (-1074 + (k : Int) - min (-1074 + (k : Int)) (-1074 + (k' : Int))).toNat = k - min k k' := by omega
  have e2 : (-1074 + (k' : Int) - min (-1074 + (k : Int)) (-1074 + (k' : Int))).toNat = k' - min k k' := by omega
  rw [e1, e2]
  obtain ⟨c1, c2⟩ := parts_cmp p p'
  rw [cmp_sg s s' c1 c2 (parts_zero p _) (parts_zero p' _)]
end Go.Proofs.Ytpiegngjpnpohaa.Wf

namespace Go.Proofs.Ytpiegngjpnpohaa.Fb
open Ieee Go.Proofs.Ytpiegngjpnpohaa.Wf
def okF (b : Nat) : Prop := b < 18446744073709551616
def mg (b : Nat) : Nat := b % 9223372036854775808
def nanF (b : Nat) : Bool := decide (9218868437227405312 < mg b)
def finF (b : Nat) : Bool := decide (mg b < 9218868437227405312)
def negF (b : Nat) : Bool := decide (9223372036854775808 ≤ b)
def sv (b : Nat) : Int := sg (negF b) (mg b)
def rk (b : Nat) : Nat := if 9218868437227405312 < mg b then 0 else if 9223372036854775808 ≤ b then 18446744073709551615 - b else b + 9223372036854775808
def cmpF (a b : Nat) : Int := if rk a < rk b then -1 else if rk b < rk a then 1 else 0
theorem mg_lt (b : Nat) : mg b < 9223372036854775808 := Nat.mod_lt _ (by decide)
theorem word_of {b : Nat} (h : okF b) : double.word (negF b) (mg b) = b := by
  unfold okF at h
  unfold Format.word negF mg
  rw [sign_double]
  by_cases g : 9223372036854775808 ≤ b
  · simp only [g, decide_true, if_true]; omega
  · simp only [g, decide_false, Bool.false_eq_true, if_false]; omega
theorem read_parts {b : Nat} (h : okF b) : (b / double.signWeight % 2 == 1) = negF b ∧ b % double.signWeight = mg b := by
  unfold okF at h
  rw [sign_double]
  unfold negF mg
  refine ⟨?_, rfl⟩
  by_cases g : 9223372036854775808 ≤ b
  · rw [decide_eq_true g, beq_iff_eq]; omega
  · rw [decide_eq_false g, beq_eq_false_iff_ne]; omega
theorem read_inf {b : Nat} (h : okF b) (hm : mg b = 9218868437227405312) : double.read b = .infinity (negF b) := by
  obtain ⟨h1, h2⟩ := read_parts h
  unfold Format.read
  simp only [h1, h2, binade_double, inf_double, hm]
  rw [if_neg (by decide), if_neg (by decide), if_pos trivial]
theorem read_nan {b : Nat} (h : okF b) (hm : 9218868437227405312 < mg b) : double.read b = .nan (negF b) (mg b - 9218868437227405312) := by
  obtain ⟨h1, h2⟩ := read_parts h
  unfold Format.read
  simp only [h1, h2, binade_double, inf_double]
  rw [if_neg (by omega), if_neg (by omega), if_neg (by omega)]
theorem read_num {b : Nat} (h : okF b) (hm : mg b < 9218868437227405312) : ∃ m p, double.read b = .number (negF b) m p := by
  obtain ⟨k, m, _, e⟩ := parts_of (mg b)
  have := e hm (negF b)
  rw [word_of h] at this
  exact ⟨m, _, this⟩
theorem order_nan {a b : Nat} (ha : okF a) (hb : okF b) (h : nanF a = true ∨ nanF b = true) : double.order a b = none := by
  unfold Format.order
  rcases h with h | h
  · rw [read_nan ha (by simpa [nanF] using h)]; rfl
  · rw [read_nan hb (by simpa [nanF] using h)]
    cases double.read a <;> rfl
theorem order_num {a b : Nat} (ha : okF a) (hb : okF b) (h1 : nanF a = false) (h2 : nanF b = false) : double.order a b = some (compare (sv a) (sv b)) := by
  have n1 : ¬ 9218868437227405312 < mg a := by simpa [nanF] using h1
  have n2 : ¬ 9218868437227405312 < mg b := by simpa [nanF] using h2
  have e : ∀ x y : Int, compare x y = if x < y then Ordering.lt else if x = y then Ordering.eq else Ordering.gt := fun _ _ => rfl
  rcases Nat.lt_or_ge (mg a) 9218868437227405312 with f1 | f1
  · rcases Nat.lt_or_ge (mg b) 9218868437227405312 with f2 | f2
    · have := order_words (negF a) (negF b) f1 f2
      rw [word_of ha, word_of hb] at this
      exact this
    · have f2 : mg b = 9218868437227405312 := by omega
      obtain ⟨m, p, ea⟩ := read_num ha f1
      unfold Format.order
      rw [ea, read_inf hb f2]
      unfold Datum.order sv
      rw [e, f2]
      cases negF b <;> cases negF a <;> simp only [sg, Bool.false_eq_true, if_false, if_true, Option.some.injEq]
      · rw [if_pos (by omega)]
      · rw [if_pos (by omega)]
      · rw [if_neg (by omega), if_neg (by omega)]
      · rw [if_neg (by omega), if_neg (by omega)]
  · have f1 : mg a = 9218868437227405312 := by omega
    rcases Nat.lt_or_ge (mg b) 9218868437227405312 with f2 | f2
    · obtain ⟨m, p, eb⟩ := read_num hb f2
      unfold Format.order
      rw [eb, read_inf ha f1]
      unfold Datum.order sv
      rw [e, f1]
      cases negF a <;> cases negF b <;> simp only [sg, Bool.false_eq_true, if_false, if_true, Option.some.injEq]
      · rw [if_neg (by omega), if_neg (by omega)]
      · rw [if_neg (by omega), if_neg (by omega)]
      · rw [if_pos (by omega)]
      · rw [if_pos (by omega)]
    · have f2 : mg b = 9218868437227405312 := by omega
      unfold Format.order
      rw [read_inf ha f1, read_inf hb f2]
      unfold Datum.order sv
      rw [f1, f2]
      cases negF a <;> cases negF b <;> decide
theorem ord_lt {a b : Nat} (ha : okF a) (hb : okF b) : (double.order a b == some Ordering.lt) = decide (nanF a = false ∧ nanF b = false ∧ sv a < sv b) := by
  have e : ∀ x y : Int, compare x y = if x < y then Ordering.lt else if x = y then Ordering.eq else Ordering.gt := fun _ _ => rfl
  cases h1 : nanF a
  · cases h2 : nanF b
    · rw [order_num ha hb h1 h2, e]
      by_cases g : sv a < sv b
      · simp [g]
      · rw [if_neg g]
        by_cases q : sv a = sv b
        · simp [q]
        · rw [if_neg q]; simp [g]
    · rw [order_nan ha hb (.inr h2)]; simp
  · rw [order_nan ha hb (.inl h1)]; simp
theorem ord_gt {a b : Nat} (ha : okF a) (hb : okF b) : (double.order a b == some Ordering.gt) = decide (nanF a = false ∧ nanF b = false ∧ sv b < sv a) := by
  have e : ∀ x y : Int, compare x y = if x < y then Ordering.lt else if x = y then Ordering.eq else Ordering.gt := fun _ _ => rfl
  cases h1 : nanF a
  · cases h2 : nanF b
    · rw [order_num ha hb h1 h2, e]
      by_cases g : sv a < sv b
      · rw [if_pos g]
        have : ¬ sv b < sv a := by omega
        simp [this]
      · rw [if_neg g]
        by_cases q : sv a = sv b
        · simp [q]
        · rw [if_neg q]
          have : sv b < sv a := by omega
          simp [this]
    · rw [order_nan ha hb (.inr h2)]; simp
  · rw [order_nan ha hb (.inl h1)]; simp
theorem ord_self {a : Nat} (ha : okF a) : (double.order a a != some Ordering.eq) = nanF a := by
  cases h1 : nanF a
  · rw [order_num ha ha h1 h1]
    have : compare (sv a) (sv a) = Ordering.eq := by
      show (if sv a < sv a then Ordering.lt else if sv a = sv a then Ordering.eq else Ordering.gt) = _
      rw [if_neg (by omega), if_pos rfl]
    rw [this]; rfl
  · rw [order_nan ha ha (.inl h1)]; rfl
theorem okF_mg (a : Nat) : okF (mg a) := by have := mg_lt a; unfold okF; omega
theorem ord_top {a : Nat} : (double.order (mg a) 9218868437227405311 == some Ordering.gt) = decide (mg a = 9218868437227405312) := by
  rw [ord_gt (okF_mg a) (by unfold okF; omega)]
  have hl := mg_lt a
  have h0 : mg (mg a) = mg a := Nat.mod_eq_of_lt hl
  have h1 : mg 9218868437227405311 = 9218868437227405311 := by decide
  have n0 : negF (mg a) = false := decide_eq_false (by omega)
  have n1 : negF 9218868437227405311 = false := by decide
  have e1 : nanF 9218868437227405311 = false := by decide
  unfold sv
  rw [h0, h1, n0, n1]
  by_cases g : mg a = 9218868437227405312
  · simp [g, e1, sg]
    decide
  · rw [decide_eq_false g, decide_eq_false]
    rintro ⟨q1, _, q2⟩
    simp only [sg, Bool.false_eq_true, if_false] at q2
    have : ¬ 9218868437227405312 < mg (mg a) := by simpa [nanF] using q1
    omega
theorem rk_cases {a b : Nat} (ha : okF a) (hb : okF b) : cmpF a b =
    if nanF a = true ∧ nanF b = true then 0 else if nanF a = true ∨ (nanF a = false ∧ nanF b = false ∧ sv a < sv b) then -1
    else if nanF b = true ∨ (nanF a = false ∧ nanF b = false ∧ sv b < sv a) then 1 else if negF a = negF b then 0 else if negF a = true then -1 else 1 := by
  unfold okF at ha hb
  unfold cmpF rk nanF sv negF mg sg
  by_cases g1 : 9218868437227405312 < a % 9223372036854775808 <;> by_cases g2 : 9218868437227405312 < b % 9223372036854775808 <;>
  by_cases g3 : 9223372036854775808 ≤ a <;> by_cases g4 : 9223372036854775808 ≤ b <;>
  simp only [g1, g2, g3, g4, decide_true, decide_false, if_true, if_false, true_and, and_true, true_or, false_or, and_false, false_and, Bool.false_eq_true, Bool.true_eq_false] <;>
  (repeat' split) <;> omega
theorem cmpF_self (a : Nat) : cmpF a a = 0 := by unfold cmpF; rw [if_neg (by omega), if_neg (by omega)]
theorem cmpF_zero (a b : Nat) : cmpF a b = 0 ↔ rk a = rk b := by
  unfold cmpF
  by_cases h : rk a < rk b
  · rw [if_pos h]; constructor <;> intro x <;> omega
  · rw [if_neg h]
    by_cases g : rk b < rk a
    · rw [if_pos g]; constructor <;> intro x <;> omega
    · rw [if_neg g]; constructor <;> intro x <;> omega
end Go.Proofs.Ytpiegngjpnpohaa.Fb

namespace Go.Proofs.Ytpiegngjpnpohaa.BkM
def lo (p i : Nat) : Nat := if i < 2 ^ p then i else (i - (i / 2 ^ p - 1) * 2 ^ p) * 2 ^ (i / 2 ^ p - 1)
def mo (p i : Nat) : Nat := if i < 2 ^ p then 0 else 2 ^ (i / 2 ^ p - 1) - 1
theorem pow_pos' (p : Nat) : 0 < 2 ^ p := Nat.pow_pos (by decide)
theorem split_i {p i : Nat} (h : 2 ^ p ≤ i) : ∃ k m, 2 ^ p ≤ m ∧ m < 2 * 2 ^ p ∧ i = k * 2 ^ p + m ∧ i / 2 ^ p - 1 = k := by
  have hp := pow_pos' p
  have h1 : 1 ≤ i / 2 ^ p := (Nat.le_div_iff_mul_le hp).2 (by omega)
  refine ⟨i / 2 ^ p - 1, i - (i / 2 ^ p - 1) * 2 ^ p, ?_, ?_, ?_, rfl⟩
  all_goals
    have h2 := Nat.div_add_mod i (2 ^ p)
    have h3 := Nat.mod_lt i hp
    generalize hq : i / 2 ^ p = q at *
    generalize 2 ^ p = P at *
    obtain ⟨r, rfl⟩ : ∃ r, q = r + 1 := ⟨q - 1, by omega⟩
    simp only [Nat.add_sub_cancel]
    have e : P * (r + 1) = r * P + P := by rw [Nat.mul_comm, Nat.add_mul, Nat.one_mul]
    omega
theorem lo_of {p k m : Nat} (h1 : 2 ^ p ≤ m) (h2 : m < 2 * 2 ^ p) : lo p (k * 2 ^ p + m) = m * 2 ^ k ∧ mo p (k * 2 ^ p + m) = 2 ^ k - 1 := by
  have hp := pow_pos' p
  have e1 : (k * 2 ^ p + m) / 2 ^ p - 1 = k := by
    have : m / 2 ^ p = 1 := by
      rw [Nat.div_eq_iff hp]; constructor <;> omega
    rw [Nat.mul_comm, Nat.mul_add_div hp, this]; omega
  have e2 : ¬ (k * 2 ^ p + m < 2 ^ p) := by omega
  unfold lo mo
  rw [if_neg e2, if_neg e2, e1]
  exact ⟨by rw [Nat.add_sub_cancel_left], rfl⟩
theorem lo_succ (p i : Nat) : lo p (i + 1) = lo p i + mo p i + 1 := by
  have hp := pow_pos' p
  by_cases h : i < 2 ^ p
  · by_cases h' : i + 1 < 2 ^ p
    · simp [lo, mo, h, h']
    · have e : i + 1 = 0 * 2 ^ p + 2 ^ p := by omega
      have := (lo_of (p := p) (k := 0) (m := 2 ^ p) (by omega) (by omega)).1
      rw [e, this]; simp [lo, mo, h]; omega
  · obtain ⟨k, m, h1, h2, rfl, _⟩ := split_i (p := p) (i := i) (by omega)
    obtain ⟨a, b⟩ := lo_of (p := p) (k := k) h1 h2
    have hk := pow_pos' k
    rw [a, b]
    by_cases h3 : m + 1 < 2 * 2 ^ p
    · rw [Nat.add_assoc, (lo_of (p := p) (k := k) (m := m + 1) (by omega) h3).1, Nat.add_mul]; omega
    · have e : k * 2 ^ p + m + 1 = (k + 1) * 2 ^ p + 2 ^ p := by rw [Nat.add_mul]; omega
      rw [e, (lo_of (p := p) (k := k + 1) (m := 2 ^ p) (by omega) (by omega)).1, Nat.pow_succ]
      have e2 : m = 2 * 2 ^ p - 1 := by omega
      rw [e2, Nat.sub_mul, Nat.mul_comm (2 ^ k) 2, ← Nat.mul_assoc, Nat.mul_comm (2 ^ p) 2, Nat.one_mul]
      have : 2 ^ k ≤ 2 * 2 ^ p * 2 ^ k := Nat.le_mul_of_pos_left _ (by omega)
      omega
theorem lo_lt {p i j : Nat} (h : i < j) : lo p i + mo p i < lo p j := by
  induction j with
  | zero => omega
  | succ j ih =>
    have := lo_succ p j
    by_cases e : i = j
    · subst e; omega
    · have := ih (by omega); omega
theorem lo_end {p : Nat} (h1 : p ≤ 63) : lo p ((64 - p) * 2 ^ p) = 2 ^ 63 := by
  have e : (64 - p) * 2 ^ p = (63 - p) * 2 ^ p + 2 ^ p := by
    have : 64 - p = (63 - p) + 1 := by omega
    rw [this, Nat.add_mul, Nat.one_mul]
  rw [e, (lo_of (p := p) (by omega) (by have := pow_pos' p; omega)).1, ← Nat.pow_add]
  congr 1; omega
theorem hi_lt {p i : Nat} (hp : p ≤ 63) (hi : i < (64 - p) * 2 ^ p) : lo p i + mo p i < 2 ^ 63 := by
  rw [← lo_end hp]; exact lo_lt hi
end Go.Proofs.Ytpiegngjpnpohaa.BkM

namespace Go.Proofs
open Go.Shelf
open Go.RowKit in
def Try.lays106_ren : Go.Shelf.Ren := ⟨fun | 106 => 34 | 213 => 65 | 265 => 82 | n => n, fun | 9 => 9 | 3 => 3 | n => n, fun | n => n⟩
theorem Try.lays106 : Go.Proofs.Lays.n106 Try.prog Try.lays106_ren := {
  mixed := by kernel_rfl
  f106 := Try.func34.trans (congrArg some (by kernel_rfl))
  f213 := Try.func65.trans (congrArg some (by kernel_rfl))
  f265 := Try.func82.trans (congrArg some (by kernel_rfl))
  t3 := Try.underlying3
  a3 := Try.isAgg3
  z3 := Try.sizeOf3
  v3 := Try.zeroValue3
  t9 := Try.underlying9
  a9 := Try.isAgg9
  z9 := Try.sizeOf9
  v9 := Try.zeroValue9 }
open Go.RowKit in
theorem Try.strings_Compare (a b : ByteArray) (w : World) :
    Calls Try.prog 34 #[.string a, .string b] w fun e w' => e = .returned (.int .i64 (Lib.compareBytes a.data.toList b.data.toList)) ∧ w' = w := Any.strings_Compare Try.lays106 a b w
open Go.RowKit Go.Lib in
def Try.lays99_ren : Go.Shelf.Ren := ⟨fun | 99 => 51 | 206 => 76 | n => n, fun | 9 => 9 | 4 => 4 | 3 => 3 | n => n, fun | n => n⟩
theorem Try.lays99 : Go.Proofs.Lays.n99 Try.prog Try.lays99_ren := {
  mixed := by kernel_rfl
  f99 := Try.func51.trans (congrArg some (by kernel_rfl))
  f206 := Try.func76.trans (congrArg some (by kernel_rfl))
  t3 := Try.underlying3
  a3 := Try.isAgg3
  z3 := Try.sizeOf3
  v3 := Try.zeroValue3
  t4 := Try.underlying4
  a4 := Try.isAgg4
  z4 := Try.sizeOf4
  v4 := Try.zeroValue4
  t9 := Try.underlying9
  a9 := Try.isAgg9
  z9 := Try.sizeOf9
  v9 := Try.zeroValue9 }
open Go.RowKit Go.Lib in
theorem Try.strings_HasPrefix (s p : ByteArray) (w : World) :
    Calls Try.prog 51 #[.string s, .string p] w fun e w' => e = .returned (.bool (Lib.hasPrefix s.data.toList p.data.toList)) ∧ w' = w := Any.strings_HasPrefix Try.lays99 s p w
open Go.RowKit Go.Lib in
def Try.lays100_ren : Go.Shelf.Ren := ⟨fun | 100 => 48 | 207 => 75 | n => n, fun | 9 => 9 | 4 => 4 | 3 => 3 | n => n, fun | n => n⟩
theorem Try.lays100 : Go.Proofs.Lays.n100 Try.prog Try.lays100_ren := {
  mixed := by kernel_rfl
  f100 := Try.func48.trans (congrArg some (by kernel_rfl))
  f207 := Try.func75.trans (congrArg some (by kernel_rfl))
  t3 := Try.underlying3
  a3 := Try.isAgg3
  z3 := Try.sizeOf3
  v3 := Try.zeroValue3
  t4 := Try.underlying4
  a4 := Try.isAgg4
  z4 := Try.sizeOf4
  v4 := Try.zeroValue4
  t9 := Try.underlying9
  a9 := Try.isAgg9
  z9 := Try.sizeOf9
  v9 := Try.zeroValue9 }
open Go.RowKit Go.Lib in
theorem Try.strings_HasSuffix (s p : ByteArray) (w : World) (hs : s.size ≤ 9223372036854775807) :
    Calls Try.prog 48 #[.string s, .string p] w fun e w' => e = .returned (.bool (Lib.hasSuffix s.data.toList p.data.toList)) ∧ w' = w := Any.strings_HasSuffix Try.lays100 s p w hs
def Try.lays264_ren : Go.Shelf.Ren := ⟨fun | 264 => 87 | n => n, fun | 53 => 27 | 46 => 118 | n => n, fun | n => n⟩
theorem Try.lays264 : Go.Proofs.Lays.n264 Try.prog Try.lays264_ren := {
  mixed := by kernel_rfl
  f264 := Try.func87.trans (congrArg some (by kernel_rfl))
  t46 := Try.underlying118
  a46 := Try.isAgg118
  z46 := Try.sizeOf118
  v46 := Try.zeroValue118
  t53 := Try.underlying27
  a53 := Try.isAgg27
  z53 := Try.sizeOf27
  v53 := Try.zeroValue27 }
open Go.RowKit Go.Lib in
theorem Try.bits_Mul64 (x y : Nat) (hx : x < 18446744073709551616) (hy : y < 18446744073709551616) (w : World) :
    Calls Try.prog 87 #[.int .u64 x, .int .u64 y] w fun e w' => e = .returned (.tuple #[.int .u64 ((x * y / 18446744073709551616 : Nat) : Int), .int .u64 ((x * y % 18446744073709551616 : Nat) : Int)]) ∧ w' = w := Any.bits_Mul64 Try.lays264 x y hx hy w
end Go.Proofs

namespace Go.Proofs.Ytpiegngjpnpohaa.Bk
open Go.RowKit
open Go.Proofs.Ytpiegngjpnpohaa.BkM
def good (p : Int) : Prop := 1 ≤ p ∧ p ≤ 14
instance (p : Int) : Decidable (good p) := by unfold good; exact inferInstance
def lenI (p : Int) : Int := if good p then (((64 - p.toNat) * 2 ^ p.toNat : Nat) : Int) else 0
def lowE (p i : Int) : Int := if ¬ good p then 1 else if i < 0 ∨ lenI p ≤ i then 2 else 0
def lowI (p i : Int) : Int := if lowE p i = 0 then (lo p.toNat i.toNat : Int) else 0
def morI (p i : Int) : Int := if lowE p i = 0 then (mo p.toNat i.toNat : Int) else 0
theorem ret_int {k : IntKind} {a b : Int} (h : a = b) : Ending.returned (.int k a) = .returned (.int k b) := by rw [h]
theorem ret_bool {a b : Bool} (h : a = b) : Ending.returned (.bool a) = .returned (.bool b) := by rw [h]
theorem right_t (p : Int) (h : good p) (w : World) :
    Calls Try.prog 86 #[.int .i64 p] w fun e w' => e = .returned (.bool true) ∧ w = w' := by
  obtain ⟨h1, h2⟩ := h
  go_enter Try.func86, Try.ntmps86
  go_wp2
  go_ret
  exact ⟨rfl, rfl⟩
theorem right_f (p : Int) (h : ¬ good p) (w : World) :
    Calls Try.prog 86 #[.int .i64 p] w fun e w' => e = .returned (.bool false) ∧ w = w' := by
  have h : p < 1 ∨ 14 < p := by unfold good at h; omega
  rcases h with h | h
  all_goals
    go_enter Try.func86, Try.ntmps86
    go_wp2
    go_ret
    exact ⟨ret_bool (by simp <;> omega), rfl⟩
theorem wrap_pow {n : Nat} (h : n ≤ 62) : wrap64 ((2 : Int) ^ n) = 2 ^ n := by
  have h1 : (2 : Int) ^ n ≤ 2 ^ 62 := by
    have := Nat.pow_le_pow_right (n := 2) (by decide) h
    exact_mod_cast this
  have h2 : (0 : Int) ≤ 2 ^ n := Int.pow_nonneg (by decide)
  exact IntWalk.wrap64_in _ (by omega)
theorem pow14 {n : Nat} (h : n ≤ 14) : 2 ^ n ≤ 16384 := Nat.pow_le_pow_right (n := 2) (by decide) h
theorem size14 {n : Nat} (h : n ≤ 14) : (64 - n) * 2 ^ n ≤ 1048576 := Nat.le_trans (Nat.mul_le_mul (by omega) (pow14 h)) (by decide : 64 * 16384 ≤ 1048576)
theorem len_end {n : Nat} (h2 : n ≤ 14) (h : good n) : wrap64 ((64 - (n : Int)) * 2 ^ n) = lenI n := by
  have e : (64 - (n : Int)) * 2 ^ n = (((64 - n) * 2 ^ n : Nat) : Int) := by
    rw [Int.natCast_mul, Int.ofNat_sub (by omega)]; simp
  have := size14 h2
  rw [e, lenI, if_pos h, Int.toNat_natCast]
  exact IntWalk.wrap64_in _ (by omega)
theorem length_any (p : Int) (w : World) :
    Calls Try.prog 78 #[.int .i64 p] w fun e w' => e = .returned (.int .i64 (lenI p)) ∧ w = w' := by
  by_cases h : good p
  · obtain ⟨h1, h2⟩ := id h
    obtain ⟨n, rfl⟩ := Int.eq_ofNat_of_zero_le (a := p) (by omega)
    go_enter Try.func78, Try.ntmps78
    go_wp2_with (first | (go_at_call 86; refine (right_t _ h _).mono ?_; rintro e w' ⟨rfl, rfl⟩))
    go_ret
    exact ⟨ret_int (len_end (by omega) h), rfl⟩
  · go_enter Try.func78, Try.ntmps78
    go_wp2_with (first | (go_at_call 86; refine (right_f _ h _).mono ?_; rintro e w' ⟨rfl, rfl⟩))
    go_ret
    exact ⟨ret_int (by simp [lenI, h]), rfl⟩
theorem shl_end {m k : Nat} (h : m * 2 ^ k + 2 ^ k ≤ 9223372036854775808) : wrap64 ((m : Int) * 2 ^ k) = ((m * 2 ^ k : Nat) : Int) := by
  have e : (m : Int) * 2 ^ k = ((m * 2 ^ k : Nat) : Int) := by rw [Int.natCast_mul]; simp
  have := pow_pos' k
  rw [e, IntWalk.wrap64_in _ (by omega)]
theorem shl1_end {k : Nat} (h : k ≤ 62) : wrap64 (wrap64 ((2 : Int) ^ k) - 1) = ((2 ^ k - 1 : Nat) : Int) := by
  have h1 : 2 ^ k ≤ 2 ^ 62 := Nat.pow_le_pow_right (by decide) h
  have h2 := pow_pos' k
  have e : (2 : Int) ^ k = ((2 ^ k : Nat) : Int) := by simp
  rw [wrap_pow h, e, IntWalk.wrap64_in _ (by omega)]; omega
theorem ret_int3 {k l m : IntKind} {a b c d e f : Int} (h : a = b) (h' : c = d) (h'' : e = f) : Ending.returned (.tuple #[.int k a, .int l c, .int m e]) = .returned (.tuple #[.int k b, .int l d, .int m f]) := by rw [h, h', h'']
theorem ends_facts {n u : Nat} (h : good n) (h3 : ¬ lenI n ≤ u) (hu : ¬ (u : Int) < 2 ^ n) :
    ∃ k m a : Nat, u = a + m ∧ k ≤ 62 ∧ wrap64 ((u : Int) / 2 ^ n - 1) = (k : Int) ∧ wrap64 ((k : Int) * 2 ^ n) = (a : Int) ∧ wrap64 ((u : Int) - (a : Int)) = (m : Int) ∧
      lowI n u = ((m * 2 ^ k : Nat) : Int) ∧ morI n u = ((2 ^ k - 1 : Nat) : Int) ∧ m * 2 ^ k + 2 ^ k ≤ 9223372036854775808 ∧ lowE n u = 0 := by
  obtain ⟨h1, h2⟩ := id h
  have hn : n ≤ 14 := by omega
  have hge : 2 ^ n ≤ u := by
    have : (2 : Int) ^ n ≤ u := by omega
    exact_mod_cast this
  obtain ⟨k, m, m1, m2, e, ek⟩ := split_i hge
  have hl : u < (64 - n) * 2 ^ n := by
    rw [lenI, if_pos h, Int.toNat_natCast] at h3; omega
  have hs := size14 hn
  have hp := pow_pos' n
  have hk : k ≤ 62 := by
    have : k * 2 ^ n < 63 * 2 ^ n := by
      have : (64 - n) * 2 ^ n ≤ 63 * 2 ^ n := Nat.mul_le_mul_right _ (by omega)
      omega
    have := Nat.lt_of_mul_lt_mul_right this
    omega
  have hE : lowE n u = 0 := by
    have : ¬ (u : Int) < 0 := by omega
    simp [lowE, h, h3, this]
  obtain ⟨l1, l2⟩ := lo_of (p := n) (k := k) m1 m2
  have hh := hi_lt (p := n) (i := u) (by omega) hl
  rw [e, l1, l2] at hh
  refine ⟨k, m, k * 2 ^ n, e, hk, ?_, ?_, ?_, ?_, ?_, ?_, hE⟩
  · have e5 : (u : Int) / 2 ^ n = ((u / 2 ^ n : Nat) : Int) := by simp
    have : 1 ≤ u / 2 ^ n := (Nat.le_div_iff_mul_le hp).2 (by omega)
    rw [e5, IntWalk.wrap64_in _ (by omega)]; omega
  · have e5 : (k : Int) * 2 ^ n = ((k * 2 ^ n : Nat) : Int) := by rw [Int.natCast_mul]; simp
    have : k * 2 ^ n ≤ u := by omega
    rw [e5, IntWalk.wrap64_in _ (by omega)]
  · rw [IntWalk.wrap64_in _ (by omega)]; omega
  · rw [lowI, if_pos hE, Int.toNat_natCast, Int.toNat_natCast, e, l1]
  · rw [morI, if_pos hE, Int.toNat_natCast, Int.toNat_natCast, e, l2]
  · have := pow_pos' k; omega
theorem ends_big {n u : Nat} (h : good n) (h3 : ¬ lenI n ≤ u) (h0 : ¬ (u : Int) < 0) (hi : (u : Int) ≤ 9223372036854775807) (hu : ¬ (u : Int) < 2 ^ n) (hu' : ¬ (u : Int) < wrap64 (2 ^ n)) (w : World) :
    Calls Try.prog 79 #[.int .i64 n, .int .i64 u] w fun e w' => e = .returned (.tuple #[.int .i64 (lowI n u), .int .i64 (morI n u), .int .i64 (lowE n u)]) ∧ ∃ n, w' = w.drewN n := by
  obtain ⟨k, m, a, e, hk, k1, k2, k3, l1, l2, l3, l4⟩ := ends_facts h h3 hu
  replace l1 := Lib.hid l1; replace l2 := Lib.hid l2; replace l3 := Lib.hid l3; replace l4 := Lib.hid l4; replace e := Lib.hid e
  obtain ⟨h1, h2⟩ := id h
  clear hu
  go_enter Try.func79, Try.ntmps79
  go_wp2_with (first | (go_at_call 86; refine (right_t _ h _).mono ?_; rintro e w' ⟨rfl, rfl⟩) | (go_at_call 78; refine (length_any _ _).mono ?_; rintro e w' ⟨rfl, rfl⟩))
  go_quiet (fail)
  go_wp2
  go_ret3
  exact ⟨ret_int3 (by rw [l1.out]; exact shl_end l3.out) (by rw [l2.out]; exact shl1_end hk) l4.out.symm, _, rfl⟩
theorem ends_any (p i : Int) (hi0 : -9223372036854775808 ≤ i) (hi : i ≤ 9223372036854775807) (w : World) :
    Calls Try.prog 79 #[.int .i64 p, .int .i64 i] w fun e w' => e = .returned (.tuple #[.int .i64 (lowI p i), .int .i64 (morI p i), .int .i64 (lowE p i)]) ∧ ∃ n, w' = w.drewN n := by
  by_cases h : good p
  · by_cases h0 : i < 0
    · go_enter Try.func79, Try.ntmps79
      go_wp2_with (first | (go_at_call 86; refine (right_t _ h _).mono ?_; rintro e w' ⟨rfl, rfl⟩))
      go_ret3
      have e : lowE p i = 2 := by simp [lowE, h, h0]
      exact ⟨ret_int3 (by simp [lowI, e]) (by simp [morI, e]) e.symm, 0, rfl⟩
    · by_cases h3 : lenI p ≤ i
      · go_enter Try.func79, Try.ntmps79
        go_wp2_with (first | (go_at_call 86; refine (right_t _ h _).mono ?_; rintro e w' ⟨rfl, rfl⟩) | (go_at_call 78; refine (length_any _ _).mono ?_; rintro e w' ⟨rfl, rfl⟩))
        go_ret3
        have e : lowE p i = 2 := by simp [lowE, h, h3]
        exact ⟨ret_int3 (by simp [lowI, e]) (by simp [morI, e]) e.symm, 0, rfl⟩
      · obtain ⟨h1, h2⟩ := id h
        obtain ⟨n, rfl⟩ := Int.eq_ofNat_of_zero_le (a := p) (by omega)
        obtain ⟨u, rfl⟩ := Int.eq_ofNat_of_zero_le (a := i) (by omega)
        have e1 := wrap_pow (n := n) (by omega)
        have he : lowE n u = 0 := by simp [lowE, h, h0, h3]
        replace he := Lib.hid he
        by_cases hu : (u : Int) < 2 ^ n
        · have hu' : (u : Int) < wrap64 (2 ^ n) := by rw [e1]; exact hu
          clear e1
          go_enter Try.func79, Try.ntmps79
          go_wp2_with (first | (go_at_call 86; refine (right_t _ h _).mono ?_; rintro e w' ⟨rfl, rfl⟩) | (go_at_call 78; refine (length_any _ _).mono ?_; rintro e w' ⟨rfl, rfl⟩))
          go_ret3
          have hu2 : u < 2 ^ n := by exact_mod_cast hu
          exact ⟨ret_int3 (by simp [lowI, he.out, lo, hu2]) (by simp [morI, he.out, mo, hu2]) he.out.symm, 0, rfl⟩
        · have hu' : ¬ (u : Int) < wrap64 (2 ^ n) := by rw [e1]; exact hu
          clear e1
          exact ends_big h h3 h0 hi hu hu' w
  · go_enter Try.func79, Try.ntmps79
    go_wp2_with (first | (go_at_call 86; refine (right_f _ h _).mono ?_; rintro e w' ⟨rfl, rfl⟩))
    go_ret3
    have e : lowE p i = 1 := by simp [lowE, h]
    exact ⟨ret_int3 (by simp [lowI, e]) (by simp [morI, e]) e.symm, 0, rfl⟩
theorem lo_rng {p i : Int} : 0 ≤ lowI p i ∧ 0 ≤ morI p i ∧ lowI p i + morI p i ≤ 9223372036854775807 := by
  by_cases e : lowE p i = 0
  · have hg : good p := by
      apply Classical.byContradiction; intro h; simp [lowE, h] at e
    have hb : ¬ (i < 0 ∨ lenI p ≤ i) := by
      intro h; simp [lowE, hg, h] at e
    obtain ⟨h1, h2⟩ := id hg
    obtain ⟨n, rfl⟩ := Int.eq_ofNat_of_zero_le (a := p) (by omega)
    obtain ⟨u, rfl⟩ := Int.eq_ofNat_of_zero_le (a := i) (by omega)
    rw [lowI, morI, if_pos e, if_pos e]
    rw [lenI, if_pos hg] at hb
    rw [Int.toNat_natCast, Int.toNat_natCast] at *
    have := hi_lt (p := n) (i := u) (by omega) (by omega)
    omega
  · simp [lowI, morI, e]
theorem low_any (p i : Int) (hi0 : -9223372036854775808 ≤ i) (hi : i ≤ 9223372036854775807) (w : World) :
    Calls Try.prog 58 #[.int .i64 p, .int .i64 i] w fun e w' => e = .returned (.tuple #[.int .i64 (lowI p i), .int .i64 (lowE p i)]) ∧ ∃ n, w' = w.drewN n := by
  have hE := ends_any p i hi0 hi
  clear hi0 hi
  go_enter Try.func58, Try.ntmps58
  go_wp2_with (first | (go_at_call 79; refine (hE _).mono ?_; rintro e w' ⟨rfl, n, rfl⟩))
  go_ret2
  exact ⟨rfl, _, rfl⟩
def higI (p i : Int) : Int := lowI p i + morI p i
theorem high_any (p i : Int) (hi0 : -9223372036854775808 ≤ i) (hi : i ≤ 9223372036854775807) (w : World) :
    Calls Try.prog 59 #[.int .i64 p, .int .i64 i] w fun e w' => e = .returned (.tuple #[.int .i64 (higI p i), .int .i64 (lowE p i)]) ∧ ∃ n, w' = w.drewN n := by
  have hE := ends_any p i hi0 hi
  have hr := @lo_rng p i
  obtain ⟨r1, r2, r3⟩ := hr
  clear hi0 hi
  go_enter Try.func59, Try.ntmps59
  go_wp2_with (first | (go_at_call 79; refine (hE _).mono ?_; rintro e w' ⟨rfl, n, rfl⟩))
  go_ret2
  exact ⟨rfl, _, rfl⟩
end Go.Proofs.Ytpiegngjpnpohaa.Bk

namespace Go.Proofs.Ytpiegngjpnpohaa.Fb
open Go.RowKit Ieee Go.Proofs.Ytpiegngjpnpohaa.Wf
set_option linter.unusedVariables false
theorem bits_run (b : Nat) (w : World) : (callFunc 54 #[.float .f64 b]).run Try.prog w = .ok (.value (.int .u64 b)) w := by
  rw [run_callFunc_extern Try.func54 (by kernel_rfl) (by kernel_rfl) (by kernel_rfl) (e := Extern.MathFloatBits.float64bits) (by kernel_rfl)]
  rfl
theorem from_run (n : Nat) (w : World) : (callFunc 88 #[.int .u64 n]).run Try.prog w = .ok (.value (.float .f64 n)) w := by
  rw [run_callFunc_extern Try.func88 (by kernel_rfl) (by kernel_rfl) (by kernel_rfl) (e := Extern.MathFloatBits.float64frombits) (by kernel_rfl)]
  rfl
theorem mg_bits (x : Nat) (h : okF x) : bits BinOp.andNot IntKind.u64 (x : Int) 9223372036854775808 = ((mg x : Nat) : Int) := by
  unfold okF at h
  have h1 := u64_andNot_nat x 9223372036854775808 (by omega) (by omega)
  have h2 : x &&& (18446744073709551615 - 9223372036854775808) = x % 2 ^ 63 := Nat.and_two_pow_sub_one_eq_mod x 63
  rw [h2] at h1
  exact h1
theorem abs_any (x : Nat) (h : okF x) (w : World) :
    Calls Try.prog 81 #[.float .f64 x] w fun e w' => e = .returned (.float .f64 (mg x)) ∧ w' = w := by
  have f1 := mg_bits x h
  have b1 := bits_run x
  have b2 := from_run (mg x)
  clear h
  go_enter Try.func81, Try.ntmps81
  go_wp2
  go_ret
  exact ⟨rfl, rfl⟩
def infF (x : Nat) : Bool := decide (mg x = 9218868437227405312)
theorem isInf_any (x : Nat) (h : okF x) (w : World) :
    Calls Try.prog 63 #[.float .f64 x, .int .i64 0] w fun e w' => e = .returned (.bool (infF x)) ∧ w' = w := by
  have c := abs_any x h
  have f1 : (FloatKind.f64.format.order (mg x) 9218868437227405311 == some Ordering.gt) = infF x := ord_top (a := x)
  clear h
  go_enter Try.func63, Try.ntmps63
  go_wp2_with fail
  refine (c _).mono ?_
  rintro e w' ⟨rfl, rfl⟩
  go_wp2
  go_ret
  exact ⟨rfl, rfl⟩
theorem isNaN_any (x : Nat) (h : okF x) (w : World) :
    Calls Try.prog 62 #[.float .f64 x] w fun e w' => e = .returned (.bool (nanF x)) ∧ w' = w := by
  have f1 : (FloatKind.f64.format.order x x != some Ordering.eq) = nanF x := ord_self h
  clear h
  go_enter Try.func62, Try.ntmps62
  go_wp2
  go_ret
  exact ⟨rfl, rfl⟩
theorem sign_wrap (x : Nat) (h : okF x) : (IntKind.i64.wrap (x : Int) < 0) = (negF x = true) := by
  unfold okF at h
  rw [IntKind.wrap_i64]
  unfold negF
  rw [decide_eq_true_eq]
  apply propext
  constructor <;> intro g <;> omega
theorem signbit_any (x : Nat) (h : okF x) (w : World) :
    Calls Try.prog 64 #[.float .f64 x] w fun e w' => e = .returned (.bool (negF x)) ∧ w' = w := by
  have f1 := sign_wrap x h
  have b1 := bits_run x
  obtain ⟨y, hy⟩ : ∃ y, y = IntKind.i64.wrap (x : Int) := ⟨_, rfl⟩
  rw [← hy] at f1
  have hy' := hy.symm
  clear h hy
  go_enter Try.func64, Try.ntmps64
  go_wp2
  go_ret
  exact ⟨by simp, rfl⟩
theorem rc_walk (a b : Nat) (p q lt gt s t : Bool) (r : Int) (w : World)
    (c1 : ∀ w, Calls Try.prog 62 #[.float .f64 a] w fun e w' => e = .returned (.bool p) ∧ w' = w)
    (c2 : ∀ w, Calls Try.prog 62 #[.float .f64 b] w fun e w' => e = .returned (.bool q) ∧ w' = w)
    (s1 : ∀ w, Calls Try.prog 64 #[.float .f64 a] w fun e w' => e = .returned (.bool s) ∧ w' = w)
    (s2 : ∀ w, Calls Try.prog 64 #[.float .f64 b] w fun e w' => e = .returned (.bool t) ∧ w' = w)
    (f1 : (FloatKind.f64.format.order a b == some Ordering.lt) = lt) (f2 : (FloatKind.f64.format.order a b == some Ordering.gt) = gt)
    (h : (p = true ∧ q = true ∧ r = 0) ∨ (p = true ∧ q = false ∧ r = -1) ∨ (p = false ∧ lt = true ∧ r = -1) ∨ (p = false ∧ lt = false ∧ q = true ∧ r = 1) ∨ (p = false ∧ lt = false ∧ q = false ∧ gt = true ∧ r = 1) ∨
      (p = false ∧ lt = false ∧ q = false ∧ gt = false ∧ s = t ∧ r = 0) ∨ (p = false ∧ lt = false ∧ q = false ∧ gt = false ∧ s = true ∧ t = false ∧ r = -1) ∨ (p = false ∧ lt = false ∧ q = false ∧ gt = false ∧ s = false ∧ t = true ∧ r = 1)) :
    Calls Try.prog 33 #[.float .f64 a, .float .f64 b] w fun e w' => e = .returned (.int .i64 r) ∧ ∃ n, w' = w.drewN n := by
  rcases h with ⟨rfl, rfl, rfl⟩ | ⟨rfl, rfl, rfl⟩ | ⟨rfl, rfl, rfl⟩ | ⟨rfl, rfl, rfl, rfl⟩ | ⟨rfl, rfl, rfl, rfl, rfl⟩ | ⟨rfl, rfl, rfl, rfl, rfl, rfl⟩ | ⟨rfl, rfl, rfl, rfl, rfl, rfl, rfl⟩ | ⟨rfl, rfl, rfl, rfl, rfl, rfl, rfl⟩
  all_goals
    go_enter Try.func33, Try.ntmps33
    go_wp2_with (first
      | (go_at_call 62; with_reducible refine (c1 _).mono ?_; rintro e w' ⟨rfl, rfl⟩)
      | (go_at_call 62; with_reducible refine (c2 _).mono ?_; rintro e w' ⟨rfl, rfl⟩)
      | (go_at_call 64; with_reducible refine (s1 _).mono ?_; rintro e w' ⟨rfl, rfl⟩)
      | (go_at_call 64; with_reducible refine (s2 _).mono ?_; rintro e w' ⟨rfl, rfl⟩)
      | go_quiet (first
        | (go_at_call 64; with_reducible exact Calls.quiet_of_same (s1 _))
        | (go_at_call 64; with_reducible exact Calls.quiet_of_same (s2 _))))
    go_ret
    first | exact ⟨rfl, 0, rfl⟩ | exact ⟨rfl, _, rfl⟩
theorem real_compare (a b : Nat) (ha : okF a) (hb : okF b) (w : World) :
    Calls Try.prog 33 #[.float .f64 a, .float .f64 b] w fun e w' => e = .returned (.int .i64 (cmpF a b)) ∧ ∃ n, w' = w.drewN n := by
  refine rc_walk a b _ _ _ _ _ _ _ w (isNaN_any a ha) (isNaN_any b hb) (signbit_any a ha) (signbit_any b hb) (ord_lt ha hb) (ord_gt ha hb) ?_
  rw [rk_cases ha hb]
  by_cases h1 : nanF a = true <;> by_cases h2 : nanF b = true
  · simp [h1, h2]
  · simp [h1, h2]
  · simp [h1, h2]
  · rw [Bool.not_eq_true] at h1 h2
    simp only [h1, h2, true_and, decide_eq_true_eq, decide_eq_false_iff_not, Bool.false_eq_true, false_and, false_or, if_false, and_self]
    by_cases h3 : sv a < sv b
    · simp [h3]
    · by_cases h4 : sv b < sv a
      · simp [h3, h4]
      · simp only [h3, h4, if_false, not_false_eq_true, true_and, false_and, false_or]
        by_cases h5 : negF a = negF b
        · simp [h5]
        · cases h6 : negF a <;> cases h7 : negF b <;> simp_all
theorem real_same (a b : Nat) (ha : okF a) (hb : okF b) (w : World) :
    Calls Try.prog 46 #[.float .f64 a, .float .f64 b] w fun e w' => e = .returned (.bool (decide (rk a = rk b))) ∧ ∃ n, w' = w.drewN n := by
  have c := real_compare a b ha hb
  have f : (cmpF a b == 0) = decide (rk a = rk b) := by
    rw [Bool.eq_iff_iff]; simp [cmpF_zero]
  clear ha hb
  go_enter Try.func46, Try.ntmps46
  go_wp2_with (go_at_call 33; refine (c _).mono ?_; rintro e w' ⟨rfl, n, rfl⟩)
  go_ret
  exact ⟨rfl, _, rfl⟩
def zeroF (x : Nat) : Bool := decide (x = 0)
end Go.Proofs.Ytpiegngjpnpohaa.Fb

namespace Go.Proofs.Ytpiegngjpnpohaa.Fb
open Go.RowKit Ieee Go.Proofs.Ytpiegngjpnpohaa.Wf
set_option linter.unusedVariables false
def fadd (a b : Nat) : Nat := (double.add a b).getD 0
theorem sum_num (s t : Bool) (m n : Nat) (i j : Int) : ∃ d, (Datum.number s m i).sum (.number t n j) = some d ∧ (Datum.number t n j).sum (.number s m i) = some d := by
  refine ⟨_, rfl, ?_⟩
  simp only [Datum.sum]
  rw [Int.min_comm j i, Int.add_comm (signed t n _) (signed s m _), Bool.and_comm]
theorem fin_mg {b : Nat} (hf : finF b = true) : mg b < 9218868437227405312 := by simpa [finF] using hf
theorem add_facts {a b : Nat} (ha : okF a) (hb : okF b) (fa : finF a = true) (fb : finF b = true) : double.add a b = some (fadd a b) ∧ fadd a b = fadd b a := by
  obtain ⟨m, p, e1⟩ := read_num ha (fin_mg fa)
  obtain ⟨n, q, e2⟩ := read_num hb (fin_mg fb)
  obtain ⟨d, h1, h2⟩ := sum_num (negF a) (negF b) m n p q
  have x1 : double.add a b = some (double.write d) := by unfold Format.add; rw [e1, e2, h1]; rfl
  have x2 : double.add b a = some (double.write d) := by unfold Format.add; rw [e1, e2, h2]; rfl
  have f1 : fadd a b = double.write d := by unfold fadd; rw [x1]; rfl
  have f2 : fadd b a = double.write d := by unfold fadd; rw [x2]; rfl
  exact ⟨by rw [x1, f1], by rw [f1, f2]⟩
theorem fadd_ok {a b : Nat} (ha : okF a) (hb : okF b) (fa : finF a = true) (fb : finF b = true) : okF (fadd a b) := double.add_lt (add_facts ha hb fa fb).1
end Go.Proofs.Ytpiegngjpnpohaa.Fb

namespace Go.Proofs.Ytpiegngjpnpohaa.La
open Go.RowKit
set_option linter.unusedVariables false
def isL (c : Int) : Bool := decide (97 ≤ c ∧ c ≤ 122 ∨ 65 ≤ c ∧ c ≤ 90 ∨ 48 ≤ c ∧ c ≤ 57 ∨ c = 95)
def isLB (b : UInt8) : Bool := isL (b.toNat : Int)
theorem ret_bool {a b : Bool} (h : a = b) : Ending.returned (.bool a) = .returned (.bool b) := by rw [h]
theorem letter_any (c : Int) (w : World) :
    Calls Try.prog 49 #[.int .u8 c] w fun e w' => e = .returned (.bool (isL c)) ∧ w' = w := by
  go_enter Try.func49, Try.ntmps49
  go_wp2
  all_goals
    go_ret
    refine ⟨ret_bool ?_, rfl⟩
    unfold isL
    first | (symm; refine decide_eq_true ?_; omega) | (symm; refine decide_eq_false ?_; omega) | (rw [Bool.eq_iff_iff]; simp only [Bool.or_eq_true, decide_eq_true_eq, beq_iff_eq]; omega)
end Go.Proofs.Ytpiegngjpnpohaa.La

namespace Go.Proofs.Ytpiegngjpnpohaa.La
open Go.RowKit
set_option linter.unusedVariables false
def isR (colon : Bool) (b : UInt8) : Bool := isLB b || (colon && b == 58)
theorem get_data (s : ByteArray) {j : Nat} (h : j < s.size) : s.data.toList[j]? = some s[j] := by
  rw [List.getElem?_eq_getElem (by simpa using h), Array.getElem_toList]; rfl
theorem len_data (s : ByteArray) : s.data.toList.length = s.size := Array.length_toList
theorem is58 (b : UInt8) : ((b.toNat : Int) == 58) = (b == 58) := by
  rw [Bool.eq_iff_iff, beq_iff_eq, beq_iff_eq]
  constructor
  · intro h; exact UInt8.toNat_inj.1 (by have : (58 : UInt8).toNat = 58 := rfl; omega)
  · rintro rfl; rfl
end Go.Proofs.Ytpiegngjpnpohaa.La

namespace Go.Proofs.Ytpiegngjpnpohaa.La
open Go.RowKit
set_option linter.unusedVariables false
def digB (b : UInt8) : Bool := decide (48 ≤ (b.toNat : Int) ∧ (b.toNat : Int) ≤ 57)
def firstL : List UInt8 → Bool
  | [] => false
  | b :: r => decide (r.length + 1 ≤ 64) && !digB b
def nmL (colon : Bool) (l : List UInt8) : Bool := firstL l && l.all (isR colon)
def sBucket : List UInt8 := [95, 98, 117, 99, 107, 101, 116]
def sSum : List UInt8 := [95, 115, 117, 109]
def sCount : List UInt8 := [95, 99, 111, 117, 110, 116]
def sLe : List UInt8 := [108, 101]
def sQuantile : List UInt8 := [113, 117, 97, 110, 116, 105, 108, 101]
def sUnder : List UInt8 := [95, 95]
def nameL (l : List UInt8) : Bool := nmL true l && (!Lib.hasSuffix l sBucket && (!Lib.hasSuffix l sSum && !Lib.hasSuffix l sCount))
def lnameL (l : List UInt8) : Bool := nmL false l && (!(l == sLe) && (!(l == sQuantile) && !Lib.hasPrefix l sUnder))
theorem first_data (s : ByteArray) (h : 0 < s.size) : firstL s.data.toList = (decide (s.size ≤ 64) && !digB s[0]) := by
  have h1 := len_data s
  have h2 := get_data s h
  cases hl : s.data.toList with
  | nil => rw [hl] at h1; simp at h1; omega
  | cons b r =>
    rw [hl] at h1 h2
    simp at h1 h2
    rw [firstL, h1, h2]
theorem first_nil (s : ByteArray) (h : s.size = 0) : firstL s.data.toList = false := by
  have h1 := len_data s
  have : s.data.toList = [] := List.eq_nil_of_length_eq_zero (by omega)
  rw [this]; rfl
end Go.Proofs.Ytpiegngjpnpohaa.La
