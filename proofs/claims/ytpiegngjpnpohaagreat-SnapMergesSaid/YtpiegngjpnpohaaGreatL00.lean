/- Lemmas for the laws of this seat, laid together of Wf0, Wf1, Wf2, Fb, BkM, Shelf, Bk, BkR. -/
import Ieee.Arith
import Derived.Laws.FloatArith
import Derived.WalkKit
import Derived.Shelf.Small.Bits
import Derived.Shelf.Small.Strs
import Derived.Shelf.Strconv.Itoa0
import Derived.Shelf.Strings.Prefix
import Derived.Shelf.Bits.Mul64
import Derived.Test.YtpiegngjpnpohaaGreatProg
import Derived.Test.YtpiegngjpnpohaaGreatChecked
import Derived.BigQuiet
import Derived.Deep.QuietTactic
import Derived.RegionTactic
import Derived.ChangeAlike
import Derived.Outline
import Derived.Lib.Hide
import Derived.Lib.ItoaNum
import Derived.IntWalk
import Derived.LoopTactic

namespace Go.Proofs.YtpiegngjpnpohaaGreat.Wf
open Ieee
def rnd (n d : Nat) : Nat := n / 2 ^ d + (if 2 ^ d < 2 * (n % 2 ^ d) ∨ (2 ^ d = 2 * (n % 2 ^ d) ∧ n / 2 ^ d % 2 = 1) then 1 else 0)
theorem cut_even (neg : Bool) (n d : Nat) (h : d ≤ n.log2 + 2) : Toward.even.cut neg n d = rnd n d := by
  unfold Toward.cut rnd
  rw [Nat.min_eq_left h, Nat.one_shiftLeft]
  simp only
  congr 1
  by_cases h1 : 2 ^ d < 2 * (n % 2 ^ d)
  · simp [h1]
  · by_cases h2 : 2 ^ d = 2 * (n % 2 ^ d)
    · by_cases h3 : n / 2 ^ d % 2 = 1
      · simp [← h2, h3]
      · simp [← h2, h3]
    · simp [h1, h2]
theorem log2_shl (N k : Nat) (h : N ≠ 0) : (N * 2 ^ k).log2 = N.log2 + k := by
  have hp : 0 < 2 ^ k := Nat.two_pow_pos k
  have hne : N * 2 ^ k ≠ 0 := Nat.mul_ne_zero h (by omega)
  have h1 := Nat.log2_self_le h
  have h2 := Nat.lt_log2_self (n := N)
  apply Nat.le_antisymm
  · apply Nat.le_of_lt_succ
    rw [Nat.log2_lt hne, show (N.log2 + k).succ = (N.log2 + 1) + k by omega, Nat.pow_add]
    exact Nat.mul_lt_mul_of_pos_right h2 hp
  · rw [Nat.le_log2 hne, Nat.pow_add]
    exact Nat.mul_le_mul_right _ h1
theorem least_double : double.leastPlace = -1074 := by decide
theorem binade_double : double.binade = 4503599627370496 := by decide
theorem inf_double : double.infRung = 9218868437227405312 := by decide
theorem sign_double : double.signWeight = 9223372036854775808 := by decide
end Go.Proofs.YtpiegngjpnpohaaGreat.Wf

namespace Go.Proofs.YtpiegngjpnpohaaGreat.Wf
open Ieee
theorem or_one (T : Nat) : T ||| 1 = T + (1 - T % 2) := by
  have h : T = 2 ^ 1 * (T / 2) ||| T % 2 := by
    rw [← Nat.two_pow_add_eq_or_of_lt (by omega)]; omega
  have h2 : T % 2 ||| 1 = 1 := by
    rcases Nat.mod_two_eq_zero_or_one T with e | e <;> rw [e] <;> decide
  have h3 : T ||| 1 = 2 ^ 1 * (T / 2) ||| 1 := by
    conv => lhs; rw [h]
    rw [Nat.or_assoc, h2]
  rw [h3, ← Nat.two_pow_add_eq_or_of_lt (by omega)]
  omega
def sticky (N k : Nat) : Nat := if N % 2 ^ k = 0 then N / 2 ^ k else N / 2 ^ k + (1 - N / 2 ^ k % 2)
theorem log2_eq {N L : Nat} (h1 : 2 ^ L ≤ N) (h2 : N < 2 ^ (L + 1)) : N.log2 = L := by
  have h0 : N ≠ 0 := by have := Nat.two_pow_pos L; omega
  have a := (Nat.le_log2 h0).2 h1
  have b := (Nat.log2_lt h0).2 h2
  omega
end Go.Proofs.YtpiegngjpnpohaaGreat.Wf

namespace Go.Proofs.YtpiegngjpnpohaaGreat.Wf
open Ieee
structure Parts (r k m : Nat) : Prop where
  eq : r = k * 4503599627370496 + m
  lt : m < 9007199254740992
  ge : 0 < k → 4503599627370496 ≤ m
theorem parts_of (r : Nat) : ∃ k m, Parts r k m ∧ (r < 9218868437227405312 → ∀ (neg : Bool), double.read (double.word neg r) = .number neg m (-1074 + (k : Int))) := by
  have hneg : ∀ neg : Bool, r < 9218868437227405312 → (double.word neg r / double.signWeight % 2 == 1) = neg ∧ double.word neg r % double.signWeight = r := by
    intro neg h
    rw [sign_double]
    cases neg
    · unfold Format.word; simp only [Bool.false_eq_true, if_false]
      constructor
      · rw [beq_eq_false_iff_ne]; omega
      · omega
    · unfold Format.word; simp only [if_true, sign_double]
      constructor
      · rw [beq_iff_eq]; omega
      · omega
  by_cases h : r < 4503599627370496
  · refine ⟨0, r, ⟨by omega, by omega, by omega⟩, fun hr neg => ?_⟩
    obtain ⟨h1, h2⟩ := hneg neg hr
    unfold Format.read
    simp only [h1, h2, binade_double, least_double]
    rw [if_pos h]; rfl
  · refine ⟨r / 4503599627370496 - 1, 4503599627370496 + r % 4503599627370496, ⟨by omega, by omega, by omega⟩, fun hr neg => ?_⟩
    obtain ⟨h1, h2⟩ := hneg neg hr
    unfold Format.read
    simp only [h1, h2, binade_double, least_double, inf_double]
    rw [if_neg h, if_pos hr]
theorem parts_lt {r k m r' k' m' : Nat} (h : Parts r k m) (h' : Parts r' k' m') (hk : k < k') : m * 2 ^ (k - min k k') < m' * 2 ^ (k' - min k k') ∧ r < r' := by
  have e1 : k - min k k' = 0 := by omega
  obtain ⟨d, hd⟩ : ∃ d, k' - min k k' = d + 1 := ⟨k' - k - 1, by omega⟩
  rw [e1, hd, Nat.pow_zero, Nat.mul_one, Nat.pow_succ]
  have hp : 1 ≤ 2 ^ d := Nat.one_le_two_pow
  have hg := h'.ge (by omega)
  have hl := h.lt
  have hm : 4503599627370496 * 1 ≤ m' * 2 ^ d := Nat.mul_le_mul hg hp
  rw [← Nat.mul_assoc]
  have := h.eq
  have := h'.eq
  omega
theorem parts_cmp {r k m r' k' m' : Nat} (h : Parts r k m) (h' : Parts r' k' m') :
    (m * 2 ^ (k - min k k') < m' * 2 ^ (k' - min k k') ↔ r < r') ∧ (m * 2 ^ (k - min k k') = m' * 2 ^ (k' - min k k') ↔ r = r') := by
  rcases Nat.lt_trichotomy k k' with hk | hk | hk
  · have := parts_lt h h' hk; omega
  · subst hk
    have e : k - min k k = 0 := by omega
    rw [e, Nat.pow_zero, Nat.mul_one, Nat.mul_one]
    have := h.eq
    have := h'.eq
    omega
  · have := parts_lt h' h hk
    rw [Nat.min_comm] at this
    omega
theorem parts_zero {r k m : Nat} (h : Parts r k m) (d : Nat) : m * 2 ^ d = 0 ↔ r = 0 := by
  have hp : 0 < 2 ^ d := Nat.two_pow_pos d
  have h1 := h.eq
  have h2 := h.ge
  constructor
  · intro e
    rcases Nat.mul_eq_zero.1 e with e | e
    · subst e; omega
    · omega
  · intro e
    have : m = 0 := by omega
    subst this; simp
def sg (neg : Bool) (r : Nat) : Int := if neg then -(r : Int) else (r : Int)
theorem signed_eq (neg : Bool) (m d : Nat) : signed neg m d = sg neg (m * 2 ^ d) := by
  unfold signed sg; rw [Nat.shiftLeft_eq]
theorem cmp_sg {A A' r r' : Nat} (s s' : Bool) (h1 : A < A' ↔ r < r') (h2 : A = A' ↔ r = r') (z1 : A = 0 ↔ r = 0) (z2 : A' = 0 ↔ r' = 0) : compare (sg s A) (sg s' A') = compare (sg s r) (sg s' r') := by
  have e : ∀ x y : Int, compare x y = if x < y then Ordering.lt else if x = y then Ordering.eq else Ordering.gt := fun _ _ => rfl
  rw [e, e]
  have c1 : sg s A < sg s' A' ↔ sg s r < sg s' r' := by
    cases s <;> cases s' <;> simp only [sg, Bool.false_eq_true, if_false, if_true] <;> omega
  have c2 : sg s A = sg s' A' ↔ sg s r = sg s' r' := by
    cases s <;> cases s' <;> simp only [sg, Bool.false_eq_true, if_false, if_true] <;> omega
  by_cases g : sg s A < sg s' A'
  · rw [if_pos g, if_pos (c1.1 g)]
  · rw [if_neg g, if_neg (fun x => g (c1.2 x))]
    by_cases q : sg s A = sg s' A'
    · rw [if_pos q, if_pos (c2.1 q)]
    · rw [if_neg q, if_neg (fun x => q (c2.2 x))]
theorem order_words {r r' : Nat} (s s' : Bool) (h : r < 9218868437227405312) (h' : r' < 9218868437227405312) : double.order (double.word s r) (double.word s' r') = some (compare (sg s r) (sg s' r')) := by
  obtain ⟨k, m, p, e⟩ := parts_of r
  obtain ⟨k', m', p', e'⟩ := parts_of r'
  unfold Format.order
  rw [e h s, e' h' s']
  unfold Datum.order
  simp only
  rw [signed_eq, signed_eq]
  have e1 : (-1074 + (k : Int) - min (-1074 + (k : Int)) (-1074 + (k' : Int))).toNat = k - min k k' := by omega
  have e2 : (-1074 + (k' : Int) - min (-1074 + (k : Int)) (-1074 + (k' : Int))).toNat = k' - min k k' := by omega
  rw [e1, e2]
  obtain ⟨c1, c2⟩ := parts_cmp p p'
  rw [cmp_sg s s' c1 c2 (parts_zero p _) (parts_zero p' _)]
end Go.Proofs.YtpiegngjpnpohaaGreat.Wf

namespace Go.Proofs.YtpiegngjpnpohaaGreat.Fb
open Ieee Go.Proofs.YtpiegngjpnpohaaGreat.Wf
def okF (b : Nat) : Prop := b < 18446744073709551616
def mg (b : Nat) : Nat := b % 9223372036854775808
def nanF (b : Nat) : Bool := decide (9218868437227405312 < mg b)
def finF (b : Nat) : Bool := decide (mg b < 9218868437227405312)
def negF (b : Nat) : Bool := decide (9223372036854775808 ≤ b)
def sv (b : Nat) : Int := sg (negF b) (mg b)
def rk (b : Nat) : Nat := if 9218868437227405312 < mg b then 0 else if 9223372036854775808 ≤ b then 18446744073709551615 - b else b + 9223372036854775808
def cmpF (a b : Nat) : Int := if rk a < rk b then -1 else if rk b < rk a then 1 else 0
theorem mg_lt (b : Nat) : mg b < 9223372036854775808 := Nat.mod_lt _ (by decide)
theorem word_of {b : Nat} (h : okF b) : double.word (negF b) (mg b) = b := by
  unfold okF at h
  unfold Format.word negF mg
  rw [sign_double]
  by_cases g : 9223372036854775808 ≤ b
  · simp only [g, decide_true, if_true]; omega
  · simp only [g, decide_false, Bool.false_eq_true, if_false]; omega
theorem read_parts {b : Nat} (h : okF b) : (b / double.signWeight % 2 == 1) = negF b ∧ b % double.signWeight = mg b := by
  unfold okF at h
  rw [sign_double]
  unfold negF mg
  refine ⟨?_, rfl⟩
  by_cases g : 9223372036854775808 ≤ b
  · rw [decide_eq_true g, beq_iff_eq]; omega
  · rw [decide_eq_false g, beq_eq_false_iff_ne]; omega
theorem read_inf {b : Nat} (h : okF b) (hm : mg b = 9218868437227405312) : double.read b = .infinity (negF b) := by
  obtain ⟨h1, h2⟩ := read_parts h
  unfold Format.read
  simp only [h1, h2, binade_double, inf_double, hm]
  rw [if_neg (by decide), if_neg (by decide), if_pos trivial]
theorem read_nan {b : Nat} (h : okF b) (hm : 9218868437227405312 < mg b) : double.read b = .nan (negF b) (mg b - 9218868437227405312) := by
  obtain ⟨h1, h2⟩ := read_parts h
  unfold Format.read
  simp only [h1, h2, binade_double, inf_double]
  rw [if_neg (by omega), if_neg (by omega), if_neg (by omega)]
theorem read_num {b : Nat} (h : okF b) (hm : mg b < 9218868437227405312) : ∃ m p, double.read b = .number (negF b) m p := by
  obtain ⟨k, m, _, e⟩ := parts_of (mg b)
  have := e hm (negF b)
  rw [word_of h] at this
  exact ⟨m, _, this⟩
theorem order_nan {a b : Nat} (ha : okF a) (hb : okF b) (h : nanF a = true ∨ nanF b = true) : double.order a b = none := by
  unfold Format.order
  rcases h with h | h
  · rw [read_nan ha (by simpa [nanF] using h)]; rfl
  · rw [read_nan hb (by simpa [nanF] using h)]
    cases double.read a <;> rfl
theorem order_num {a b : Nat} (ha : okF a) (hb : okF b) (h1 : nanF a = false) (h2 : nanF b = false) : double.order a b = some (compare (sv a) (sv b)) := by
  have n1 : ¬ 9218868437227405312 < mg a := by simpa [nanF] using h1
  have n2 : ¬ 9218868437227405312 < mg b := by simpa [nanF] using h2
  have e : ∀ x y : Int, compare x y = if x < y then Ordering.lt else if x = y then Ordering.eq else Ordering.gt := fun _ _ => rfl
  rcases Nat.lt_or_ge (mg a) 9218868437227405312 with f1 | f1
  · rcases Nat.lt_or_ge (mg b) 9218868437227405312 with f2 | f2
    · have := order_words (negF a) (negF b) f1 f2
      rw [word_of ha, word_of hb] at this
      exact this
    · have f2 : mg b = 9218868437227405312 := by omega
      obtain ⟨m, p, ea⟩ := read_num ha f1
      unfold Format.order
      rw [ea, read_inf hb f2]
      unfold Datum.order sv
      rw [e, f2]
      cases negF b <;> cases negF a <;> simp only [sg, Bool.false_eq_true, if_false, if_true, Option.some.injEq]
      · rw [if_pos (by omega)]
      · rw [if_pos (by omega)]
      · rw [if_neg (by omega), if_neg (by omega)]
      · rw [if_neg (by omega), if_neg (by omega)]
  · have f1 : mg a = 9218868437227405312 := by omega
    rcases Nat.lt_or_ge (mg b) 9218868437227405312 with f2 | f2
    · obtain ⟨m, p, eb⟩ := read_num hb f2
      unfold Format.order
      rw [eb, read_inf ha f1]
      unfold Datum.order sv
      rw [e, f1]
      cases negF a <;> cases negF b <;> simp only [sg, Bool.false_eq_true, if_false, if_true, Option.some.injEq]
      · rw [if_neg (by omega), if_neg (by omega)]
      · rw [if_neg (by omega), if_neg (by omega)]
      · rw [if_pos (by omega)]
      · rw [if_pos (by omega)]
    · have f2 : mg b = 9218868437227405312 := by omega
      unfold Format.order
      rw [read_inf ha f1, read_inf hb f2]
      unfold Datum.order sv
      rw [f1, f2]
      cases negF a <;> cases negF b <;> decide
theorem ord_lt {a b : Nat} (ha : okF a) (hb : okF b) : (double.order a b == some Ordering.lt) = decide (nanF a = false ∧ nanF b = false ∧ sv a < sv b) := by
  have e : ∀ x y : Int, compare x y = if x < y then Ordering.lt else if x = y then Ordering.eq else Ordering.gt := fun _ _ => rfl
  cases h1 : nanF a
  · cases h2 : nanF b
    · rw [order_num ha hb h1 h2, e]
      by_cases g : sv a < sv b
      · simp [g]
      · rw [if_neg g]
        by_cases q : sv a = sv b
        · simp [q]
        · rw [if_neg q]; simp [g]
    · rw [order_nan ha hb (.inr h2)]; simp
  · rw [order_nan ha hb (.inl h1)]; simp
theorem ord_gt {a b : Nat} (ha : okF a) (hb : okF b) : (double.order a b == some Ordering.gt) = decide (nanF a = false ∧ nanF b = false ∧ sv b < sv a) := by
  have e : ∀ x y : Int, compare x y = if x < y then Ordering.lt else if x = y then Ordering.eq else Ordering.gt := fun _ _ => rfl
  cases h1 : nanF a
  · cases h2 : nanF b
    · rw [order_num ha hb h1 h2, e]
      by_cases g : sv a < sv b
      · rw [if_pos g]
        have : ¬ sv b < sv a := by omega
        simp [this]
      · rw [if_neg g]
        by_cases q : sv a = sv b
        · simp [q]
        · rw [if_neg q]
          have : sv b < sv a := by omega
          simp [this]
    · rw [order_nan ha hb (.inr h2)]; simp
  · rw [order_nan ha hb (.inl h1)]; simp
theorem ord_self {a : Nat} (ha : okF a) : (double.order a a != some Ordering.eq) = nanF a := by
  cases h1 : nanF a
  · rw [order_num ha ha h1 h1]
    have : compare (sv a) (sv a) = Ordering.eq := by
      show (if sv a < sv a then Ordering.lt else if sv a = sv a then Ordering.eq else Ordering.gt) = _
      rw [if_neg (by omega), if_pos rfl]
    rw [this]; rfl
  · rw [order_nan ha ha (.inl h1)]; rfl
theorem okF_mg (a : Nat) : okF (mg a) := by have := mg_lt a; unfold okF; omega
theorem ord_top {a : Nat} : (double.order (mg a) 9218868437227405311 == some Ordering.gt) = decide (mg a = 9218868437227405312) := by
  rw [ord_gt (okF_mg a) (by unfold okF; omega)]
  have hl := mg_lt a
  have h0 : mg (mg a) = mg a := Nat.mod_eq_of_lt hl
  have h1 : mg 9218868437227405311 = 9218868437227405311 := by decide
  have n0 : negF (mg a) = false := decide_eq_false (by omega)
  have n1 : negF 9218868437227405311 = false := by decide
  have e1 : nanF 9218868437227405311 = false := by decide
  unfold sv
  rw [h0, h1, n0, n1]
  by_cases g : mg a = 9218868437227405312
  · simp [g, e1, sg]
    decide
  · rw [decide_eq_false g, decide_eq_false]
    rintro ⟨q1, _, q2⟩
    simp only [sg, Bool.false_eq_true, if_false] at q2
    have : ¬ 9218868437227405312 < mg (mg a) := by simpa [nanF] using q1
    omega
theorem rk_cases {a b : Nat} (ha : okF a) (hb : okF b) : cmpF a b =
    if nanF a = true ∧ nanF b = true then 0 else if nanF a = true ∨ (nanF a = false ∧ nanF b = false ∧ sv a < sv b) then -1
    else if nanF b = true ∨ (nanF a = false ∧ nanF b = false ∧ sv b < sv a) then 1 else if negF a = negF b then 0 else if negF a = true then -1 else 1 := by
  unfold okF at ha hb
  unfold cmpF rk nanF sv negF mg sg
  by_cases g1 : 9218868437227405312 < a % 9223372036854775808 <;> by_cases g2 : 9218868437227405312 < b % 9223372036854775808 <;>
  by_cases g3 : 9223372036854775808 ≤ a <;> by_cases g4 : 9223372036854775808 ≤ b <;>
  simp only [g1, g2, g3, g4, decide_true, decide_false, if_true, if_false, true_and, and_true, true_or, false_or, and_false, false_and, Bool.false_eq_true, Bool.true_eq_false] <;>
  (repeat' split) <;> omega
theorem cmpF_self (a : Nat) : cmpF a a = 0 := by unfold cmpF; rw [if_neg (by omega), if_neg (by omega)]
theorem cmpF_zero (a b : Nat) : cmpF a b = 0 ↔ rk a = rk b := by
  unfold cmpF
  by_cases h : rk a < rk b
  · rw [if_pos h]; constructor <;> intro x <;> omega
  · rw [if_neg h]
    by_cases g : rk b < rk a
    · rw [if_pos g]; constructor <;> intro x <;> omega
    · rw [if_neg g]; constructor <;> intro x <;> omega
theorem rk_inj {a b : Nat} (ha : okF a) (hb : okF b) (h1 : nanF a = false) (h : rk a = rk b) : a = b := by
  unfold okF at ha hb
  have n1 : ¬ 9218868437227405312 < mg a := by simpa [nanF] using h1
  unfold rk at h
  rw [if_neg n1] at h
  unfold mg at *
  split at h <;> split at h <;> (try split at h) <;> omega
end Go.Proofs.YtpiegngjpnpohaaGreat.Fb

namespace Go.Proofs.YtpiegngjpnpohaaGreat.BkM
def lo (p i : Nat) : Nat := if i < 2 ^ p then i else (i - (i / 2 ^ p - 1) * 2 ^ p) * 2 ^ (i / 2 ^ p - 1)
def mo (p i : Nat) : Nat := if i < 2 ^ p then 0 else 2 ^ (i / 2 ^ p - 1) - 1
theorem pow_pos' (p : Nat) : 0 < 2 ^ p := Nat.pow_pos (by decide)
theorem split_i {p i : Nat} (h : 2 ^ p ≤ i) : ∃ k m, 2 ^ p ≤ m ∧ m < 2 * 2 ^ p ∧ i = k * 2 ^ p + m ∧ i / 2 ^ p - 1 = k := by
  have hp := pow_pos' p
  have h1 : 1 ≤ i / 2 ^ p := (Nat.le_div_iff_mul_le hp).2 (by omega)
  refine ⟨i / 2 ^ p - 1, i - (i / 2 ^ p - 1) * 2 ^ p, ?_, ?_, ?_, rfl⟩
  all_goals
    have h2 := Nat.div_add_mod i (2 ^ p)
    have h3 := Nat.mod_lt i hp
    generalize hq : i / 2 ^ p = q at *
    generalize 2 ^ p = P at *
    obtain ⟨r, rfl⟩ : ∃ r, q = r + 1 := ⟨q - 1, by omega⟩
    simp only [Nat.add_sub_cancel]
    have e : P * (r + 1) = r * P + P := by rw [Nat.mul_comm, Nat.add_mul, Nat.one_mul]
    omega
theorem lo_of {p k m : Nat} (h1 : 2 ^ p ≤ m) (h2 : m < 2 * 2 ^ p) : lo p (k * 2 ^ p + m) = m * 2 ^ k ∧ mo p (k * 2 ^ p + m) = 2 ^ k - 1 := by
  have hp := pow_pos' p
  have e1 : (k * 2 ^ p + m) / 2 ^ p - 1 = k := by
    have : m / 2 ^ p = 1 := by
      rw [Nat.div_eq_iff hp]; constructor <;> omega
    rw [Nat.mul_comm, Nat.mul_add_div hp, this]; omega
  have e2 : ¬ (k * 2 ^ p + m < 2 ^ p) := by omega
  unfold lo mo
  rw [if_neg e2, if_neg e2, e1]
  exact ⟨by rw [Nat.add_sub_cancel_left], rfl⟩
theorem lo_succ (p i : Nat) : lo p (i + 1) = lo p i + mo p i + 1 := by
  have hp := pow_pos' p
  by_cases h : i < 2 ^ p
  · by_cases h' : i + 1 < 2 ^ p
    · simp [lo, mo, h, h']
    · have e : i + 1 = 0 * 2 ^ p + 2 ^ p := by omega
      have := (lo_of (p := p) (k := 0) (m := 2 ^ p) (by omega) (by omega)).1
      rw [e, this]; simp [lo, mo, h]; omega
  · obtain ⟨k, m, h1, h2, rfl, _⟩ := split_i (p := p) (i := i) (by omega)
    obtain ⟨a, b⟩ := lo_of (p := p) (k := k) h1 h2
    have hk := pow_pos' k
    rw [a, b]
    by_cases h3 : m + 1 < 2 * 2 ^ p
    · rw [Nat.add_assoc, (lo_of (p := p) (k := k) (m := m + 1) (by omega) h3).1, Nat.add_mul]; omega
    · have e : k * 2 ^ p + m + 1 = (k + 1) * 2 ^ p + 2 ^ p := by rw [Nat.add_mul]; omega
      rw [e, (lo_of (p := p) (k := k + 1) (m := 2 ^ p) (by omega) (by omega)).1, Nat.pow_succ]
      have e2 : m = 2 * 2 ^ p - 1 := by omega
      rw [e2, Nat.sub_mul, Nat.mul_comm (2 ^ k) 2, ← Nat.mul_assoc, Nat.mul_comm (2 ^ p) 2, Nat.one_mul]
      have : 2 ^ k ≤ 2 * 2 ^ p * 2 ^ k := Nat.le_mul_of_pos_left _ (by omega)
      omega
theorem lo_lt {p i j : Nat} (h : i < j) : lo p i + mo p i < lo p j := by
  induction j with
  | zero => omega
  | succ j ih =>
    have := lo_succ p j
    by_cases e : i = j
    · subst e; omega
    · have := ih (by omega); omega
theorem lo_end {p : Nat} (h1 : p ≤ 63) : lo p ((64 - p) * 2 ^ p) = 2 ^ 63 := by
  have e : (64 - p) * 2 ^ p = (63 - p) * 2 ^ p + 2 ^ p := by
    have : 64 - p = (63 - p) + 1 := by omega
    rw [this, Nat.add_mul, Nat.one_mul]
  rw [e, (lo_of (p := p) (by omega) (by have := pow_pos' p; omega)).1, ← Nat.pow_add]
  congr 1; omega
theorem hi_lt {p i : Nat} (hp : p ≤ 63) (hi : i < (64 - p) * 2 ^ p) : lo p i + mo p i < 2 ^ 63 := by
  rw [← lo_end hp]; exact lo_lt hi
theorem hi_last {p i : Nat} (hp : p ≤ 63) (hi : i + 1 = (64 - p) * 2 ^ p) : lo p i + mo p i + 1 = 2 ^ 63 := by
  rw [← lo_succ, hi, lo_end hp]
end Go.Proofs.YtpiegngjpnpohaaGreat.BkM

namespace Go.Proofs
open Go.Shelf
def Tryz.lays134_ren : Go.Shelf.Ren := ⟨fun | 134 => 180 | 129 => 202 | n => n, fun | 53 => 23 | 3 => 3 | 4 => 4 | 46 => 175 | 5 => 5 | 9 => 9 | n => n, fun | n => n⟩
theorem Tryz.lays134 : Go.Proofs.Lays.n134 Tryz.prog Tryz.lays134_ren := {
  mixed := by kernel_rfl
  f129 := Tryz.func202.trans (congrArg some (by kernel_rfl))
  f134 := Tryz.func180.trans (congrArg some (by kernel_rfl))
  t3 := Tryz.underlying3
  a3 := Tryz.isAgg3
  z3 := Tryz.sizeOf3
  v3 := Tryz.zeroValue3
  t4 := Tryz.underlying4
  a4 := Tryz.isAgg4
  z4 := Tryz.sizeOf4
  v4 := Tryz.zeroValue4
  t5 := Tryz.underlying5
  a5 := Tryz.isAgg5
  z5 := Tryz.sizeOf5
  v5 := Tryz.zeroValue5
  t9 := Tryz.underlying9
  a9 := Tryz.isAgg9
  z9 := Tryz.sizeOf9
  v9 := Tryz.zeroValue9
  t46 := Tryz.underlying175
  a46 := Tryz.isAgg175
  z46 := Tryz.sizeOf175
  v46 := Tryz.zeroValue175
  t53 := Tryz.underlying23
  a53 := Tryz.isAgg23
  z53 := Tryz.sizeOf23
  v53 := Tryz.zeroValue23 }
theorem Tryz.bits_LeadingZeros64 (x : Int) (w : World) (h0 : 0 ≤ x) (h1 : x ≤ 18446744073709551615) :
    Calls Tryz.prog 180 #[.int .u64 x] w fun e w' => e = .returned (.int .i64 (64 - (Lib.bitLen x.toNat : Int))) ∧ w' = w := Any.bits_LeadingZeros64 Tryz.lays134 x w h0 h1
open Go.RowKit in
def Tryz.lays106_ren : Go.Shelf.Ren := ⟨fun | 106 => 93 | 213 => 151 | 265 => 190 | n => n, fun | 9 => 9 | 3 => 3 | n => n, fun | n => n⟩
theorem Tryz.lays106 : Go.Proofs.Lays.n106 Tryz.prog Tryz.lays106_ren := {
  mixed := by kernel_rfl
  f106 := Tryz.func93.trans (congrArg some (by kernel_rfl))
  f213 := Tryz.func151.trans (congrArg some (by kernel_rfl))
  f265 := Tryz.func190.trans (congrArg some (by kernel_rfl))
  t3 := Tryz.underlying3
  a3 := Tryz.isAgg3
  z3 := Tryz.sizeOf3
  v3 := Tryz.zeroValue3
  t9 := Tryz.underlying9
  a9 := Tryz.isAgg9
  z9 := Tryz.sizeOf9
  v9 := Tryz.zeroValue9 }
open Go.RowKit in
theorem Tryz.strings_Compare (a b : ByteArray) (w : World) :
    Calls Tryz.prog 93 #[.string a, .string b] w fun e w' => e = .returned (.int .i64 (Lib.compareBytes a.data.toList b.data.toList)) ∧ w' = w := Any.strings_Compare Tryz.lays106 a b w
open Go.RowKit Go.Lib in
def Tryz.lays99_ren : Go.Shelf.Ren := ⟨fun | 99 => 141 | 206 => 187 | n => n, fun | 9 => 9 | 4 => 4 | 3 => 3 | n => n, fun | n => n⟩
theorem Tryz.lays99 : Go.Proofs.Lays.n99 Tryz.prog Tryz.lays99_ren := {
  mixed := by kernel_rfl
  f99 := Tryz.func141.trans (congrArg some (by kernel_rfl))
  f206 := Tryz.func187.trans (congrArg some (by kernel_rfl))
  t3 := Tryz.underlying3
  a3 := Tryz.isAgg3
  z3 := Tryz.sizeOf3
  v3 := Tryz.zeroValue3
  t4 := Tryz.underlying4
  a4 := Tryz.isAgg4
  z4 := Tryz.sizeOf4
  v4 := Tryz.zeroValue4
  t9 := Tryz.underlying9
  a9 := Tryz.isAgg9
  z9 := Tryz.sizeOf9
  v9 := Tryz.zeroValue9 }
open Go.RowKit Go.Lib in
theorem Tryz.strings_HasPrefix (s p : ByteArray) (w : World) :
    Calls Tryz.prog 141 #[.string s, .string p] w fun e w' => e = .returned (.bool (Lib.hasPrefix s.data.toList p.data.toList)) ∧ w' = w := Any.strings_HasPrefix Tryz.lays99 s p w
open Go.RowKit Go.Lib in
def Tryz.lays100_ren : Go.Shelf.Ren := ⟨fun | 100 => 138 | 207 => 186 | n => n, fun | 9 => 9 | 4 => 4 | 3 => 3 | n => n, fun | n => n⟩
theorem Tryz.lays100 : Go.Proofs.Lays.n100 Tryz.prog Tryz.lays100_ren := {
  mixed := by kernel_rfl
  f100 := Tryz.func138.trans (congrArg some (by kernel_rfl))
  f207 := Tryz.func186.trans (congrArg some (by kernel_rfl))
  t3 := Tryz.underlying3
  a3 := Tryz.isAgg3
  z3 := Tryz.sizeOf3
  v3 := Tryz.zeroValue3
  t4 := Tryz.underlying4
  a4 := Tryz.isAgg4
  z4 := Tryz.sizeOf4
  v4 := Tryz.zeroValue4
  t9 := Tryz.underlying9
  a9 := Tryz.isAgg9
  z9 := Tryz.sizeOf9
  v9 := Tryz.zeroValue9 }
open Go.RowKit Go.Lib in
theorem Tryz.strings_HasSuffix (s p : ByteArray) (w : World) (hs : s.size ≤ 9223372036854775807) :
    Calls Tryz.prog 138 #[.string s, .string p] w fun e w' => e = .returned (.bool (Lib.hasSuffix s.data.toList p.data.toList)) ∧ w' = w := Any.strings_HasSuffix Tryz.lays100 s p w hs
def Tryz.lays264_ren : Go.Shelf.Ren := ⟨fun | 264 => 198 | n => n, fun | 53 => 23 | 46 => 175 | n => n, fun | n => n⟩
theorem Tryz.lays264 : Go.Proofs.Lays.n264 Tryz.prog Tryz.lays264_ren := {
  mixed := by kernel_rfl
  f264 := Tryz.func198.trans (congrArg some (by kernel_rfl))
  t46 := Tryz.underlying175
  a46 := Tryz.isAgg175
  z46 := Tryz.sizeOf175
  v46 := Tryz.zeroValue175
  t53 := Tryz.underlying23
  a53 := Tryz.isAgg23
  z53 := Tryz.sizeOf23
  v53 := Tryz.zeroValue23 }
open Go.RowKit Go.Lib in
theorem Tryz.bits_Mul64 (x y : Nat) (hx : x < 18446744073709551616) (hy : y < 18446744073709551616) (w : World) :
    Calls Tryz.prog 198 #[.int .u64 x, .int .u64 y] w fun e w' => e = .returned (.tuple #[.int .u64 ((x * y / 18446744073709551616 : Nat) : Int), .int .u64 ((x * y % 18446744073709551616 : Nat) : Int)]) ∧ w' = w := Any.bits_Mul64 Tryz.lays264 x y hx hy w
end Go.Proofs

namespace Go.Proofs.YtpiegngjpnpohaaGreat.Bk
open Go.RowKit
open Go.Proofs.YtpiegngjpnpohaaGreat.BkM
def good (p : Int) : Prop := 1 ≤ p ∧ p ≤ 14
instance (p : Int) : Decidable (good p) := by unfold good; exact inferInstance
def lenI (p : Int) : Int := if good p then (((64 - p.toNat) * 2 ^ p.toNat : Nat) : Int) else 0
def lowE (p i : Int) : Int := if ¬ good p then 1 else if i < 0 ∨ lenI p ≤ i then 2 else 0
def lowI (p i : Int) : Int := if lowE p i = 0 then (lo p.toNat i.toNat : Int) else 0
def morI (p i : Int) : Int := if lowE p i = 0 then (mo p.toNat i.toNat : Int) else 0
theorem ret_int {k : IntKind} {a b : Int} (h : a = b) : Ending.returned (.int k a) = .returned (.int k b) := by rw [h]
theorem ret_bool {a b : Bool} (h : a = b) : Ending.returned (.bool a) = .returned (.bool b) := by rw [h]
theorem ret_int2 {k l : IntKind} {a b c d : Int} (h : a = b) (h' : c = d) : Ending.returned (.tuple #[.int k a, .int l c]) = .returned (.tuple #[.int k b, .int l d]) := by rw [h, h']
theorem right_t (p : Int) (h : good p) (w : World) :
    Calls Tryz.prog 197 #[.int .i64 p] w fun e w' => e = .returned (.bool true) ∧ w = w' := by
  obtain ⟨h1, h2⟩ := h
  go_enter Tryz.func197, Tryz.ntmps197
  go_wp2
  go_ret
  exact ⟨rfl, rfl⟩
theorem right_f (p : Int) (h : ¬ good p) (w : World) :
    Calls Tryz.prog 197 #[.int .i64 p] w fun e w' => e = .returned (.bool false) ∧ w = w' := by
  have h : p < 1 ∨ 14 < p := by unfold good at h; omega
  rcases h with h | h
  all_goals
    go_enter Tryz.func197, Tryz.ntmps197
    go_wp2
    go_ret
    exact ⟨ret_bool (by simp <;> omega), rfl⟩
theorem wrap_pow {n : Nat} (h : n ≤ 62) : wrap64 ((2 : Int) ^ n) = 2 ^ n := by
  have h1 : (2 : Int) ^ n ≤ 2 ^ 62 := by
    have := Nat.pow_le_pow_right (n := 2) (by decide) h
    exact_mod_cast this
  have h2 : (0 : Int) ≤ 2 ^ n := Int.pow_nonneg (by decide)
  exact IntWalk.wrap64_in _ (by omega)
theorem pow14 {n : Nat} (h : n ≤ 14) : 2 ^ n ≤ 16384 := Nat.pow_le_pow_right (n := 2) (by decide) h
theorem size14 {n : Nat} (h : n ≤ 14) : (64 - n) * 2 ^ n ≤ 1048576 := Nat.le_trans (Nat.mul_le_mul (by omega) (pow14 h)) (by decide : 64 * 16384 ≤ 1048576)
theorem len_end {n : Nat} (h2 : n ≤ 14) (h : good n) : wrap64 ((64 - (n : Int)) * 2 ^ n) = lenI n := by
  have e : (64 - (n : Int)) * 2 ^ n = (((64 - n) * 2 ^ n : Nat) : Int) := by
    rw [Int.natCast_mul, Int.ofNat_sub (by omega)]; simp
  have := size14 h2
  rw [e, lenI, if_pos h, Int.toNat_natCast]
  exact IntWalk.wrap64_in _ (by omega)
theorem length_any (p : Int) (w : World) :
    Calls Tryz.prog 171 #[.int .i64 p] w fun e w' => e = .returned (.int .i64 (lenI p)) ∧ w = w' := by
  by_cases h : good p
  · obtain ⟨h1, h2⟩ := id h
    obtain ⟨n, rfl⟩ := Int.eq_ofNat_of_zero_le (a := p) (by omega)
    go_enter Tryz.func171, Tryz.ntmps171
    go_wp2_with (first | (go_at_call 197; refine (right_t _ h _).mono ?_; rintro e w' ⟨rfl, rfl⟩))
    go_ret
    exact ⟨ret_int (len_end (by omega) h), rfl⟩
  · go_enter Tryz.func171, Tryz.ntmps171
    go_wp2_with (first | (go_at_call 197; refine (right_f _ h _).mono ?_; rintro e w' ⟨rfl, rfl⟩))
    go_ret
    exact ⟨ret_int (by simp [lenI, h]), rfl⟩
theorem shl_end {m k : Nat} (h : m * 2 ^ k + 2 ^ k ≤ 9223372036854775808) : wrap64 ((m : Int) * 2 ^ k) = ((m * 2 ^ k : Nat) : Int) := by
  have e : (m : Int) * 2 ^ k = ((m * 2 ^ k : Nat) : Int) := by rw [Int.natCast_mul]; simp
  have := pow_pos' k
  rw [e, IntWalk.wrap64_in _ (by omega)]
theorem shl1_end {k : Nat} (h : k ≤ 62) : wrap64 (wrap64 ((2 : Int) ^ k) - 1) = ((2 ^ k - 1 : Nat) : Int) := by
  have h1 : 2 ^ k ≤ 2 ^ 62 := Nat.pow_le_pow_right (by decide) h
  have h2 := pow_pos' k
  have e : (2 : Int) ^ k = ((2 ^ k : Nat) : Int) := by simp
  rw [wrap_pow h, e, IntWalk.wrap64_in _ (by omega)]; omega
theorem ret_int3 {k l m : IntKind} {a b c d e f : Int} (h : a = b) (h' : c = d) (h'' : e = f) : Ending.returned (.tuple #[.int k a, .int l c, .int m e]) = .returned (.tuple #[.int k b, .int l d, .int m f]) := by rw [h, h', h'']
theorem ends_facts {n u : Nat} (h : good n) (h3 : ¬ lenI n ≤ u) (hu : ¬ (u : Int) < 2 ^ n) :
    ∃ k m a : Nat, u = a + m ∧ k ≤ 62 ∧ wrap64 ((u : Int) / 2 ^ n - 1) = (k : Int) ∧ wrap64 ((k : Int) * 2 ^ n) = (a : Int) ∧ wrap64 ((u : Int) - (a : Int)) = (m : Int) ∧
      lowI n u = ((m * 2 ^ k : Nat) : Int) ∧ morI n u = ((2 ^ k - 1 : Nat) : Int) ∧ m * 2 ^ k + 2 ^ k ≤ 9223372036854775808 ∧ lowE n u = 0 := by
  obtain ⟨h1, h2⟩ := id h
  have hn : n ≤ 14 := by omega
  have hge : 2 ^ n ≤ u := by
    have : (2 : Int) ^ n ≤ u := by omega
    exact_mod_cast this
  obtain ⟨k, m, m1, m2, e, ek⟩ := split_i hge
  have hl : u < (64 - n) * 2 ^ n := by
    rw [lenI, if_pos h, Int.toNat_natCast] at h3; omega
  have hs := size14 hn
  have hp := pow_pos' n
  have hk : k ≤ 62 := by
    have : k * 2 ^ n < 63 * 2 ^ n := by
      have : (64 - n) * 2 ^ n ≤ 63 * 2 ^ n := Nat.mul_le_mul_right _ (by omega)
      omega
    have := Nat.lt_of_mul_lt_mul_right this
    omega
  have hE : lowE n u = 0 := by
    have : ¬ (u : Int) < 0 := by omega
    simp [lowE, h, h3, this]
  obtain ⟨l1, l2⟩ := lo_of (p := n) (k := k) m1 m2
  have hh := hi_lt (p := n) (i := u) (by omega) hl
  rw [e, l1, l2] at hh
  refine ⟨k, m, k * 2 ^ n, e, hk, ?_, ?_, ?_, ?_, ?_, ?_, hE⟩
  · have e5 : (u : Int) / 2 ^ n = ((u / 2 ^ n : Nat) : Int) := by simp
    have : 1 ≤ u / 2 ^ n := (Nat.le_div_iff_mul_le hp).2 (by omega)
    rw [e5, IntWalk.wrap64_in _ (by omega)]; omega
  · have e5 : (k : Int) * 2 ^ n = ((k * 2 ^ n : Nat) : Int) := by rw [Int.natCast_mul]; simp
    have : k * 2 ^ n ≤ u := by omega
    rw [e5, IntWalk.wrap64_in _ (by omega)]
  · rw [IntWalk.wrap64_in _ (by omega)]; omega
  · rw [lowI, if_pos hE, Int.toNat_natCast, Int.toNat_natCast, e, l1]
  · rw [morI, if_pos hE, Int.toNat_natCast, Int.toNat_natCast, e, l2]
  · have := pow_pos' k; omega
theorem ends_big {n u : Nat} (h : good n) (h3 : ¬ lenI n ≤ u) (h0 : ¬ (u : Int) < 0) (hi : (u : Int) ≤ 9223372036854775807) (hu : ¬ (u : Int) < 2 ^ n) (hu' : ¬ (u : Int) < wrap64 (2 ^ n)) (w : World) :
    Calls Tryz.prog 175 #[.int .i64 n, .int .i64 u] w fun e w' => e = .returned (.tuple #[.int .i64 (lowI n u), .int .i64 (morI n u), .int .i64 (lowE n u)]) ∧ ∃ n, w' = w.drewN n := by
  obtain ⟨k, m, a, e, hk, k1, k2, k3, l1, l2, l3, l4⟩ := ends_facts h h3 hu
  replace l1 := Lib.hid l1; replace l2 := Lib.hid l2; replace l3 := Lib.hid l3; replace l4 := Lib.hid l4; replace e := Lib.hid e
  obtain ⟨h1, h2⟩ := id h
  clear hu
  go_enter Tryz.func175, Tryz.ntmps175
  go_wp2_with (first | (go_at_call 197; refine (right_t _ h _).mono ?_; rintro e w' ⟨rfl, rfl⟩) | (go_at_call 171; refine (length_any _ _).mono ?_; rintro e w' ⟨rfl, rfl⟩))
  go_quiet (fail)
  go_wp2
  go_ret3
  exact ⟨ret_int3 (by rw [l1.out]; exact shl_end l3.out) (by rw [l2.out]; exact shl1_end hk) l4.out.symm, _, rfl⟩
theorem ends_any (p i : Int) (hi0 : -9223372036854775808 ≤ i) (hi : i ≤ 9223372036854775807) (w : World) :
    Calls Tryz.prog 175 #[.int .i64 p, .int .i64 i] w fun e w' => e = .returned (.tuple #[.int .i64 (lowI p i), .int .i64 (morI p i), .int .i64 (lowE p i)]) ∧ ∃ n, w' = w.drewN n := by
  by_cases h : good p
  · by_cases h0 : i < 0
    · go_enter Tryz.func175, Tryz.ntmps175
      go_wp2_with (first | (go_at_call 197; refine (right_t _ h _).mono ?_; rintro e w' ⟨rfl, rfl⟩))
      go_ret3
      have e : lowE p i = 2 := by simp [lowE, h, h0]
      exact ⟨ret_int3 (by simp [lowI, e]) (by simp [morI, e]) e.symm, 0, rfl⟩
    · by_cases h3 : lenI p ≤ i
      · go_enter Tryz.func175, Tryz.ntmps175
        go_wp2_with (first | (go_at_call 197; refine (right_t _ h _).mono ?_; rintro e w' ⟨rfl, rfl⟩) | (go_at_call 171; refine (length_any _ _).mono ?_; rintro e w' ⟨rfl, rfl⟩))
        go_ret3
        have e : lowE p i = 2 := by simp [lowE, h, h3]
        exact ⟨ret_int3 (by simp [lowI, e]) (by simp [morI, e]) e.symm, 0, rfl⟩
      · obtain ⟨h1, h2⟩ := id h
        obtain ⟨n, rfl⟩ := Int.eq_ofNat_of_zero_le (a := p) (by omega)
        obtain ⟨u, rfl⟩ := Int.eq_ofNat_of_zero_le (a := i) (by omega)
        have e1 := wrap_pow (n := n) (by omega)
        have he : lowE n u = 0 := by simp [lowE, h, h0, h3]
        replace he := Lib.hid he
        by_cases hu : (u : Int) < 2 ^ n
        · have hu' : (u : Int) < wrap64 (2 ^ n) := by rw [e1]; exact hu
          clear e1
          go_enter Tryz.func175, Tryz.ntmps175
          go_wp2_with (first | (go_at_call 197; refine (right_t _ h _).mono ?_; rintro e w' ⟨rfl, rfl⟩) | (go_at_call 171; refine (length_any _ _).mono ?_; rintro e w' ⟨rfl, rfl⟩))
          go_ret3
          have hu2 : u < 2 ^ n := by exact_mod_cast hu
          exact ⟨ret_int3 (by simp [lowI, he.out, lo, hu2]) (by simp [morI, he.out, mo, hu2]) he.out.symm, 0, rfl⟩
        · have hu' : ¬ (u : Int) < wrap64 (2 ^ n) := by rw [e1]; exact hu
          clear e1
          exact ends_big h h3 h0 hi hu hu' w
  · go_enter Tryz.func175, Tryz.ntmps175
    go_wp2_with (first | (go_at_call 197; refine (right_f _ h _).mono ?_; rintro e w' ⟨rfl, rfl⟩))
    go_ret3
    have e : lowE p i = 1 := by simp [lowE, h]
    exact ⟨ret_int3 (by simp [lowI, e]) (by simp [morI, e]) e.symm, 0, rfl⟩
theorem lo_rng {p i : Int} : 0 ≤ lowI p i ∧ 0 ≤ morI p i ∧ lowI p i + morI p i ≤ 9223372036854775807 := by
  by_cases e : lowE p i = 0
  · have hg : good p := by
      apply Classical.byContradiction; intro h; simp [lowE, h] at e
    have hb : ¬ (i < 0 ∨ lenI p ≤ i) := by
      intro h; simp [lowE, hg, h] at e
    obtain ⟨h1, h2⟩ := id hg
    obtain ⟨n, rfl⟩ := Int.eq_ofNat_of_zero_le (a := p) (by omega)
    obtain ⟨u, rfl⟩ := Int.eq_ofNat_of_zero_le (a := i) (by omega)
    rw [lowI, morI, if_pos e, if_pos e]
    rw [lenI, if_pos hg] at hb
    rw [Int.toNat_natCast, Int.toNat_natCast] at *
    have := hi_lt (p := n) (i := u) (by omega) (by omega)
    omega
  · simp [lowI, morI, e]
theorem low_any (p i : Int) (hi0 : -9223372036854775808 ≤ i) (hi : i ≤ 9223372036854775807) (w : World) :
    Calls Tryz.prog 145 #[.int .i64 p, .int .i64 i] w fun e w' => e = .returned (.tuple #[.int .i64 (lowI p i), .int .i64 (lowE p i)]) ∧ ∃ n, w' = w.drewN n := by
  have hE := ends_any p i hi0 hi
  clear hi0 hi
  go_enter Tryz.func145, Tryz.ntmps145
  go_wp2_with (first | (go_at_call 175; refine (hE _).mono ?_; rintro e w' ⟨rfl, n, rfl⟩))
  go_ret2
  exact ⟨rfl, _, rfl⟩
def higI (p i : Int) : Int := lowI p i + morI p i
theorem high_any (p i : Int) (hi0 : -9223372036854775808 ≤ i) (hi : i ≤ 9223372036854775807) (w : World) :
    Calls Tryz.prog 122 #[.int .i64 p, .int .i64 i] w fun e w' => e = .returned (.tuple #[.int .i64 (higI p i), .int .i64 (lowE p i)]) ∧ ∃ n, w' = w.drewN n := by
  have hE := ends_any p i hi0 hi
  have hr := @lo_rng p i
  obtain ⟨r1, r2, r3⟩ := hr
  clear hi0 hi
  go_enter Tryz.func122, Tryz.ntmps122
  go_wp2_with (first | (go_at_call 175; refine (hE _).mono ?_; rintro e w' ⟨rfl, n, rfl⟩))
  go_ret2
  exact ⟨rfl, _, rfl⟩
end Go.Proofs.YtpiegngjpnpohaaGreat.Bk

namespace Go.Proofs.YtpiegngjpnpohaaGreat.Bk
open Go.RowKit
set_option linter.unusedVariables false
open Go.Proofs.YtpiegngjpnpohaaGreat.BkM
theorem prec_t (p : Int) (h : good p) (w : World) :
    Calls Tryz.prog 193 #[.int .i64 p] w fun e w' => e = .returned (.bool true) ∧ w = w' := by
  obtain ⟨h1, h2⟩ := h
  go_enter Tryz.func193, Tryz.ntmps193
  go_wp2
  go_ret
  exact ⟨rfl, rfl⟩
theorem prec_f (p : Int) (h : ¬ good p) (w : World) :
    Calls Tryz.prog 193 #[.int .i64 p] w fun e w' => e = .returned (.bool false) ∧ w = w' := by
  have h : p < 1 ∨ 14 < p := by unfold good at h; omega
  rcases h with h | h
  all_goals
    go_enter Tryz.func193, Tryz.ntmps193
    go_wp2
    go_ret
    exact ⟨ret_bool (by simp <;> omega), rfl⟩
theorem rlen_end {n : Nat} (h2 : n ≤ 14) (h : good n) : wrap64 (wrap64 ((2 : Int) ^ n) * (64 - (n : Int))) = lenI n := by
  rw [wrap_pow (by omega), Int.mul_comm]; exact len_end h2 h
theorem rlength_any (p : Int) (w : World) :
    Calls Tryz.prog 155 #[.int .i64 p] w fun e w' => e = .returned (.int .i64 (lenI p)) ∧ w = w' := by
  by_cases h : good p
  · obtain ⟨h1, h2⟩ := id h
    obtain ⟨n, rfl⟩ := Int.eq_ofNat_of_zero_le (a := p) (by omega)
    go_enter Tryz.func155, Tryz.ntmps155
    go_wp2_with (first | (go_at_call 193; refine (prec_t _ h _).mono ?_; rintro e w' ⟨rfl, rfl⟩))
    go_ret
    exact ⟨ret_int (rlen_end (by omega) h), rfl⟩
  · go_enter Tryz.func155, Tryz.ntmps155
    go_wp2_with (first | (go_at_call 193; refine (prec_f _ h _).mono ?_; rintro e w' ⟨rfl, rfl⟩))
    go_ret
    exact ⟨ret_int (by simp [lenI, h]), rfl⟩
theorem rlow_big {n u : Nat} (h : good n) (h3 : ¬ lenI n ≤ u) (h0 : ¬ (u : Int) < 0) (hi : (u : Int) ≤ 9223372036854775807) (hu : ¬ (u : Int) < 2 ^ n) (hu' : ¬ (u : Int) < wrap64 (2 ^ n)) (w : World) :
    Calls Tryz.prog 156 #[.int .i64 n, .int .i64 u] w fun e w' => e = .returned (.tuple #[.int .i64 (lowI n u), .int .i64 (lowE n u)]) ∧ ∃ n, w' = w.drewN n := by
  obtain ⟨k, m, a, e, hk, k1, k2, k3, l1, l2, l3, l4⟩ := ends_facts h h3 hu
  replace l1 := Lib.hid l1; replace l2 := Lib.hid l2; replace l3 := Lib.hid l3; replace l4 := Lib.hid l4; replace e := Lib.hid e
  obtain ⟨h1, h2⟩ := id h
  have e0 := wrap_pow (n := n) (by omega)
  have p1 : (1 : Int) ≤ 2 ^ n := by have := pow_pos' n; have : 1 ≤ 2 ^ n := this; exact_mod_cast this
  have p2 : (2 : Int) ^ n ≤ 16384 := by have h5 := Int.ofNat_le.2 (pow14 (n := n) (by omega)); rw [Int.natCast_pow] at h5; exact h5
  obtain ⟨P, hP⟩ : ∃ P, (2 : Int) ^ n = P := ⟨_, rfl⟩
  rw [hP] at k1 k2 p1 p2
  have e1 : wrap64 ((2 : Int) ^ n) = P := by rw [e0, hP]
  rw [e1] at hu'
  have kq : wrap64 ((u : Int) / P) = (u : Int) / P := by
    obtain ⟨q1, q2⟩ := IntWalk.tdiv_le (u : Int) P (by omega) (by omega)
    exact IntWalk.wrap64_in _ (by constructor <;> omega)
  clear hu hP e0
  go_enter Tryz.func156, Tryz.ntmps156
  go_wp2_with (first | (go_at_call 193; refine (prec_t _ h _).mono ?_; rintro e w' ⟨rfl, rfl⟩) | (go_at_call 155; refine (rlength_any _ _).mono ?_; rintro e w' ⟨rfl, rfl⟩))
  go_ret2
  refine ⟨ret_int2 ?_ l4.out.symm, 0, rfl⟩
  rw [l1.out]; exact shl_end l3.out
theorem rlow_any (p i : Int) (hi : i ≤ 9223372036854775807) (w : World) :
    Calls Tryz.prog 156 #[.int .i64 p, .int .i64 i] w fun e w' => e = .returned (.tuple #[.int .i64 (lowI p i), .int .i64 (lowE p i)]) ∧ ∃ n, w' = w.drewN n := by
  by_cases h : good p
  · by_cases h0 : i < 0
    · go_enter Tryz.func156, Tryz.ntmps156
      go_wp2_with (first | (go_at_call 193; refine (prec_t _ h _).mono ?_; rintro e w' ⟨rfl, rfl⟩))
      go_ret2
      have e : lowE p i = 2 := by simp [lowE, h, h0]
      exact ⟨ret_int2 (by simp [lowI, e]) e.symm, 0, rfl⟩
    · by_cases h3 : lenI p ≤ i
      · go_enter Tryz.func156, Tryz.ntmps156
        go_wp2_with (first | (go_at_call 193; refine (prec_t _ h _).mono ?_; rintro e w' ⟨rfl, rfl⟩) | (go_at_call 155; refine (rlength_any _ _).mono ?_; rintro e w' ⟨rfl, rfl⟩))
        go_ret2
        have e : lowE p i = 2 := by simp [lowE, h, h3]
        exact ⟨ret_int2 (by simp [lowI, e]) e.symm, 0, rfl⟩
      · obtain ⟨h1, h2⟩ := id h
        obtain ⟨n, rfl⟩ := Int.eq_ofNat_of_zero_le (a := p) (by omega)
        obtain ⟨u, rfl⟩ := Int.eq_ofNat_of_zero_le (a := i) (by omega)
        have e1 := wrap_pow (n := n) (by omega)
        have he : lowE n u = 0 := by simp [lowE, h, h0, h3]
        replace he := Lib.hid he
        by_cases hu : (u : Int) < 2 ^ n
        · have hu' : (u : Int) < wrap64 (2 ^ n) := by rw [e1]; exact hu
          clear e1
          go_enter Tryz.func156, Tryz.ntmps156
          go_wp2_with (first | (go_at_call 193; refine (prec_t _ h _).mono ?_; rintro e w' ⟨rfl, rfl⟩) | (go_at_call 155; refine (rlength_any _ _).mono ?_; rintro e w' ⟨rfl, rfl⟩))
          go_ret2
          have hu2 : u < 2 ^ n := by exact_mod_cast hu
          exact ⟨ret_int2 (by simp [lowI, he.out, lo, hu2]) he.out.symm, 0, rfl⟩
        · have hu' : ¬ (u : Int) < wrap64 (2 ^ n) := by rw [e1]; exact hu
          exact rlow_big h h3 h0 hi hu hu' w
  · go_enter Tryz.func156, Tryz.ntmps156
    go_wp2_with (first | (go_at_call 193; refine (prec_f _ h _).mono ?_; rintro e w' ⟨rfl, rfl⟩))
    go_ret2
    have e : lowE p i = 1 := by simp [lowE, h]
    exact ⟨ret_int2 (by simp [lowI, e]) e.symm, 0, rfl⟩
theorem hig_next {p i : Int} (h : lowE p i = 0) : (i + 1 = lenI p → higI p i = 9223372036854775807) ∧ (i + 1 ≠ lenI p → lowE p (i + 1) = 0 ∧ higI p i = lowI p (i + 1) - 1) := by
  have hg : good p := by
    apply Classical.byContradiction; intro h'; simp [lowE, h'] at h
  have hb : ¬ (i < 0 ∨ lenI p ≤ i) := by
    intro h'; simp [lowE, hg, h'] at h
  obtain ⟨h1, h2⟩ := id hg
  obtain ⟨n, rfl⟩ := Int.eq_ofNat_of_zero_le (a := p) (by omega)
  obtain ⟨u, rfl⟩ := Int.eq_ofNat_of_zero_le (a := i) (by omega)
  have hl : lenI n = (((64 - n) * 2 ^ n : Nat) : Int) := by rw [lenI, if_pos hg, Int.toNat_natCast]
  constructor
  · intro e
    have := hi_last (p := n) (i := u) (by omega) (by omega)
    rw [higI, lowI, morI, if_pos h, if_pos h, Int.toNat_natCast, Int.toNat_natCast]; omega
  · intro e
    have h' : lowE n ((u : Int) + 1) = 0 := by
      have : ¬ ((u : Int) + 1 < 0 ∨ lenI n ≤ u + 1) := by omega
      simp only [lowE, hg, not_true, if_false, this]
    refine ⟨h', ?_⟩
    have := lo_succ n u
    rw [higI, lowI, morI, lowI, if_pos h, if_pos h, if_pos h', Int.toNat_natCast, Int.toNat_natCast]
    have e2 : ((u : Int) + 1).toNat = u + 1 := by omega
    rw [e2]; omega
theorem lowE_lt {p i : Int} (h : lowE p i = 0) : 0 ≤ i ∧ i < lenI p ∧ lenI p ≤ 1048576 := by
  have hg : good p := by
    apply Classical.byContradiction; intro h'; simp [lowE, h'] at h
  have hb : ¬ (i < 0 ∨ lenI p ≤ i) := by
    intro h'; simp [lowE, hg, h'] at h
  obtain ⟨h1, h2⟩ := id hg
  have := size14 (n := p.toNat) (by omega)
  rw [lenI, if_pos hg] at *
  omega
theorem rhigh_any (p i : Int) (hi : i ≤ 9223372036854775807) (w : World) :
    Calls Tryz.prog 125 #[.int .i64 p, .int .i64 i] w fun e w' => e = .returned (.tuple #[.int .i64 (higI p i), .int .i64 (lowE p i)]) ∧ ∃ n, w' = w.drewN n := by
  have c1 := rlow_any p i hi
  by_cases hE : lowE p i = 0
  · obtain ⟨q1, q2⟩ := hig_next hE
    obtain ⟨r1, r2, r3⟩ := lowE_lt hE
    obtain ⟨s1, s2, s3⟩ := @lo_rng p i
    have c2 := rlow_any p (i + 1) (by omega)
    by_cases hl : i + 1 = lenI p
    · have g := q1 hl
      have hb : (i + 1 == lenI p) = true := beq_iff_eq.2 hl
      have hb0 : (lowE p i != 0) = false := by simp [hE]
      replace hE := Lib.hid hE; replace g := Lib.hid g
      clear q1 q2 hl c2 hi
      go_enter Tryz.func125, Tryz.ntmps125
      go_wp2_with (first | (go_at_call 156; refine (c1 _).mono ?_; rintro e w' ⟨rfl, n, rfl⟩) | (go_at_call 155; refine (rlength_any _ _).mono ?_; rintro e w' ⟨rfl, rfl⟩))
      go_ret2
      exact ⟨ret_int2 g.out.symm hE.out.symm, _, rfl⟩
    · obtain ⟨g0, g⟩ := q2 hl
      obtain ⟨t1, t2, t3⟩ := @lo_rng p (i + 1)
      have hb : (i + 1 == lenI p) = false := beq_eq_false_iff_ne.2 hl
      have hb0 : (lowE p i != 0) = false := by simp [hE]
      replace hE := Lib.hid hE; replace g := Lib.hid g; replace g0 := Lib.hid g0
      clear q1 q2 hl hi
      go_enter Tryz.func125, Tryz.ntmps125
      go_wp2_with fail
      refine (c1 _).mono ?_; rintro e w' ⟨rfl, n, rfl⟩
      go_wp2_with fail
      refine (rlength_any _ _).mono ?_; rintro e w' ⟨rfl, rfl⟩
      go_wp2_with fail
      refine (c2 _).mono ?_; rintro e w' ⟨rfl, n, rfl⟩
      go_wp2
      go_ret2
      exact ⟨ret_int2 g.out.symm hE.out.symm, _, rfl⟩
  · have hb0 : (lowE p i != 0) = true := by simp [hE]
    have g : higI p i = 0 := by rw [higI, lowI, morI, if_neg hE, if_neg hE]; rfl
    replace hE := Lib.hid hE; replace g := Lib.hid g
    clear hi
    go_enter Tryz.func125, Tryz.ntmps125
    go_wp2_with (first | (go_at_call 156; refine (c1 _).mono ?_; rintro e w' ⟨rfl, n, rfl⟩))
    go_ret2
    exact ⟨ret_int2 g.out.symm rfl, _, rfl⟩
end Go.Proofs.YtpiegngjpnpohaaGreat.Bk
