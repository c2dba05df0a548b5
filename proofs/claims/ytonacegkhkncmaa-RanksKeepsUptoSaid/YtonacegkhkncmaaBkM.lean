/- Plain arithmetic of buckets: lo and mo say where a bucket begins and how wide it is, bk which bucket a number falls into. -/
import Derived.WalkKit
namespace Go.Proofs.Ytonacegkhkncmaa.BkM

def bk (p v : Nat) : Nat := if v < 2 ^ p then v else (v.log2 - p) * 2 ^ p + v / 2 ^ (v.log2 - p)
def lo (p i : Nat) : Nat := if i < 2 ^ p then i else (i - (i / 2 ^ p - 1) * 2 ^ p) * 2 ^ (i / 2 ^ p - 1)
def mo (p i : Nat) : Nat := if i < 2 ^ p then 0 else 2 ^ (i / 2 ^ p - 1) - 1

theorem pow_pos' (p : Nat) : 0 < 2 ^ p := Nat.pow_pos (by decide)

/-- any number from 2^p on, taken apart: the group and the place in it -/
theorem split_i {p i : Nat} (h : 2 ^ p ≤ i) : ∃ k m, 2 ^ p ≤ m ∧ m < 2 * 2 ^ p ∧ i = k * 2 ^ p + m ∧ i / 2 ^ p - 1 = k := by
  have hp := pow_pos' p
  have h1 : 1 ≤ i / 2 ^ p := (Nat.le_div_iff_mul_le hp).2 (by omega)
  refine ⟨i / 2 ^ p - 1, i - (i / 2 ^ p - 1) * 2 ^ p, ?_, ?_, ?_, rfl⟩
  all_goals
    have h2 := Nat.div_add_mod i (2 ^ p)
    have h3 := Nat.mod_lt i hp
    generalize hq : i / 2 ^ p = q at *
    generalize 2 ^ p = P at *
    obtain ⟨r, rfl⟩ : ∃ r, q = r + 1 := ⟨q - 1, by omega⟩
    simp only [Nat.add_sub_cancel]
    have e : P * (r + 1) = r * P + P := by rw [Nat.mul_comm, Nat.add_mul, Nat.one_mul]
    omega

theorem lo_of {p k m : Nat} (h1 : 2 ^ p ≤ m) (h2 : m < 2 * 2 ^ p) : lo p (k * 2 ^ p + m) = m * 2 ^ k ∧ mo p (k * 2 ^ p + m) = 2 ^ k - 1 := by
  have hp := pow_pos' p
  have e1 : (k * 2 ^ p + m) / 2 ^ p - 1 = k := by
    have : m / 2 ^ p = 1 := by
      rw [Nat.div_eq_iff hp]; constructor <;> omega
    rw [Nat.mul_comm, Nat.mul_add_div hp, this]; omega
  have e2 : ¬ (k * 2 ^ p + m < 2 ^ p) := by omega
  unfold lo mo
  rw [if_neg e2, if_neg e2, e1]
  exact ⟨by rw [Nat.add_sub_cancel_left], rfl⟩

theorem lo_succ (p i : Nat) : lo p (i + 1) = lo p i + mo p i + 1 := by
  have hp := pow_pos' p
  by_cases h : i < 2 ^ p
  · by_cases h' : i + 1 < 2 ^ p
    · simp [lo, mo, h, h']
    · have e : i + 1 = 0 * 2 ^ p + 2 ^ p := by omega
      have := (lo_of (p := p) (k := 0) (m := 2 ^ p) (by omega) (by omega)).1
      rw [e, this]; simp [lo, mo, h]; omega
  · obtain ⟨k, m, h1, h2, rfl, _⟩ := split_i (p := p) (i := i) (by omega)
    obtain ⟨a, b⟩ := lo_of (p := p) (k := k) h1 h2
    have hk := pow_pos' k
    rw [a, b]
    by_cases h3 : m + 1 < 2 * 2 ^ p
    · rw [Nat.add_assoc, (lo_of (p := p) (k := k) (m := m + 1) (by omega) h3).1, Nat.add_mul]; omega
    · have e : k * 2 ^ p + m + 1 = (k + 1) * 2 ^ p + 2 ^ p := by rw [Nat.add_mul]; omega
      rw [e, (lo_of (p := p) (k := k + 1) (m := 2 ^ p) (by omega) (by omega)).1, Nat.pow_succ]
      have e2 : m = 2 * 2 ^ p - 1 := by omega
      rw [e2, Nat.sub_mul, Nat.mul_comm (2 ^ k) 2, ← Nat.mul_assoc, Nat.mul_comm (2 ^ p) 2, Nat.one_mul]
      have : 2 ^ k ≤ 2 * 2 ^ p * 2 ^ k := Nat.le_mul_of_pos_left _ (by omega)
      omega

theorem lo_lt {p i j : Nat} (h : i < j) : lo p i + mo p i < lo p j := by
  induction j with
  | zero => omega
  | succ j ih =>
    have := lo_succ p j
    by_cases e : i = j
    · subst e; omega
    · have := ih (by omega); omega

theorem lo_zero (p : Nat) : lo p 0 = 0 := by simp [lo, pow_pos']

theorem lo_end {p : Nat} (h1 : p ≤ 63) : lo p ((64 - p) * 2 ^ p) = 2 ^ 63 := by
  have e : (64 - p) * 2 ^ p = (63 - p) * 2 ^ p + 2 ^ p := by
    have : 64 - p = (63 - p) + 1 := by omega
    rw [this, Nat.add_mul, Nat.one_mul]
  rw [e, (lo_of (p := p) (by omega) (by have := pow_pos' p; omega)).1, ← Nat.pow_add]
  congr 1; omega

theorem bk_in (p v : Nat) : lo p (bk p v) ≤ v ∧ v ≤ lo p (bk p v) + mo p (bk p v) := by
  unfold bk
  by_cases h : v < 2 ^ p
  · rw [if_pos h]; simp [lo, mo, h]
  · rw [if_neg h]
    have hv : v ≠ 0 := by have := pow_pos' p; omega
    have h1 : 2 ^ v.log2 ≤ v := Nat.log2_self_le hv
    have h2 : v < 2 ^ (v.log2 + 1) := Nat.lt_log2_self
    have hp : p ≤ v.log2 := (Nat.le_log2 hv).2 (by omega)
    generalize v.log2 = e at *
    obtain ⟨k, rfl⟩ : ∃ k, e = p + k := ⟨e - p, by omega⟩
    rw [Nat.add_sub_cancel_left]
    have hk := pow_pos' k
    have m1 : 2 ^ p ≤ v / 2 ^ k := by rw [Nat.le_div_iff_mul_le hk, ← Nat.pow_add]; exact h1
    have m2 : v / 2 ^ k < 2 * 2 ^ p := by
      rw [Nat.div_lt_iff_lt_mul hk, Nat.mul_assoc, ← Nat.pow_add, Nat.mul_comm 2, ← Nat.pow_succ]; exact h2
    obtain ⟨a, b⟩ := lo_of (p := p) (k := k) m1 m2
    rw [a, b]
    have d := Nat.div_add_mod v (2 ^ k)
    have r := Nat.mod_lt v hk
    rw [Nat.mul_comm] at d
    omega

theorem bk_lt {p v : Nat} (hp : p ≤ 63) (hv : v < 2 ^ 63) : bk p v < (64 - p) * 2 ^ p := by
  apply Classical.byContradiction; intro h
  have h1 := bk_in p v
  have h2 := lo_end hp
  rcases Nat.lt_or_ge ((64 - p) * 2 ^ p) (bk p v) with h3 | h3
  · have := lo_lt (p := p) h3; omega
  · have : bk p v = (64 - p) * 2 ^ p := by omega
    rw [this] at h1; omega

theorem bk_eq {p v i : Nat} : bk p v = i ↔ lo p i ≤ v ∧ v ≤ lo p i + mo p i := by
  have h1 := bk_in p v
  constructor
  · rintro rfl; exact h1
  · intro h
    rcases Nat.lt_trichotomy (bk p v) i with h3 | h3 | h3
    · have := lo_lt (p := p) h3; omega
    · exact h3
    · have := lo_lt (p := p) h3; omega

theorem bk_mono {p v w : Nat} (h : v ≤ w) : bk p v ≤ bk p w := by
  apply Classical.byContradiction; intro h3
  have := lo_lt (p := p) (i := bk p w) (j := bk p v) (by omega)
  have h1 := bk_in p v
  have h2 := bk_in p w
  omega

theorem bk_lo (p i : Nat) : bk p (lo p i) = i := bk_eq.2 ⟨Nat.le_refl _, by omega⟩
theorem bk_hi (p i : Nat) : bk p (lo p i + mo p i) = i := bk_eq.2 ⟨by omega, Nat.le_refl _⟩

theorem hi_lt {p i : Nat} (hp : p ≤ 63) (hi : i < (64 - p) * 2 ^ p) : lo p i + mo p i < 2 ^ 63 := by
  rw [← lo_end hp]; exact lo_lt hi

/-- the last one -/
theorem hi_last {p i : Nat} (hp : p ≤ 63) (hi : i + 1 = (64 - p) * 2 ^ p) : lo p i + mo p i + 1 = 2 ^ 63 := by
  rw [← lo_succ, hi, lo_end hp]

theorem wide {p v : Nat} : lo p (bk p v) + mo p (bk p v) - v ≤ v / 2 ^ p := by
  have h1 := bk_in p v
  by_cases h : bk p v < 2 ^ p
  · have : mo p (bk p v) = 0 := by simp [mo, h]
    generalize v / 2 ^ p = q
    omega
  · obtain ⟨k, m, a, b, e, _⟩ := split_i (p := p) (i := bk p v) (by omega)
    rw [e] at h1 ⊢
    obtain ⟨x, y⟩ := lo_of (p := p) (k := k) a b
    rw [x, y] at h1 ⊢
    have : 2 ^ k ≤ v / 2 ^ p := by
      rw [Nat.le_div_iff_mul_le (pow_pos' p), Nat.mul_comm]
      exact Nat.le_trans (Nat.mul_le_mul_right _ a) h1.1
    generalize v / 2 ^ p = q at *
    generalize 2 ^ k = K at *
    generalize lo p (k * 2 ^ p + m) = z at *
    omega
end Go.Proofs.Ytonacegkhkncmaa.BkM
