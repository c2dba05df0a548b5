/- The document's Float: the numbers. -/
import Derived.Test.YtepmcblnhibfeaaDoorWf5
import Derived.Test.YtepmcblnhibfeaaDoorWr0
import Derived.Lib.Hide
namespace Go.Proofs.YtepmcblnhibfeaaDoor.Wf
open Go.RowKit Ieee Go.Proofs.YtepmcblnhibfeaaDoor.Wi
set_option linter.unusedVariables false

/-- A number of two words, halved. -/
theorem halve_i {n : Nat} {hi lo : Int} (e : (n : Int) = hi * 18446744073709551616 + lo) (h0 : 0 ≤ hi) (h1 : hi ≤ 18446744073709551615) (l0 : 0 ≤ lo) (l1 : lo ≤ 18446744073709551615) :
    ∃ h l c : Int, ((n / 2 : Nat) : Int) = h * 18446744073709551616 + l ∧ 0 ≤ h ∧ h ≤ 18446744073709551615 ∧ 0 ≤ l ∧ l ≤ 18446744073709551615 ∧
      hi / 2 = h ∧ IntKind.u64.wrap (hi * 9223372036854775808) = c ∧ bits BinOp.or IntKind.u64 (lo / 2) c = l := by
  obtain ⟨a, rfl⟩ := Int.eq_ofNat_of_zero_le h0
  obtain ⟨b, rfl⟩ := Int.eq_ofNat_of_zero_le l0
  have w : IntKind.u64.wrap ((a : Int) * 9223372036854775808) = ((a % 2 * 9223372036854775808 : Nat) : Int) := by rw [IntKind.wrap_u64]; omega
  have o : bits BinOp.or IntKind.u64 ((b / 2 : Nat) : Int) ((a % 2 * 9223372036854775808 : Nat) : Int) = ((a % 2 * 9223372036854775808 + b / 2 : Nat) : Int) := by
    rw [u64_or_nat _ _ (by omega) (by omega), Nat.or_comm]
    have h := Nat.two_pow_add_eq_or_of_lt (i := 63) (b := b / 2) (by omega) (a % 2)
    rw [show a % 2 * 9223372036854775808 = 2 ^ 63 * (a % 2) by omega, ← h]
  refine ⟨((a / 2 : Nat) : Int), ((a % 2 * 9223372036854775808 + b / 2 : Nat) : Int), _, by omega, by omega, by omega, by omega, by omega, by omega, w, ?_⟩
  rw [show (b : Int) / 2 = ((b / 2 : Nat) : Int) by omega]; exact o

def hbB (N k : Nat) : Bool := k != 0 && decide (N / 2 ^ (k - 1) % 2 = 1)
def ovB (N k : Nat) : Bool := k != 0 && decide (N % 2 ^ (k - 1) ≠ 0)

theorem hb_next (N k : Nat) : hbB N (k + 1) = decide (N / 2 ^ k % 2 = 1) := by simp [hbB]
theorem ov_next (N k : Nat) : ovB N (k + 1) = (ovB N k || hbB N k) := by
  cases k with
  | zero => simp [ovB, hbB, Nat.mod_one]
  | succ k =>
    have hp : 0 < 2 ^ k := Nat.two_pow_pos k
    have e : N % 2 ^ (k + 1) = N % 2 ^ k + 2 ^ k * (N / 2 ^ k % 2) := by rw [Nat.pow_succ]; exact Nat.mod_mul
    simp only [ovB, hbB, Nat.add_sub_cancel]
    rcases Nat.mod_two_eq_zero_or_one (N / 2 ^ k) with h | h
    · rw [e, h]; simp
    · rw [e, h]
      simp

theorem half_div (N k : Nat) : N / 2 ^ k / 2 = N / 2 ^ (k + 1) := by rw [Nat.pow_succ, Nat.div_div_eq_div_mul]

/-- What the rounding adds. -/
def addR (half over odd : Bool) : Nat := if half && (over || odd) then 1 else 0

theorem sig_parts {N : Nat} (h : N ≠ 0) : sig N = N / 2 ^ (N.log2 - 52) * 2 ^ (52 - N.log2) + addR (hbB N (N.log2 - 52)) (ovB N (N.log2 - 52)) (decide (N / 2 ^ (N.log2 - 52) * 2 ^ (52 - N.log2) % 2 = 1)) := by
  unfold sig
  split
  · rename_i h52
    have e : N.log2 - 52 = 0 := by omega
    rw [e]; simp [hbB, addR]
  · rename_i h52
    obtain ⟨i, hi⟩ : ∃ i, N.log2 - 52 = i + 1 := ⟨N.log2 - 53, by omega⟩
    rw [hi, rnd_half, show 52 - N.log2 = 0 by omega, Nat.pow_zero, Nat.mul_one]
    congr 1
    unfold addR
    simp only [hbB, ovB, Nat.add_sub_cancel]
    have hs : (i + 1 != 0) = true := by simp
    rw [hs]
    simp only [Bool.true_and, Bool.and_eq_true, Bool.or_eq_true, decide_eq_true_eq]

/-- The last step: the exponent above the significand. -/
theorem last_bits {N : Nat} (h : N ≠ 0) (hN : N < 2 ^ 128) :
    (sig N ≠ 9007199254740992 ∧ bits BinOp.and IntKind.u64 ((sig N : Nat) : Int) 4503599627370495 = ((sig N - 4503599627370496 : Nat) : Int) ∧
      bits BinOp.or IntKind.u64 (((N.log2 + 1023) * 4503599627370496 : Nat) : Int) ((sig N - 4503599627370496 : Nat) : Int) = ((rung N : Nat) : Int)) ∨
    (sig N = 9007199254740992 ∧ bits BinOp.and IntKind.u64 4503599627370496 4503599627370495 = 0 ∧
      bits BinOp.or IntKind.u64 (((N.log2 + 1024) * 4503599627370496 : Nat) : Int) 0 = ((rung N : Nat) : Int)) := by
  obtain ⟨s1, s2⟩ := sig_between h
  have hl : N.log2 < 128 := (Nat.log2_lt h).2 hN
  by_cases hs : sig N = 9007199254740992
  · right
    have z1 := u64_and_nat 4503599627370496 4503599627370495 (by omega) (by omega)
    have z2 : 4503599627370496 &&& 4503599627370495 = 4503599627370496 % 2 ^ 52 := Nat.and_two_pow_sub_one_eq_mod 4503599627370496 52
    rw [z2] at z1
    refine ⟨hs, z1, ?_⟩
    have := u64_or_nat ((N.log2 + 1024) * 4503599627370496) 0 (by omega) (by omega)
    rw [Nat.or_zero] at this
    rw [rung, if_neg h, hs]
    refine Eq.trans this ?_
    omega
  · left
    refine ⟨hs, ?_, ?_⟩
    · have h1 := u64_and_nat (sig N) 4503599627370495 (by omega) (by omega)
      have h2 : sig N &&& 4503599627370495 = sig N % 2 ^ 52 := Nat.and_two_pow_sub_one_eq_mod (sig N) 52
      rw [h2, show sig N % 2 ^ 52 = sig N - 4503599627370496 by omega] at h1
      exact h1
    · rw [rung, if_neg h]
      generalize sig N = S at *
      generalize N.log2 = L at *
      have h4 := join_bits (S - 4503599627370496) (L + 1023) (by omega) (by omega)
      rw [u64_or_nat _ _ (by omega) (by omega), Nat.or_comm, ← u64_or_nat _ _ (by omega) (by omega), h4]
      omega

theorem low_bit (x : Nat) (h : x < 18446744073709551616) : bits BinOp.and IntKind.u64 (x : Int) 1 = ((x % 2 : Nat) : Int) := by
  have h1 := u64_and_nat x 1 h (by omega)
  rw [Nat.and_one_is_mod] at h1; exact h1

theorem top_bit (x : Nat) (h : x < 9223372036854775808) : bits BinOp.or IntKind.u64 (x : Int) 9223372036854775808 = ((9223372036854775808 + x : Nat) : Int) := by
  have h1 := u64_or_nat x 9223372036854775808 (by omega) (by omega)
  have h2 : 2 ^ 63 + x = 2 ^ 63 ||| x := by
    have := Nat.two_pow_add_eq_or_of_lt (i := 63) (b := x) (by omega) 1
    simpa using this
  rw [Nat.or_comm, show (9223372036854775808 : Nat) = 2 ^ 63 from rfl, ← h2] at h1
  exact h1

theorem len_i {n : Nat} {hi lo : Int} (e : (n : Int) = hi * 18446744073709551616 + lo) (h0 : 0 ≤ hi) (l0 : 0 ≤ lo) (l1 : lo ≤ 18446744073709551615) :
    (n = 0 ↔ hi = 0 ∧ lo = 0) := by omega

theorem odd_i {n : Nat} {hi lo : Int} (e : (n : Int) = hi * 18446744073709551616 + lo) (l0 : 0 ≤ lo) (l1 : lo ≤ 18446744073709551615) :
    ∃ (p : Int) (q : Bool), bits BinOp.and IntKind.u64 lo 1 = p ∧ (p == 1) = q ∧ q = decide (n % 2 = 1) := by
  obtain ⟨b, rfl⟩ := Int.eq_ofNat_of_zero_le l0
  refine ⟨_, _, low_bit b (by omega), rfl, ?_⟩
  by_cases h : n % 2 = 1
  · rw [decide_eq_true h]; simp; omega
  · rw [decide_eq_false h]; simp; omega

/-- The numbers of the last steps. -/
theorem tail_nums {N X : Nat} {hb ov : Bool} {nI : Int} (h : N ≠ 0) (hN : N < 2 ^ 128) (hn : nI = ((N.log2 + 1 : Nat) : Int)) (hX : X ≤ 9007199254740992) (hfin : sig N = X + addR hb ov (decide (X % 2 = 1))) :
    ∃ (p nJ G1 G2 H1 H2 X1 : Int) (q : Bool), bits BinOp.and IntKind.u64 (X : Int) 1 = p ∧ (p == 1) = q ∧ IntKind.u64.wrap ((X : Int) + 1) = X1 ∧ nI + 1 = nJ ∧
      IntKind.u64.wrap (nI - 1 + 1023) = G1 ∧ IntKind.u64.wrap (G1 * 4503599627370496) = H1 ∧ IntKind.u64.wrap (nJ - 1 + 1023) = G2 ∧ IntKind.u64.wrap (G2 * 4503599627370496) = H2 ∧ 1 ≤ nJ ∧ nJ ≤ 129 ∧
      ∃ V : Int, (((hb && (ov || q)) = true ∧ V = X1) ∨ ((hb && (ov || q)) = false ∧ V = (X : Int))) ∧
        ((∃ F : Int, (V == 9007199254740992) = false ∧ bits BinOp.and IntKind.u64 V 4503599627370495 = F ∧ bits BinOp.or IntKind.u64 H1 F = ((rung N : Nat) : Int)) ∨
         ((V == 9007199254740992) = true ∧ V / 2 = 4503599627370496 ∧ bits BinOp.and IntKind.u64 4503599627370496 4503599627370495 = 0 ∧ bits BinOp.or IntKind.u64 H2 0 = ((rung N : Nat) : Int))) := by
  have hl : N.log2 < 128 := (Nat.log2_lt h).2 hN
  obtain ⟨p, q, o1, o2, o3⟩ := odd_i (n := X) (hi := 0) (lo := (X : Int)) (by omega) (by omega) (by omega)
  have hlast := last_bits h hN
  rw [← o3] at hfin
  refine ⟨p, nI + 1, ((N.log2 + 1023 : Nat) : Int), ((N.log2 + 1024 : Nat) : Int), (((N.log2 + 1023) * 4503599627370496 : Nat) : Int), (((N.log2 + 1024) * 4503599627370496 : Nat) : Int), ((X + 1 : Nat) : Int), q, o1, o2, by rw [IntKind.wrap_u64]; omega, rfl, by rw [IntKind.wrap_u64]; omega, by rw [IntKind.wrap_u64]; omega, by rw [IntKind.wrap_u64]; omega, by rw [IntKind.wrap_u64]; omega, by omega, by omega, ((sig N : Nat) : Int), ?_, ?_⟩
  · rw [hfin]
    unfold addR
    by_cases g : (hb && (ov || q)) = true
    · left; exact ⟨g, by rw [if_pos g]⟩
    · right; exact ⟨by simpa using g, by rw [if_neg g]; rfl⟩
  · rcases hlast with ⟨a1, a2, a3⟩ | ⟨a1, a2, a3⟩
    · left; exact ⟨_, beq_eq_false_iff_ne.2 (by omega), a2, a3⟩
    · right; exact ⟨beq_iff_eq.2 (by omega), by rw [a1]; omega, a2, a3⟩

def numI : Value → Int
  | .int _ n => n
  | _ => 0

set_option maxHeartbeats 1000000 in
theorem rbits_any (N : Nat) (hi lo : Int) (e : (N : Int) = hi * 18446744073709551616 + lo) (h0 : 0 ≤ hi) (h1 : hi ≤ 18446744073709551615) (l0 : 0 ≤ lo) (l1 : lo ≤ 18446744073709551615) (hN : N ≠ 0) (w : World) :
    Calls Tryd.prog 49 #[.int .u64 hi, .int .u64 lo] w fun e w' => e = .returned (.int .i64 ((N.log2 + 1 : Nat) : Int)) ∧ w' = w := by
  have hlg : N.log2 < 128 := (Nat.log2_lt hN).2 (by omega)
  replace e := Lib.hid e
  replace hN := Lib.hid hN
  go_enter Tryd.func49, Tryd.ntmps49
  go_wp2
  go_loop [0, 1, 5] (fun h l n => ∃ (k : Nat) (hi lo : Int), h = .int .u64 hi ∧ l = .int .u64 lo ∧ n = .int .i64 (k : Int) ∧ k ≤ N.log2 + 1 ∧ 0 ≤ hi ∧ hi ≤ 18446744073709551615 ∧ 0 ≤ lo ∧ lo ≤ 18446744073709551615 ∧ Hid (((N / 2 ^ k : Nat) : Int) = hi * 18446744073709551616 + lo)) (fun _ _ n => (N.log2 + 1 - (intOf n).toNat))
  case atStart => exact ⟨0, hi, lo, rfl, rfl, rfl, by omega, h0, h1, l0, l1, by show ((N / 2 ^ 0 : Nat) : Int) = _; rw [Nat.pow_zero, Nat.div_one]; exact e.out⟩
  case round =>
    clear h0 h1 l0 l1 e
    obtain ⟨k, a, b, rfl, rfl, rfl, hk, h0, h1, l0, l1, e⟩ := hrel
    by_cases hz : N / 2 ^ k = 0
    · have t1 : (a != 0) = false := by have := e.out; simp; omega
      have t2 : (b != 0) = false := by have := e.out; simp; omega
      have hkk : N.log2 < k := (Nat.log2_lt hN.out).2 (by
        rcases Nat.lt_or_ge N (2 ^ k) with h | h
        · exact h
        · have := Nat.div_pos h (Nat.two_pow_pos k); omega)
      obtain rfl : k = N.log2 + 1 := by omega
      clear hz e h0 h1 l0 l1
      go_wp2
      go_ret
      exact ⟨rfl, rfl⟩
    · obtain ⟨h, l, c, g1, g2, g3, g4, g5, g6, g7, g8⟩ := halve_i e.out h0 h1 l0 l1
      have ht : (a != 0) = true ∨ ((a != 0) = false ∧ (b != 0) = true) := by
        have := e.out
        by_cases ha : a = 0
        · exact .inr ⟨by simp [ha], by simp; omega⟩
        · exact .inl (by simpa using ha)
      have hkk : k ≤ N.log2 := (Nat.le_log2 hN.out).2 (by
        rcases Nat.lt_or_ge N (2 ^ k) with h | h
        · exact absurd (Nat.div_eq_of_lt h) hz
        · exact h)
      rw [half_div] at g1
      replace g1 := Lib.hid g1
      clear e hz h0 h1
      rcases ht with t1 | ⟨t1, t2⟩
      all_goals
        go_wp2
        go_round
        case rel => exact ⟨k + 1, h, l, rfl, rfl, by go_num, by omega, g2, g3, g4, g5, g1⟩
        case measure => simp [intOf]; omega

end Go.Proofs.YtepmcblnhibfeaaDoor.Wf
