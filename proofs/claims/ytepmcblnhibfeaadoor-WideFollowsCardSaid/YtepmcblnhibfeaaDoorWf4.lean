/- package wide's Float: the nearest double. -/
import Derived.Test.YtepmcblnhibfeaaDoorWf3
import Derived.Test.YtepmcblnhibfeaaDoorWi8
namespace Go.Proofs.YtepmcblnhibfeaaDoor.Wf
open Go.RowKit Ieee Go.Proofs.YtepmcblnhibfeaaDoor.Wi
set_option linter.unusedVariables false

theorem ldexp_any (x k : Nat) (h1 : 4503599627370496 ≤ x) (hk : k ≤ 64) (h2 : x + k * 4503599627370496 < 9218868437227405312) (w : World) :
    Calls Tryd.prog 48 #[.float .f64 x, .int .i64 k] w fun e w' => e = .returned (.float .f64 (x + k * 4503599627370496)) ∧ w' = w := by
  have c := ldexp_in x k h1 hk h2
  clear h1 hk h2
  go_enter Tryd.func48, Tryd.ntmps48
  go_wp2_with fail
  refine (c _).mono ?_
  rintro e w' ⟨rfl, rfl⟩
  go_wp2
  go_ret
  exact ⟨rfl, rfl⟩

theorem len_log2 {u : Nat} (h0 : u ≠ 0) (h : u ≤ 18446744073709551615) : Lib.bitLen u = u.log2 + 1 := by
  obtain ⟨h1, h2, h3⟩ := Lib.bitLenAux_bounds 64 u (by omega) h0
  have e : Lib.bitLenAux 64 u = Lib.bitLen u := rfl
  rw [e] at h1 h2 h3
  have := (Nat.log2_eq_iff h0 (k := Lib.bitLen u - 1)).2 ⟨h2, by rw [Nat.sub_add_cancel h1]; exact h3⟩
  omega

/-- The word of a number of 128 bits. -/
def fw (a : Int) : Nat := if a < 0 then 9223372036854775808 + rung a.natAbs else rung a.natAbs

theorem of_int (n : Nat) (h : n < 2 ^ 128) : floatOfInt FloatKind.f64 (n : Int) = rung n := by
  show double.nearest (decide ((n : Int) < 0)) (n : Int).natAbs 0 = _
  rw [Int.natAbs_natCast, nearest_eq _ h]
  have : decide ((n : Int) < 0) = false := by simp
  rw [this]; rfl

theorem neg_run (r : Nat) (h : r < 9223372036854775808) (w : World) : (Op.unary .neg (.float .f64 r)).run Tryd.prog w = .ok (.float .f64 (9223372036854775808 + r)) w := by
  have e : Op.negFloat .f64 r = 9223372036854775808 + r := by
    show r ^^^ 2 ^ 63 = _
    have h1 : 2 ^ 63 + r = 2 ^ 63 ||| r := by
      have := Nat.two_pow_add_eq_or_of_lt (i := 63) (b := r) (by omega) 1
      simpa using this
    have h2 : r ^^^ 2 ^ 63 = 2 ^ 63 ||| r := by
      apply Nat.eq_of_testBit_eq
      intro i
      rw [Nat.testBit_xor, Nat.testBit_or, Nat.testBit_two_pow]
      by_cases hi : 63 = i
      · subst hi; rw [Nat.testBit_lt_two_pow (by omega)]; rfl
      · simp [hi]
    rw [h2, ← h1]
  simp [Op.unary, e]

/-- The numbers that the code comes to, of a magnitude of more than 64 bits. -/
theorem big_nums {hi lo : Nat} (h0 : hi ≠ 0) (hh : hi ≤ 18446744073709551615) (hl : lo ≤ 18446744073709551615) :
    ∃ n K T1 T2 T Lw S : Nat, (64 : Int) - (Lib.bitLen hi : Int) = (n : Int) ∧ (64 : Int) - (n : Int) = (K : Int) ∧ 1 ≤ K ∧ K ≤ 64 ∧ n ≤ 63 ∧ T ≤ 18446744073709551615 ∧
      IntKind.u64.wrap ((hi : Int) * 2 ^ n) = (T1 : Int) ∧ (lo : Int) / 2 ^ K = (T2 : Int) ∧ bits BinOp.or IntKind.u64 (T1 : Int) (T2 : Int) = (T : Int) ∧ IntKind.u64.wrap ((lo : Int) * 2 ^ n) = (Lw : Int) ∧
      ((Lw = 0 ∧ S = T) ∨ (Lw ≠ 0 ∧ bits BinOp.or IntKind.u64 (T : Int) 1 = (S : Int))) ∧
      rung (hi * 18446744073709551616 + lo) = rung S + K * 4503599627370496 ∧ 4503599627370496 ≤ rung S ∧ S < 18446744073709551616 := by
  have hlog := len_log2 h0 hh
  have l1 := Nat.log2_self_le h0
  have l2 := Nat.lt_log2_self (n := hi)
  have l3 : hi.log2 < 64 := (Nat.log2_lt h0).2 (by omega)
  obtain ⟨K, hK⟩ : ∃ K, K = hi.log2 + 1 := ⟨_, rfl⟩
  obtain ⟨n, hn⟩ : ∃ n, n = 64 - K := ⟨_, rfl⟩
  rw [hlog, ← hK]
  rw [← hK] at l2
  have hK1 : 2 ^ (K - 1) ≤ hi := by rw [show K - 1 = hi.log2 by omega]; exact l1
  clear hlog l1
  have hp : 0 < 2 ^ K := Nat.two_pow_pos K
  have hpn : 0 < 2 ^ n := Nat.two_pow_pos n
  have h64 : 2 ^ K * 2 ^ n = 18446744073709551616 := by rw [← Nat.pow_add, show K + n = 64 by omega]
  have h63 : 2 ^ (K - 1) * 2 ^ n = 9223372036854775808 := by rw [← Nat.pow_add, show K - 1 + n = 63 by omega]
  have a1 : hi * 2 ^ n < 18446744073709551616 := by rw [← h64]; exact Nat.mul_lt_mul_of_pos_right l2 hpn
  have a2 : 9223372036854775808 ≤ hi * 2 ^ n := by rw [← h63]; exact Nat.mul_le_mul_right _ hK1
  have a3 : lo / 2 ^ K < 2 ^ n := by rw [Nat.div_lt_iff_lt_mul hp, Nat.mul_comm, h64]; omega
  have eN : hi * 18446744073709551616 + lo = 2 ^ K * (hi * 2 ^ n) + lo := by rw [← h64, Nat.mul_left_comm]
  have eD : (hi * 18446744073709551616 + lo) / 2 ^ K = hi * 2 ^ n + lo / 2 ^ K := by rw [eN, Nat.mul_add_div hp]
  have eM : (hi * 18446744073709551616 + lo) % 2 ^ K = lo % 2 ^ K := by rw [eN, Nat.mul_add_mod]
  have eO : hi * 2 ^ n ||| lo / 2 ^ K = hi * 2 ^ n + lo / 2 ^ K := by rw [Nat.mul_comm, ← Nat.two_pow_add_eq_or_of_lt a3]
  have hT : hi * 2 ^ n + lo / 2 ^ K < 18446744073709551616 := by
    have : hi * 2 ^ n + 2 ^ n ≤ 18446744073709551616 := by
      rw [← h64, ← Nat.succ_mul]; exact Nat.mul_le_mul_right _ l2
    omega
  have nn : ∀ t1 t2 : Nat, 9223372036854775808 ≤ t1 → 9223372036854775808 ≤ t1 + t2 := fun t1 t2 h => by omega
  have hst := rung_sticky (N := hi * 18446744073709551616 + lo) (k := K) (by rw [eD]; exact nn _ _ a2) (by rw [eD]; exact hT)
  have eL : lo * 2 ^ n % 18446744073709551616 = lo % 2 ^ K * 2 ^ n := by rw [← h64, Nat.mul_mod_mul_right]
  have hS63 : rung (sticky (hi * 18446744073709551616 + lo) K) ≥ 4503599627370496 := by
    have h := hst.2.1
    rw [rung, if_neg (by omega)]
    omega
  have cst : ∀ x m : Nat, (x : Int) * 2 ^ m = ((x * 2 ^ m : Nat) : Int) := fun x m => by rw [Int.natCast_mul]; simp
  refine ⟨n, K, hi * 2 ^ n, lo / 2 ^ K, hi * 2 ^ n + lo / 2 ^ K, lo * 2 ^ n % 18446744073709551616, sticky (hi * 18446744073709551616 + lo) K, by omega, by omega, by omega, by omega, by omega, Nat.le_of_lt_succ hT, ?_, ?_, ?_, ?_, ?_, hst.1, hS63, by omega⟩
  · rw [cst, IntKind.wrap_u64]; omega
  · simp
  · rw [u64_or_nat _ _ a1 (Nat.lt_of_lt_of_le a3 (by rw [← h64]; exact Nat.le_mul_of_pos_left _ hp)), eO]
  · rw [cst, IntKind.wrap_u64]; omega
  · rw [eL]
    unfold sticky
    rw [eM, eD]
    by_cases hz : lo % 2 ^ K = 0
    · left; rw [hz, if_pos rfl]; exact ⟨by simp, rfl⟩
    · right
      refine ⟨Nat.mul_ne_zero hz (by omega), ?_⟩
      rw [if_neg hz]
      have h1 := u64_or_nat (hi * 2 ^ n + lo / 2 ^ K) 1 hT (by omega)
      rw [or_one] at h1
      exact h1

end Go.Proofs.YtepmcblnhibfeaaDoor.Wf
