/- Doubles in a walk: math.Ldexp at a normal number. -/
import Derived.Test.YtepmcblnhibfeaaDoorWf2
import Derived.Test.YtepmcblnhibfeaaDoorWdR
import Derived.Laws.BitsAllLaws
import Derived.WalkLawsBesides
import GoSem.Extern.MathFloatBits
namespace Go.Proofs.YtepmcblnhibfeaaDoor.Wf
open Go.RowKit Ieee
set_option linter.unusedVariables false

theorem bits_run (b : Nat) (w : World) : (callFunc 33 #[.float .f64 b]).run Tryd.prog w = .ok (.value (.int .u64 b)) w := by
  rw [run_callFunc_extern Tryd.func33 (by kernel_rfl) (by kernel_rfl) (by kernel_rfl) (e := Extern.MathFloatBits.float64bits) (by kernel_rfl)]
  rfl
theorem from_run (n : Nat) (w : World) : (callFunc 74 #[.int .u64 n]).run Tryd.prog w = .ok (.value (.float .f64 n)) w := by
  rw [run_callFunc_extern Tryd.func74 (by kernel_rfl) (by kernel_rfl) (by kernel_rfl) (e := Extern.MathFloatBits.float64frombits) (by kernel_rfl)]
  rfl

theorem abs_bits (x : Nat) (h : x < 9223372036854775808) : bits BinOp.andNot IntKind.u64 (x : Int) 9223372036854775808 = (x : Int) := by
  have h1 := u64_andNot_nat x 9223372036854775808 (by omega) (by omega)
  have h2 : x &&& (18446744073709551615 - 9223372036854775808) = x % 2 ^ 63 := Nat.and_two_pow_sub_one_eq_mod x 63
  rw [h2, Nat.mod_eq_of_lt (by omega)] at h1
  exact h1

theorem mant_bits (x : Nat) (h : x < 9223372036854775808) : bits BinOp.andNot IntKind.u64 (x : Int) 9218868437227405312 = ((x % 4503599627370496 : Nat) : Int) := by
  have h1 := u64_andNot_nat x 9218868437227405312 (by omega) (by omega)
  have e : 18446744073709551615 - 9218868437227405312 = 2 ^ 63 ||| (2 ^ 52 - 1) := by decide
  have h2 : x &&& (18446744073709551615 - 9218868437227405312) = x % 2 ^ 52 := by
    have z : x &&& 2 ^ 63 = 0 := by
      apply Nat.eq_of_testBit_eq
      intro i
      rw [Nat.testBit_and, Nat.testBit_two_pow, Nat.zero_testBit]
      by_cases hi : 63 = i
      · subst hi; rw [Nat.testBit_lt_two_pow (by omega)]; rfl
      · simp [hi]
    rw [e, Nat.and_or_distrib_left, Nat.and_two_pow_sub_one_eq_mod, z, Nat.zero_or]
  rw [h2] at h1
  exact h1

theorem ofInt_i64 (a : Nat) (ha : a < 9223372036854775808) : (BitVec.ofInt 64 (a : Int)).toNat = a := by
  rw [BitVec.ofInt_natCast, BitVec.toNat_ofNat]; exact Nat.mod_eq_of_lt (by omega)
theorem i64_and_nat (a b : Nat) (ha : a < 9223372036854775808) (hb : b < 9223372036854775808) : bits .and .i64 (a : Int) (b : Int) = ((a &&& b : Nat) : Int) := by
  have hx : a &&& b < 2 ^ 63 := Nat.and_lt_two_pow _ (by omega)
  show IntKind.i64.wrap ((BitVec.ofInt 64 (a : Int) &&& BitVec.ofInt 64 (b : Int)).toNat : Int) = _
  rw [BitVec.toNat_and, ofInt_i64 a ha, ofInt_i64 b hb, IntKind.wrap_i64]
  omega
theorem and_2047 (x : Nat) (h : x < 2048) : bits BinOp.and IntKind.i64 (x : Int) 2047 = (x : Int) := by
  have h1 := i64_and_nat x 2047 (by omega) (by omega)
  have h2 : x &&& 2047 = x % 2 ^ 11 := Nat.and_two_pow_sub_one_eq_mod x 11
  rw [h2, Nat.mod_eq_of_lt (by omega)] at h1
  exact h1
theorem join_bits (m g : Nat) (hm : m < 4503599627370496) (hg : g < 4096) : bits BinOp.or IntKind.u64 (m : Int) ((g * 4503599627370496 : Nat) : Int) = ((g * 4503599627370496 + m : Nat) : Int) := by
  rw [u64_or_nat _ _ (by omega) (by omega), Nat.or_comm]
  have h := Nat.two_pow_add_eq_or_of_lt (i := 52) (b := m) (by omega) g
  rw [show g * 4503599627370496 = 2 ^ 52 * g by omega, ← h]

/-- Finite words that are not below 0, by their rungs. -/
theorem order_pos {r r' : Nat} (h : r < 9218868437227405312) (h' : r' < 9218868437227405312) : FloatKind.f64.format.order r r' = some (if r < r' then .lt else if r = r' then .eq else .gt) := by
  have e := order_words false false h h'
  have e1 : double.word false r = r := rfl
  have e2 : double.word false r' = r' := rfl
  rw [e1, e2] at e
  show double.order r r' = _
  rw [e]
  show some (if (r : Int) < (r' : Int) then Ordering.lt else if (r : Int) = (r' : Int) then Ordering.eq else Ordering.gt) = _
  by_cases a : r < r'
  · rw [if_pos a, if_pos (by omega)]
  · rw [if_neg a, if_neg (by omega)]
    by_cases b : r = r'
    · rw [if_pos b, if_pos (by omega)]
    · rw [if_neg b, if_neg (by omega)]

theorem abs_any (x : Nat) (h : x < 9223372036854775808) (w : World) :
    Calls Tryd.prog 81 #[.float .f64 x] w fun e w' => e = .returned (.float .f64 x) ∧ w' = w := by
  have f1 := abs_bits x h
  have b1 := bits_run x
  have b2 := from_run x
  clear h
  go_enter Tryd.func81, Tryd.ntmps81
  go_wp2
  go_ret
  exact ⟨rfl, rfl⟩

theorem isInf_any (x : Nat) (h : x < 9218868437227405312) (w : World) :
    Calls Tryd.prog 69 #[.float .f64 x, .int .i64 0] w fun e w' => e = .returned (.bool false) ∧ w' = w := by
  have c := abs_any x (by omega)
  have f1 : (FloatKind.f64.format.order x 9218868437227405311 == some Ordering.gt) = false := by
    rw [order_pos h (by decide)]
    by_cases a : x < 9218868437227405311
    · rw [if_pos a]; rfl
    · rw [if_neg a, if_pos (by omega)]; rfl
  clear h
  go_enter Tryd.func69, Tryd.ntmps69
  go_wp2_with fail
  refine (c _).mono ?_
  rintro e w' ⟨rfl, rfl⟩
  go_wp2
  go_ret
  exact ⟨rfl, rfl⟩

theorem isNaN_any (x : Nat) (h : x < 9218868437227405312) (w : World) :
    Calls Tryd.prog 70 #[.float .f64 x] w fun e w' => e = .returned (.bool false) ∧ w' = w := by
  have f1 : (FloatKind.f64.format.order x x != some Ordering.eq) = false := by
    rw [order_pos h h, if_neg (by omega), if_pos rfl]; rfl
  clear h
  go_enter Tryd.func70, Tryd.ntmps70
  go_wp2
  go_ret
  exact ⟨rfl, rfl⟩

theorem normalize_any (x : Nat) (h0 : 4503599627370496 ≤ x) (h : x < 9218868437227405312) (w : World) :
    Calls Tryd.prog 71 #[.float .f64 x] w fun e w' => e = .returned (.tuple #[.float .f64 x, .int .i64 0]) ∧ w' = w := by
  have c := abs_any x (by omega)
  have f1 : (FloatKind.f64.format.order x 4503599627370496 == some Ordering.lt) = false := by
    rw [order_pos h (by decide), if_neg (by omega)]
    by_cases a : x = 4503599627370496
    · rw [if_pos a]; rfl
    · rw [if_neg a]; rfl
  clear h h0
  go_enter Tryd.func71, Tryd.ntmps71
  go_wp2_with fail
  refine (c _).mono ?_
  rintro e w' ⟨rfl, rfl⟩
  go_wp2
  go_ret2
  exact ⟨rfl, rfl⟩

set_option maxHeartbeats 1000000 in
theorem ldexp_in (x k : Nat) (h1 : 4503599627370496 ≤ x) (hk : k ≤ 64) (h2 : x + k * 4503599627370496 < 9218868437227405312) (w : World) :
    Calls Tryd.prog 60 #[.float .f64 x, .int .i64 k] w fun e w' => e = .returned (.float .f64 (x + k * 4503599627370496)) ∧ w' = w := by
  have c1 := isInf_any x (by omega)
  have c2 := isNaN_any x (by omega)
  have c3 := normalize_any x h1 (by omega)
  have q0 : (FloatKind.f64.format.order x 0 == some Ordering.eq) = false := by
    rw [order_pos (by omega) (by decide), if_neg (by omega), if_neg (by omega)]; rfl
  obtain ⟨E, hE⟩ : ∃ E, E = x / 4503599627370496 := ⟨_, rfl⟩
  have f2 : (x : Int) / 4503599627370496 = (E : Int) := by omega
  have f3 : IntKind.i64.wrap (E : Int) = (E : Int) := by rw [IntKind.wrap_i64]; omega
  have f4 := and_2047 E (by omega)
  have E1 : (1 : Int) ≤ (E : Int) := by omega
  have E2 : (k : Int) + (E : Int) ≤ 2046 := by omega
  have hk' : (k : Int) ≤ 64 := by omega
  have f5 : IntKind.i64.wrap ((E : Int) - 1023) = (E : Int) - 1023 := by rw [IntKind.wrap_i64]; omega
  have f6 : IntKind.i64.wrap ((k : Int) + ((E : Int) - 1023)) = (k : Int) + ((E : Int) - 1023) := by rw [IntKind.wrap_i64]; omega
  have f7 : IntKind.i64.wrap ((k : Int) + ((E : Int) - 1023) + 1023) = ((k + E : Nat) : Int) := by rw [IntKind.wrap_i64]; omega
  have f7' : (k : Int) + ((E : Int) - 1023) + 1023 = ((k + E : Nat) : Int) := by omega
  have f8 : IntKind.u64.wrap ((k + E : Nat) : Int) = ((k + E : Nat) : Int) := by rw [IntKind.wrap_u64]; omega
  have f9 : IntKind.u64.wrap (((k + E : Nat) : Int) * 4503599627370496) = (((k + E) * 4503599627370496 : Nat) : Int) := by rw [IntKind.wrap_u64]; omega
  have g1 := mant_bits x (by omega)
  have g2 := join_bits (x % 4503599627370496) (k + E) (by omega) (by omega)
  have g3 : (k + E) * 4503599627370496 + x % 4503599627370496 = x + k * 4503599627370496 := by omega
  rw [g3] at g2
  have b1 := bits_run x
  have b2 := from_run (x + k * 4503599627370496)
  have m1 := fun W => run_float_arith (P := Tryd.prog) W .mul 45 .f64 4607182418800017408 (x + k * 4503599627370496) _ (mul_one_word (by omega) h2)
  obtain ⟨Y, hY⟩ : ∃ Y, Y = x + k * 4503599627370496 := ⟨_, rfl⟩
  obtain ⟨G, hG⟩ : ∃ G, G = k + E := ⟨_, rfl⟩
  obtain ⟨F, hF⟩ : ∃ F, F = x % 4503599627370496 := ⟨_, rfl⟩
  obtain ⟨H, hH⟩ : ∃ H : Nat, H = G * 4503599627370496 := ⟨_, rfl⟩
  rw [← hY] at g2 b2 m1 ⊢
  rw [← hF] at g1 g2
  rw [← hG] at f7 f7' f8 f9 g2
  rw [← hH] at f9 g2
  clear hY hG hF hH hE g3 h1 h2 hk
  go_enter Tryd.func60, Tryd.ntmps60
  go_wp2_with fail
  refine (c1 _).mono ?_
  rintro e w' ⟨rfl, rfl⟩
  go_wp2_with fail
  refine (c2 _).mono ?_
  rintro e w' ⟨rfl, rfl⟩
  go_wp2_with fail
  refine (c3 _).mono ?_
  rintro e w' ⟨rfl, rfl⟩
  go_wp2

  go_ret
  exact ⟨rfl, rfl⟩

end Go.Proofs.YtepmcblnhibfeaaDoor.Wf
