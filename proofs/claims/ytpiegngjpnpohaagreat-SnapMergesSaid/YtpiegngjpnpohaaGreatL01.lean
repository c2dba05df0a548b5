/- Lemmas for the laws of this seat, laid together of Fc, Fa0, Fa1, Fa2. -/
import Derived.Test.YtpiegngjpnpohaaGreatL00
import Derived.Laws.BitsAllLaws
import Derived.WalkLawsBesides
import GoSem.Extern.MathFloatBits

namespace Go.Proofs.YtpiegngjpnpohaaGreat.Fb
open Go.RowKit Ieee Go.Proofs.YtpiegngjpnpohaaGreat.Wf
set_option linter.unusedVariables false
theorem bits_run (b : Nat) (w : World) : (callFunc 82 #[.float .f64 b]).run Tryz.prog w = .ok (.value (.int .u64 b)) w := by
  rw [run_callFunc_extern Tryz.func82 (by kernel_rfl) (by kernel_rfl) (by kernel_rfl) (e := Extern.MathFloatBits.float64bits) (by kernel_rfl)]
  rfl
theorem from_run (n : Nat) (w : World) : (callFunc 114 #[.int .u64 n]).run Tryz.prog w = .ok (.value (.float .f64 n)) w := by
  rw [run_callFunc_extern Tryz.func114 (by kernel_rfl) (by kernel_rfl) (by kernel_rfl) (e := Extern.MathFloatBits.float64frombits) (by kernel_rfl)]
  rfl
theorem mg_bits (x : Nat) (h : okF x) : bits BinOp.andNot IntKind.u64 (x : Int) 9223372036854775808 = ((mg x : Nat) : Int) := by
  unfold okF at h
  have h1 := u64_andNot_nat x 9223372036854775808 (by omega) (by omega)
  have h2 : x &&& (18446744073709551615 - 9223372036854775808) = x % 2 ^ 63 := Nat.and_two_pow_sub_one_eq_mod x 63
  rw [h2] at h1
  exact h1
theorem sign_bits (x : Nat) (h : okF x) : bits BinOp.and IntKind.u64 (x : Int) 9223372036854775808 = if negF x = true then 9223372036854775808 else 0 := by
  unfold okF at h
  have h1 : bits BinOp.and IntKind.u64 (x : Int) 9223372036854775808 = ((x &&& 9223372036854775808 : Nat) : Int) := u64_and_nat x 9223372036854775808 (by omega) (by omega)
  have t : x.testBit 63 = negF x := by
    rw [Nat.testBit_eq_decide_div_mod_eq]
    unfold negF
    by_cases g : 9223372036854775808 ≤ x
    · rw [decide_eq_true g, decide_eq_true]; omega
    · rw [decide_eq_false g, decide_eq_false]; omega
  have e : x &&& 2 ^ 63 = if negF x = true then 2 ^ 63 else 0 := by
    apply Nat.eq_of_testBit_eq
    intro i
    rw [Nat.testBit_and, Nat.testBit_two_pow]
    by_cases hi : 63 = i
    · subst hi
      rw [t]
      cases negF x
      · simp
      · simp only [Bool.true_and, decide_true, if_true]; rw [Nat.testBit_two_pow]; rfl
    · simp only [hi, decide_false, Bool.and_false]
      cases negF x
      · simp
      · simp only [if_true]; rw [Nat.testBit_two_pow]; simp [hi]
  rw [show (9223372036854775808 : Nat) = 2 ^ 63 from rfl] at h1
  rw [h1, e]
  cases negF x <;> rfl
theorem or_sign (x : Nat) (h : x < 9223372036854775808) : bits BinOp.or IntKind.u64 (x : Int) 9223372036854775808 = ((x + 9223372036854775808 : Nat) : Int) := by
  have h1 : bits BinOp.or IntKind.u64 (x : Int) 9223372036854775808 = ((x ||| 9223372036854775808 : Nat) : Int) := u64_or_nat x 9223372036854775808 (by omega) (by omega)
  have h2 := Nat.two_pow_add_eq_or_of_lt (i := 63) (b := x) (by omega) 1
  rw [h1, Nat.or_comm, show (9223372036854775808 : Nat) = 2 ^ 63 * 1 from rfl, ← h2, Nat.add_comm]
theorem not_bits (x : Nat) (h : okF x) : bits BinOp.xor IntKind.u64 (if IntKind.u64.signed = true then -1 else IntKind.u64.max) (x : Int) = ((18446744073709551615 - x : Nat) : Int) := by
  unfold okF at h
  have this : bits BinOp.xor IntKind.u64 ((18446744073709551615 : Nat) : Int) (x : Int) = ((18446744073709551615 ^^^ x : Nat) : Int) := u64_xor_nat 18446744073709551615 x (by omega) (by omega)
  have hn : x < 2 ^ 64 := by omega
  have e : 18446744073709551615 ^^^ x = 18446744073709551615 - x := by
    have h := congrArg BitVec.toNat (BitVec.not_def (x := BitVec.ofNat 64 x))
    rw [BitVec.toNat_not, BitVec.toNat_xor, BitVec.toNat_allOnes, BitVec.toNat_ofNat, Nat.mod_eq_of_lt hn] at h
    exact h.symm
  rw [if_neg (by decide), show IntKind.u64.max = ((18446744073709551615 : Nat) : Int) from rfl, this, e]
theorem abs_any (x : Nat) (h : okF x) (w : World) :
    Calls Tryz.prog 189 #[.float .f64 x] w fun e w' => e = .returned (.float .f64 (mg x)) ∧ w' = w := by
  have f1 := mg_bits x h
  have b1 := bits_run x
  have b2 := from_run (mg x)
  clear h
  go_enter Tryz.func189, Tryz.ntmps189
  go_wp2
  go_ret
  exact ⟨rfl, rfl⟩
def infF (x : Nat) : Bool := decide (mg x = 9218868437227405312)
theorem isInf_any (x : Nat) (h : okF x) (w : World) :
    Calls Tryz.prog 149 #[.float .f64 x, .int .i64 0] w fun e w' => e = .returned (.bool (infF x)) ∧ w' = w := by
  have c := abs_any x h
  have f1 : (FloatKind.f64.format.order (mg x) 9218868437227405311 == some Ordering.gt) = infF x := ord_top (a := x)
  clear h
  go_enter Tryz.func149, Tryz.ntmps149
  go_wp2_with fail
  refine (c _).mono ?_
  rintro e w' ⟨rfl, rfl⟩
  go_wp2
  go_ret
  exact ⟨rfl, rfl⟩
theorem isNaN_any (x : Nat) (h : okF x) (w : World) :
    Calls Tryz.prog 148 #[.float .f64 x] w fun e w' => e = .returned (.bool (nanF x)) ∧ w' = w := by
  have f1 : (FloatKind.f64.format.order x x != some Ordering.eq) = nanF x := ord_self h
  clear h
  go_enter Tryz.func148, Tryz.ntmps148
  go_wp2
  go_ret
  exact ⟨rfl, rfl⟩
theorem sign_wrap (x : Nat) (h : okF x) : (IntKind.i64.wrap (x : Int) < 0) = (negF x = true) := by
  unfold okF at h
  rw [IntKind.wrap_i64]
  unfold negF
  rw [decide_eq_true_eq]
  apply propext
  constructor <;> intro g <;> omega
theorem signbit_any (x : Nat) (h : okF x) (w : World) :
    Calls Tryz.prog 150 #[.float .f64 x] w fun e w' => e = .returned (.bool (negF x)) ∧ w' = w := by
  have f1 := sign_wrap x h
  have b1 := bits_run x
  obtain ⟨y, hy⟩ : ∃ y, y = IntKind.i64.wrap (x : Int) := ⟨_, rfl⟩
  rw [← hy] at f1
  have hy' := hy.symm
  clear h hy
  go_enter Tryz.func150, Tryz.ntmps150
  go_wp2
  go_ret
  exact ⟨by simp, rfl⟩
theorem rc_walk (a b : Nat) (p q lt gt s t : Bool) (r : Int) (w : World)
    (c1 : ∀ w, Calls Tryz.prog 148 #[.float .f64 a] w fun e w' => e = .returned (.bool p) ∧ w' = w)
    (c2 : ∀ w, Calls Tryz.prog 148 #[.float .f64 b] w fun e w' => e = .returned (.bool q) ∧ w' = w)
    (s1 : ∀ w, Calls Tryz.prog 150 #[.float .f64 a] w fun e w' => e = .returned (.bool s) ∧ w' = w)
    (s2 : ∀ w, Calls Tryz.prog 150 #[.float .f64 b] w fun e w' => e = .returned (.bool t) ∧ w' = w)
    (f1 : (FloatKind.f64.format.order a b == some Ordering.lt) = lt) (f2 : (FloatKind.f64.format.order a b == some Ordering.gt) = gt)
    (h : (p = true ∧ q = true ∧ r = 0) ∨ (p = true ∧ q = false ∧ r = -1) ∨ (p = false ∧ lt = true ∧ r = -1) ∨ (p = false ∧ lt = false ∧ q = true ∧ r = 1) ∨ (p = false ∧ lt = false ∧ q = false ∧ gt = true ∧ r = 1) ∨
      (p = false ∧ lt = false ∧ q = false ∧ gt = false ∧ s = t ∧ r = 0) ∨ (p = false ∧ lt = false ∧ q = false ∧ gt = false ∧ s = true ∧ t = false ∧ r = -1) ∨ (p = false ∧ lt = false ∧ q = false ∧ gt = false ∧ s = false ∧ t = true ∧ r = 1)) :
    Calls Tryz.prog 92 #[.float .f64 a, .float .f64 b] w fun e w' => e = .returned (.int .i64 r) ∧ ∃ n, w' = w.drewN n := by
  rcases h with ⟨rfl, rfl, rfl⟩ | ⟨rfl, rfl, rfl⟩ | ⟨rfl, rfl, rfl⟩ | ⟨rfl, rfl, rfl, rfl⟩ | ⟨rfl, rfl, rfl, rfl, rfl⟩ | ⟨rfl, rfl, rfl, rfl, rfl, rfl⟩ | ⟨rfl, rfl, rfl, rfl, rfl, rfl, rfl⟩ | ⟨rfl, rfl, rfl, rfl, rfl, rfl, rfl⟩
  all_goals
    go_enter Tryz.func92, Tryz.ntmps92
    go_wp2_with (first
      | (go_at_call 148; with_reducible refine (c1 _).mono ?_; rintro e w' ⟨rfl, rfl⟩)
      | (go_at_call 148; with_reducible refine (c2 _).mono ?_; rintro e w' ⟨rfl, rfl⟩)
      | (go_at_call 150; with_reducible refine (s1 _).mono ?_; rintro e w' ⟨rfl, rfl⟩)
      | (go_at_call 150; with_reducible refine (s2 _).mono ?_; rintro e w' ⟨rfl, rfl⟩)
      | go_quiet (first
        | (go_at_call 150; with_reducible exact Calls.quiet_of_same (s1 _))
        | (go_at_call 150; with_reducible exact Calls.quiet_of_same (s2 _))))
    go_ret
    first | exact ⟨rfl, 0, rfl⟩ | exact ⟨rfl, _, rfl⟩
theorem real_compare (a b : Nat) (ha : okF a) (hb : okF b) (w : World) :
    Calls Tryz.prog 92 #[.float .f64 a, .float .f64 b] w fun e w' => e = .returned (.int .i64 (cmpF a b)) ∧ ∃ n, w' = w.drewN n := by
  refine rc_walk a b _ _ _ _ _ _ _ w (isNaN_any a ha) (isNaN_any b hb) (signbit_any a ha) (signbit_any b hb) (ord_lt ha hb) (ord_gt ha hb) ?_
  rw [rk_cases ha hb]
  by_cases h1 : nanF a = true <;> by_cases h2 : nanF b = true
  · simp [h1, h2]
  · simp [h1, h2]
  · simp [h1, h2]
  · rw [Bool.not_eq_true] at h1 h2
    simp only [h1, h2, true_and, decide_eq_true_eq, decide_eq_false_iff_not, Bool.false_eq_true, false_and, false_or, if_false, and_self]
    by_cases h3 : sv a < sv b
    · simp [h3]
    · by_cases h4 : sv b < sv a
      · simp [h3, h4]
      · simp only [h3, h4, if_false, not_false_eq_true, true_and, false_and, false_or]
        by_cases h5 : negF a = negF b
        · simp [h5]
        · cases h6 : negF a <;> cases h7 : negF b <;> simp_all
theorem real_same (a b : Nat) (ha : okF a) (hb : okF b) (w : World) :
    Calls Tryz.prog 128 #[.float .f64 a, .float .f64 b] w fun e w' => e = .returned (.bool (decide (rk a = rk b))) ∧ ∃ n, w' = w.drewN n := by
  have c := real_compare a b ha hb
  have f : (cmpF a b == 0) = decide (rk a = rk b) := by
    rw [Bool.eq_iff_iff]; simp [cmpF_zero]
  clear ha hb
  go_enter Tryz.func128, Tryz.ntmps128
  go_wp2_with (go_at_call 92; refine (c _).mono ?_; rintro e w' ⟨rfl, n, rfl⟩)
  go_ret
  exact ⟨rfl, _, rfl⟩
theorem rank_any (x : Nat) (h : okF x) (w : World) :
    Calls Tryz.prog 117 #[.float .f64 x] w fun e w' => e = .returned (.int .u64 (rk x)) ∧ w' = w := by
  have b1 := bits_run x
  have f1 := mg_bits x h
  have f2 := sign_bits x h
  have f4 := not_bits x h
  have hx := h
  unfold okF at hx
  by_cases g1 : 9218868437227405312 < mg x
  · have e : ((rk x : Nat) : Int) = 0 := by unfold rk; rw [if_pos g1]; rfl
    have t1 : decide ((9218868437227405312 : Int) < ((mg x : Nat) : Int)) = true := decide_eq_true (by omega)
    rw [e]
    clear f2 f4 g1 e h hx
    go_enter Tryz.func117, Tryz.ntmps117
    go_wp2
    go_ret
    exact ⟨rfl, rfl⟩
  · have t1 : decide ((9218868437227405312 : Int) < ((mg x : Nat) : Int)) = false := decide_eq_false (by omega)
    by_cases g2 : 9223372036854775808 ≤ x
    · have n2 : negF x = true := by unfold negF; exact decide_eq_true g2
      rw [if_pos n2] at f2
      have e : ((rk x : Nat) : Int) = ((18446744073709551615 - x : Nat) : Int) := by unfold rk; rw [if_neg g1, if_pos g2]
      rw [e]
      clear g1 e h hx g2 n2
      go_enter Tryz.func117, Tryz.ntmps117
      go_wp2
      go_ret
      exact ⟨rfl, rfl⟩
    · have n2 : ¬ negF x = true := by unfold negF; simpa using g2
      rw [if_neg n2] at f2
      have f3 := or_sign x (by omega)
      have e : ((rk x : Nat) : Int) = ((x + 9223372036854775808 : Nat) : Int) := by unfold rk; rw [if_neg g1, if_neg g2]
      rw [e]
      clear g1 e h hx g2 n2 f4
      go_enter Tryz.func117, Tryz.ntmps117
      go_wp2
      go_ret
      exact ⟨rfl, rfl⟩
theorem rcompare_any (a b : Nat) (ha : okF a) (hb : okF b) (w : World) :
    Calls Tryz.prog 105 #[.float .f64 a, .float .f64 b] w fun e w' => e = .returned (.int .i64 (cmpF a b)) ∧ w' = w := by
  have c1 := rank_any a ha
  have c2 := rank_any b hb
  unfold cmpF
  generalize rk a = x at *
  generalize rk b = y at *
  clear ha hb
  by_cases g1 : x < y
  · rw [if_pos g1]
    have t1 : (x : Int) < (y : Int) := by omega
    clear g1
    go_enter Tryz.func105, Tryz.ntmps105
    go_wp2_with (first
      | (go_at_call 117; with_reducible refine (c1 _).mono ?_; rintro e w' ⟨rfl, rfl⟩)
      | (go_at_call 117; with_reducible refine (c2 _).mono ?_; rintro e w' ⟨rfl, rfl⟩))
    go_ret
    exact ⟨rfl, rfl⟩
  · have t1 : ¬ (x : Int) < (y : Int) := by omega
    rw [if_neg g1]
    by_cases g2 : y < x
    · rw [if_pos g2]
      have t2 : (y : Int) < (x : Int) := by omega
      clear g1 g2
      go_enter Tryz.func105, Tryz.ntmps105
      go_wp2_with (first
        | (go_at_call 117; with_reducible refine (c1 _).mono ?_; rintro e w' ⟨rfl, rfl⟩)
        | (go_at_call 117; with_reducible refine (c2 _).mono ?_; rintro e w' ⟨rfl, rfl⟩))
      go_ret
      exact ⟨rfl, rfl⟩
    · rw [if_neg g2]
      have t2 : ¬ (y : Int) < (x : Int) := by omega
      clear g1 g2
      go_enter Tryz.func105, Tryz.ntmps105
      go_wp2_with (first
        | (go_at_call 117; with_reducible refine (c1 _).mono ?_; rintro e w' ⟨rfl, rfl⟩)
        | (go_at_call 117; with_reducible refine (c2 _).mono ?_; rintro e w' ⟨rfl, rfl⟩))
      go_ret
      exact ⟨rfl, rfl⟩
theorem rsame_any (a b : Nat) (ha : okF a) (hb : okF b) (w : World) :
    Calls Tryz.prog 69 #[.float .f64 a, .float .f64 b] w fun e w' => e = .returned (.bool (decide (rk a = rk b))) ∧ w' = w := by
  have c1 := rank_any a ha
  have c2 := rank_any b hb
  have f : (((rk a : Nat) : Int) == ((rk b : Nat) : Int)) = decide (rk a = rk b) := by
    rw [Bool.eq_iff_iff]; simp; omega
  generalize rk a = x at *
  generalize rk b = y at *
  clear ha hb
  go_enter Tryz.func69, Tryz.ntmps69
  go_wp2_with (first
    | (go_at_call 117; with_reducible refine (c1 _).mono ?_; rintro e w' ⟨rfl, rfl⟩)
    | (go_at_call 117; with_reducible refine (c2 _).mono ?_; rintro e w' ⟨rfl, rfl⟩))
  go_ret
  exact ⟨rfl, rfl⟩
theorem finite_any (x : Nat) (h : okF x) (w : World) :
    Calls Tryz.prog 104 #[.float .f64 x] w fun e w' => e = .returned (.bool (finF x)) ∧ w' = w := by
  have b1 := bits_run x
  have f1 := mg_bits x h
  have f2 : decide (((mg x : Nat) : Int) < 9218868437227405312) = finF x := by unfold finF; congr 1; apply propext; constructor <;> intro g <;> omega
  generalize finF x = r at *
  generalize mg x = y at *
  clear h
  go_enter Tryz.func104, Tryz.ntmps104
  go_wp2
  go_ret
  exact ⟨rfl, rfl⟩
def zeroF (x : Nat) : Bool := decide (x = 0)
theorem zero_any (x : Nat) (w : World) :
    Calls Tryz.prog 100 #[.float .f64 x] w fun e w' => e = .returned (.bool (zeroF x)) ∧ w' = w := by
  have b1 := bits_run x
  have f2 : ((x : Int) == 0) = zeroF x := by unfold zeroF; rw [Bool.eq_iff_iff]; simp
  generalize zeroF x = r at *
  go_enter Tryz.func100, Tryz.ntmps100
  go_wp2
  go_ret
  exact ⟨rfl, rfl⟩
end Go.Proofs.YtpiegngjpnpohaaGreat.Fb

namespace Go.Proofs.YtpiegngjpnpohaaGreat.Wf
open Ieee
set_option linter.unusedVariables false
theorem rnd_sticky_j (N k j : Nat) (hj : 2 ≤ j) : rnd (sticky N k) j = rnd N (j + k) := by
  have hp : 0 < 2 ^ k := Nat.two_pow_pos k
  obtain ⟨i, rfl⟩ : ∃ i, j = i + 2 := ⟨j - 2, by omega⟩
  have hq : 0 < 2 ^ i := Nat.two_pow_pos i
  have e0 : 2 ^ (i + 2) = 4 * 2 ^ i := by rw [Nat.pow_add]; omega
  have e1 : 2 ^ (i + 2 + k) = 2 ^ k * (4 * 2 ^ i) := by rw [Nat.pow_add, e0, Nat.mul_comm]
  have e2 : N / (2 ^ k * (4 * 2 ^ i)) = N / 2 ^ k / (4 * 2 ^ i) := by rw [Nat.div_div_eq_div_mul]
  have e3 : N % (2 ^ k * (4 * 2 ^ i)) = N % 2 ^ k + 2 ^ k * (N / 2 ^ k % (4 * 2 ^ i)) := Nat.mod_mul
  have hl : N % 2 ^ k < 2 ^ k := Nat.mod_lt _ hp
  unfold rnd
  rw [e1, e2, e3, e0]
  unfold sticky
  generalize hT : N / 2 ^ k = T
  generalize hlow : N % 2 ^ k = low at *
  generalize 2 ^ k = p at *
  generalize 2 ^ i = q at *
  have hdm := Nat.div_add_mod T (4 * q)
  have hlt := Nat.mod_lt T (show 0 < 4 * q by omega)
  generalize hQ : T / (4 * q) = Q at *
  generalize ht : T % (4 * q) = t at *
  have hpar : T % 2 = t % 2 := by
    have : 4 * q * Q = 2 * (2 * q * Q) := by rw [← Nat.mul_assoc, ← Nat.mul_assoc]
    omega
  have hodd : ∀ e, t + e < 4 * q → (T + e) / (4 * q) = Q ∧ (T + e) % (4 * q) = t + e := fun e he => by
    have : T + e = 4 * q * Q + (t + e) := by omega
    rw [this]
    exact ⟨by rw [Nat.mul_add_div (by omega), Nat.div_eq_of_lt he, Nat.add_zero], by rw [Nat.mul_add_mod, Nat.mod_eq_of_lt he]⟩
  have hte : t + (1 - t % 2) < 4 * q := by omega
  have key : ∀ X, X ≤ 4 * q → p * t + p * X = p * (t + X) := fun X _ => by rw [Nat.mul_add]
  rcases Nat.lt_trichotomy t (2 * q) with h | h | h
  · have hm : p * t + p ≤ p * (2 * q) := by
      have := Nat.mul_le_mul_left p (show t + 1 ≤ 2 * q by omega)
      rw [Nat.mul_add, Nat.mul_one] at this; exact this
    have hm2 : p * (4 * q) = 2 * (p * (2 * q)) := by rw [show 4 * q = 2 * (2 * q) by omega, Nat.mul_left_comm]
    rw [if_neg (c := p * (4 * q) < _ ∨ _) (by omega)]
    split
    · rw [hQ, ht, if_neg (by omega)]
    · obtain ⟨a1, a2⟩ := hodd (1 - T % 2) (by omega)
      rw [a1, a2, if_neg (by omega)]
  · have hm2 : p * (4 * q) = 2 * (p * (2 * q)) := by rw [show 4 * q = 2 * (2 * q) by omega, Nat.mul_left_comm]
    rw [h]
    by_cases h0 : low = 0
    · subst h0
      rw [if_pos (c := (0 : Nat) = 0) rfl, hQ, ht, h]
      by_cases ho : Q % 2 = 1
      · rw [if_pos (by omega), if_pos (by omega)]
      · rw [if_neg (by omega), if_neg (by omega)]
    · obtain ⟨a1, a2⟩ := hodd (1 - T % 2) (by omega)
      rw [if_neg (c := low = 0) h0, a1, a2, if_pos (by omega), if_pos (by omega)]
  · have hm : p * (2 * q) + p ≤ p * t := by
      have := Nat.mul_le_mul_left p (show 2 * q + 1 ≤ t by omega)
      rw [Nat.mul_add, Nat.mul_one] at this; exact this
    have hm2 : p * (4 * q) = 2 * (p * (2 * q)) := by rw [show 4 * q = 2 * (2 * q) by omega, Nat.mul_left_comm]
    rw [if_pos (c := p * (4 * q) < _ ∨ _) (by omega)]
    split
    · rw [hQ, ht, if_pos (by omega)]
    · obtain ⟨a1, a2⟩ := hodd (1 - T % 2) (by omega)
      rw [a1, a2, if_pos (by omega)]
theorem sticky_sticky (N k : Nat) : sticky (sticky N k) 1 = sticky N (k + 1) := by
  have hp : 0 < 2 ^ k := Nat.two_pow_pos k
  have e1 : 2 ^ (k + 1) = 2 ^ k * 2 := Nat.pow_succ ..
  have e2 : N / (2 ^ k * 2) = N / 2 ^ k / 2 := by rw [Nat.div_div_eq_div_mul]
  have e3 : N % (2 ^ k * 2) = N % 2 ^ k + 2 ^ k * (N / 2 ^ k % 2) := Nat.mod_mul
  unfold sticky
  rw [e1, e2, e3, Nat.pow_one]
  generalize N / 2 ^ k = T
  generalize N % 2 ^ k = low at *
  generalize 2 ^ k = p at *
  rcases Nat.mod_two_eq_zero_or_one T with hT | hT <;> rw [hT] <;> by_cases h0 : low = 0
  · subst h0; simp [hT]
  · rw [if_neg (c := low = 0) h0]
    rw [if_neg (by omega), if_neg (by omega)]; omega
  · subst h0; simp only [if_true, hT, Nat.zero_add, Nat.mul_one]
    rw [if_neg (by omega), if_neg (by omega)]
  · rw [if_neg (c := low = 0) h0]
    rw [if_neg (by omega), if_neg (by omega)]; omega
theorem sticky_zero (N : Nat) : sticky N 0 = N := by simp [sticky, Nat.mod_one]
theorem sticky_one (N : Nat) : sticky N 1 = N / 2 + (if N % 2 = 1 then 1 - N / 2 % 2 else 0) := by
  unfold sticky
  rw [Nat.pow_one]
  split
  · rw [if_neg (by omega)]; rfl
  · rw [if_pos (by omega)]
theorem shr_or (N : Nat) : (N / 2) ||| (N % 2) = sticky N 1 := by
  rw [sticky_one]
  rcases Nat.mod_two_eq_zero_or_one N with h | h
  · rw [h, if_neg (by omega), Nat.or_zero]; rfl
  · rw [h, if_pos rfl, or_one]
theorem sticky_nought (k : Nat) : sticky 0 k = 0 := by simp [sticky]
theorem sticky_add (a b d : Nat) : sticky (8 * (a * 2 ^ d + b)) d = 8 * a + sticky (8 * b) d := by
  have hp : 0 < 2 ^ d := Nat.two_pow_pos d
  have e : 8 * (a * 2 ^ d + b) = 2 ^ d * (8 * a) + 8 * b := by
    rw [Nat.mul_add, ← Nat.mul_assoc, Nat.mul_comm (8 * a)]
  unfold sticky
  rw [e, Nat.mul_add_mod, Nat.mul_add_div hp]
  split
  · rfl
  · omega
theorem sticky_sub (a b d : Nat) (h : b ≤ a * 2 ^ d) : sticky (8 * (a * 2 ^ d - b)) d = 8 * a - sticky (8 * b) d := by
  have hp : 0 < 2 ^ d := Nat.two_pow_pos d
  have hdm := Nat.div_add_mod (8 * b) (2 ^ d)
  have hlt := Nat.mod_lt (8 * b) hp
  have e : 8 * (a * 2 ^ d - b) + 8 * b = 2 ^ d * (8 * a) := by
    rw [← Nat.mul_add, Nat.sub_add_cancel h, ← Nat.mul_assoc, Nat.mul_comm (8 * a)]
  have h2 : 8 * b ≤ 2 ^ d * (8 * a) := by omega
  unfold sticky
  generalize hX : 8 * (a * 2 ^ d - b) = X at *
  generalize hY : 8 * b = Y at *
  generalize hq : Y / 2 ^ d = q at *
  generalize hr : Y % 2 ^ d = r at *
  by_cases h0 : r = 0
  · subst h0
    have hX2 : X = 2 ^ d * (8 * a - q) := by rw [Nat.mul_sub]; omega
    rw [if_pos rfl, hX2, Nat.mul_mod_right, if_pos rfl, Nat.mul_div_cancel_left _ hp]
  · have hq2 : q + 1 ≤ 8 * a := by
      refine Nat.lt_of_mul_lt_mul_left (a := 2 ^ d) ?_
      omega
    have hX2 : X = 2 ^ d * (8 * a - q - 1) + (2 ^ d - r) := by
      have : 2 ^ d * (8 * a - q - 1) + 2 ^ d + 2 ^ d * q = 2 ^ d * (8 * a) := by
        rw [← Nat.mul_succ, ← Nat.mul_add]; congr 1; omega
      omega
    have hm : X % 2 ^ d = 2 ^ d - r := by rw [hX2, Nat.mul_add_mod, Nat.mod_eq_of_lt (by omega)]
    have hd : X / 2 ^ d = 8 * a - q - 1 := by rw [hX2, Nat.mul_add_div hp, Nat.div_eq_of_lt (by omega), Nat.add_zero]
    rw [if_neg h0, hm, if_neg (by omega), hd]
    omega
end Go.Proofs.YtpiegngjpnpohaaGreat.Wf

namespace Go.Proofs.YtpiegngjpnpohaaGreat.Wf
open Ieee
set_option linter.unusedVariables false
def pk (S E : Nat) : Nat :=
  if 72057594037927936 ≤ S then min ((E + 1) * 4503599627370496 + rnd (sticky S 1) 3) 9218868437227405312
  else min ((E - min (55 - S.log2) E) * 4503599627370496 + rnd (S * 2 ^ min (55 - S.log2) E) 3) 9218868437227405312
theorem log2_mul_pow {N : Nat} (h : N ≠ 0) (k : Nat) : (N * 2 ^ k).log2 = N.log2 + k := log2_shl N k h
theorem log2_div_pow {N k : Nat} (h : 2 ^ k ≤ N) : (N / 2 ^ k).log2 = N.log2 - k := by
  have hp : 0 < 2 ^ k := Nat.two_pow_pos k
  have h0 : N ≠ 0 := by omega
  have hk : k ≤ N.log2 := (Nat.le_log2 h0).2 h
  have h1 := Nat.log2_self_le h0
  have h2 := Nat.lt_log2_self (n := N)
  refine log2_eq ?_ ?_
  · rw [Nat.le_div_iff_mul_le hp, ← Nat.pow_add, Nat.sub_add_cancel hk]; exact h1
  · rw [Nat.div_lt_iff_lt_mul hp, ← Nat.pow_add, show N.log2 - k + 1 + k = N.log2 + 1 by omega]; exact h2
theorem sticky_log2 {N k : Nat} (h : 2 ^ k ≤ N) : (sticky N k).log2 = N.log2 - k ∧ sticky N k ≠ 0 := by
  have hp : 0 < 2 ^ k := Nat.two_pow_pos k
  have h1 := log2_div_pow h
  have hq : 1 ≤ N / 2 ^ k := by rw [Nat.le_div_iff_mul_le hp]; omega
  unfold sticky
  split
  · exact ⟨h1, by omega⟩
  · generalize N / 2 ^ k = q at *
    refine ⟨?_, by omega⟩
    rw [← h1]
    have h0 : q ≠ 0 := by omega
    have a := Nat.log2_self_le h0
    have b := Nat.lt_log2_self (n := q)
    refine log2_eq (by omega) ?_
    rcases Nat.eq_zero_or_pos q.log2 with e | e
    · rw [e] at b ⊢; omega
    · obtain ⟨x, hx⟩ : ∃ x, q.log2 = x + 1 := ⟨q.log2 - 1, by omega⟩
      rw [hx] at b ⊢
      rw [Nat.pow_succ] at b ⊢
      omega
theorem rnd_scale (N j i : Nat) : rnd (N * 2 ^ i) (j + i) = rnd N j := by
  have hp : 0 < 2 ^ i := Nat.two_pow_pos i
  have e1 : 2 ^ (j + i) = 2 ^ j * 2 ^ i := Nat.pow_add ..
  unfold rnd
  rw [e1, Nat.mul_div_mul_right _ _ hp, Nat.mul_mod_mul_right]
  congr 1
  have a : (2 ^ j * 2 ^ i < 2 * (N % 2 ^ j * 2 ^ i)) ↔ (2 ^ j < 2 * (N % 2 ^ j)) := by
    rw [← Nat.mul_assoc]; exact Nat.mul_lt_mul_right hp
  have b : (2 ^ j * 2 ^ i = 2 * (N % 2 ^ j * 2 ^ i)) ↔ (2 ^ j = 2 * (N % 2 ^ j)) := by
    rw [← Nat.mul_assoc]; exact ⟨fun h => Nat.eq_of_mul_eq_mul_right hp h, fun h => congrArg (· * 2 ^ i) h⟩
  simp only [a, b]
theorem nearest_at (neg : Bool) {N k : Nat} (h0 : N ≠ 0) : double.nearest neg N (-1074 + (k : Int)) =
    double.word neg (min ((k + N.log2 - 52) * 4503599627370496 + rnd (N * 2 ^ (k - (k + N.log2 - 52))) (k + N.log2 - 52 - k)) 9218868437227405312) := by
  unfold Format.nearest
  rw [if_neg h0, least_double, binade_double, inf_double]
  have hf : ((double.fractionBits : Nat) : Int) = 52 := by decide
  simp only [hf]
  obtain ⟨E, hE⟩ : ∃ E, E = k + N.log2 - 52 := ⟨_, rfl⟩
  have hl : max (-1074 + (k : Int) + (N.log2 : Nat) - 52) (-1074) = (E : Int) - 1074 := by omega
  rw [hl, ← hE]
  have e1 : (((E : Int) - 1074) - -1074).toNat = E := by omega
  have e2 : (-1074 + (k : Int) - ((E : Int) - 1074)).toNat = k - E := by omega
  have e3 : ((E : Int) - 1074 - (-1074 + (k : Int))).toNat = E - k := by omega
  rw [e1, e2, e3, Nat.shiftLeft_eq, cut_even]
  rw [log2_shl N _ h0]; omega
theorem pk_nearest (neg : Bool) {N d k : Nat} (h0 : N ≠ 0) (hS : sticky (8 * N) d < 144115188075855872) (hd : d ≤ 3 ∨ 2 ^ (51 + d) ≤ N) :
    double.nearest neg N (-1074 + (k : Int)) = double.word neg (pk (sticky (8 * N) d) (k + d)) := by
  rw [nearest_at neg h0]
  congr 1
  have e8 : 8 * N = N * 2 ^ 3 := by omega
  have hl8 : (8 * N).log2 = N.log2 + 3 := by rw [e8, log2_shl N 3 h0]
  have hdl : 2 ^ d ≤ 8 * N := by
    rcases hd with hd | hd
    · have : 2 ^ d ≤ 2 ^ 3 := Nat.pow_le_pow_right (by decide) hd
      omega
    · have : 2 ^ d ≤ 2 ^ (51 + d) := Nat.pow_le_pow_right (by decide) (by omega)
      omega
  have hdL : d ≤ N.log2 + 3 := by rw [← hl8]; exact (Nat.le_log2 (by omega)).2 hdl
  obtain ⟨hsl, hs0⟩ := sticky_log2 hdl
  rw [hl8] at hsl
  obtain ⟨S, hSe⟩ : ∃ S, S = sticky (8 * N) d := ⟨_, rfl⟩
  obtain ⟨L, hL⟩ : ∃ L, L = N.log2 := ⟨_, rfl⟩
  rw [← hSe] at hS hsl hs0 ⊢
  rw [← hL] at hsl hdL ⊢
  unfold pk
  by_cases hb : 72057594037927936 ≤ S
  · rw [if_pos hb]
    have h56 : S.log2 = 56 := log2_eq (by omega) (by omega)
    have hLd : L = 53 + d := by omega
    have e1 : k + L - 52 = k + d + 1 := by omega
    rw [e1, show k - (k + d + 1) = 0 by omega, show k + d + 1 - k = d + 1 by omega, Nat.pow_zero, Nat.mul_one]
    congr 2
    rw [hSe, sticky_sticky, rnd_sticky_j _ _ _ (by omega), e8, show 3 + (d + 1) = d + 1 + 3 by omega, rnd_scale]
  · rw [if_neg hb]
    have h55 : S.log2 ≤ 55 := by
      have := (Nat.log2_lt hs0 (k := 56)).2 (by omega)
      omega
    obtain ⟨i, hi⟩ : ∃ i, i = min (55 - S.log2) (k + d) := ⟨_, rfl⟩
    obtain ⟨E, hE⟩ : ∃ E, E = k + L - 52 := ⟨_, rfl⟩
    rw [← hi, ← hE]
    have hEi : k + d - i = E := by omega
    rw [hEi]
    congr 2
    symm
    by_cases hex : d ≤ 3
    · have hx : S * 2 ^ d = 8 * N := by
        have hdv : 8 * N % 2 ^ d = 0 := by
          rw [e8, show (3 : Nat) = d + (3 - d) by omega, Nat.pow_add, ← Nat.mul_assoc, Nat.mul_right_comm]
          exact Nat.mul_mod_left _ _
        rw [hSe, sticky, if_pos hdv]
        exact Nat.div_mul_cancel (Nat.dvd_of_mod_eq_zero hdv)
      rw [← rnd_scale (S * 2 ^ i) 3 (d + (k - E)), ← rnd_scale (N * 2 ^ (k - E)) (E - k) (3 + i)]
      congr 1
      · rw [Nat.pow_add, ← Nat.mul_assoc, Nat.mul_right_comm S, hx, e8, Nat.pow_add]
        simp only [Nat.mul_assoc, Nat.mul_left_comm, Nat.mul_comm]
      · omega
    · rcases hd with hd | hd
      · exact absurd hd hex
      · have hL51 : 51 + d ≤ L := by rw [hL]; exact (Nat.le_log2 h0).2 hd
        have hi1 : i ≤ 1 := by omega
        rw [show k - E = 0 by omega, Nat.pow_zero, Nat.mul_one]
        rcases Nat.eq_zero_or_pos i with h | h
        · rw [h, Nat.pow_zero, Nat.mul_one, hSe, rnd_sticky_j _ _ _ (by omega), e8, show 3 + d = d + 3 by omega, rnd_scale]
          congr 1; omega
        · have : i = 1 := by omega
          rw [this, show (3 : Nat) = 2 + 1 from rfl, rnd_scale, hSe, rnd_sticky_j _ _ _ (by omega), e8, show 2 + d = d - 1 + 3 by omega, rnd_scale]
          congr 1; omega
end Go.Proofs.YtpiegngjpnpohaaGreat.Wf

namespace Go.Proofs.YtpiegngjpnpohaaGreat.Wf
open Ieee
set_option linter.unusedVariables false
theorem signed_pos (m d : Nat) : signed false m d = (m * 2 ^ d : Nat) := by simp [signed, Nat.shiftLeft_eq]
theorem signed_neg (m d : Nat) : signed true m d = -((m * 2 ^ d : Nat) : Int) := by simp [signed, Nat.shiftLeft_eq]
theorem parts_le {r k m r' k' m' : Nat} (h : Parts r k m) (h' : Parts r' k' m') (hr : r' ≤ r) : k' ≤ k ∧ m' ≤ m * 2 ^ (k - k') := by
  have hk : k' ≤ k := by
    rcases Nat.lt_or_ge k k' with hk | hk
    · have := (parts_lt h h' hk).2; omega
    · exact hk
  refine ⟨hk, ?_⟩
  have := parts_cmp h h'
  have e1 : min k k' = k' := by omega
  rw [e1, Nat.sub_self, Nat.pow_zero, Nat.mul_one] at this
  by_cases hlt : m * 2 ^ (k - k') < m'
  · have := this.1.1 hlt; omega
  · omega
def sumR (same : Bool) (k m k' m' : Nat) : Nat := if same then pk (8 * m + sticky (8 * m') (k - k')) k else pk (8 * m - sticky (8 * m') (k - k')) k
theorem pk_zero : pk 0 0 = 0 := by decide
theorem sticky_le (N d : Nat) : sticky N d ≤ N / 2 ^ d + 1 := by
  unfold sticky; split <;> omega
theorem add_bounds {r k m r' k' m' : Nat} (h : Parts r k m) (h' : Parts r' k' m') (hr : r' ≤ r) :
    8 * m + sticky (8 * m') (k - k') < 144115188075855872 ∧ ((k - k' ≤ 3) ∨ 2 ^ (51 + (k - k')) ≤ m * 2 ^ (k - k') - m') := by
  obtain ⟨hk, hm⟩ := parts_le h h' hr
  have h1 := h.lt
  have h2 := h'.lt
  constructor
  · have := sticky_le (8 * m') (k - k')
    rcases Nat.eq_zero_or_pos (k - k') with e | e
    · rw [e, sticky_zero]; omega
    · have h3 : 8 * m' / 2 ^ (k - k') ≤ 8 * m' / 2 := Nat.div_le_div_left (by
        have : 2 ^ 1 ≤ 2 ^ (k - k') := Nat.pow_le_pow_right (by decide) e
        omega) (by decide)
      omega
  · rcases Nat.lt_or_ge 3 (k - k') with h3 | h3
    · right
      have hg := h.ge (by omega)
      have e1 : 2 ^ (51 + (k - k')) = 2251799813685248 * 2 ^ (k - k') := by rw [Nat.pow_add]
      have e2 : 4503599627370496 * 2 ^ (k - k') ≤ m * 2 ^ (k - k') := Nat.mul_le_mul_right _ hg
      have e3 : 2 ^ 4 ≤ 2 ^ (k - k') := Nat.pow_le_pow_right (by decide) h3
      omega
    · exact .inl h3
theorem add_words {r r' k m k' m' : Nat} (s t : Bool) (h : Parts r k m) (h' : Parts r' k' m') (hr : r' ≤ r) (hi : r < 9218868437227405312)
    (e1 : double.read (double.word s r) = .number s m (-1074 + (k : Int))) (e2 : double.read (double.word t r') = .number t m' (-1074 + (k' : Int))) :
    ((double.read (double.word s r)).sum (double.read (double.word t r'))).map double.write = some (if s = t then double.word s (sumR true k m k' m') else if r = r' then 0 else double.word s (sumR false k m k' m')) := by
  obtain ⟨hk, hm⟩ := parts_le h h' hr
  obtain ⟨b1, b2⟩ := add_bounds h h' hr
  have hcmp := parts_cmp h h'
  rw [show min k k' = k' by omega, Nat.sub_self, Nat.pow_zero, Nat.mul_one] at hcmp
  rw [e1, e2]
  simp only [Datum.sum, Option.map_some, Option.some.injEq, Format.write]
  have hmin : min (-1074 + (k : Int)) (-1074 + (k' : Int)) = -1074 + (k' : Int) := by omega
  rw [hmin, show (-1074 + (k : Int) - (-1074 + (k' : Int))).toNat = k - k' by omega, show (-1074 + (k' : Int) - (-1074 + (k' : Int))).toNat = 0 by omega]
  obtain ⟨d, hd⟩ : ∃ d, d = k - k' := ⟨_, rfl⟩
  have hkd : k = k' + d := by omega
  rw [← hd] at hm b1 b2 hcmp ⊢
  have hz : m * 2 ^ d = 0 → m' = 0 ∧ k = 0 := fun e => by
    refine ⟨by omega, ?_⟩
    have hm0 : m = 0 := by
      rcases Nat.mul_eq_zero.1 e with e | e
      · exact e
      · have := Nat.two_pow_pos d; omega
    rcases Nat.eq_zero_or_pos k with h0 | h0
    · exact h0
    · have := h.ge h0; omega
  have plus : ∀ neg, double.nearest neg (m * 2 ^ d + m') (-1074 + (k' : Int)) = double.word neg (sumR true k m k' m') := fun neg => by
    unfold sumR
    rw [if_pos rfl, ← hd]
    by_cases h0 : m * 2 ^ d + m' = 0
    · obtain ⟨z1, z2⟩ := hz (by omega)
      have hm0 : m = 0 := by
        rcases Nat.mul_eq_zero.1 (show m * 2 ^ d = 0 by omega) with e | e
        · exact e
        · have := Nat.two_pow_pos d; omega
      rw [h0, z1, z2, hm0]
      simp [Format.nearest, sticky_nought, pk_zero]
    · rw [← sticky_add, hkd]
      exact pk_nearest neg h0 (by rw [sticky_add]; exact b1) (b2.imp id fun b => by omega)
  have minus : r ≠ r' → ∀ neg, double.nearest neg (m * 2 ^ d - m') (-1074 + (k' : Int)) = double.word neg (sumR false k m k' m') := fun hne neg => by
    unfold sumR
    rw [if_neg (by decide), ← hd]
    have h0 : m * 2 ^ d - m' ≠ 0 := by
      have := mt hcmp.2.1 hne
      omega
    rw [← sticky_sub m m' d hm, hkd]
    exact pk_nearest neg h0 (by rw [sticky_sub m m' d hm]; omega) b2
  cases s <;> cases t
  · rw [if_pos rfl, signed_pos, signed_pos, Nat.pow_zero, Nat.mul_one]
    have e : (((m * 2 ^ d : Nat) : Int) + (m' : Int)).natAbs = m * 2 ^ d + m' := by omega
    rw [e]
    have e3 : (if ((m * 2 ^ d : Nat) : Int) + (m' : Int) = 0 then (false && false) else decide (((m * 2 ^ d : Nat) : Int) + (m' : Int) < 0)) = false := by
      split
      · rfl
      · exact decide_eq_false (by omega)
    rw [e3]; exact plus false
  · rw [if_neg (c := (false : Bool) = true) (by decide), signed_pos, signed_neg, Nat.pow_zero, Nat.mul_one]
    by_cases hne : r = r'
    · have := hcmp.2.2 hne
      rw [if_pos hne]
      have e : ((m * 2 ^ d : Nat) : Int) + -(m' : Int) = 0 := by omega
      rw [e]; simp [Format.nearest, Format.word]
    · have := mt hcmp.2.1 hne
      rw [if_neg hne]
      have e : (((m * 2 ^ d : Nat) : Int) + -(m' : Int)).natAbs = m * 2 ^ d - m' := by omega
      rw [e, if_neg (by omega), decide_eq_false (by omega)]
      exact minus hne false
  · rw [if_neg (c := (true : Bool) = false) (by decide), signed_neg, signed_pos, Nat.pow_zero, Nat.mul_one]
    by_cases hne : r = r'
    · have := hcmp.2.2 hne
      rw [if_pos hne]
      have e : -((m * 2 ^ d : Nat) : Int) + (m' : Int) = 0 := by omega
      rw [e]; simp [Format.nearest, Format.word]
    · have := mt hcmp.2.1 hne
      rw [if_neg hne]
      have e : (-((m * 2 ^ d : Nat) : Int) + (m' : Int)).natAbs = m * 2 ^ d - m' := by omega
      rw [e, if_neg (by omega), decide_eq_true (by omega)]
      exact minus hne true
  · rw [if_pos rfl, signed_neg, signed_neg, Nat.pow_zero, Nat.mul_one]
    have e : (-((m * 2 ^ d : Nat) : Int) + -(m' : Int)).natAbs = m * 2 ^ d + m' := by omega
    rw [e]
    have e3 : (if -((m * 2 ^ d : Nat) : Int) + -(m' : Int) = 0 then (true && true) else decide (-((m * 2 ^ d : Nat) : Int) + -(m' : Int) < 0)) = true := by
      split
      · rfl
      · exact decide_eq_true (by omega)
    rw [e3]; exact plus true
end Go.Proofs.YtpiegngjpnpohaaGreat.Wf
