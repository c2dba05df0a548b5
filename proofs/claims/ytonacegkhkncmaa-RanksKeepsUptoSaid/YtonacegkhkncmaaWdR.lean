/- The document's products and quotients of 128 bits: the same numbers. -/
import Derived.Test.YtonacegkhkncmaaWdP
namespace Go.Proofs.Ytonacegkhkncmaa.WdP
open Go.RowKit Go.Proofs.Ytonacegkhkncmaa.DivM Go.Proofs.Ytonacegkhkncmaa.Div
set_option linter.unusedVariables false

/-- One bit more of the dividend: quotient and rest. -/
theorem bit_step' {T y b q r : Nat} (hy : 0 < y) (hb : b ≤ 1) (hd : y * q + r = T) (hm : r < y) :
    (y ≤ 2 * r + b → (2 * T + b) % y = 2 * r + b - y ∧ (2 * T + b) / y = 2 * q + 1) ∧ (2 * r + b < y → (2 * T + b) % y = 2 * r + b ∧ (2 * T + b) / y = 2 * q) := by
  constructor
  · intro h
    have e : 2 * T + b = y * (2 * q + 1) + (2 * r + b - y) := by
      rw [Nat.mul_add, Nat.mul_one, Nat.mul_left_comm]; omega
    rw [e, Nat.mul_add_mod, Nat.mul_add_div hy, Nat.mod_eq_of_lt (by omega), Nat.div_eq_of_lt (by omega)]
    exact ⟨rfl, by omega⟩
  · intro h
    have e : 2 * T + b = y * (2 * q) + (2 * r + b) := by
      rw [Nat.mul_left_comm]; omega
    rw [e, Nat.mul_add_mod, Nat.mul_add_div hy, Nat.mod_eq_of_lt (by omega), Nat.div_eq_of_lt (by omega)]
    exact ⟨rfl, by omega⟩

theorem half_step (V m : Nat) : V / 2 ^ m = 2 * (V / 2 ^ (m + 1)) + V / 2 ^ m % 2 := by
  rw [Nat.pow_succ, ← Nat.div_div_eq_div_mul]; omega

theorem bit_of {hi lo m : Nat} (hm : m < 64) : (hi * 18446744073709551616 + lo) / 2 ^ m % 2 = lo / 2 ^ m % 2 := by
  have e : hi * 18446744073709551616 = 2 ^ m * (hi * 2 ^ (63 - m) * 2) := by
    have : 18446744073709551616 = 2 ^ m * 2 ^ (63 - m) * 2 := by
      rw [← Nat.pow_add, show m + (63 - m) = 63 by omega]
    rw [this]; simp only [Nat.mul_left_comm, Nat.mul_comm]
  rw [e, Nat.mul_add_div (Nat.pow_pos (by decide))]; omega

theorem and_one {x : Nat} (h : x ≤ 18446744073709551615) : bits BinOp.and IntKind.u64 (x : Int) 1 = ((x % 2 : Nat) : Int) := by
  have : bits BinOp.and IntKind.u64 (x : Int) ((1 : Nat) : Int) = ((x &&& 1 : Nat) : Int) := u64_and_nat x 1 (by omega) (by omega)
  rw [Nat.and_one_is_mod] at this; exact this

/-- What the round's operations give: the dividend's bit laid behind the rest. -/
theorem rest_bit {r b : Nat} (hr : r ≤ 18446744073709551615) (hb : b ≤ 1) : bits BinOp.or IntKind.u64 (IntKind.u64.wrap ((r : Int) * 2)) (b : Int) = (((2 * r + b) % 18446744073709551616 : Nat) : Int) := by
  have e : IntKind.u64.wrap ((r : Int) * 2) = ((2 ^ 1 * (r % 9223372036854775808) : Nat) : Int) := by rw [IntKind.wrap_u64]; omega
  rw [e, u64_or_nat _ _ (by omega) (by omega), ← Nat.two_pow_add_eq_or_of_lt (by omega)]; omega

theorem q_fits {hi lo y m : Nat} (hh : hi < y) (hlo : lo ≤ 18446744073709551615) (hm : 1 ≤ m) : (hi * 18446744073709551616 + lo) / 2 ^ m / y ≤ 9223372036854775807 := by
  have h1 : (hi * 18446744073709551616 + lo) / 2 ^ m / y < 9223372036854775808 := by
    rw [Nat.div_lt_iff_lt_mul (by omega), Nat.div_lt_iff_lt_mul (Nat.pow_pos (by decide))]
    have h2 : 2 ≤ 2 ^ m := Nat.pow_le_pow_right (n := 2) (by decide) hm
    have h3 : 9223372036854775808 * y * 2 ≤ 9223372036854775808 * y * 2 ^ m := Nat.mul_le_mul_left _ h2
    omega
  omega

theorem rdiv_bad (hi lo y : Nat) (h : y ≤ hi) (w : World) :
    Calls Try.prog 56 #[.int .u64 hi, .int .u64 lo, .int .u64 y] w fun e w' => e = .returned (.tuple #[.int .u64 (divQ hi lo y : Nat), .int .u64 (divR hi lo y : Nat), .int .i64 (divE hi lo y)]) ∧ ∃ n, w' = w.drewN n := by
  by_cases h0 : y = 0
  · subst h0
    go_enter Try.func56, Try.ntmps56
    go_wp2
    go_ret3
    exact ⟨ret_u2e (a := 0) (b := 0) (e := 1) (by simp [divQ]) (by simp [divR]) (by simp [divE]), 0, rfl⟩
  · have e1 : ((y : Int) == 0) = false := beq_eq_false_iff_ne.2 (by omega)
    have e2 : (y : Int) ≤ (hi : Int) := by omega
    go_enter Try.func56, Try.ntmps56
    go_wp2
    go_ret3
    exact ⟨ret_u2e (a := 0) (b := 0) (e := 2) (by rw [divQ, if_neg (by omega)]) (by rw [divR, if_neg (by omega)]) (by simp [divE, h0, h]), 0, rfl⟩

/-- The rest and the quotient when m bits are still to come. -/
structure St (hi lo y m r q : Nat) : Prop where
  r : r = (hi * 18446744073709551616 + lo) / 2 ^ m % y
  q : q = (hi * 18446744073709551616 + lo) / 2 ^ m / y

theorem St.start {hi lo y : Nat} (hh : hi < y) (hlo : lo ≤ 18446744073709551615) : St hi lo y 64 hi 0 := by
  have : (hi * 18446744073709551616 + lo) / 2 ^ 64 = hi := by omega
  exact ⟨by rw [this, Nat.mod_eq_of_lt hh], by rw [this, Nat.div_eq_of_lt hh]⟩

theorem St.step {hi lo y k r q b : Nat} (h : St hi lo y (k + 1) r q) (hh : hi < y) (hlo : lo ≤ 18446744073709551615) (hk : k < 64) (hb : b = lo / 2 ^ k % 2) :
    r < y ∧ q ≤ 9223372036854775807 ∧ (y ≤ 2 * r + b → St hi lo y k (2 * r + b - y) (2 * q + 1)) ∧ (2 * r + b < y → St hi lo y k (2 * r + b) (2 * q)) := by
  obtain ⟨hr, hq⟩ := h
  obtain ⟨V, hV⟩ : ∃ V, V = hi * 18446744073709551616 + lo := ⟨_, rfl⟩
  have hs := half_step V k
  have hbit := bit_of (hi := hi) (lo := lo) hk
  have hfit := q_fits (m := k + 1) hh hlo (by omega)
  rw [← hV] at hr hq hbit hfit
  rw [hbit, ← hb] at hs
  rw [← hq] at hfit
  obtain ⟨T, hT⟩ : ∃ T, T = V / 2 ^ (k + 1) := ⟨_, rfl⟩
  rw [← hT] at hr hq hs
  have hd := Nat.div_add_mod T y
  have hm := Nat.mod_lt T (show 0 < y by omega)
  rw [← hq, ← hr] at hd
  rw [← hr] at hm
  obtain ⟨t1, t2⟩ := bit_step' (T := T) (b := b) (show 0 < y by omega) (by omega) hd hm
  refine ⟨hm, hfit, fun h => ?_, fun h => ?_⟩
  · obtain ⟨a, c⟩ := t1 h
    exact ⟨by rw [← hV, hs, a], by rw [← hV, hs, c]⟩
  · obtain ⟨a, c⟩ := t2 h
    exact ⟨by rw [← hV, hs, a], by rw [← hV, hs, c]⟩

theorem top_bit {r : Nat} (hr : r ≤ 18446744073709551615) : ((r : Int) / 9223372036854775808 == 1) = decide (9223372036854775808 ≤ r) := by
  by_cases h : 9223372036854775808 ≤ r
  · rw [decide_eq_true h]; exact beq_iff_eq.2 (by omega)
  · rw [decide_eq_false h]; exact beq_eq_false_iff_ne.2 (by omega)

set_option maxRecDepth 100000 in
set_option maxHeartbeats 1000000 in
theorem rdiv_ok (hi lo y : Nat) (hh : hi < y) (hy : y ≤ 18446744073709551615) (hlo : lo ≤ 18446744073709551615) (w : World) :
    Calls Try.prog 56 #[.int .u64 hi, .int .u64 lo, .int .u64 y] w fun e w' => e = .returned (.tuple #[.int .u64 (divQ hi lo y : Nat), .int .u64 (divR hi lo y : Nat), .int .i64 (divE hi lo y)]) ∧ ∃ n, w' = w.drewN n := by
  have e1 : ((y : Int) == 0) = false := beq_eq_false_iff_ne.2 (by omega)
  have e2 : ¬ (y : Int) ≤ (hi : Int) := by omega
  have y1 : (1 : Int) ≤ (y : Int) := by omega
  have y2 : (y : Int) ≤ 18446744073709551615 := by omega
  have l2 : (lo : Int) ≤ 18446744073709551615 := by omega
  have st := St.start hh hlo
  have hy := Lib.hid hy
  have hlo' := Lib.hid hlo
  have hh' := Lib.hid hh
  replace st := Lib.hid st
  go_enter Try.func56, Try.ntmps56
  go_wp2_with fail
  clear e1 e2
  go_loop [9, 10, 11] (fun r q i => ∃ m rn qn : Nat, m ≤ 64 ∧ r = .int .u64 rn ∧ q = .int .u64 qn ∧ i = .int .i64 ((m : Int) - 1) ∧ St hi lo y m rn qn) (fun _ _ i => (intOf i + 1).toNat)
  case atStart => exact ⟨64, hi, 0, by omega, rfl, rfl, rfl, st.out⟩
  case round =>
    clear st
    obtain ⟨m, r, q, hm, rfl, rfl, rfl, hst⟩ := hrel
    rcases Nat.eq_zero_or_pos m with rfl | hpos
    · obtain ⟨s1, s2⟩ := hst
      have t1 : r = divR hi lo y := by rw [divR, if_pos hh, s1, Nat.pow_zero, Nat.div_one]
      have t2 : q = divQ hi lo y := by rw [divQ, if_pos hh, s2, Nat.pow_zero, Nat.div_one]
      clear s1 s2
      replace t1 := Lib.hid t1; replace t2 := Lib.hid t2
      go_wp2
      go_ret3
      exact ⟨ret_u2e (e := 0) t2.out t1.out (by rw [divE, if_neg (by omega), if_neg (by omega)]), 0, rfl⟩
    · obtain ⟨k, rfl⟩ : ∃ k, m = k + 1 := ⟨m - 1, by omega⟩
      obtain ⟨b, hb⟩ : ∃ b, b = lo / 2 ^ k % 2 := ⟨_, rfl⟩
      obtain ⟨g1, g2, g3, g4⟩ := hst.step hh hlo (by omega) hb
      have ei : ((k + 1 : Nat) : Int) - 1 = (k : Int) := by omega
      have hk63 : (k : Int) ≤ 63 := by omega
      have rr : r ≤ 18446744073709551615 := by omega
      have ab : bits BinOp.and IntKind.u64 ((lo : Int) / 2 ^ k) 1 = (b : Int) := by
        have e : (lo : Int) / 2 ^ k = ((lo / 2 ^ k : Nat) : Int) := by simp
        have := Nat.div_le_self lo (2 ^ k)
        rw [e, and_one (by omega), hb]
      have ob := rest_bit (r := r) (b := b) rr (by omega)
      obtain ⟨x, hx⟩ : ∃ x, x = (2 * r + b) % 18446744073709551616 := ⟨_, rfl⟩
      rw [← hx] at ob
      have tb := top_bit rr
      have q2 : (q : Int) ≤ 9223372036854775807 := by omega
      have fl : 9223372036854775808 ≤ r → IntKind.u64.wrap ((x : Int) - y) = ((2 * r + b - y : Nat) : Int) := fun h => by rw [IntKind.wrap_u64]; omega
      have fs : ¬ 9223372036854775808 ≤ r → y ≤ x → IntKind.u64.wrap ((x : Int) - y) = ((2 * r + b - y : Nat) : Int) := fun h h' => by rw [IntKind.wrap_u64]; omega
      have c1 : 9223372036854775808 ≤ r → y ≤ 2 * r + b := fun h => by omega
      have c2 : ¬ 9223372036854775808 ≤ r → x = 2 * r + b := fun h => by omega
      rw [ei]
      clear ei hx hb hm hpos rr
      replace g3 := Lib.hid g3; replace g4 := Lib.hid g4; replace hst := Lib.hid hst
      by_cases ht : 9223372036854775808 ≤ r
      · replace fl := fl ht
        replace c1 := c1 ht
        rw [decide_eq_true ht] at tb
        clear fs c2 ht
        replace c1 := Lib.hid c1
        obtain ⟨r', hr'⟩ : ∃ r', r' = 2 * r + b - y := ⟨_, rfl⟩
        rw [← hr'] at fl
        replace hr' := Lib.hid hr'
        clear g1 g2
        go_wp2
        go_round
        case rel => exact ⟨k, r', 2 * q + 1, by omega, rfl, by go_num, rfl, by rw [hr'.out]; exact g3.out c1.out⟩
        case measure => simp [intOf]
      · replace c2 := c2 ht
        rw [decide_eq_false ht] at tb
        by_cases hyx : y ≤ x
        · replace fs := fs ht hyx
          obtain ⟨r', hr'⟩ : ∃ r', r' = 2 * r + b - y := ⟨_, rfl⟩
          rw [← hr'] at fs
          have hyx' : (y : Int) ≤ (x : Int) := by omega
          clear c1 fl ht hyx g1 g2
          replace hr' := Lib.hid hr'; replace c2 := Lib.hid c2
          go_wp2
          go_round
          case rel => exact ⟨k, r', 2 * q + 1, by omega, rfl, by go_num, rfl, by rw [hr'.out]; exact g3.out (by have := c2.out; omega)⟩
          case measure => simp [intOf]
        · have hyx' : ¬ (y : Int) ≤ (x : Int) := by omega
          clear c1 fl fs ht hyx g1 g2
          replace c2 := Lib.hid c2
          go_wp2
          go_round
          case rel => exact ⟨k, x, 2 * q, by omega, rfl, by go_num, rfl, by rw [c2.out]; exact g4.out (by have := c2.out; omega)⟩
          case measure => simp [intOf]
theorem rdiv_any (hi lo y : Nat) (hhi : hi ≤ 18446744073709551615) (hy : y ≤ 18446744073709551615) (hlo : lo ≤ 18446744073709551615) (w : World) :
    Calls Try.prog 56 #[.int .u64 hi, .int .u64 lo, .int .u64 y] w fun e w' => e = .returned (.tuple #[.int .u64 (divQ hi lo y : Nat), .int .u64 (divR hi lo y : Nat), .int .i64 (divE hi lo y)]) ∧ ∃ n, w' = w.drewN n := by
  rcases Nat.lt_or_ge hi y with h | h
  · exact rdiv_ok hi lo y h hy hlo w
  · exact rdiv_bad hi lo y h w

/-- The product out of four of the halves: the numbers as the walk names them. -/
theorem mul_nums {a b : Nat} (ha : a ≤ 18446744073709551615) (hb : b ≤ 18446744073709551615) :
    ∃ a1 a0 b1 b0 p00 p10 p01 p11 lw one om two : Nat,
      (a : Int) / 4294967296 = (a1 : Int) ∧ bits BinOp.and IntKind.u64 (a : Int) 4294967295 = (a0 : Int) ∧ (b : Int) / 4294967296 = (b1 : Int) ∧ bits BinOp.and IntKind.u64 (b : Int) 4294967295 = (b0 : Int) ∧
      IntKind.u64.wrap ((a0 : Int) * b0) = (p00 : Int) ∧ IntKind.u64.wrap ((a1 : Int) * b0) = (p10 : Int) ∧ IntKind.u64.wrap ((a0 : Int) * b1) = (p01 : Int) ∧ IntKind.u64.wrap ((a1 : Int) * b1) = (p11 : Int) ∧
      (p00 : Int) / 4294967296 = (lw : Int) ∧ IntKind.u64.wrap ((p10 : Int) + lw) = (one : Int) ∧ bits BinOp.and IntKind.u64 (one : Int) 4294967295 = (om : Int) ∧ IntKind.u64.wrap ((p01 : Int) + om) = (two : Int) ∧
      IntKind.u64.wrap (IntKind.u64.wrap ((p11 : Int) + (one : Int) / 4294967296) + (two : Int) / 4294967296) = ((hiM a b : Nat) : Int) ∧
      IntKind.u64.wrap (IntKind.u64.wrap ((two : Int) * 4294967296) + bits BinOp.and IntKind.u64 (p00 : Int) 4294967295) = ((loM a b : Nat) : Int) := by
  obtain ⟨a1, h1⟩ : ∃ x, x = a / 4294967296 := ⟨_, rfl⟩
  obtain ⟨a0, h2⟩ : ∃ x, x = a % 4294967296 := ⟨_, rfl⟩
  obtain ⟨b1, h3⟩ : ∃ x, x = b / 4294967296 := ⟨_, rfl⟩
  obtain ⟨b0, h4⟩ : ∃ x, x = b % 4294967296 := ⟨_, rfl⟩
  have l1 : a1 ≤ 4294967295 := by omega
  have l2 : a0 ≤ 4294967295 := by omega
  have l3 : b1 ≤ 4294967295 := by omega
  have l4 : b0 ≤ 4294967295 := by omega
  have m1 : a0 * b0 ≤ 4294967295 * 4294967295 := Nat.mul_le_mul l2 l4
  have m2 : a1 * b0 ≤ 4294967295 * 4294967295 := Nat.mul_le_mul l1 l4
  have m3 : a0 * b1 ≤ 4294967295 * 4294967295 := Nat.mul_le_mul l2 l3
  have m4 : a1 * b1 ≤ 4294967295 * 4294967295 := Nat.mul_le_mul l1 l3
  have ea : a = a1 * 4294967296 + a0 := by omega
  have eb : b = b1 * 4294967296 + b0 := by omega
  have hab : a * b = a1 * b1 * 18446744073709551616 + (a1 * b0 + a0 * b1) * 4294967296 + a0 * b0 := by
    rw [ea, eb]
    have : (a1 * 4294967296 + a0) * (b1 * 4294967296 + b0) = a1 * b1 * (4294967296 * 4294967296) + (a1 * b0 + a0 * b1) * 4294967296 + a0 * b0 := by
      simp only [Nat.add_mul, Nat.mul_add, Nat.mul_assoc, Nat.mul_comm, Nat.mul_left_comm, Nat.add_assoc, Nat.add_left_comm, Nat.add_comm]
    rw [this]
  obtain ⟨p00, q1⟩ : ∃ x, x = a0 * b0 := ⟨_, rfl⟩
  obtain ⟨p10, q2⟩ : ∃ x, x = a1 * b0 := ⟨_, rfl⟩
  obtain ⟨p01, q3⟩ : ∃ x, x = a0 * b1 := ⟨_, rfl⟩
  obtain ⟨p11, q4⟩ : ∃ x, x = a1 * b1 := ⟨_, rfl⟩
  rw [← q1, ← q2, ← q3, ← q4] at hab
  rw [← q1] at m1
  rw [← q2] at m2
  rw [← q3] at m3
  rw [← q4] at m4
  refine ⟨a1, a0, b1, b0, p00, p10, p01, p11, p00 / 4294967296, p10 + p00 / 4294967296, (p10 + p00 / 4294967296) % 4294967296, p01 + (p10 + p00 / 4294967296) % 4294967296, by omega, ?_, by omega, ?_, ?_, ?_, ?_, ?_, by omega, ?_, ?_, ?_, ?_, ?_⟩
  · rw [and_low32 _ (by omega) (by omega)]; omega
  · rw [and_low32 _ (by omega) (by omega)]; omega
  · rw [← Int.natCast_mul, ← q1]; exact IntWalk.u64_in _ (by omega)
  · rw [← Int.natCast_mul, ← q2]; exact IntWalk.u64_in _ (by omega)
  · rw [← Int.natCast_mul, ← q3]; exact IntWalk.u64_in _ (by omega)
  · rw [← Int.natCast_mul, ← q4]; exact IntWalk.u64_in _ (by omega)
  · rw [IntWalk.u64_in _ (by omega)]; omega
  · rw [and_low32 _ (by omega) (by omega)]; omega
  · rw [IntWalk.u64_in _ (by omega)]; omega
  · rw [hiM, hab, IntKind.wrap_u64, IntKind.wrap_u64]; omega
  · rw [loM, hab, and_low32 _ (by omega) (by omega), IntKind.wrap_u64, IntKind.wrap_u64]; omega

set_option maxRecDepth 100000 in
theorem rmul_any (a b : Nat) (ha : a ≤ 18446744073709551615) (hb : b ≤ 18446744073709551615) (w : World) :
    Calls Try.prog 55 #[.int .u64 a, .int .u64 b] w fun e w' => e = .returned (.tuple #[.int .u64 (hiM a b : Nat), .int .u64 (loM a b : Nat)]) ∧ ∃ n, w' = w.drewN n := by
  obtain ⟨a1, a0, b1, b0, p00, p10, p01, p11, lw, one, om, two, r1, r2, r3, r4, r5, r6, r7, r8, r9, r10, r11, r12, r13, r14⟩ := mul_nums ha hb
  clear ha hb
  replace r13 := Lib.hid r13; replace r14 := Lib.hid r14
  go_enter Try.func55, Try.ntmps55
  go_wp2
  go_ret2
  refine ⟨?_, 0, rfl⟩
  rw [← r13.out, ← r14.out]
  rfl
end Go.Proofs.Ytonacegkhkncmaa.WdP
