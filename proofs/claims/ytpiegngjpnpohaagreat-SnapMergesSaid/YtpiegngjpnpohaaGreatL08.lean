/- Lemmas for the laws of this seat, laid together of WdP, WdR, RkR, RkQ, Rd0, RkP, RkS, RkC, Rd1. -/
import Derived.Test.YtpiegngjpnpohaaGreatL00
import Derived.Test.YtpiegngjpnpohaaGreatL03
import Derived.Test.YtpiegngjpnpohaaGreatL06
import Derived.Test.YtpiegngjpnpohaaGreatL07
import Derived.RowKit3

namespace Go.Proofs.YtpiegngjpnpohaaGreat.WdP
open Go.RowKit Go.Proofs.YtpiegngjpnpohaaGreat.DivM Go.Proofs.YtpiegngjpnpohaaGreat.Div
set_option linter.unusedVariables false
def hiM (a b : Nat) : Nat := a * b / 18446744073709551616
def loM (a b : Nat) : Nat := a * b % 18446744073709551616
def divE (hi lo by' : Nat) : Int := if by' = 0 then 1 else if by' ≤ hi then 2 else 0
def divQ (hi lo by' : Nat) : Nat := if hi < by' then (hi * 18446744073709551616 + lo) / by' else 0
def divR (hi lo by' : Nat) : Nat := if hi < by' then (hi * 18446744073709551616 + lo) % by' else 0
theorem mul_any (a b : Nat) (ha : a ≤ 18446744073709551615) (hb : b ≤ 18446744073709551615) (w : World) :
    Calls Tryz.prog 172 #[.int .u64 a, .int .u64 b] w fun e w' => e = .returned (.tuple #[.int .u64 (hiM a b : Nat), .int .u64 (loM a b : Nat)]) ∧ ∃ n, w' = w.drewN n := by
  have c := Tryz.bits_Mul64 a b (by omega) (by omega)
  clear ha hb
  go_enter Tryz.func172, Tryz.ntmps172
  go_wp2_with (first | (go_at_call 198; refine (c _).mono ?_; rintro e w' ⟨rfl, rfl⟩))
  go_ret2
  exact ⟨rfl, 0, rfl⟩
theorem div64_any (hi lo y : Nat) (hh : hi < y) (hy : y ≤ 18446744073709551615) (hlo : lo ≤ 18446744073709551615) (w : World) :
    Calls Tryz.prog 199 #[.int .u64 hi, .int .u64 lo, .int .u64 y] w fun e w' => e = .returned (.tuple #[.int .u64 (divQ hi lo y : Nat), .int .u64 (divR hi lo y : Nat)]) ∧ ∃ n, w' = w.drewN n := by
  rw [divQ, if_pos hh, divR, if_pos hh]
  rcases Nat.eq_zero_or_pos hi with rfl | h0
  · have := div64_zero lo y (by omega) hy hlo w
    rw [Nat.zero_mul, Nat.zero_add]; exact this
  · exact div64_pos hi lo y h0 hh hy hlo w
theorem ret_u2e {a b a' b' : Nat} {e e' : Int} (h : a = a') (h' : b = b') (h'' : e = e') : Ending.returned (.tuple #[.int .u64 (a : Int), .int .u64 (b : Int), .int .i64 e]) = .returned (.tuple #[.int .u64 (a' : Int), .int .u64 (b' : Int), .int .i64 e']) := by rw [h, h', h'']
theorem div_any (hi lo y : Nat) (hhi : hi ≤ 18446744073709551615) (hy : y ≤ 18446744073709551615) (hlo : lo ≤ 18446744073709551615) (w : World) :
    Calls Tryz.prog 173 #[.int .u64 hi, .int .u64 lo, .int .u64 y] w fun e w' => e = .returned (.tuple #[.int .u64 (divQ hi lo y : Nat), .int .u64 (divR hi lo y : Nat), .int .i64 (divE hi lo y)]) ∧ ∃ n, w' = w.drewN n := by
  by_cases h0 : y = 0
  · subst h0
    clear hhi hy hlo
    go_enter Tryz.func173, Tryz.ntmps173
    go_wp2
    go_ret3
    exact ⟨ret_u2e (a := 0) (b := 0) (e := 1) (by simp [divQ]) (by simp [divR]) (by simp [divE]), 0, rfl⟩
  · by_cases h1 : y ≤ hi
    · have e1 : ((y : Int) == 0) = false := beq_eq_false_iff_ne.2 (by omega)
      have e2 : (y : Int) ≤ (hi : Int) := by omega
      clear hhi hy hlo
      go_enter Tryz.func173, Tryz.ntmps173
      go_wp2
      go_ret3
      exact ⟨ret_u2e (a := 0) (b := 0) (e := 2) (by rw [divQ, if_neg (by omega)]) (by rw [divR, if_neg (by omega)]) (by simp [divE, h0, h1]), 0, rfl⟩
    · have e1 : ((y : Int) == 0) = false := beq_eq_false_iff_ne.2 (by omega)
      have e2 : ¬ (y : Int) ≤ (hi : Int) := by omega
      have c := div64_any hi lo y (by omega) hy hlo
      clear hhi hy hlo
      go_enter Tryz.func173, Tryz.ntmps173
      go_wp2_with (first | (go_at_call 199; refine (c _).mono ?_; rintro e w' ⟨rfl, n, rfl⟩))
      go_ret3
      exact ⟨ret_u2e (e := 0) rfl rfl (by simp [divE, h0, h1]), _, rfl⟩
end Go.Proofs.YtpiegngjpnpohaaGreat.WdP

namespace Go.Proofs.YtpiegngjpnpohaaGreat.WdP
open Go.RowKit Go.Proofs.YtpiegngjpnpohaaGreat.DivM Go.Proofs.YtpiegngjpnpohaaGreat.Div
set_option linter.unusedVariables false
theorem bit_step' {T y b q r : Nat} (hy : 0 < y) (hb : b ≤ 1) (hd : y * q + r = T) (hm : r < y) :
    (y ≤ 2 * r + b → (2 * T + b) % y = 2 * r + b - y ∧ (2 * T + b) / y = 2 * q + 1) ∧ (2 * r + b < y → (2 * T + b) % y = 2 * r + b ∧ (2 * T + b) / y = 2 * q) := by
  constructor
  · intro h
    have e : 2 * T + b = y * (2 * q + 1) + (2 * r + b - y) := by
      rw [Nat.mul_add, Nat.mul_one, Nat.mul_left_comm]; omega
    rw [e, Nat.mul_add_mod, Nat.mul_add_div hy, Nat.mod_eq_of_lt (by omega), Nat.div_eq_of_lt (by omega)]
    exact ⟨rfl, by omega⟩
  · intro h
    have e : 2 * T + b = y * (2 * q) + (2 * r + b) := by
      rw [Nat.mul_left_comm]; omega
    rw [e, Nat.mul_add_mod, Nat.mul_add_div hy, Nat.mod_eq_of_lt (by omega), Nat.div_eq_of_lt (by omega)]
    exact ⟨rfl, by omega⟩
theorem half_step (V m : Nat) : V / 2 ^ m = 2 * (V / 2 ^ (m + 1)) + V / 2 ^ m % 2 := by
  rw [Nat.pow_succ, ← Nat.div_div_eq_div_mul]; omega
theorem bit_of {hi lo m : Nat} (hm : m < 64) : (hi * 18446744073709551616 + lo) / 2 ^ m % 2 = lo / 2 ^ m % 2 := by
  have e : hi * 18446744073709551616 = 2 ^ m * (hi * 2 ^ (63 - m) * 2) := by
    have : 18446744073709551616 = 2 ^ m * 2 ^ (63 - m) * 2 := by
      rw [← Nat.pow_add, show m + (63 - m) = 63 by omega]
    rw [this]; simp only [Nat.mul_left_comm, Nat.mul_comm]
  rw [e, Nat.mul_add_div (Nat.pow_pos (by decide))]; omega
theorem q_fits {hi lo y m : Nat} (hh : hi < y) (hlo : lo ≤ 18446744073709551615) (hm : 1 ≤ m) : (hi * 18446744073709551616 + lo) / 2 ^ m / y ≤ 9223372036854775807 := by
  have h1 : (hi * 18446744073709551616 + lo) / 2 ^ m / y < 9223372036854775808 := by
    rw [Nat.div_lt_iff_lt_mul (by omega), Nat.div_lt_iff_lt_mul (Nat.pow_pos (by decide))]
    have h2 : 2 ≤ 2 ^ m := Nat.pow_le_pow_right (n := 2) (by decide) hm
    have h3 : 9223372036854775808 * y * 2 ≤ 9223372036854775808 * y * 2 ^ m := Nat.mul_le_mul_left _ h2
    omega
  omega
structure St (hi lo y m r q : Nat) : Prop where
  r : r = (hi * 18446744073709551616 + lo) / 2 ^ m % y
  q : q = (hi * 18446744073709551616 + lo) / 2 ^ m / y
theorem St.start {hi lo y : Nat} (hh : hi < y) (hlo : lo ≤ 18446744073709551615) : St hi lo y 64 hi 0 := by
  have : (hi * 18446744073709551616 + lo) / 2 ^ 64 = hi := by omega
  exact ⟨by rw [this, Nat.mod_eq_of_lt hh], by rw [this, Nat.div_eq_of_lt hh]⟩
theorem St.step {hi lo y k r q b : Nat} (h : St hi lo y (k + 1) r q) (hh : hi < y) (hlo : lo ≤ 18446744073709551615) (hk : k < 64) (hb : b = lo / 2 ^ k % 2) :
    r < y ∧ q ≤ 9223372036854775807 ∧ (y ≤ 2 * r + b → St hi lo y k (2 * r + b - y) (2 * q + 1)) ∧ (2 * r + b < y → St hi lo y k (2 * r + b) (2 * q)) := by
  obtain ⟨hr, hq⟩ := h
  obtain ⟨V, hV⟩ : ∃ V, V = hi * 18446744073709551616 + lo := ⟨_, rfl⟩
  have hs := half_step V k
  have hbit := bit_of (hi := hi) (lo := lo) hk
  have hfit := q_fits (m := k + 1) hh hlo (by omega)
  rw [← hV] at hr hq hbit hfit
  rw [hbit, ← hb] at hs
  rw [← hq] at hfit
  obtain ⟨T, hT⟩ : ∃ T, T = V / 2 ^ (k + 1) := ⟨_, rfl⟩
  rw [← hT] at hr hq hs
  have hd := Nat.div_add_mod T y
  have hm := Nat.mod_lt T (show 0 < y by omega)
  rw [← hq, ← hr] at hd
  rw [← hr] at hm
  obtain ⟨t1, t2⟩ := bit_step' (T := T) (b := b) (show 0 < y by omega) (by omega) hd hm
  refine ⟨hm, hfit, fun h => ?_, fun h => ?_⟩
  · obtain ⟨a, c⟩ := t1 h
    exact ⟨by rw [← hV, hs, a], by rw [← hV, hs, c]⟩
  · obtain ⟨a, c⟩ := t2 h
    exact ⟨by rw [← hV, hs, a], by rw [← hV, hs, c]⟩
theorem mul_nums {a b : Nat} (ha : a ≤ 18446744073709551615) (hb : b ≤ 18446744073709551615) :
    ∃ a1 a0 b1 b0 p00 p10 p01 p11 lw one om two : Nat,
      (a : Int) / 4294967296 = (a1 : Int) ∧ bits BinOp.and IntKind.u64 (a : Int) 4294967295 = (a0 : Int) ∧ (b : Int) / 4294967296 = (b1 : Int) ∧ bits BinOp.and IntKind.u64 (b : Int) 4294967295 = (b0 : Int) ∧
      IntKind.u64.wrap ((a0 : Int) * b0) = (p00 : Int) ∧ IntKind.u64.wrap ((a1 : Int) * b0) = (p10 : Int) ∧ IntKind.u64.wrap ((a0 : Int) * b1) = (p01 : Int) ∧ IntKind.u64.wrap ((a1 : Int) * b1) = (p11 : Int) ∧
      (p00 : Int) / 4294967296 = (lw : Int) ∧ IntKind.u64.wrap ((p10 : Int) + lw) = (one : Int) ∧ bits BinOp.and IntKind.u64 (one : Int) 4294967295 = (om : Int) ∧ IntKind.u64.wrap ((p01 : Int) + om) = (two : Int) ∧
      IntKind.u64.wrap (IntKind.u64.wrap ((p11 : Int) + (one : Int) / 4294967296) + (two : Int) / 4294967296) = ((hiM a b : Nat) : Int) ∧
      IntKind.u64.wrap (IntKind.u64.wrap ((two : Int) * 4294967296) + bits BinOp.and IntKind.u64 (p00 : Int) 4294967295) = ((loM a b : Nat) : Int) := by
  obtain ⟨a1, h1⟩ : ∃ x, x = a / 4294967296 := ⟨_, rfl⟩
  obtain ⟨a0, h2⟩ : ∃ x, x = a % 4294967296 := ⟨_, rfl⟩
  obtain ⟨b1, h3⟩ : ∃ x, x = b / 4294967296 := ⟨_, rfl⟩
  obtain ⟨b0, h4⟩ : ∃ x, x = b % 4294967296 := ⟨_, rfl⟩
  have l1 : a1 ≤ 4294967295 := by omega
  have l2 : a0 ≤ 4294967295 := by omega
  have l3 : b1 ≤ 4294967295 := by omega
  have l4 : b0 ≤ 4294967295 := by omega
  have m1 : a0 * b0 ≤ 4294967295 * 4294967295 := Nat.mul_le_mul l2 l4
  have m2 : a1 * b0 ≤ 4294967295 * 4294967295 := Nat.mul_le_mul l1 l4
  have m3 : a0 * b1 ≤ 4294967295 * 4294967295 := Nat.mul_le_mul l2 l3
  have m4 : a1 * b1 ≤ 4294967295 * 4294967295 := Nat.mul_le_mul l1 l3
  have ea : a = a1 * 4294967296 + a0 := by omega
  have eb : b = b1 * 4294967296 + b0 := by omega
  have hab : a * b = a1 * b1 * 18446744073709551616 + (a1 * b0 + a0 * b1) * 4294967296 + a0 * b0 := by
    rw [ea, eb]
    have : (a1 * 4294967296 + a0) * (b1 * 4294967296 + b0) = a1 * b1 * (4294967296 * 4294967296) + (a1 * b0 + a0 * b1) * 4294967296 + a0 * b0 := by
      simp only [Nat.add_mul, Nat.mul_add, Nat.mul_assoc, Nat.mul_comm, Nat.mul_left_comm, Nat.add_assoc, Nat.add_left_comm, Nat.add_comm]
    rw [this]
  obtain ⟨p00, q1⟩ : ∃ x, x = a0 * b0 := ⟨_, rfl⟩
  obtain ⟨p10, q2⟩ : ∃ x, x = a1 * b0 := ⟨_, rfl⟩
  obtain ⟨p01, q3⟩ : ∃ x, x = a0 * b1 := ⟨_, rfl⟩
  obtain ⟨p11, q4⟩ : ∃ x, x = a1 * b1 := ⟨_, rfl⟩
  rw [← q1, ← q2, ← q3, ← q4] at hab
  rw [← q1] at m1
  rw [← q2] at m2
  rw [← q3] at m3
  rw [← q4] at m4
  refine ⟨a1, a0, b1, b0, p00, p10, p01, p11, p00 / 4294967296, p10 + p00 / 4294967296, (p10 + p00 / 4294967296) % 4294967296, p01 + (p10 + p00 / 4294967296) % 4294967296, by omega, ?_, by omega, ?_, ?_, ?_, ?_, ?_, by omega, ?_, ?_, ?_, ?_, ?_⟩
  · rw [and_low32 _ (by omega) (by omega)]; omega
  · rw [and_low32 _ (by omega) (by omega)]; omega
  · rw [← Int.natCast_mul, ← q1]; exact IntWalk.u64_in _ (by omega)
  · rw [← Int.natCast_mul, ← q2]; exact IntWalk.u64_in _ (by omega)
  · rw [← Int.natCast_mul, ← q3]; exact IntWalk.u64_in _ (by omega)
  · rw [← Int.natCast_mul, ← q4]; exact IntWalk.u64_in _ (by omega)
  · rw [IntWalk.u64_in _ (by omega)]; omega
  · rw [and_low32 _ (by omega) (by omega)]; omega
  · rw [IntWalk.u64_in _ (by omega)]; omega
  · rw [hiM, hab, IntKind.wrap_u64, IntKind.wrap_u64]; omega
  · rw [loM, hab, and_low32 _ (by omega) (by omega), IntKind.wrap_u64, IntKind.wrap_u64]; omega
set_option maxRecDepth 100000 in
theorem rmul_any (a b : Nat) (ha : a ≤ 18446744073709551615) (hb : b ≤ 18446744073709551615) (w : World) :
    Calls Tryz.prog 176 #[.int .u64 a, .int .u64 b] w fun e w' => e = .returned (.tuple #[.int .u64 (hiM a b : Nat), .int .u64 (loM a b : Nat)]) ∧ ∃ n, w' = w.drewN n := by
  obtain ⟨a1, a0, b1, b0, p00, p10, p01, p11, lw, one, om, two, r1, r2, r3, r4, r5, r6, r7, r8, r9, r10, r11, r12, r13, r14⟩ := mul_nums ha hb
  clear ha hb
  replace r13 := Lib.hid r13; replace r14 := Lib.hid r14
  go_enter Tryz.func176, Tryz.ntmps176
  go_wp2
  go_ret2
  refine ⟨?_, 0, rfl⟩
  rw [← r13.out, ← r14.out]
  rfl
end Go.Proofs.YtpiegngjpnpohaaGreat.WdP

namespace Go.Proofs.YtpiegngjpnpohaaGreat.Rk
open Go.RowKit Go.Proofs.YtpiegngjpnpohaaGreat.WdP
set_option linter.unusedVariables false
def rankE (n : Nat) (num den : Int) : Int := if den < 1 ∨ num < 0 ∨ den < num then 1 else if n = 0 then 16 else 0
def rankI (n : Nat) (num den : Int) : Nat := if rankE n num den = 0 then max (n * num.toNat / den.toNat + (if n * num.toNat % den.toNat = 0 then 0 else 1)) 1 else 0
theorem rank_nums {n : Nat} {num den : Int} (hn : n ≤ 18446744073709551615) (h0 : 0 ≤ num) (h1 : num ≤ den) (h2 : 1 ≤ den) (hd : den ≤ 9223372036854775807) :
    divQ (hiM n num.toNat) (loM n num.toNat) den.toNat = n * num.toNat / den.toNat ∧ divR (hiM n num.toNat) (loM n num.toNat) den.toNat = n * num.toNat % den.toNat ∧
      hiM n num.toNat ≤ 18446744073709551615 ∧ loM n num.toNat ≤ 18446744073709551615 ∧ (0 < n * num.toNat % den.toNat → n * num.toNat / den.toNat + 1 ≤ n) ∧ n * num.toNat / den.toNat ≤ n := by
  obtain ⟨a, rfl⟩ := Int.eq_ofNat_of_zero_le h0
  obtain ⟨b, rfl⟩ := Int.eq_ofNat_of_zero_le (show 0 ≤ den by omega)
  rw [Int.toNat_natCast, Int.toNat_natCast]
  have hab : a ≤ b := by omega
  have hb : 0 < b := by omega
  have hm : n * a ≤ n * b := Nat.mul_le_mul_left _ hab
  have hm2 : n * b ≤ 18446744073709551615 * b := Nat.mul_le_mul_right _ hn
  have hlt : n * a / 18446744073709551616 < b := by
    rw [Nat.div_lt_iff_lt_mul (by decide)]; omega
  have e : n * a / 18446744073709551616 * 18446744073709551616 + n * a % 18446744073709551616 = n * a := Nat.div_add_mod' _ _
  have hq : n * a / b ≤ n := by
    rw [Nat.div_le_iff_le_mul_add_pred hb, Nat.mul_comm b]; omega
  refine ⟨by rw [divQ, hiM, loM, if_pos hlt, e], by rw [divR, hiM, loM, if_pos hlt, e], ?_, ?_, ?_, hq⟩
  · rw [hiM]; omega
  · rw [loM]; omega
  · intro hr
    have hd' := Nat.div_add_mod (n * a) b
    rcases Nat.lt_or_ge (n * a / b) n with h | h
    · exact h
    · have : b * n ≤ b * (n * a / b) := Nat.mul_le_mul_left _ h
      rw [Nat.mul_comm b n] at this
      generalize b * (n * a / b) = x at *
      generalize n * a % b = y at *
      omega
theorem ret_i2 {k l : IntKind} {a b c d : Int} (h : a = b) (h' : c = d) : Ending.returned (.tuple #[.int k a, .int l c]) = .returned (.tuple #[.int k b, .int l d]) := by rw [h, h']
theorem ret_ue {a a' : Nat} {e e' : Int} (h : a = a') (h'' : e = e') : Ending.returned (.tuple #[.int .u64 (a : Int), .int .i64 e]) = .returned (.tuple #[.int .u64 (a' : Int), .int .i64 e']) := by rw [h, h'']
set_option maxRecDepth 100000 in
theorem rank_any (n : Nat) (num den : Int) (hn : n ≤ 18446744073709551615) (hd : den ≤ 9223372036854775807) (w : World) :
    Calls Tryz.prog 119 #[.int .u64 n, .int .i64 num, .int .i64 den] w fun e w' => e = .returned (.tuple #[.int .u64 (rankI n num den : Nat), .int .i64 (rankE n num den)]) ∧ ∃ n, w' = w.drewN n := by
  by_cases h0 : den < 1 ∨ num < 0 ∨ den < num
  · have e1 : rankE n num den = 1 := by rw [rankE, if_pos h0]
    have e2 : rankI n num den = 0 := by rw [rankI, e1]; rfl
    have h0 : den < 1 ∨ (1 ≤ den ∧ num < 0) ∨ (1 ≤ den ∧ 0 ≤ num ∧ den < num) := by omega
    replace e1 := Lib.hid e1; replace e2 := Lib.hid e2
    clear hn hd
    rcases h0 with h | ⟨h, h'⟩ | ⟨h, h', h''⟩
    all_goals
      go_enter Tryz.func119, Tryz.ntmps119
      go_wp2
      go_ret2
      exact ⟨ret_ue (a := 0) e2.out.symm e1.out.symm, 0, rfl⟩
  · have b1 : 1 ≤ den := by omega
    have b2 : 0 ≤ num := by omega
    have b3 : num ≤ den := by omega
    by_cases hz : n = 0
    · have e1 : rankE n num den = 16 := by rw [rankE, if_neg h0, if_pos hz]
      have e2 : rankI n num den = 0 := by rw [rankI, e1]; rfl
      replace e1 := Lib.hid e1; replace e2 := Lib.hid e2
      have hz' : ((n : Int) == 0) = true := beq_iff_eq.2 (by omega)
      clear hn hd hz h0
      go_enter Tryz.func119, Tryz.ntmps119
      go_wp2
      go_ret2
      exact ⟨ret_ue (a := 0) e2.out.symm e1.out.symm, 0, rfl⟩
    · have e1 : rankE n num den = 0 := by rw [rankE, if_neg h0, if_neg hz]
      have hz' : ((n : Int) == 0) = false := beq_eq_false_iff_ne.2 (by omega)
      obtain ⟨q1, q2, q3, q4, q5, q6⟩ := rank_nums hn b2 b3 b1 hd
      have cm := mul_any n num.toNat hn (by omega)
      have cd := div_any (hiM n num.toNat) (loM n num.toNat) den.toNat q3 (by omega) q4
      rw [q1, q2] at cd
      obtain ⟨q, hq⟩ : ∃ x, x = n * num.toNat / den.toNat := ⟨_, rfl⟩
      obtain ⟨r, hr⟩ : ∃ x, x = n * num.toNat % den.toNat := ⟨_, rfl⟩
      have e2 : rankI n num den = max (q + (if r = 0 then 0 else 1)) 1 := by rw [rankI, if_pos e1, ← hq, ← hr]
      rw [← hq, ← hr] at cd
      rw [← hq] at q6 q5
      rw [← hr] at q5
      have d1 : ((den.toNat : Nat) : Int) = den := by omega
      have d2 : ((num.toNat : Nat) : Int) = num := by omega
      rw [d1] at cd
      rw [d2] at cm
      have q7 : (q : Int) ≤ 18446744073709551615 := by omega
      have q8 : 0 < r → (q : Int) + 1 ≤ 18446744073709551615 := fun h => by have := q5 h; omega
      replace e1 := Lib.hid e1; replace e2 := Lib.hid e2
      clear q1 q2 q3 q4 q5 q6 hq hr h0 hz d1 d2 hn
      by_cases hr0 : r = 0
      · subst hr0
        clear q8
        go_enter Tryz.func119, Tryz.ntmps119
        go_wp2_with (first | (go_at_call 172; refine (cm _).mono ?_; rintro e w' ⟨rfl, n, rfl⟩) | (go_at_call 173; refine (cd _).mono ?_; rintro e w' ⟨rfl, n, rfl⟩))
        go_ret2
        exact ⟨ret_i2 (by rw [e2.out]; simp; omega) e1.out.symm, _, rfl⟩
      · have q9 := q8 (by omega)
        have r1 : 0 < r := by omega
        have r2 : ¬ r = 0 := hr0
        obtain ⟨q', hq'⟩ : ∃ q', q' = q + 1 := ⟨_, rfl⟩
        have q10 : IntKind.u64.wrap ((q : Int) + 1) = (q' : Int) := by rw [IntWalk.u64_in _ (by omega)]; omega
        clear q8 hr0 q9 q7
        replace hq' := Lib.hid hq'
        go_enter Tryz.func119, Tryz.ntmps119
        go_wp2_with (first | (go_at_call 172; refine (cm _).mono ?_; rintro e w' ⟨rfl, n, rfl⟩) | (go_at_call 173; refine (cd _).mono ?_; rintro e w' ⟨rfl, n, rfl⟩))
        go_ret2
        exact ⟨ret_i2 (by rw [e2.out, if_neg r2, ← hq'.out]; omega) e1.out.symm, _, rfl⟩
end Go.Proofs.YtpiegngjpnpohaaGreat.Rk

namespace Go.Proofs.YtpiegngjpnpohaaGreat.Rk
open Go.RowKit Go.Proofs.YtpiegngjpnpohaaGreat.Bk
set_option linter.unusedVariables false
theorem totF_rng (l : List (Int × Int)) : 0 ≤ totF 0 l ∧ totF 0 l ≤ 18446744073709551615 := by
  rcases List.eq_nil_or_concat l with rfl | ⟨r, c, rfl⟩
  · simp [totF]
  · rw [totF, List.concat_eq_append, List.foldl_append]
    simp only [List.foldl_cons, List.foldl_nil, IntKind.wrap_u64]; omega
def flat (l : List (Int × Int)) : List Value := l.flatMap fun c => [.int .i64 c.1, .int .u64 c.2]
theorem flat_len (l : List (Int × Int)) : (flat l).length = l.length * 2 := by
  induction l with
  | nil => rfl
  | cons c r ih => simp [flat] at ih ⊢; omega
theorem flat_get : ∀ (l : List (Int × Int)) (i : Nat) (c : Int × Int), l[i]? = some c → (flat l)[i * 2]? = some (.int .i64 c.1) ∧ (flat l)[i * 2 + 1]? = some (.int .u64 c.2)
  | [], i, c, h => by simp at h
  | d :: r, 0, c, h => by simp at h; subst h; simp [flat]
  | d :: r, i + 1, c, h => by
    have := flat_get r i c (by simpa using h)
    rw [show (i + 1) * 2 = i * 2 + 1 + 1 by omega]
    simp only [flat, List.flatMap_cons, List.cons_append, List.nil_append, List.getElem?_cons_succ] at this ⊢
    exact this
end Go.Proofs.YtpiegngjpnpohaaGreat.Rk

namespace Go.Proofs.YtpiegngjpnpohaaGreat.Rk
open Go.RowKit Go.Proofs.YtpiegngjpnpohaaGreat.Bk
set_option linter.unusedVariables false
theorem rtotal_any (w : World) (B : Nat) (A : Option Addr) (l : List (Int × Int)) (cap : Nat) (h : Cs w B A l) (hB : B ≤ w.heap.size) :
    Calls Tryz.prog 102 #[.slice A l.length cap] w fun e w' => e = .returned (.int .u64 (totF 0 l)) ∧ Below w.heap.size w w' := by
  have hl := h.len
  unfold maxLen at hl
  go_enter Tryz.func102, Tryz.ntmps102
  go_wp2
  go_loopw [3, 4] (fun n i wr => ∃ k : Nat, k ≤ l.length ∧ i = .int .i64 k ∧ n = .int .u64 (totF 0 (l.take k)) ∧ Below w.heap.size w wr) (fun _ i _ => l.length - (intOf i).toNat)
  case atStart => exact ⟨0, Nat.zero_le _, rfl, rfl, Below.refl _ _⟩
  case round =>
    obtain ⟨k, hk, rfl, rfl, hb⟩ := hrel
    by_cases hlt : k < l.length
    · obtain ⟨b, off, rfl, hbB, hc⟩ := (h.below (hb.mono hB)).cells (by omega)
      obtain ⟨h1, h2⟩ := hc k l[k] (List.getElem?_eq_getElem hlt)
      have hs := totF_snoc 0 hlt
      clear hc
      replace hs := Lib.hid hs
      go_wp2
      exact ⟨⟨k + 1, by omega, by go_num, by rw [hs.out], hb⟩, by simp [intOf]; omega⟩
    · go_wp2
      go_ret
      exact ⟨by rw [List.take_of_length_le (by omega)]; rfl, hb⟩
end Go.Proofs.YtpiegngjpnpohaaGreat.Rk

namespace Go.Proofs.YtpiegngjpnpohaaGreat.Rk
open Go.RowKit Go.Proofs.YtpiegngjpnpohaaGreat.Bk
set_option linter.unusedVariables false
def stepC (cs : List (Int × Int)) (k : Int) : List (Int × Int) :=
  match cs.getLast? with
  | some c => if c.1 = k then cs.dropLast ++ [(c.1, c.2 + 1)] else cs ++ [(k, 1)]
  | none => [(k, 1)]
theorem stepC_same (cs : List (Int × Int)) (k n : Int) : stepC (cs ++ [(k, n)]) k = cs ++ [(k, n + 1)] := by simp [stepC]
theorem stepC_other (cs : List (Int × Int)) (j n k : Int) (h : j ≠ k) : stepC (cs ++ [(j, n)]) k = cs ++ [(j, n)] ++ [(k, 1)] := by simp [stepC, h]
def expand (cs : List (Int × Int)) : List Int := cs.flatMap fun c => List.replicate c.2.toNat c.1
structure Inv (ks : List Int) (cs : List (Int × Int)) : Prop where
  rise : (cs.map (·.1)).Pairwise (· < ·)
  pos : ∀ c ∈ cs, 1 ≤ c.2
  exp : expand cs = ks
theorem Inv.nil : Inv [] [] := ⟨by simp, by simp, rfl⟩
theorem Inv.step {ks : List Int} {cs : List (Int × Int)} (h : Inv ks cs) (k : Int) (hk : ∀ j ∈ ks, j ≤ k) : Inv (ks ++ [k]) (stepC cs k) := by
  rcases List.eq_nil_or_concat cs with rfl | ⟨r, ⟨j, n⟩, rfl⟩
  · have := h.exp
    simp [expand] at this
    subst this
    exact ⟨by simp [stepC], by simp [stepC], by simp [stepC, expand]⟩
  · rw [List.concat_eq_append] at h ⊢
    have hn := h.pos (j, n) (by simp)
    simp only at hn
    have hjks : j ∈ ks := by
      rw [← h.exp]
      exact List.mem_flatMap.2 ⟨(j, n), by simp, by simp; omega⟩
    have hjk := hk j hjks
    have hr := h.rise
    rw [List.map_append, List.pairwise_append] at hr
    by_cases e : j = k
    · subst e
      rw [stepC_same]
      refine ⟨by have := h.rise; simpa using this, fun c hc => ?_, ?_⟩
      · rcases List.mem_append.1 hc with hc | hc
        · exact h.pos c (by simp [hc])
        · rw [List.mem_singleton.1 hc]; show 1 ≤ n + 1; omega
      · rw [← h.exp]
        have e2 : (n + 1).toNat = n.toNat + 1 := by omega
        simp [expand, e2, List.replicate_succ']
    · rw [stepC_other _ _ _ _ e]
      refine ⟨?_, fun c hc => ?_, ?_⟩
      · rw [List.map_append, List.pairwise_append]
        refine ⟨h.rise, by simp, fun a ha b hb => ?_⟩
        simp at hb
        subst hb
        rw [List.map_append] at ha
        rcases List.mem_append.1 ha with ha | ha
        · have := hr.2.2 a ha j (by simp); omega
        · simp at ha; omega
      · rcases List.mem_append.1 hc with hc | hc
        · exact h.pos c hc
        · rw [List.mem_singleton.1 hc]; show (1 : Int) ≤ 1; omega
      · rw [← h.exp]; simp [expand]
theorem rise_len : ∀ (l : List Int) (a N : Int), l.Pairwise (· < ·) → (∀ x ∈ l, a ≤ x ∧ x < N) → (l.length : Int) ≤ max 0 (N - a)
  | [], a, N, _, _ => by simp; omega
  | x :: r, a, N, h, hb => by
    have h1 := List.pairwise_cons.1 h
    have h2 := hb x (by simp)
    have := rise_len r (x + 1) N h1.2 (fun y hy => ⟨by have := h1.1 y hy; omega, (hb y (by simp [hy])).2⟩)
    simp only [List.length_cons]; omega
theorem chk_ok (p : Int) : ∀ (cs : List (Int × Int)) (prev : Option Int), (cs.map (·.1)).Pairwise (· < ·) → (∀ c ∈ cs, 1 ≤ c.2) → (∀ c ∈ cs, 0 ≤ c.1 ∧ c.1 < lenI p) → (∀ q, prev = some q → ∀ c ∈ cs, q < c.1) → chk p prev cs = 0
  | [], _, _, _, _, _ => by unfold chk; rfl
  | c :: r, prev, h1, h2, h3, h4 => by
    have a := h2 c (by simp)
    have b := h3 c (by simp)
    rw [chk, if_neg (by omega), if_neg, if_neg (by omega)]
    · rw [List.map_cons, List.pairwise_cons] at h1
      refine chk_ok p r (some c.1) h1.2 (fun x hx => h2 x (by simp [hx])) (fun x hx => h3 x (by simp [hx])) (fun q hq x hx => ?_)
      cases hq
      exact h1.1 x.1 (List.mem_map.2 ⟨x, hx, rfl⟩)
    · rintro ⟨q, hq, hle⟩
      have := h4 q hq c (by simp); omega
theorem totF_sum : ∀ (cs : List (Int × Int)) (n : Int), 0 ≤ n → (∀ c ∈ cs, 0 ≤ c.2) → n + sumN cs ≤ 18446744073709551615 → totF n cs = n + sumN cs
  | [], n, _, _, _ => by simp [totF, sumN]
  | c :: r, n, h0, h, hb => by
    have hc := h c (by simp)
    have hs : 0 ≤ sumN r := by
      clear hb
      induction r with
      | nil => simp [sumN]
      | cons d t ih =>
        have := ih fun x hx => h x (by simp at hx ⊢; rcases hx with hx | hx <;> simp [hx])
        have := h d (by simp)
        simp only [sumN, List.map_cons, List.sum_cons] at *; omega
    have e : sumN (c :: r) = c.2 + sumN r := by simp [sumN]
    rw [e] at hb ⊢
    have e2 : totF n (c :: r) = totF (IntKind.u64.wrap (n + c.2)) r := rfl
    rw [e2, IntWalk.u64_in _ (by omega), totF_sum r _ (by omega) (fun x hx => h x (by simp [hx])) (by omega)]; omega
end Go.Proofs.YtpiegngjpnpohaaGreat.Rk

namespace Go.Proofs.YtpiegngjpnpohaaGreat.Rk
open Go.RowKit Go.Proofs.YtpiegngjpnpohaaGreat.Sl
set_option linter.unusedVariables false
def ic (l : List Int) : List Value := l.map (Value.int .i64)
def SortPost (w : World) (l : List Int) (e : Ending) (w' : World) : Prop :=
  ∃ A c ys, e = .returned (.slice A l.length c) ∧ w'.ownsRow w.heap.size 2 1 (.slice A l.length c) l.length (ic ys) ∧ ys.Perm l ∧ ys.Pairwise (· ≤ ·) ∧ Below w.heap.size w w'
structure Merg (l us bs os : List Int) : Prop where
  perm : (os ++ (us ++ bs)).Perm l
  s1 : us.Pairwise (· ≤ ·)
  s2 : bs.Pairwise (· ≤ ·)
  s3 : os.Pairwise (· ≤ ·)
  le : ∀ o ∈ os, ∀ x ∈ us ++ bs, o ≤ x
theorem Merg.len {l us bs os : List Int} (h : Merg l us bs os) : os.length + us.length + bs.length = l.length := by
  have := h.perm.length_eq
  simp at this; omega
theorem pw_snoc {os : List Int} {x : Int} (h : os.Pairwise (· ≤ ·)) (hx : ∀ o ∈ os, o ≤ x) : (os ++ [x]).Pairwise (· ≤ ·) :=
  List.pairwise_append.2 ⟨h, List.pairwise_singleton _ _, fun a ha b hb => by rw [List.mem_singleton.1 hb]; exact hx a ha⟩
theorem Merg.left {l us bs os : List Int} {x y : Int} (h : Merg l (x :: us) (y :: bs) os) (hxy : x ≤ y) : Merg l us (y :: bs) (os ++ [x]) := by
  have h1 := List.pairwise_cons.1 h.s1
  have h2 := List.pairwise_cons.1 h.s2
  refine ⟨by have := h.perm; simpa using this, h1.2, h.s2, pw_snoc h.s3 (fun o ho => h.le o ho x (by simp)), fun o ho z hz => ?_⟩
  rcases List.mem_append.1 ho with ho | ho
  · exact h.le o ho z (by simp at hz ⊢; rcases hz with hz | hz | hz <;> simp [hz])
  · rw [List.mem_singleton.1 ho]
    simp at hz
    rcases hz with hz | rfl | hz
    · exact h1.1 z hz
    · exact hxy
    · have := h2.1 z hz; omega
theorem Merg.right {l us bs os : List Int} {x y : Int} (h : Merg l (x :: us) (y :: bs) os) (hxy : ¬ x ≤ y) : Merg l (x :: us) bs (os ++ [y]) := by
  have h1 := List.pairwise_cons.1 h.s1
  have h2 := List.pairwise_cons.1 h.s2
  refine ⟨?_, h.s1, h2.2, pw_snoc h.s3 (fun o ho => h.le o ho y (by simp)), fun o ho z hz => ?_⟩
  · have := h.perm
    refine List.Perm.trans ?_ this
    rw [List.append_assoc]
    refine List.Perm.append_left os ?_
    exact (List.perm_middle (a := y) (l₁ := x :: us) (l₂ := bs)).symm
  rcases List.mem_append.1 ho with ho | ho
  · exact h.le o ho z (by simp at hz ⊢; rcases hz with hz | hz | hz <;> simp [hz])
  · rw [List.mem_singleton.1 ho]
    simp at hz
    rcases hz with rfl | hz | hz
    · omega
    · have := h1.1 z hz; omega
    · exact h2.1 z hz
theorem Merg.done {l us bs os : List Int} (h : Merg l us bs os) (h0 : us = [] ∨ bs = []) : (os ++ us ++ bs).Perm l ∧ (os ++ us ++ bs).Pairwise (· ≤ ·) := by
  refine ⟨by rw [List.append_assoc]; exact h.perm, ?_⟩
  rcases h0 with rfl | rfl
  · simp only [List.append_nil]
    exact List.pairwise_append.2 ⟨h.s3, h.s2, fun a ha b hb => h.le a ha b (by simp [hb])⟩
  · simp only [List.append_nil]
    exact List.pairwise_append.2 ⟨h.s3, h.s1, fun a ha b hb => h.le a ha b (by simp [hb])⟩
def lenOf : Value → Nat
  | .slice _ n _ => n
  | _ => 0
end Go.Proofs.YtpiegngjpnpohaaGreat.Rk

namespace Go.Proofs.YtpiegngjpnpohaaGreat.Rk
open Go.RowKit Go.Proofs.YtpiegngjpnpohaaGreat.Sl Go.Proofs.YtpiegngjpnpohaaGreat.Bk
set_option linter.unusedVariables false
theorem infoCount : (Tryz.prog.info? 54).map (fun i => (i.zero, i.size, i.bytes)) = some (some (.agg #[.int .i64 0, .int .u64 0]), 2, 16) := by kernel_rfl
theorem flat_one (l : List (Int × Int)) : ∀ u ∈ flat l, u.oneCell' = true := by
  intro u hu
  obtain ⟨c, _, h⟩ := List.mem_flatMap.1 hu
  simp at h
  rcases h with rfl | rfl <;> rfl
theorem flat_snoc (l : List (Int × Int)) (c : Int × Int) : flat (l ++ [c]) = flat l ++ [.int .i64 c.1, .int .u64 c.2] := by simp [flat]
end Go.Proofs.YtpiegngjpnpohaaGreat.Rk

namespace Go.Proofs.YtpiegngjpnpohaaGreat.Rk
open Go.RowKit Go.Proofs.YtpiegngjpnpohaaGreat.Bk
set_option linter.unusedVariables false
theorem rmay_bad (w : World) (p : Int) (l : List (Int × Int)) (A : Option Addr) (cap : Nat) (hp : ¬ good p) :
    Calls Tryz.prog 101 #[.int .i64 p, .slice A l.length cap] w fun e w' => e = .returned (.int .i64 (mayE p l)) ∧ Below w.heap.size w w' := by
  have e1 : mayE p l = 1 := by rw [mayE, if_pos hp]
  replace e1 := Lib.hid e1
  have hc : p < 1 ∨ 14 < p := by
    rcases Int.lt_or_le p 1 with h | h
    · exact .inl h
    · exact .inr (Int.not_le.1 fun h2 => hp ⟨h, h2⟩)
  clear hp
  rcases hc with h | h
  · go_enter Tryz.func101, Tryz.ntmps101
    go_wp2
    go_ret
    exact ⟨ret_int e1.out.symm, Below.refl _ _⟩
  · have h' : ¬ p < 1 := by omega
    go_enter Tryz.func101, Tryz.ntmps101
    go_wp2
    go_ret
    exact ⟨ret_int e1.out.symm, Below.refl _ _⟩
def Left (l : List (Int × Int)) (k : Nat) (s : Int) (m : Bool) : Prop := (m = false → sumN (l.take k) + s = 9223372036854775807) ∧ (m = true → 9223372036854775807 < sumN l)
theorem Left.next {l : List (Int × Int)} {k : Nat} {s : Int} {m : Bool} (h : Left l k s m) (hk : k < l.length) (hok : ∀ c ∈ l, okC c) (hs : 0 ≤ s) : Left l (k + 1) (IntKind.u64.wrap (s - l[k].2)) (m || decide (s < l[k].2)) := by
  have h1 := sumN_snoc hk
  have h2 := sumN_take_le hok (k + 1)
  have h3 := sumN_nonneg (l := l.take k) fun c hc => hok c (List.mem_of_mem_take hc)
  have o := hok l[k] (List.getElem_mem hk)
  unfold okC at o
  refine ⟨fun e => ?_, fun e => ?_⟩
  · rw [Bool.or_eq_false_iff] at e
    have := h.1 e.1
    have e2 := of_decide_eq_false e.2
    rw [IntWalk.u64_in _ (by omega)]; omega
  · rcases Bool.or_eq_true_iff.1 e with e | e
    · exact h.2 e
    · have e2 := of_decide_eq_true e
      cases hm : m with
      | true => exact h.2 hm
      | false => have := h.1 hm; omega
set_option maxRecDepth 100000 in
set_option maxHeartbeats 2000000 in
theorem rmay_good (w : World) (B : Nat) (p : Int) (l : List (Int × Int)) (A : Option Addr) (cap : Nat) (hp : good p) (h : Cs w B A l) (hB : B ≤ w.heap.size) :
    Calls Tryz.prog 101 #[.int .i64 p, .slice A l.length cap] w fun e w' => e = .returned (.int .i64 (mayE p l)) ∧ Below w.heap.size w w' := by
  have hl := h.len
  unfold maxLen at hl
  have c := fun W => (rlength_any p W).mono (R' := fun e w' => e = .returned (.int .i64 (lenI p)) ∧ w' = W) fun e w' ⟨h1, h2⟩ => ⟨h1, h2.symm⟩
  have n0 := lenI_ge hp
  have n1 := lenI_rng p
  obtain ⟨_, n1⟩ := n1
  have em : mayE p l = if chk p none l ≠ 0 then chk p none l else if 9223372036854775807 < sumN l then 3 else 0 := by rw [mayE, if_neg (by simpa using hp)]
  replace em := Lib.hid em
  have p1 : ¬ p < 1 := by have := hp.1; omega
  have p2 : ¬ 14 < p := by have := hp.2; omega
  replace hp := Lib.hid hp
  generalize hN : lenI p = N at *
  replace hN := Lib.hid hN
  go_enter Tryz.func101, Tryz.ntmps101
  go_wp2
  go_loopw [5, 6, 7] (fun r m i wr => ∃ (k : Nat) (s : Int) (b : Bool), k ≤ l.length ∧ i = .int .i64 k ∧ r = .int .u64 s ∧ m = .bool b ∧ 0 ≤ s ∧ s ≤ 18446744073709551615 ∧ Hid (At p l k ∧ Left l k s b) ∧ Below w.heap.size w wr) (fun _ _ i _ => l.length - (intOf i).toNat)
  case atStart => exact ⟨0, 9223372036854775807, false, Nat.zero_le _, rfl, rfl, rfl, by omega, by omega, Lib.hid ⟨At.zero _ _, fun _ => by simp [sumN], fun e => by cases e⟩, Below.refl _ _⟩
  case round =>
    obtain ⟨k, s, m, hk, rfl, rfl, rfl, s1, s2, hall, hb⟩ := hrel
    obtain ⟨ha, hL⟩ := hall.out
    clear hall
    replace ha := Lib.hid ha
    replace hL := Lib.hid hL
    by_cases hlt : k < l.length
    · obtain ⟨b, off, rfl, hbB, hc⟩ := (h.below (hb.mono hB)).cells (by omega)
      obtain ⟨h1, h2⟩ := hc k l[k] (List.getElem?_eq_getElem hlt)
      have hok := h.ok l[k] (List.getElem_mem hlt)
      obtain ⟨o1, o2, o3, o4⟩ := hok
      by_cases r1 : l[k].1 < 0
      · have e := ha.out.range hlt (by omega)
        replace e := Lib.hid e
        clear hc
        have hr1 : decide (l[k].1 < 0) = true := decide_eq_true r1
        go_wp2
        go_quiet (fail)
        go_wp2
        go_ret
        first | exact ⟨ret_int (by rw [em.out, e.out]; rfl), below_drewN hb _⟩ | exact ⟨ret_int (by rw [em.out, e.out]; rfl), below_drewN (below_drewN hb _) _⟩
      have hr1 : decide (l[k].1 < 0) = false := decide_eq_false r1
      by_cases r2 : N ≤ l[k].1
      · have e := ha.out.range hlt (by rw [hN.out]; omega)
        replace e := Lib.hid e
        clear hc
        go_wp2
        go_quiet ((go_at_call 155; exact Calls.quiet_of_same (c _)))
        go_wp2
        go_ret
        first | exact ⟨ret_int (by rw [em.out, e.out]; rfl), below_drewN hb _⟩ | exact ⟨ret_int (by rw [em.out, e.out]; rfl), below_drewN (below_drewN hb _) _⟩
      have nxt := Left.next hL.out hlt h.ok s1
      have hks : k = 0 ∨ 0 < k := Nat.eq_zero_or_pos k
      have hq : 0 < k → ∃ q : Int × Int, l[k - 1]? = some q ∧ wr.cell? ⟨b, off + (k - 1) * 2, none⟩ = some (.int .i64 q.1) ∧ (l[k].1 ≤ q.1 → chk p none l = 15) ∧ (¬ l[k].1 ≤ q.1 → (l[k].2 = 0 → chk p none l = 16) ∧ (l[k].2 ≠ 0 → At p l (k + 1))) := fun h0 => by
        have hx : k - 1 < l.length := by omega
        refine ⟨l[k - 1], List.getElem?_eq_getElem hx, (hc (k - 1) _ (List.getElem?_eq_getElem hx)).1, fun hle => ha.out.order hlt (by omega) (by rw [hN.out]; omega) h0 hle, fun hn => ⟨fun h3 => ha.out.empty hlt (by omega) (by rw [hN.out]; omega) (fun _ => hn) h3, fun h3 => ha.out.next hlt (by omega) (by rw [hN.out]; omega) (fun _ => hn) h3⟩⟩
      have hz : k = 0 → (l[k].2 = 0 → chk p none l = 16) ∧ (l[k].2 ≠ 0 → At p l (k + 1)) := fun h0 =>
        ⟨fun h3 => ha.out.empty hlt (by omega) (by rw [hN.out]; omega) (fun h => absurd h (by omega)) h3, fun h3 => ha.out.next hlt (by omega) (by rw [hN.out]; omega) (fun h => absurd h (by omega)) h3⟩
      clear hc
      generalize l[k] = x at *
      obtain ⟨x1, x2⟩ := x
      simp only at h1 h2 o1 o2 o3 o4 r1 r2 hq hz nxt hr1
      have w5 := IntKind.wrap_u64 (s - x2)
      have w6 : 0 ≤ IntKind.u64.wrap (s - x2) ∧ IntKind.u64.wrap (s - x2) ≤ 18446744073709551615 := by rw [w5]; omega
      clear w5
      replace nxt := Lib.hid nxt
      replace w6 := Lib.hid w6
      have fin : x2 ≠ 0 → At p l (k + 1) → ∀ m', m' = (m || decide (s < x2)) → ∀ W, Below w.heap.size w W → ∃ (k' : Nat) (s' : Int) (b' : Bool), k' ≤ l.length ∧ Value.int .i64 ((k : Int) + 1) = .int .i64 k' ∧ Value.int .u64 (IntKind.u64.wrap (s - x2)) = .int .u64 s' ∧ Value.bool m' = .bool b' ∧ 0 ≤ s' ∧ s' ≤ 18446744073709551615 ∧ Hid (At p l k' ∧ Left l k' s' b') ∧ Below w.heap.size w W := fun _ a m' e W hW => by
        subst e
        exact ⟨k + 1, IntKind.u64.wrap (s - x2), _, hlt, by go_num, rfl, rfl, w6.out.1, w6.out.2, Lib.hid ⟨a, nxt.out⟩, hW⟩
      replace fin := Lib.hid fin
      rcases hks with hk0 | hk0
      · obtain ⟨hz1, hz2⟩ := hz hk0
        have hk0' : decide ((0 : Int) < (k : Int)) = false := decide_eq_false (by omega)
        have hk0'' : decide (0 < k) = false := decide_eq_false (by omega)
        clear hz hq hk0
        by_cases r3 : x2 = 0
        · have e := hz1 r3
          replace e := Lib.hid e
          have r3' : ((x2 : Int) == 0) = true := beq_iff_eq.2 r3
          clear r3 hz1 hz2
          go_wp2
          go_quiet ((go_at_call 155; exact Calls.quiet_of_same (c _)))
          go_wp2
          go_quiet (fail)
          go_wp2
          go_ret
          first | exact ⟨ret_int (by rw [em.out, e.out]; rfl), below_drewN hb _⟩ | exact ⟨ret_int (by rw [em.out, e.out]; rfl), below_drewN (below_drewN hb _) _⟩
        · have e := hz2 r3
          have fin1 := fun m' (e1 : m' = (m || decide (s < x2))) W (b : Below w.heap.size w W) => fin.out r3 e m' e1 W b
          replace fin1 := Lib.hid fin1
          replace e := Lib.hid e
          have r3' : ((x2 : Int) == 0) = false := beq_eq_false_iff_ne.2 r3
          clear r3 hz1 hz2
          cases hm : m with
          | true =>
            rw [hm] at fin1
            go_wp2
            go_quiet ((go_at_call 155; exact Calls.quiet_of_same (c _)))
            go_wp2
            go_quiet (fail)
            go_wp2
            exact ⟨fin1.out true (by simp) _ (below_drewN hb _), by simp [intOf]; omega⟩
          | false =>
            rw [hm] at fin1
            go_wp2
            go_quiet ((go_at_call 155; exact Calls.quiet_of_same (c _)))
            go_wp2
            go_quiet (fail)
            go_wp2
            exact ⟨fin1.out (decide (s < x2)) (by simp) _ (below_drewN hb _), by simp [intOf]; omega⟩
      · obtain ⟨⟨q1, q2⟩, hq1, hq2, hq3, hq4⟩ := hq hk0
        simp only at hq2 hq3 hq4
        have hk0' : decide ((0 : Int) < (k : Int)) = true := decide_eq_true (by omega)
        have hk0'' : decide (0 < k) = true := decide_eq_true (by omega)
        have hk1 : k - 1 < l.length := by omega
        have w1 : IntKind.i64.wrap ((k : Int) - 1) = (k : Int) - 1 := IntWalk.i64_in _ (by omega)
        have w2 : (0 : Int) ≤ (k : Int) - 1 := by omega
        have w3 : ((k : Int) - 1).toNat = k - 1 := by omega
        have w4 : (k : Int) - 1 < (l.length : Int) := by omega
        clear hz hq hq1
        by_cases hle : x1 ≤ q1
        · have e := hq3 hle
          replace e := Lib.hid e
          clear hq3 hq4
          go_wp2
          go_quiet ((go_at_call 155; exact Calls.quiet_of_same (c _)))
          go_wp2
          go_quiet (fail)
          go_wp2
          go_ret
          first | exact ⟨ret_int (by rw [em.out, e.out]; rfl), below_drewN hb _⟩ | exact ⟨ret_int (by rw [em.out, e.out]; rfl), below_drewN (below_drewN hb _) _⟩
        · obtain ⟨hz1, hz2⟩ := hq4 hle
          clear hq3 hq4
          by_cases r3 : x2 = 0
          · have e := hz1 r3
            replace e := Lib.hid e
            have r3' : ((x2 : Int) == 0) = true := beq_iff_eq.2 r3
            clear r3 hz1 hz2
            go_wp2
            go_quiet ((go_at_call 155; exact Calls.quiet_of_same (c _)))
            go_wp2
            go_quiet (fail)
            go_wp2
            go_ret
            first | exact ⟨ret_int (by rw [em.out, e.out]; rfl), below_drewN hb _⟩ | exact ⟨ret_int (by rw [em.out, e.out]; rfl), below_drewN (below_drewN hb _) _⟩
          · have e := hz2 r3
            have fin1 := fun m' (e1 : m' = (m || decide (s < x2))) W (b : Below w.heap.size w W) => fin.out r3 e m' e1 W b
            replace fin1 := Lib.hid fin1
            replace e := Lib.hid e
            have r3' : ((x2 : Int) == 0) = false := beq_eq_false_iff_ne.2 r3
            clear r3 hz1 hz2
            cases hm : m with
            | true =>
              rw [hm] at fin1
              go_wp2
              go_quiet ((go_at_call 155; exact Calls.quiet_of_same (c _)))
              go_wp2
              go_quiet (fail)
              go_wp2
              exact ⟨fin1.out true (by simp) _ (below_drewN hb _), by simp [intOf]; omega⟩
            | false =>
              rw [hm] at fin1
              go_wp2
              go_quiet ((go_at_call 155; exact Calls.quiet_of_same (c _)))
              go_wp2
              go_quiet (fail)
              go_wp2
              exact ⟨fin1.out (decide (s < x2)) (by simp) _ (below_drewN hb _), by simp [intOf]; omega⟩
    · have e := ha.out.done (by omega)
      have f1 := hL.out.1
      have f2 := hL.out.2
      rw [List.take_of_length_le (by omega)] at f1
      rw [e] at em
      replace em : mayE p l = if 9223372036854775807 < sumN l then 3 else 0 := em.out
      cases hm : m with
      | true =>
        have e3 : mayE p l = 3 := by rw [em, if_pos (f2 hm)]
        replace e3 := Lib.hid e3
        clear em e f1 f2
        go_wp2
        go_ret
        exact ⟨ret_int e3.out.symm, hb⟩
      | false =>
        have e3 : mayE p l = 0 := by rw [em, if_neg (by have := f1 hm; omega)]
        replace e3 := Lib.hid e3
        clear em e f1 f2
        go_wp2
        go_ret
        exact ⟨ret_int e3.out.symm, hb⟩
theorem rmay_any (w : World) (B : Nat) (p : Int) (l : List (Int × Int)) (A : Option Addr) (cap : Nat) (h : Cs w B A l) (hB : B ≤ w.heap.size) :
    Calls Tryz.prog 101 #[.int .i64 p, .slice A l.length cap] w fun e w' => e = .returned (.int .i64 (mayE p l)) ∧ Below w.heap.size w w' := by
  by_cases hp : good p
  · exact rmay_good w B p l A cap hp h hB
  · exact rmay_bad w p l A cap hp
end Go.Proofs.YtpiegngjpnpohaaGreat.Rk
