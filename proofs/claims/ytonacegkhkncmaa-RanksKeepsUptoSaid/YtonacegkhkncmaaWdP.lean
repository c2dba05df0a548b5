/- Products and quotients of 128 bits: package wide's, and the document's answer. -/
import Derived.Test.YtonacegkhkncmaaDiv
namespace Go.Proofs.Ytonacegkhkncmaa.WdP
open Go.RowKit Go.Proofs.Ytonacegkhkncmaa.DivM Go.Proofs.Ytonacegkhkncmaa.Div
set_option linter.unusedVariables false

def hiM (a b : Nat) : Nat := a * b / 18446744073709551616
def loM (a b : Nat) : Nat := a * b % 18446744073709551616
def divE (hi lo by' : Nat) : Int := if by' = 0 then 1 else if by' ≤ hi then 2 else 0
def divQ (hi lo by' : Nat) : Nat := if hi < by' then (hi * 18446744073709551616 + lo) / by' else 0
def divR (hi lo by' : Nat) : Nat := if hi < by' then (hi * 18446744073709551616 + lo) % by' else 0

theorem mul_any (a b : Nat) (ha : a ≤ 18446744073709551615) (hb : b ≤ 18446744073709551615) (w : World) :
    Calls Try.prog 45 #[.int .u64 a, .int .u64 b] w fun e w' => e = .returned (.tuple #[.int .u64 (hiM a b : Nat), .int .u64 (loM a b : Nat)]) ∧ ∃ n, w' = w.drewN n := by
  have c := Try.bits_Mul64 a b (by omega) (by omega)
  clear ha hb
  go_enter Try.func45, Try.ntmps45
  go_wp2_with (first | (go_at_call 57; refine (c _).mono ?_; rintro e w' ⟨rfl, rfl⟩))
  go_ret2
  exact ⟨rfl, 0, rfl⟩

theorem div64_any (hi lo y : Nat) (hh : hi < y) (hy : y ≤ 18446744073709551615) (hlo : lo ≤ 18446744073709551615) (w : World) :
    Calls Try.prog 58 #[.int .u64 hi, .int .u64 lo, .int .u64 y] w fun e w' => e = .returned (.tuple #[.int .u64 (divQ hi lo y : Nat), .int .u64 (divR hi lo y : Nat)]) ∧ ∃ n, w' = w.drewN n := by
  rw [divQ, if_pos hh, divR, if_pos hh]
  rcases Nat.eq_zero_or_pos hi with rfl | h0
  · have := div64_zero lo y (by omega) hy hlo w
    rw [Nat.zero_mul, Nat.zero_add]; exact this
  · exact div64_pos hi lo y h0 hh hy hlo w

theorem ret_u2e {a b a' b' : Nat} {e e' : Int} (h : a = a') (h' : b = b') (h'' : e = e') : Ending.returned (.tuple #[.int .u64 (a : Int), .int .u64 (b : Int), .int .i64 e]) = .returned (.tuple #[.int .u64 (a' : Int), .int .u64 (b' : Int), .int .i64 e']) := by rw [h, h', h'']

theorem div_any (hi lo y : Nat) (hhi : hi ≤ 18446744073709551615) (hy : y ≤ 18446744073709551615) (hlo : lo ≤ 18446744073709551615) (w : World) :
    Calls Try.prog 46 #[.int .u64 hi, .int .u64 lo, .int .u64 y] w fun e w' => e = .returned (.tuple #[.int .u64 (divQ hi lo y : Nat), .int .u64 (divR hi lo y : Nat), .int .i64 (divE hi lo y)]) ∧ ∃ n, w' = w.drewN n := by
  by_cases h0 : y = 0
  · subst h0
    clear hhi hy hlo
    go_enter Try.func46, Try.ntmps46
    go_wp2
    go_ret3
    exact ⟨ret_u2e (a := 0) (b := 0) (e := 1) (by simp [divQ]) (by simp [divR]) (by simp [divE]), 0, rfl⟩
  · by_cases h1 : y ≤ hi
    · have e1 : ((y : Int) == 0) = false := beq_eq_false_iff_ne.2 (by omega)
      have e2 : (y : Int) ≤ (hi : Int) := by omega
      clear hhi hy hlo
      go_enter Try.func46, Try.ntmps46
      go_wp2
      go_ret3
      exact ⟨ret_u2e (a := 0) (b := 0) (e := 2) (by rw [divQ, if_neg (by omega)]) (by rw [divR, if_neg (by omega)]) (by simp [divE, h0, h1]), 0, rfl⟩
    · have e1 : ((y : Int) == 0) = false := beq_eq_false_iff_ne.2 (by omega)
      have e2 : ¬ (y : Int) ≤ (hi : Int) := by omega
      have c := div64_any hi lo y (by omega) hy hlo
      clear hhi hy hlo
      go_enter Try.func46, Try.ntmps46
      go_wp2_with (first | (go_at_call 58; refine (c _).mono ?_; rintro e w' ⟨rfl, n, rfl⟩))
      go_ret3
      exact ⟨ret_u2e (e := 0) rfl rfl (by simp [divE, h0, h1]), _, rfl⟩

end Go.Proofs.Ytonacegkhkncmaa.WdP
