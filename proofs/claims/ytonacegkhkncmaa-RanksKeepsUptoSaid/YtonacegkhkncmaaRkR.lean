/- Ranks of quantiles: package ranks', and the document's. -/
import Derived.Test.YtonacegkhkncmaaWdR
namespace Go.Proofs.Ytonacegkhkncmaa.Rk
open Go.RowKit Go.Proofs.Ytonacegkhkncmaa.WdP
set_option linter.unusedVariables false

def rankE (n : Nat) (num den : Int) : Int := if den < 1 ∨ num < 0 ∨ den < num then 1 else if n = 0 then 16 else 0
def rankI (n : Nat) (num den : Int) : Nat := if rankE n num den = 0 then max (n * num.toNat / den.toNat + (if n * num.toNat % den.toNat = 0 then 0 else 1)) 1 else 0

theorem rank_nums {n : Nat} {num den : Int} (hn : n ≤ 18446744073709551615) (h0 : 0 ≤ num) (h1 : num ≤ den) (h2 : 1 ≤ den) (hd : den ≤ 9223372036854775807) :
    divQ (hiM n num.toNat) (loM n num.toNat) den.toNat = n * num.toNat / den.toNat ∧ divR (hiM n num.toNat) (loM n num.toNat) den.toNat = n * num.toNat % den.toNat ∧
      hiM n num.toNat ≤ 18446744073709551615 ∧ loM n num.toNat ≤ 18446744073709551615 ∧ (0 < n * num.toNat % den.toNat → n * num.toNat / den.toNat + 1 ≤ n) ∧ n * num.toNat / den.toNat ≤ n := by
  obtain ⟨a, rfl⟩ := Int.eq_ofNat_of_zero_le h0
  obtain ⟨b, rfl⟩ := Int.eq_ofNat_of_zero_le (show 0 ≤ den by omega)
  rw [Int.toNat_natCast, Int.toNat_natCast]
  have hab : a ≤ b := by omega
  have hb : 0 < b := by omega
  have hm : n * a ≤ n * b := Nat.mul_le_mul_left _ hab
  have hm2 : n * b ≤ 18446744073709551615 * b := Nat.mul_le_mul_right _ hn
  have hlt : n * a / 18446744073709551616 < b := by
    rw [Nat.div_lt_iff_lt_mul (by decide)]; omega
  have e : n * a / 18446744073709551616 * 18446744073709551616 + n * a % 18446744073709551616 = n * a := Nat.div_add_mod' _ _
  have hq : n * a / b ≤ n := by
    rw [Nat.div_le_iff_le_mul_add_pred hb, Nat.mul_comm b]; omega
  refine ⟨by rw [divQ, hiM, loM, if_pos hlt, e], by rw [divR, hiM, loM, if_pos hlt, e], ?_, ?_, ?_, hq⟩
  · rw [hiM]; omega
  · rw [loM]; omega
  · intro hr
    have hd' := Nat.div_add_mod (n * a) b
    rcases Nat.lt_or_ge (n * a / b) n with h | h
    · exact h
    · have : b * n ≤ b * (n * a / b) := Nat.mul_le_mul_left _ h
      rw [Nat.mul_comm b n] at this
      generalize b * (n * a / b) = x at *
      generalize n * a % b = y at *
      omega

theorem ret_i2 {k l : IntKind} {a b c d : Int} (h : a = b) (h' : c = d) : Ending.returned (.tuple #[.int k a, .int l c]) = .returned (.tuple #[.int k b, .int l d]) := by rw [h, h']
theorem ret_ue {a a' : Nat} {e e' : Int} (h : a = a') (h'' : e = e') : Ending.returned (.tuple #[.int .u64 (a : Int), .int .i64 e]) = .returned (.tuple #[.int .u64 (a' : Int), .int .i64 e']) := by rw [h, h'']

set_option maxRecDepth 100000 in
theorem rank_any (n : Nat) (num den : Int) (hn : n ≤ 18446744073709551615) (hd : den ≤ 9223372036854775807) (w : World) :
    Calls Try.prog 25 #[.int .u64 n, .int .i64 num, .int .i64 den] w fun e w' => e = .returned (.tuple #[.int .u64 (rankI n num den : Nat), .int .i64 (rankE n num den)]) ∧ ∃ n, w' = w.drewN n := by
  by_cases h0 : den < 1 ∨ num < 0 ∨ den < num
  · have e1 : rankE n num den = 1 := by rw [rankE, if_pos h0]
    have e2 : rankI n num den = 0 := by rw [rankI, e1]; rfl
    have h0 : den < 1 ∨ (1 ≤ den ∧ num < 0) ∨ (1 ≤ den ∧ 0 ≤ num ∧ den < num) := by omega
    replace e1 := Lib.hid e1; replace e2 := Lib.hid e2
    clear hn hd
    rcases h0 with h | ⟨h, h'⟩ | ⟨h, h', h''⟩
    all_goals
      go_enter Try.func25, Try.ntmps25
      go_wp2
      go_ret2
      exact ⟨ret_ue (a := 0) e2.out.symm e1.out.symm, 0, rfl⟩
  · have b1 : 1 ≤ den := by omega
    have b2 : 0 ≤ num := by omega
    have b3 : num ≤ den := by omega
    by_cases hz : n = 0
    · have e1 : rankE n num den = 16 := by rw [rankE, if_neg h0, if_pos hz]
      have e2 : rankI n num den = 0 := by rw [rankI, e1]; rfl
      replace e1 := Lib.hid e1; replace e2 := Lib.hid e2
      have hz' : ((n : Int) == 0) = true := beq_iff_eq.2 (by omega)
      clear hn hd hz h0
      go_enter Try.func25, Try.ntmps25
      go_wp2
      go_ret2
      exact ⟨ret_ue (a := 0) e2.out.symm e1.out.symm, 0, rfl⟩
    · have e1 : rankE n num den = 0 := by rw [rankE, if_neg h0, if_neg hz]
      have hz' : ((n : Int) == 0) = false := beq_eq_false_iff_ne.2 (by omega)
      obtain ⟨q1, q2, q3, q4, q5, q6⟩ := rank_nums hn b2 b3 b1 hd
      have cm := mul_any n num.toNat hn (by omega)
      have cd := div_any (hiM n num.toNat) (loM n num.toNat) den.toNat q3 (by omega) q4
      rw [q1, q2] at cd
      obtain ⟨q, hq⟩ : ∃ x, x = n * num.toNat / den.toNat := ⟨_, rfl⟩
      obtain ⟨r, hr⟩ : ∃ x, x = n * num.toNat % den.toNat := ⟨_, rfl⟩
      have e2 : rankI n num den = max (q + (if r = 0 then 0 else 1)) 1 := by rw [rankI, if_pos e1, ← hq, ← hr]
      rw [← hq, ← hr] at cd
      rw [← hq] at q6 q5
      rw [← hr] at q5
      have d1 : ((den.toNat : Nat) : Int) = den := by omega
      have d2 : ((num.toNat : Nat) : Int) = num := by omega
      rw [d1] at cd
      rw [d2] at cm
      have q7 : (q : Int) ≤ 18446744073709551615 := by omega
      have q8 : 0 < r → (q : Int) + 1 ≤ 18446744073709551615 := fun h => by have := q5 h; omega
      replace e1 := Lib.hid e1; replace e2 := Lib.hid e2
      clear q1 q2 q3 q4 q5 q6 hq hr h0 hz d1 d2 hn
      by_cases hr0 : r = 0
      · subst hr0
        clear q8
        go_enter Try.func25, Try.ntmps25
        go_wp2_with (first | (go_at_call 45; refine (cm _).mono ?_; rintro e w' ⟨rfl, n, rfl⟩) | (go_at_call 46; refine (cd _).mono ?_; rintro e w' ⟨rfl, n, rfl⟩))
        go_ret2
        exact ⟨ret_i2 (by rw [e2.out]; simp; omega) e1.out.symm, _, rfl⟩
      · have q9 := q8 (by omega)
        have r1 : 0 < r := by omega
        have r2 : ¬ r = 0 := hr0
        obtain ⟨q', hq'⟩ : ∃ q', q' = q + 1 := ⟨_, rfl⟩
        have q10 : IntKind.u64.wrap ((q : Int) + 1) = (q' : Int) := by rw [IntWalk.u64_in _ (by omega)]; omega
        clear q8 hr0 q9 q7
        replace hq' := Lib.hid hq'
        go_enter Try.func25, Try.ntmps25
        go_wp2_with (first | (go_at_call 45; refine (cm _).mono ?_; rintro e w' ⟨rfl, n, rfl⟩) | (go_at_call 46; refine (cd _).mono ?_; rintro e w' ⟨rfl, n, rfl⟩))
        go_ret2
        exact ⟨ret_i2 (by rw [e2.out, if_neg r2, ← hq'.out]; omega) e1.out.symm, _, rfl⟩

set_option maxRecDepth 100000 in
theorem rrank_any (n : Nat) (num den : Int) (hn : n ≤ 18446744073709551615) (hd : den ≤ 9223372036854775807) (w : World) :
    Calls Try.prog 38 #[.int .u64 n, .int .i64 num, .int .i64 den] w fun e w' => e = .returned (.tuple #[.int .u64 (rankI n num den : Nat), .int .i64 (rankE n num den)]) ∧ ∃ n, w' = w.drewN n := by
  by_cases h0 : den < 1 ∨ num < 0 ∨ den < num
  · have e1 : rankE n num den = 1 := by rw [rankE, if_pos h0]
    have e2 : rankI n num den = 0 := by rw [rankI, e1]; rfl
    have h0 : den < 1 ∨ (1 ≤ den ∧ num < 0) ∨ (1 ≤ den ∧ 0 ≤ num ∧ den < num) := by omega
    replace e1 := Lib.hid e1; replace e2 := Lib.hid e2
    clear hn hd
    rcases h0 with h | ⟨h, h'⟩ | ⟨h, h', h''⟩
    all_goals
      go_enter Try.func38, Try.ntmps38
      go_wp2
      go_ret2
      exact ⟨ret_ue (a := 0) e2.out.symm e1.out.symm, 0, rfl⟩
  · have b1 : 1 ≤ den := by omega
    have b2 : 0 ≤ num := by omega
    have b3 : num ≤ den := by omega
    by_cases hz : n = 0
    · have e1 : rankE n num den = 16 := by rw [rankE, if_neg h0, if_pos hz]
      have e2 : rankI n num den = 0 := by rw [rankI, e1]; rfl
      replace e1 := Lib.hid e1; replace e2 := Lib.hid e2
      have hz' : ((n : Int) == 0) = true := beq_iff_eq.2 (by omega)
      clear hn hd hz h0
      go_enter Try.func38, Try.ntmps38
      go_wp2
      go_ret2
      exact ⟨ret_ue (a := 0) e2.out.symm e1.out.symm, 0, rfl⟩
    · have e1 : rankE n num den = 0 := by rw [rankE, if_neg h0, if_neg hz]
      have hz' : ((n : Int) == 0) = false := beq_eq_false_iff_ne.2 (by omega)
      obtain ⟨q1, q2, q3, q4, q5, q6⟩ := rank_nums hn b2 b3 b1 hd
      have cm := rmul_any n num.toNat hn (by omega)
      have cd := rdiv_any (hiM n num.toNat) (loM n num.toNat) den.toNat q3 (by omega) q4
      rw [q1, q2] at cd
      obtain ⟨q, hq⟩ : ∃ x, x = n * num.toNat / den.toNat := ⟨_, rfl⟩
      obtain ⟨r, hr⟩ : ∃ x, x = n * num.toNat % den.toNat := ⟨_, rfl⟩
      have e2 : rankI n num den = max (q + (if r = 0 then 0 else 1)) 1 := by rw [rankI, if_pos e1, ← hq, ← hr]
      rw [← hq, ← hr] at cd
      rw [← hq] at q6 q5
      rw [← hr] at q5
      have d1 : ((den.toNat : Nat) : Int) = den := by omega
      have d2 : ((num.toNat : Nat) : Int) = num := by omega
      rw [d1] at cd
      rw [d2] at cm
      have q7 : (q : Int) ≤ 18446744073709551615 := by omega
      have q8 : 0 < r → (q : Int) + 1 ≤ 18446744073709551615 := fun h => by have := q5 h; omega
      replace e1 := Lib.hid e1; replace e2 := Lib.hid e2
      clear q1 q2 q3 q4 q5 q6 hq hr h0 hz d1 d2 hn
      by_cases hr0 : r = 0
      · subst hr0
        clear q8
        go_enter Try.func38, Try.ntmps38
        go_wp2_with (first | (go_at_call 55; refine (cm _).mono ?_; rintro e w' ⟨rfl, n, rfl⟩) | (go_at_call 56; refine (cd _).mono ?_; rintro e w' ⟨rfl, n, rfl⟩))
        go_ret2
        exact ⟨ret_i2 (by rw [e2.out]; simp; omega) e1.out.symm, _, rfl⟩
      · have q9 := q8 (by omega)
        have r1 : 0 < r := by omega
        have r2 : ¬ r = 0 := hr0
        obtain ⟨q', hq'⟩ : ∃ q', q' = q + 1 := ⟨_, rfl⟩
        have q10 : IntKind.u64.wrap ((q : Int) + 1) = (q' : Int) := by rw [IntWalk.u64_in _ (by omega)]; omega
        clear q8 hr0 q9 q7
        replace hq' := Lib.hid hq'
        go_enter Try.func38, Try.ntmps38
        go_wp2_with (first | (go_at_call 55; refine (cm _).mono ?_; rintro e w' ⟨rfl, n, rfl⟩) | (go_at_call 56; refine (cd _).mono ?_; rintro e w' ⟨rfl, n, rfl⟩))
        go_ret2
        exact ⟨ret_i2 (by rw [e2.out, if_neg r2, ← hq'.out]; omega) e1.out.symm, _, rfl⟩
end Go.Proofs.Ytonacegkhkncmaa.Rk
