/- The law's own tests: less, exact, within. -/
import Derived.Test.YtonacegkhkncmaaRkC
namespace Go.Proofs.Ytonacegkhkncmaa.Rk
open Go.RowKit Go.Proofs.Ytonacegkhkncmaa.Sl Go.Proofs.Ytonacegkhkncmaa.Bk
set_option linter.unusedVariables false

/-- A product of a number of 32 bits by one of 64: its two halves, as the walk names them. -/
theorem half_nums {a b : Nat} (ha : a ≤ 2147483648) (hb : b ≤ 18446744073709551615) : ∃ bl bh lw p hg lm : Nat,
    bits BinOp.and IntKind.u64 (b : Int) 4294967295 = (bl : Int) ∧ IntKind.u64.wrap ((a : Int) * bl) = (lw : Int) ∧ (b : Int) / 4294967296 = (bh : Int) ∧ IntKind.u64.wrap ((a : Int) * bh) = (p : Int) ∧
    IntKind.u64.wrap ((p : Int) + (lw : Int) / 4294967296) = (hg : Int) ∧ bits BinOp.and IntKind.u64 (lw : Int) 4294967295 = (lm : Int) ∧ lm < 4294967296 ∧ a * b = hg * 4294967296 + lm := by
  obtain ⟨bl, h1⟩ : ∃ x, x = b % 4294967296 := ⟨_, rfl⟩
  obtain ⟨bh, h2⟩ : ∃ x, x = b / 4294967296 := ⟨_, rfl⟩
  have l1 : bl ≤ 4294967295 := by omega
  have l2 : bh ≤ 4294967295 := by omega
  have m1 : a * bl ≤ 2147483648 * 4294967295 := Nat.mul_le_mul ha l1
  have m2 : a * bh ≤ 2147483648 * 4294967295 := Nat.mul_le_mul ha l2
  have e : a * b = a * bh * 4294967296 + a * bl := by
    have : b = bh * 4294967296 + bl := by omega
    rw [this, Nat.mul_add, Nat.mul_assoc]
  obtain ⟨lw, q1⟩ : ∃ x, x = a * bl := ⟨_, rfl⟩
  obtain ⟨p, q2⟩ : ∃ x, x = a * bh := ⟨_, rfl⟩
  rw [← q1, ← q2] at e
  rw [← q1] at m1
  rw [← q2] at m2
  obtain ⟨hg, q3⟩ : ∃ x, x = p + lw / 4294967296 := ⟨_, rfl⟩
  obtain ⟨lm, q4⟩ : ∃ x, x = lw % 4294967296 := ⟨_, rfl⟩
  have z0 : (b : Int) / 4294967296 = (bh : Int) := by omega
  have z1 : lm < 4294967296 := by rw [q4]; exact Nat.mod_lt _ (by decide)
  have z2 : a * b = hg * 4294967296 + lm := by rw [e, q3, q4]; omega
  refine ⟨bl, bh, lw, p, hg, lm, ?_, ?_, z0, ?_, ?_, ?_, z1, z2⟩
  · rw [and_low32 _ (by omega) (by omega)]; omega
  · rw [← Int.natCast_mul, ← q1]; exact IntWalk.u64_in _ (by omega)
  · rw [← Int.natCast_mul, ← q2]; exact IntWalk.u64_in _ (by omega)
  · rw [IntWalk.u64_in _ (by omega)]; omega
  · rw [and_low32 _ (by omega) (by omega)]; omega

set_option maxRecDepth 100000 in
theorem less_any (a b c d : Nat) (ha : a ≤ 2147483648) (hc : c ≤ 2147483648) (hb : b ≤ 18446744073709551615) (hd : d ≤ 18446744073709551615) (w : World) :
    Calls Try.prog 47 #[.int .u64 a, .int .u64 b, .int .u64 c, .int .u64 d] w fun e w' => e = .returned (.bool (decide (a * b ≤ c * d))) ∧ w = w' := by
  obtain ⟨bl, bh, lw, p, hg, lm, r1, r2, r3, r4, r5, r6, r7, r8⟩ := half_nums ha hb
  obtain ⟨dl, dh, lv, q, hh, ln, s1, s2, s3, s4, s5, s6, s7, s8⟩ := half_nums hc hd
  have key : decide (a * b ≤ c * d) = (decide (hg < hh) || (decide (hg = hh) && decide (lm ≤ ln))) := by
    rw [r8, s8, Bool.eq_iff_iff]
    simp; omega
  have cases3 : (decide ((hg : Int) < (hh : Int)) = true) ∨ (decide ((hg : Int) < (hh : Int)) = false ∧ ((hg : Int) == (hh : Int)) = true) ∨ (decide ((hg : Int) < (hh : Int)) = false ∧ ((hg : Int) == (hh : Int)) = false) := by
    rcases Nat.lt_trichotomy hg hh with h | h | h
    · exact .inl (decide_eq_true (by omega))
    · exact .inr (.inl ⟨decide_eq_false (by omega), beq_iff_eq.2 (by omega)⟩)
    · exact .inr (.inr ⟨decide_eq_false (by omega), beq_eq_false_iff_ne.2 (by omega)⟩)
  replace key := Lib.hid key
  clear r7 r8 s7 s8 ha hb hc hd
  rcases cases3 with k1 | ⟨k1, k2⟩ | ⟨k1, k2⟩
  · have hfin : decide (a * b ≤ c * d) = true := by
      have := of_decide_eq_true k1
      rw [key.out, decide_eq_true (show hg < hh by omega)]; rfl
    replace hfin := Lib.hid hfin
    clear key
    have k1' : (hg : Int) < (hh : Int) := of_decide_eq_true k1
    go_enter Try.func47, Try.ntmps47
    go_wp2
    go_ret
    exact ⟨by rw [hfin.out]; simp, rfl⟩
  · have hfin : decide (a * b ≤ c * d) = decide ((lm : Int) ≤ (ln : Int)) := by
      have h1 := of_decide_eq_false k1
      have h2 := beq_iff_eq.1 k2
      rw [key.out, decide_eq_false (show ¬ hg < hh by omega), decide_eq_true (show hg = hh by omega)]
      simp
    replace hfin := Lib.hid hfin
    clear key
    have k1' : ¬ (hg : Int) < (hh : Int) := of_decide_eq_false k1
    go_enter Try.func47, Try.ntmps47
    go_wp2
    all_goals
      go_ret
      exact ⟨by rw [hfin.out]; simp; try omega, rfl⟩
  · have hfin : decide (a * b ≤ c * d) = false := by
      have h1 := of_decide_eq_false k1
      have h2 := beq_eq_false_iff_ne.1 k2
      rw [key.out, decide_eq_false (show ¬ hg < hh by omega), decide_eq_false (show ¬ hg = hh by omega)]; rfl
    replace hfin := Lib.hid hfin
    clear key
    have k1' : ¬ (hg : Int) < (hh : Int) := of_decide_eq_false k1
    go_enter Try.func47, Try.ntmps47
    go_wp2
    go_ret
    exact ⟨by rw [hfin.out]; simp, rfl⟩

theorem rank_nat {n V q r d : Nat} (hd : 0 < d) (hdm : q * d + r = V) (hml : r < d) (hle : V ≤ n * d) (hn : 1 ≤ n) (x : Nat) (hx : x = max (q + if r = 0 then 0 else 1) 1) :
    V ≤ x * d ∧ (x = 1 ∨ ¬ V ≤ (x - 1) * d) ∧ 1 ≤ x ∧ x ≤ n := by
  have hqn : q ≤ n := by
    apply Classical.byContradiction; intro h
    have : (n + 1) * d ≤ q * d := Nat.mul_le_mul_right _ (by omega)
    rw [Nat.add_mul, Nat.one_mul] at this; omega
  by_cases hr0 : r = 0
  · rw [if_pos hr0, Nat.add_zero] at hx
    by_cases hq1 : 1 ≤ q
    · rw [Nat.max_eq_left hq1] at hx
      subst hx
      refine ⟨by omega, ?_, hq1, hqn⟩
      rcases Nat.eq_or_lt_of_le hq1 with h | h
      · exact .inl h.symm
      · refine .inr ?_
        obtain ⟨k, rfl⟩ : ∃ k, x = k + 1 := ⟨x - 1, by omega⟩
        rw [Nat.add_mul, Nat.one_mul] at hdm
        simp; omega
    · rw [Nat.max_eq_right (by omega)] at hx
      have : q = 0 := by omega
      subst this
      subst hx
      exact ⟨by omega, .inl rfl, Nat.le_refl _, hn⟩
  · rw [if_neg hr0, Nat.max_eq_left (by omega)] at hx
    subst hx
    refine ⟨by rw [Nat.add_mul, Nat.one_mul]; omega, ?_, by omega, ?_⟩
    · by_cases hq0 : q = 0
      · exact .inl (by omega)
      · exact .inr (by simp; omega)
    · apply Classical.byContradiction; intro h
      have : n * d ≤ q * d := Nat.mul_le_mul_right _ (by omega)
      omega

theorem rank_is {n : Nat} {num den : Int} (h0 : 0 ≤ num) (h1 : num ≤ den) (h2 : 1 ≤ den) (hn : 1 ≤ n) :
    n * num.toNat ≤ rankI n num den * den.toNat ∧ (rankI n num den = 1 ∨ ¬ n * num.toNat ≤ (rankI n num den - 1) * den.toNat) ∧ 1 ≤ rankI n num den ∧ rankI n num den ≤ n := by
  have hE : rankE n num den = 0 := by rw [rankE, if_neg (by omega), if_neg (by omega)]
  exact rank_nat (by omega) (Nat.div_add_mod' (n * num.toNat) den.toNat) (Nat.mod_lt _ (by omega)) (Nat.mul_le_mul_left _ (by omega)) hn _ (by rw [rankI, if_pos hE])

set_option maxRecDepth 100000 in
theorem exact_any (n : Nat) (num den : Int) (h0 : 0 ≤ num) (h1 : num ≤ den) (h2 : 1 ≤ den) (hd : den ≤ 9223372036854775807) (hn : 1 ≤ n) (hnn : n ≤ 18446744073709551615) (w : World) :
    Calls Try.prog 28 #[.int .u64 (rankI n num den : Nat), .int .u64 n, .int .u64 num, .int .u64 den] w fun e w' => e = .returned (.bool true) ∧ w = w' := by
  obtain ⟨q1, q2, q3, q4⟩ := rank_is h0 h1 h2 hn
  obtain ⟨r, hr⟩ : ∃ r, r = rankI n num den := ⟨_, rfl⟩
  rw [← hr] at q1 q2 q3 q4 ⊢
  by_cases hbig : 2147483648 < n
  · have hb : (2147483648 : Int) < (n : Int) := by omega
    clear q1 q2 q3 q4 hr hd hnn hbig
    go_enter Try.func28, Try.ntmps28
    go_wp2
    go_ret
    exact ⟨rfl, rfl⟩
  · have hb : ¬ (2147483648 : Int) < (n : Int) := by omega
    have c1 := less_any n num.toNat r den.toNat (by omega) (by omega) (by omega) (by omega)
    rw [decide_eq_true q1] at c1
    have e1 : ((num.toNat : Nat) : Int) = num := by omega
    have e2 : ((den.toNat : Nat) : Int) = den := by omega
    rw [e1, e2] at c1
    rcases q2 with q2 | q2
    · have k1 : ((r : Int) == 1) = true := beq_iff_eq.2 (by omega)
      clear q1 q2 q3 q4 hr hd hnn hbig e1 e2
      go_enter Try.func28, Try.ntmps28
      go_wp2_with fail
      refine (c1 _).mono ?_; rintro e w1 ⟨rfl, rfl⟩
      go_wp2
      go_ret
      exact ⟨rfl, rfl⟩
    · have c2 := less_any n num.toNat (r - 1) den.toNat (by omega) (by omega) (by omega) (by omega)
      rw [decide_eq_false q2] at c2
      have e3 : ((r - 1 : Nat) : Int) = (r : Int) - 1 := by omega
      rw [e1, e2, e3] at c2
      by_cases hr1 : r = 1
      · have k1 : ((r : Int) == 1) = true := beq_iff_eq.2 (by omega)
        clear q1 q2 q3 q4 hr hd hnn hbig e1 e2 e3 hr1 c2
        go_enter Try.func28, Try.ntmps28
        go_wp2_with fail
        refine (c1 _).mono ?_; rintro e w1 ⟨rfl, rfl⟩
        go_wp2
        go_ret
        exact ⟨rfl, rfl⟩
      · have k1 : ((r : Int) == 1) = false := beq_eq_false_iff_ne.2 (by omega)
        have k2 : (1 : Int) ≤ (r : Int) := by omega
        have k3 : (r : Int) ≤ 2147483648 := by omega
        clear q1 q2 q3 q4 hr hd hnn hbig e1 e2 e3 hr1
        go_enter Try.func28, Try.ntmps28
        go_wp2_with fail
        refine (c1 _).mono ?_; rintro e w1 ⟨rfl, rfl⟩
        go_wp2_with fail
        refine (c2 _).mono ?_; rintro e w1 ⟨rfl, rfl⟩
        go_wp2
        go_ret
        exact ⟨rfl, rfl⟩
end Go.Proofs.Ytonacegkhkncmaa.Rk
