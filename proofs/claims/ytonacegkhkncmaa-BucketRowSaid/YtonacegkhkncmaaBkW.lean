/- The statement on the row of all buckets: the walks. -/
import Derived.Test.YtonacegkhkncmaaBkH
namespace Go.Proofs.Ytonacegkhkncmaa.Bk
open Go.RowKit
open Go.Proofs.Ytonacegkhkncmaa.BkM
set_option linter.unusedVariables false

theorem row_bad (p i : Int) (h : ¬ good p) (hi0 : -9223372036854775808 ≤ i) (hi : i ≤ 9223372036854775807) (w : World) :
    Calls Try.prog 6 #[.int .i64 p, .int .i64 i] w fun e w' => e = .returned (.bool true) ∧ Grown w w' := by
  have c3 := low_any p i hi0 hi
  have c4 := high_any p i hi0 hi
  have e0 : lenI p = 0 := by simp [lenI, h]
  have e1 : lowE p i = 1 := by simp [lowE, h]
  have e2 : lowI p i = 0 := by simp [lowI, e1]
  have e3 : higI p i = 0 := by simp [higI, lowI, morI, e1]
  rw [e1, e2] at c3
  rw [e1, e3] at c4
  have c5 := length_any p
  rw [e0] at c5
  have h : p < 1 ∨ 14 < p := by unfold good at h; omega
  clear hi0 hi e0 e1 e2 e3
  rcases h with h | h
  all_goals
    go_enter Try.func6, Try.ntmps6
    go_wp2_with (first | (go_at_call 12; refine (awake_t _).mono ?_; rintro e w' ⟨rfl, n, rfl⟩) | (go_at_call 19; refine (c5 _).mono ?_; rintro e w' ⟨rfl, rfl⟩) | (go_at_call 15; refine (c3 _).mono ?_; rintro e w' ⟨rfl, n, rfl⟩) | (go_at_call 17; refine (c4 _).mono ?_; rintro e w' ⟨rfl, n, rfl⟩))
    go_ret
    exact ⟨ret_bool (by first | rfl | (simp; done) | (simp; omega)), grown_drewN (Grown.refl _) _⟩

theorem row_out (p i : Int) (h : good p) (h0 : i < 0 ∨ (0 ≤ i ∧ lenI p ≤ i)) (hi0 : -9223372036854775808 ≤ i) (hi : i ≤ 9223372036854775807) (w : World) :
    Calls Try.prog 6 #[.int .i64 p, .int .i64 i] w fun e w' => e = .returned (.bool true) ∧ Grown w w' := by
  have c3 := low_any p i hi0 hi
  have c4 := high_any p i hi0 hi
  have e1 : lowE p i = 2 := by 
    have h0 : i < 0 ∨ lenI p ≤ i := by omega
    simp only [lowE, h, not_true, if_false, h0, if_true]
  have e2 : lowI p i = 0 := by simp [lowI, e1]
  have e3 : higI p i = 0 := by simp [higI, lowI, morI, e1]
  rw [e1, e2] at c3
  rw [e1, e3] at c4
  obtain ⟨h1, h2⟩ := h
  clear hi0 hi e1 e2 e3
  have c5 := length_any p
  generalize lenI p = N at *
  rcases h0 with h | ⟨h, h'⟩
  all_goals
    go_enter Try.func6, Try.ntmps6
    go_wp2_with (first | (go_at_call 12; refine (awake_t _).mono ?_; rintro e w' ⟨rfl, n, rfl⟩) | (go_at_call 19; refine (c5 _).mono ?_; rintro e w' ⟨rfl, rfl⟩) | (go_at_call 15; refine (c3 _).mono ?_; rintro e w' ⟨rfl, n, rfl⟩) | (go_at_call 17; refine (c4 _).mono ?_; rintro e w' ⟨rfl, n, rfl⟩))
    go_ret
    exact ⟨ret_bool (by first | rfl | (simp; done) | (simp; omega)), grown_drewN (Grown.refl _) _⟩

theorem lenI_two {p : Int} (h : good p) : 2 ≤ lenI p := by
  obtain ⟨h1, h2⟩ := id h
  obtain ⟨n, rfl⟩ := Int.eq_ofNat_of_zero_le (a := p) (by omega)
  have := Nat.mul_le_mul (show 2 ≤ 64 - n by omega) (pow_pos' n)
  rw [lenI_nat h]; omega

theorem row_zero (p i : Int) (h : good p) (h0 : i = 0) (w : World) :
    Calls Try.prog 6 #[.int .i64 p, .int .i64 i] w fun e w' => e = .returned (.bool true) ∧ Grown w w' := by
  have hl := lenI_two h
  have hi : i < lenI p := by omega
  obtain ⟨f1, f2, f3, f4, f5, f6, f7, f8, f9, f10⟩ := row_facts h (by omega) hi
  obtain ⟨k3, k4⟩ := f9 (by omega)
  have k5 := @lo_rng p (i + 1)
  have c3 := low_any p i (by omega) (by omega)
  have c4 := high_any p i (by omega) (by omega)
  have c1 := index_any p (lowI p i) (by omega)
  have c2 := index_any p (higI p i) (by omega)
  have c6 := low_any p (i + 1) (by omega) (by omega)
  rw [f1] at c3 c4
  rw [f5, idxE_ok h (by omega)] at c1
  rw [f6, idxE_ok h (by omega)] at c2
  rw [k3, k4] at c6
  have k6 : higI p i + 1 ≤ 9223372036854775807 := by omega
  have k1 := f7 h0
  rw [k1] at c1 c3 f3
  have c5 := length_any p
  obtain ⟨h1, h2⟩ := h
  subst h0
  clear f1 f2 f5 f6 f7 f8 f9 k1 k3 k4 k5
  generalize higI p 0 = H at *
  generalize lenI p = N at *
  have b1 : ((0 : Int) == N - 1) = false := beq_eq_false_iff_ne.2 (by omega)
  go_enter Try.func6, Try.ntmps6
  go_wp2_with fail
  refine (awake_t _).mono ?_; rintro e w' ⟨rfl, n, rfl⟩
  go_wp2_with fail
  refine (c5 _).mono ?_; rintro e w' ⟨rfl, rfl⟩
  go_wp2_with fail
  refine (c3 _).mono ?_; rintro e w' ⟨rfl, n, rfl⟩
  go_wp2_with fail
  refine (c4 _).mono ?_; rintro e w' ⟨rfl, n, rfl⟩
  go_wp2_with fail
  refine (c1 _).mono ?_; rintro e w' ⟨rfl, n, rfl⟩
  go_wp2_with fail
  refine (c2 _).mono ?_; rintro e w' ⟨rfl, n, rfl⟩
  go_wp2_with fail
  refine (c6 _).mono ?_; rintro e w' ⟨rfl, n, rfl⟩
  go_wp2_with fail
  go_ret
  exact ⟨ret_bool (by first | rfl | (simp; done) | (simp; omega)), grown_drewN (Grown.refl _) _⟩

theorem row_mid (p i : Int) (h : good p) (h0 : 0 < i) (hi : i < lenI p - 1) (w : World) :
    Calls Try.prog 6 #[.int .i64 p, .int .i64 i] w fun e w' => e = .returned (.bool true) ∧ Grown w w' := by
  obtain ⟨f1, f2, f3, f4, f5, f6, f7, f8, f9, f10⟩ := row_facts (i := i) h (by omega) (by omega)
  obtain ⟨k3, k4⟩ := f9 (by omega)
  have k5 := @lo_rng p (i + 1)
  have c3 := low_any p i (by omega) (by omega)
  have c4 := high_any p i (by omega) (by omega)
  have c1 := index_any p (lowI p i) (by omega)
  have c2 := index_any p (higI p i) (by omega)
  have c6 := low_any p (i + 1) (by omega) (by omega)
  rw [f1] at c3 c4
  rw [f5, idxE_ok h (by omega)] at c1
  rw [f6, idxE_ok h (by omega)] at c2
  rw [k3, k4] at c6
  have k6 : higI p i + 1 ≤ 9223372036854775807 := by omega
  have c5 := length_any p
  obtain ⟨h1, h2⟩ := h
  clear f1 f5 f6 f7 f8 f9 k3 k4 k5
  generalize higI p i = H at *
  generalize lowI p i = L at *
  generalize lenI p = N at *
  have b0 : (i == 0) = false := beq_eq_false_iff_ne.2 (by omega)
  have b1 : (i == N - 1) = false := beq_eq_false_iff_ne.2 (by omega)
  go_enter Try.func6, Try.ntmps6
  go_wp2_with fail
  refine (awake_t _).mono ?_; rintro e w' ⟨rfl, n, rfl⟩
  go_wp2_with fail
  refine (c5 _).mono ?_; rintro e w' ⟨rfl, rfl⟩
  go_wp2_with fail
  refine (c3 _).mono ?_; rintro e w' ⟨rfl, n, rfl⟩
  go_wp2_with fail
  refine (c4 _).mono ?_; rintro e w' ⟨rfl, n, rfl⟩
  go_wp2_with fail
  refine (c1 _).mono ?_; rintro e w' ⟨rfl, n, rfl⟩
  go_wp2_with fail
  refine (c2 _).mono ?_; rintro e w' ⟨rfl, n, rfl⟩
  go_wp2_with fail
  refine (c6 _).mono ?_; rintro e w' ⟨rfl, n, rfl⟩
  go_wp2_with fail
  go_ret
  exact ⟨ret_bool (by first | rfl | (simp; done) | (simp; omega)), grown_drewN (Grown.refl _) _⟩

theorem row_last (p i : Int) (h : good p) (hi : i = lenI p - 1) (w : World) :
    Calls Try.prog 6 #[.int .i64 p, .int .i64 i] w fun e w' => e = .returned (.bool true) ∧ Grown w w' := by
  have hl := lenI_two h
  obtain ⟨f1, f2, f3, f4, f5, f6, f7, f8, f9, f10⟩ := row_facts (i := i) h (by omega) (by omega)
  have c3 := low_any p i (by omega) (by omega)
  have c4 := high_any p i (by omega) (by omega)
  have c1 := index_any p (lowI p i) (by omega)
  have c2 := index_any p (higI p i) (by omega)
  rw [f1] at c3 c4
  rw [f5, idxE_ok h (by omega)] at c1
  rw [f6, idxE_ok h (by omega)] at c2
  rw [f8 hi] at c4 c2 f3
  have c5 := length_any p
  have r1 : i < lenI p := by omega
  have r2 : 0 < i := by omega
  obtain ⟨h1, h2⟩ := h
  clear f1 f2 f5 f6 f7 f8 f9
  generalize lowI p i = L at *
  generalize lenI p = N at *
  have b0 : (i == 0) = false := beq_eq_false_iff_ne.2 (by omega)
  have b1 : (i == N - 1) = true := beq_iff_eq.2 (by omega)
  clear hi
  go_enter Try.func6, Try.ntmps6
  go_wp2_with fail
  refine (awake_t _).mono ?_; rintro e w' ⟨rfl, n, rfl⟩
  go_wp2_with fail
  refine (c5 _).mono ?_; rintro e w' ⟨rfl, rfl⟩
  go_wp2_with fail
  refine (c3 _).mono ?_; rintro e w' ⟨rfl, n, rfl⟩
  go_wp2_with fail
  refine (c4 _).mono ?_; rintro e w' ⟨rfl, n, rfl⟩
  go_wp2_with fail
  refine (c1 _).mono ?_; rintro e w' ⟨rfl, n, rfl⟩
  go_wp2_with fail
  refine (c2 _).mono ?_; rintro e w' ⟨rfl, n, rfl⟩
  go_wp2_with fail
  go_ret
  exact ⟨ret_bool (by first | rfl | (simp; done) | (simp; omega)), grown_drewN (Grown.refl _) _⟩

theorem row_all (p i : Int) (hi0 : -9223372036854775808 ≤ i) (hi : i ≤ 9223372036854775807) (w : World) :
    Calls Try.prog 6 #[.int .i64 p, .int .i64 i] w fun e w' => e = .returned (.bool true) ∧ Grown w w' := by
  by_cases h : good p
  · rcases Int.lt_trichotomy i 0 with a | a | a
    · exact row_out p i h (Or.inl a) hi0 hi w
    · exact row_zero p i h a w
    · rcases Int.lt_trichotomy i (lenI p - 1) with b | b | b
      · exact row_mid p i h a b w
      · exact row_last p i h b w
      · exact row_out p i h (Or.inr ⟨by omega, by omega⟩) hi0 hi w
  · exact row_bad p i h hi0 hi w
end Go.Proofs.Ytonacegkhkncmaa.Bk
