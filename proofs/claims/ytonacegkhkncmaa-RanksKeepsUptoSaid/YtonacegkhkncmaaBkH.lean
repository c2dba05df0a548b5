/- The statements on a bucket's ends and on the row of all buckets: plain facts, then the walks. -/
import Derived.Test.YtonacegkhkncmaaBkL
namespace Go.Proofs.Ytonacegkhkncmaa.Bk
open Go.RowKit
open Go.Proofs.Ytonacegkhkncmaa.BkM
set_option linter.unusedVariables false

theorem idxE_ok {p v : Int} (h : good p) (h0 : 0 ≤ v) : idxE p v = 0 := by
  have : ¬ v < 0 := by omega
  simp [idxE, h, this]

theorem lenI_nat {n : Nat} (h : good n) : lenI n = (((64 - n) * 2 ^ n : Nat) : Int) := by rw [lenI, if_pos h, Int.toNat_natCast]
theorem lowE_nat {n u : Nat} (h : good n) (hl : u < (64 - n) * 2 ^ n) : lowE n u = 0 := by
  have : ¬ ((u : Int) < 0 ∨ lenI n ≤ u) := by rw [lenI_nat h]; omega
  simp only [lowE, h, not_true, if_false, this]
theorem idxI_nat {n u : Nat} (h : good n) : idxI n u = (bk n u : Nat) := by
  rw [idxI, if_pos ⟨h, by omega⟩, Int.toNat_natCast, Int.toNat_natCast]
theorem lowI_nat {n u : Nat} (h : good n) (hl : u < (64 - n) * 2 ^ n) : lowI n u = (lo n u : Nat) := by
  rw [lowI, if_pos (lowE_nat h hl), Int.toNat_natCast, Int.toNat_natCast]
theorem higI_nat {n u : Nat} (h : good n) (hl : u < (64 - n) * 2 ^ n) : higI n u = (lo n u + mo n u : Nat) := by
  rw [higI, lowI_nat h hl, morI, if_pos (lowE_nat h hl), Int.toNat_natCast, Int.toNat_natCast]; omega

theorem holds_facts {p v : Int} (h : good p) (h0 : 0 ≤ v) (hv : v ≤ 9223372036854775807) :
    lowE p (idxI p v) = 0 ∧ lowI p (idxI p v) ≤ v ∧ v ≤ higI p (idxI p v) ∧ higI p (idxI p v) - v ≤ v / 2 ^ p.toNat ∧ 0 ≤ idxI p v ∧ idxI p v < lenI p ∧
      ∀ w : Int, 0 ≤ w → (lowI p (idxI p v) ≤ w → w ≤ higI p (idxI p v) → idxI p w = idxI p v) ∧ (w < lowI p (idxI p v) → idxI p w < idxI p v) ∧ (higI p (idxI p v) < w → idxI p v < idxI p w) := by
  obtain ⟨h1, h2⟩ := id h
  obtain ⟨n, rfl⟩ := Int.eq_ofNat_of_zero_le (a := p) (by omega)
  obtain ⟨u, rfl⟩ := Int.eq_ofNat_of_zero_le h0
  have hl := bk_lt (p := n) (v := u) (by omega) (by omega)
  have hb := bk_in n u
  have hw := wide (p := n) (v := u)
  rw [idxI_nat h, lowE_nat h hl, lowI_nat h hl, higI_nat h hl, lenI_nat h]
  refine ⟨rfl, by omega, by omega, ?_, by omega, by omega, ?_⟩
  · rw [Int.toNat_natCast]
    have e : (u : Int) / 2 ^ n = ((u / 2 ^ n : Nat) : Int) := by simp
    rw [e]; generalize u / 2 ^ n = q at *; omega
  · intro w w0
    obtain ⟨x, rfl⟩ := Int.eq_ofNat_of_zero_le w0
    rw [idxI_nat h]
    refine ⟨fun a b => ?_, fun a => ?_, fun a => ?_⟩
    · have := bk_eq (p := n) (v := x) (i := bk n u) |>.2 ⟨by omega, by omega⟩
      rw [this]
    · have b := bk_in n x
      have : bk n x < bk n u := by
        rcases Nat.lt_trichotomy (bk n x) (bk n u) with c | c | c
        · exact c
        · rw [c] at b; omega
        · have := lo_lt (p := n) c; omega
      omega
    · have b := bk_in n x
      have : bk n u < bk n x := by
        rcases Nat.lt_trichotomy (bk n x) (bk n u) with c | c | c
        · have := lo_lt (p := n) c; omega
        · rw [c] at b; omega
        · exact c
      omega

theorem row_facts {p i : Int} (h : good p) (h0 : 0 ≤ i) (hi : i < lenI p) :
    lowE p i = 0 ∧ 0 ≤ lowI p i ∧ lowI p i ≤ higI p i ∧ higI p i ≤ 9223372036854775807 ∧ idxI p (lowI p i) = i ∧ idxI p (higI p i) = i ∧ (i = 0 → lowI p i = 0) ∧ (i = lenI p - 1 → higI p i = 9223372036854775807) ∧
      (i ≠ lenI p - 1 → lowE p (i + 1) = 0 ∧ lowI p (i + 1) = higI p i + 1) ∧ lenI p ≤ 1048576 := by
  obtain ⟨h1, h2⟩ := id h
  obtain ⟨n, rfl⟩ := Int.eq_ofNat_of_zero_le (a := p) (by omega)
  obtain ⟨u, rfl⟩ := Int.eq_ofNat_of_zero_le h0
  have hs := size14 (n := n) (by omega)
  rw [lenI_nat h] at hi ⊢
  have hl : u < (64 - n) * 2 ^ n := by omega
  have hh := hi_lt (p := n) (i := u) (by omega) hl
  rw [lowE_nat h hl, lowI_nat h hl, higI_nat h hl, idxI_nat h, idxI_nat h, bk_lo, bk_hi]
  refine ⟨rfl, by omega, by omega, by omega, rfl, rfl, fun e => ?_, fun e => ?_, fun e => ?_, by omega⟩
  · obtain rfl : u = 0 := by omega
    rw [lo_zero]; rfl
  · have := hi_last (p := n) (i := u) (by omega) (by omega); omega
  · have hl' : u + 1 < (64 - n) * 2 ^ n := by omega
    have e1 : (u : Int) + 1 = ((u + 1 : Nat) : Int) := by omega
    rw [e1, lowE_nat h hl', lowI_nat h hl', lo_succ]
    exact ⟨rfl, by omega⟩

theorem holds_bad (p v x : Int) (h : ¬ good p) (hv : v ≤ 9223372036854775807) (w : World) :
    Calls Try.prog 5 #[.int .i64 p, .int .i64 v, .int .i64 x] w fun e w' => e = .returned (.bool true) ∧ Grown w w' := by
  have c1 := index_any p v hv
  have e1 : (idxE p v == 1) = true := by simp [idxE, h]
  have e2 : (idxI p v == 0) = true := by simp [idxI, h]
  have h : p < 1 ∨ 14 < p := by unfold good at h; omega
  clear hv
  rcases h with h | h
  all_goals
    go_enter Try.func5, Try.ntmps5
    go_wp2_with (first | (go_at_call 12; refine (awake_t _).mono ?_; rintro e w' ⟨rfl, n, rfl⟩) | (go_at_call 13; refine (c1 _).mono ?_; rintro e w' ⟨rfl, n, rfl⟩))
    go_ret
    exact ⟨ret_bool (by first | rfl | (simp; done) | (simp; omega)), grown_drewN (Grown.refl _) _⟩

theorem holds_neg (p v x : Int) (h : good p) (h0 : v < 0) (hv : v ≤ 9223372036854775807) (w : World) :
    Calls Try.prog 5 #[.int .i64 p, .int .i64 v, .int .i64 x] w fun e w' => e = .returned (.bool true) ∧ Grown w w' := by
  have c1 := index_any p v hv
  have e1 : (idxE p v == 2) = true := by simp [idxE, h, h0]
  have e2 : (idxI p v == 0) = true := by simp [idxI]; intro _ h1; omega
  obtain ⟨h1, h2⟩ := h
  clear hv
  go_enter Try.func5, Try.ntmps5
  go_wp2_with (first | (go_at_call 12; refine (awake_t _).mono ?_; rintro e w' ⟨rfl, n, rfl⟩) | (go_at_call 13; refine (c1 _).mono ?_; rintro e w' ⟨rfl, n, rfl⟩))
  go_ret
  exact ⟨ret_bool (by first | rfl | (simp; done) | (simp; omega)), grown_drewN (Grown.refl _) _⟩

set_option maxHeartbeats 1600000 in
theorem holds_pos (p v x : Int) (h : good p) (h0 : 0 ≤ v) (hv : v ≤ 9223372036854775807) (hx : x ≤ 9223372036854775807) (w : World) :
    Calls Try.prog 5 #[.int .i64 p, .int .i64 v, .int .i64 x] w fun e w' => e = .returned (.bool true) ∧ Grown w w' := by
  have c1 := index_any p v hv
  have c2 := index_any p x hx
  obtain ⟨f1, f2, f3, f4, f5, f6, f7⟩ := holds_facts h h0 hv
  have hs := (idx_small (p := p) (v := v)).2 hv
  have c3 := low_any p (idxI p v) (by omega) (by omega)
  have c4 := high_any p (idxI p v) (by omega) (by omega)
  have r := @lo_rng p (idxI p v)
  obtain ⟨r1, r2, r3⟩ := r
  have r4 : higI p (idxI p v) ≤ 9223372036854775807 := r3
  have g1 : (idxE p v != 0) = false := by simp [idxE_ok h h0]
  have g2 : (lowE p (idxI p v) != 0) = false := by simp [f1]
  obtain ⟨h1, h2⟩ := id h
  have hsm := Lib.hid hs
  clear hs hv f1 r2 r3
  by_cases hx0 : x < 0
  · have g3 : (idxE p x == 2) = true := by simp [idxE, h, hx0]
    clear f7
    generalize idxI p v = I at *
    generalize higI p I = H at *
    generalize lowI p I = L at *
    go_enter Try.func5, Try.ntmps5
    go_wp2_with fail
    refine (awake_t _).mono ?_; rintro e w' ⟨rfl, n, rfl⟩
    go_wp2_with fail
    refine (c1 _).mono ?_; rintro e w' ⟨rfl, n, rfl⟩
    go_wp2_with fail
    refine (c3 _).mono ?_; rintro e w' ⟨rfl, n, rfl⟩
    go_wp2_with fail
    refine (c4 _).mono ?_; rintro e w' ⟨rfl, n, rfl⟩
    go_wp2_with (first | (go_at_call 19; refine (length_any _ _).mono ?_; rintro e w' ⟨rfl, rfl⟩) | (go_at_call 13; refine (c2 _).mono ?_; rintro e w' ⟨rfl, n, rfl⟩))
    go_ret
    exact ⟨ret_bool (by first | rfl | (simp; done) | (simp; omega)), grown_drewN (Grown.refl _) _⟩
  · have g3 : (idxE p x == 0) = true := by simp [idxE_ok h (show 0 ≤ x by omega)]
    obtain ⟨q1, q2, q3⟩ := f7 x (by omega)
    clear f7
    generalize idxI p v = I at *
    generalize higI p I = H at *
    generalize lowI p I = L at *
    generalize idxI p x = J at *
    have key : (L ≤ x ∧ x ≤ H ∧ J ≤ I ∧ I ≤ J ∧ (I == J) = true) ∨ (x < L ∧ J < I ∧ (I == J) = false) ∨ (H < x ∧ I < J ∧ (I == J) = false) := by
      rcases Int.lt_or_le x L with a | a
      · exact Or.inr (Or.inl ⟨a, q2 a, beq_eq_false_iff_ne.2 (by have := q2 a; omega)⟩)
      · rcases Int.lt_or_le H x with b | b
        · exact Or.inr (Or.inr ⟨b, q3 b, beq_eq_false_iff_ne.2 (by have := q3 b; omega)⟩)
        · have := q1 a b
          exact Or.inl ⟨a, b, by omega, by omega, beq_iff_eq.2 this.symm⟩
    clear q1 q2 q3
    rcases key with ⟨k1, k2, k3, k4, k5⟩ | ⟨k1, k2, k3⟩ | ⟨k1, k2, k3⟩
    · rcases Int.lt_trichotomy v x with hvx | rfl | hvx
      all_goals
        go_enter Try.func5, Try.ntmps5
        go_wp2_with fail
        refine (awake_t _).mono ?_; rintro e w' ⟨rfl, n, rfl⟩
        go_wp2_with fail
        refine (c1 _).mono ?_; rintro e w' ⟨rfl, n, rfl⟩
        go_wp2_with fail
        refine (c3 _).mono ?_; rintro e w' ⟨rfl, n, rfl⟩
        go_wp2_with fail
        refine (c4 _).mono ?_; rintro e w' ⟨rfl, n, rfl⟩
        go_wp2_with (first | (go_at_call 19; refine (length_any _ _).mono ?_; rintro e w' ⟨rfl, rfl⟩) | (go_at_call 13; refine (c2 _).mono ?_; rintro e w' ⟨rfl, n, rfl⟩))
        go_ret
        exact ⟨ret_bool (by first | rfl | (simp; done) | (simp; omega)), grown_drewN (Grown.refl _) _⟩
    · have hvx : x < v := by omega
      go_enter Try.func5, Try.ntmps5
      go_wp2_with fail
      refine (awake_t _).mono ?_; rintro e w' ⟨rfl, n, rfl⟩
      go_wp2_with fail
      refine (c1 _).mono ?_; rintro e w' ⟨rfl, n, rfl⟩
      go_wp2_with fail
      refine (c3 _).mono ?_; rintro e w' ⟨rfl, n, rfl⟩
      go_wp2_with fail
      refine (c4 _).mono ?_; rintro e w' ⟨rfl, n, rfl⟩
      go_wp2_with (first | (go_at_call 19; refine (length_any _ _).mono ?_; rintro e w' ⟨rfl, rfl⟩) | (go_at_call 13; refine (c2 _).mono ?_; rintro e w' ⟨rfl, n, rfl⟩))
      go_ret
      exact ⟨ret_bool (by first | rfl | (simp; done) | (simp; omega)), grown_drewN (Grown.refl _) _⟩
    · have hvx : v < x := by omega
      go_enter Try.func5, Try.ntmps5
      go_wp2_with fail
      refine (awake_t _).mono ?_; rintro e w' ⟨rfl, n, rfl⟩
      go_wp2_with fail
      refine (c1 _).mono ?_; rintro e w' ⟨rfl, n, rfl⟩
      go_wp2_with fail
      refine (c3 _).mono ?_; rintro e w' ⟨rfl, n, rfl⟩
      go_wp2_with fail
      refine (c4 _).mono ?_; rintro e w' ⟨rfl, n, rfl⟩
      go_wp2_with (first | (go_at_call 19; refine (length_any _ _).mono ?_; rintro e w' ⟨rfl, rfl⟩) | (go_at_call 13; refine (c2 _).mono ?_; rintro e w' ⟨rfl, n, rfl⟩))
      go_ret
      exact ⟨ret_bool (by first | rfl | (simp; done) | (simp; omega)), grown_drewN (Grown.refl _) _⟩
end Go.Proofs.Ytonacegkhkncmaa.Bk
