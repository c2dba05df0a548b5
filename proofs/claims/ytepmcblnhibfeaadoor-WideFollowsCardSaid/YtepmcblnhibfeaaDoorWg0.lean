/- The law's own look at products and quotients. -/
import Derived.Test.YtepmcblnhibfeaaDoorWdR
import Derived.Test.YtepmcblnhibfeaaDoorWi8
namespace Go.Proofs.YtepmcblnhibfeaaDoor.Wi
open Go.RowKit Go.Sort Go.Lib Go.Proofs.YtepmcblnhibfeaaDoor.WdP
set_option linter.unusedVariables false

theorem mul_swap (a b : Nat) : hiM b a = hiM a b ∧ loM b a = loM a b := by unfold hiM loM; rw [Nat.mul_comm]; exact ⟨rfl, rfl⟩

theorem mul_back (a b : Nat) : hiM a b * 18446744073709551616 + loM a b = a * b := by unfold hiM loM; omega

theorem mul_hi_lt {a b : Nat} (ha : a ≤ 18446744073709551615) (hb : 0 < b) : hiM a b < b := by
  unfold hiM
  rw [Nat.div_lt_iff_lt_mul (by decide), Nat.mul_comm]
  exact Nat.mul_lt_mul_of_pos_left (by omega) hb

/-- What was multiplied is divided again. -/
theorem div_back {a b : Nat} (ha : a ≤ 18446744073709551615) (hb : 0 < b) : divQ (hiM a b) (loM a b) b = a ∧ divR (hiM a b) (loM a b) b = 0 ∧ divE (hiM a b) (loM a b) b = 0 := by
  have h := mul_hi_lt ha hb
  unfold divQ divR divE
  rw [if_pos h, if_pos h, mul_back, if_neg (by omega), if_neg (by omega), Nat.mul_div_cancel _ hb, Nat.mul_mod_left]
  exact ⟨rfl, rfl, rfl⟩

/-- Quotient times divisor and the rest. -/
theorem whole_back {x y z : Nat} (hx : x < z) (hy : y ≤ 18446744073709551615) (hz : z ≤ 18446744073709551615) :
    divQ x y z * z + divR x y z = x * 18446744073709551616 + y ∧ divR x y z < z ∧ divQ x y z ≤ 18446744073709551615 := by
  unfold divQ divR
  rw [if_pos hx, if_pos hx]
  refine ⟨by rw [Nat.mul_comm]; exact Nat.div_add_mod _ _, Nat.mod_lt _ (by omega), ?_⟩
  have : (x * 18446744073709551616 + y) / z < 18446744073709551616 := by
    rw [Nat.div_lt_iff_lt_mul (by omega)]
    have h1 : (x + 1) * 18446744073709551616 ≤ z * 18446744073709551616 := Nat.mul_le_mul_right _ hx
    rw [Nat.mul_comm 18446744073709551616]
    omega
  omega

set_option maxHeartbeats 1000000 in
theorem parts_00 (x y z H L : Int) (hlo : IntKind.u64.wrap (x * y) = L)
    (c1 : ∀ w, Calls Tryd.prog 29 #[.int .u64 x, .int .u64 y] w fun e w' => e = .returned (.tuple #[.int .u64 H, .int .u64 L]) ∧ ∃ n, w' = w.drewN n)
    (c2 : ∀ w, Calls Tryd.prog 29 #[.int .u64 y, .int .u64 x] w fun e w' => e = .returned (.tuple #[.int .u64 H, .int .u64 L]) ∧ ∃ n, w' = w.drewN n)
    (d1 : ¬ 0 < y)
    (t1 : (z == 0) = true) (t2 : (z != 0) = false) (c4 : ∀ w, Calls Tryd.prog 31 #[.int .u64 x, .int .u64 y, .int .u64 z] w fun e w' => e = .returned (.tuple #[.int .u64 0, .int .u64 0, .int .i64 1]) ∧ ∃ n, w' = w.drewN n)
    (w : World) : Calls Tryd.prog 36 #[.int .u64 x, .int .u64 y, .int .u64 z] w fun e w' => e = .returned (.bool true) ∧ Below w.heap.size w w' := by
  go_enter Tryd.func36, Tryd.ntmps36
  go_wp2_with fail
  refine (c1 _).mono ?_
  rintro e w' ⟨rfl, n1, rfl⟩
  go_wp2_with fail
  refine (c2 _).mono ?_
  rintro e w' ⟨rfl, n2, rfl⟩
  go_wp2_with fail
  refine (c4 _).mono ?_
  rintro e w' ⟨rfl, n4, rfl⟩
  go_wp2
  go_ret
  exact ⟨rfl, below_drewN (Below.refl _ _) _⟩

set_option maxHeartbeats 1000000 in
theorem parts_01 (x y z H L : Int) (hlo : IntKind.u64.wrap (x * y) = L)
    (c1 : ∀ w, Calls Tryd.prog 29 #[.int .u64 x, .int .u64 y] w fun e w' => e = .returned (.tuple #[.int .u64 H, .int .u64 L]) ∧ ∃ n, w' = w.drewN n)
    (c2 : ∀ w, Calls Tryd.prog 29 #[.int .u64 y, .int .u64 x] w fun e w' => e = .returned (.tuple #[.int .u64 H, .int .u64 L]) ∧ ∃ n, w' = w.drewN n)
    (d1 : 0 < y) (c3 : ∀ w, Calls Tryd.prog 31 #[.int .u64 H, .int .u64 L, .int .u64 y] w fun e w' => e = .returned (.tuple #[.int .u64 x, .int .u64 0, .int .i64 0]) ∧ ∃ n, w' = w.drewN n)
    (t1 : (z == 0) = true) (t2 : (z != 0) = false) (c4 : ∀ w, Calls Tryd.prog 31 #[.int .u64 x, .int .u64 y, .int .u64 z] w fun e w' => e = .returned (.tuple #[.int .u64 0, .int .u64 0, .int .i64 1]) ∧ ∃ n, w' = w.drewN n)
    (w : World) : Calls Tryd.prog 36 #[.int .u64 x, .int .u64 y, .int .u64 z] w fun e w' => e = .returned (.bool true) ∧ Below w.heap.size w w' := by
  go_enter Tryd.func36, Tryd.ntmps36
  go_wp2_with fail
  refine (c1 _).mono ?_
  rintro e w' ⟨rfl, n1, rfl⟩
  go_wp2_with fail
  refine (c2 _).mono ?_
  rintro e w' ⟨rfl, n2, rfl⟩
  go_wp2_with fail
  refine (c3 _).mono ?_
  rintro e w' ⟨rfl, n3, rfl⟩
  go_wp2_with fail
  refine (c4 _).mono ?_
  rintro e w' ⟨rfl, n4, rfl⟩
  go_wp2
  go_ret
  exact ⟨rfl, below_drewN (Below.refl _ _) _⟩

set_option maxHeartbeats 1000000 in
theorem parts_10 (x y z H L : Int) (hlo : IntKind.u64.wrap (x * y) = L)
    (c1 : ∀ w, Calls Tryd.prog 29 #[.int .u64 x, .int .u64 y] w fun e w' => e = .returned (.tuple #[.int .u64 H, .int .u64 L]) ∧ ∃ n, w' = w.drewN n)
    (c2 : ∀ w, Calls Tryd.prog 29 #[.int .u64 y, .int .u64 x] w fun e w' => e = .returned (.tuple #[.int .u64 H, .int .u64 L]) ∧ ∃ n, w' = w.drewN n)
    (d1 : ¬ 0 < y)
    (t1 : (z == 0) = false) (t2 : (z != 0) = true) (t3 : z ≤ x) (c4 : ∀ w, Calls Tryd.prog 31 #[.int .u64 x, .int .u64 y, .int .u64 z] w fun e w' => e = .returned (.tuple #[.int .u64 0, .int .u64 0, .int .i64 2]) ∧ ∃ n, w' = w.drewN n)
    (w : World) : Calls Tryd.prog 36 #[.int .u64 x, .int .u64 y, .int .u64 z] w fun e w' => e = .returned (.bool true) ∧ Below w.heap.size w w' := by
  go_enter Tryd.func36, Tryd.ntmps36
  go_wp2_with fail
  refine (c1 _).mono ?_
  rintro e w' ⟨rfl, n1, rfl⟩
  go_wp2_with fail
  refine (c2 _).mono ?_
  rintro e w' ⟨rfl, n2, rfl⟩
  go_wp2_with fail
  refine (c4 _).mono ?_
  rintro e w' ⟨rfl, n4, rfl⟩
  go_wp2
  go_ret
  exact ⟨rfl, below_drewN (Below.refl _ _) _⟩

set_option maxHeartbeats 1000000 in
theorem parts_11 (x y z H L : Int) (hlo : IntKind.u64.wrap (x * y) = L)
    (c1 : ∀ w, Calls Tryd.prog 29 #[.int .u64 x, .int .u64 y] w fun e w' => e = .returned (.tuple #[.int .u64 H, .int .u64 L]) ∧ ∃ n, w' = w.drewN n)
    (c2 : ∀ w, Calls Tryd.prog 29 #[.int .u64 y, .int .u64 x] w fun e w' => e = .returned (.tuple #[.int .u64 H, .int .u64 L]) ∧ ∃ n, w' = w.drewN n)
    (d1 : 0 < y) (c3 : ∀ w, Calls Tryd.prog 31 #[.int .u64 H, .int .u64 L, .int .u64 y] w fun e w' => e = .returned (.tuple #[.int .u64 x, .int .u64 0, .int .i64 0]) ∧ ∃ n, w' = w.drewN n)
    (t1 : (z == 0) = false) (t2 : (z != 0) = true) (t3 : z ≤ x) (c4 : ∀ w, Calls Tryd.prog 31 #[.int .u64 x, .int .u64 y, .int .u64 z] w fun e w' => e = .returned (.tuple #[.int .u64 0, .int .u64 0, .int .i64 2]) ∧ ∃ n, w' = w.drewN n)
    (w : World) : Calls Tryd.prog 36 #[.int .u64 x, .int .u64 y, .int .u64 z] w fun e w' => e = .returned (.bool true) ∧ Below w.heap.size w w' := by
  go_enter Tryd.func36, Tryd.ntmps36
  go_wp2_with fail
  refine (c1 _).mono ?_
  rintro e w' ⟨rfl, n1, rfl⟩
  go_wp2_with fail
  refine (c2 _).mono ?_
  rintro e w' ⟨rfl, n2, rfl⟩
  go_wp2_with fail
  refine (c3 _).mono ?_
  rintro e w' ⟨rfl, n3, rfl⟩
  go_wp2_with fail
  refine (c4 _).mono ?_
  rintro e w' ⟨rfl, n4, rfl⟩
  go_wp2
  go_ret
  exact ⟨rfl, below_drewN (Below.refl _ _) _⟩

set_option maxHeartbeats 1000000 in
theorem parts_20 (x y z H L : Int) (hlo : IntKind.u64.wrap (x * y) = L)
    (c1 : ∀ w, Calls Tryd.prog 29 #[.int .u64 x, .int .u64 y] w fun e w' => e = .returned (.tuple #[.int .u64 H, .int .u64 L]) ∧ ∃ n, w' = w.drewN n)
    (c2 : ∀ w, Calls Tryd.prog 29 #[.int .u64 y, .int .u64 x] w fun e w' => e = .returned (.tuple #[.int .u64 H, .int .u64 L]) ∧ ∃ n, w' = w.drewN n)
    (d1 : ¬ 0 < y)
    (Q R HM PP XY : Int) (t1 : (z == 0) = false) (t3 : ¬ z ≤ x) (t4 : R < z) (c4 : ∀ w, Calls Tryd.prog 31 #[.int .u64 x, .int .u64 y, .int .u64 z] w fun e w' => e = .returned (.tuple #[.int .u64 Q, .int .u64 R, .int .i64 0]) ∧ ∃ n, w' = w.drewN n)
    (c5 : ∀ w, Calls Tryd.prog 29 #[.int .u64 Q, .int .u64 z] w fun e w' => e = .returned (.tuple #[.int .u64 HM, .int .u64 (loI PP)]) ∧ ∃ n, w' = w.drewN n)
    (cu : ∀ w, Calls Tryd.prog 23 #[.int .u64 R] w fun e w' => e = .returned (.agg #[.int .i64 (hiI R), .int .u64 (loI R)]) ∧ Below w.heap.size w w')
    (ca : ∀ w, Calls Tryd.prog 11 #[.agg #[.int .i64 (hiI PP), .int .u64 (loI PP)], .agg #[.int .i64 (hiI R), .int .u64 (loI R)]] w fun e w' => e = .returned (.agg #[.int .i64 (hiI XY), .int .u64 y]) ∧ Below w.heap.size w w')
    (i1 : IntKind.i64.wrap HM = hiI PP) (j1 : IntKind.i64.wrap x = hiI XY)
    (w : World) : Calls Tryd.prog 36 #[.int .u64 x, .int .u64 y, .int .u64 z] w fun e w' => e = .returned (.bool true) ∧ Below w.heap.size w w' := by
  go_enter Tryd.func36, Tryd.ntmps36
  go_wp2_with fail
  refine (c1 _).mono ?_
  rintro e w' ⟨rfl, n1, rfl⟩
  go_wp2_with fail
  refine (c2 _).mono ?_
  rintro e w' ⟨rfl, n2, rfl⟩
  go_wp2_with fail
  refine (c4 _).mono ?_
  rintro e w' ⟨rfl, n4, rfl⟩
  go_wp2_with fail
  refine (c5 _).mono ?_
  rintro e w' ⟨rfl, n5, rfl⟩
  go_wp2_with fail
  refine (cu _).mono ?_
  rintro e w' ⟨rfl, b6⟩
  go_wp2_with fail
  refine (ca _).mono ?_
  rintro e w' ⟨rfl, b7⟩
  have lw := joined (joined (below_drewN (Below.refl w.heap.size w) _) b6) b7
  have s7 := lw.size
  go_wp2
  go_ret
  exact ⟨rfl, lw.alloc s7 _⟩

set_option maxHeartbeats 1000000 in
theorem parts_21 (x y z H L : Int) (hlo : IntKind.u64.wrap (x * y) = L)
    (c1 : ∀ w, Calls Tryd.prog 29 #[.int .u64 x, .int .u64 y] w fun e w' => e = .returned (.tuple #[.int .u64 H, .int .u64 L]) ∧ ∃ n, w' = w.drewN n)
    (c2 : ∀ w, Calls Tryd.prog 29 #[.int .u64 y, .int .u64 x] w fun e w' => e = .returned (.tuple #[.int .u64 H, .int .u64 L]) ∧ ∃ n, w' = w.drewN n)
    (d1 : 0 < y) (c3 : ∀ w, Calls Tryd.prog 31 #[.int .u64 H, .int .u64 L, .int .u64 y] w fun e w' => e = .returned (.tuple #[.int .u64 x, .int .u64 0, .int .i64 0]) ∧ ∃ n, w' = w.drewN n)
    (Q R HM PP XY : Int) (t1 : (z == 0) = false) (t3 : ¬ z ≤ x) (t4 : R < z) (c4 : ∀ w, Calls Tryd.prog 31 #[.int .u64 x, .int .u64 y, .int .u64 z] w fun e w' => e = .returned (.tuple #[.int .u64 Q, .int .u64 R, .int .i64 0]) ∧ ∃ n, w' = w.drewN n)
    (c5 : ∀ w, Calls Tryd.prog 29 #[.int .u64 Q, .int .u64 z] w fun e w' => e = .returned (.tuple #[.int .u64 HM, .int .u64 (loI PP)]) ∧ ∃ n, w' = w.drewN n)
    (cu : ∀ w, Calls Tryd.prog 23 #[.int .u64 R] w fun e w' => e = .returned (.agg #[.int .i64 (hiI R), .int .u64 (loI R)]) ∧ Below w.heap.size w w')
    (ca : ∀ w, Calls Tryd.prog 11 #[.agg #[.int .i64 (hiI PP), .int .u64 (loI PP)], .agg #[.int .i64 (hiI R), .int .u64 (loI R)]] w fun e w' => e = .returned (.agg #[.int .i64 (hiI XY), .int .u64 y]) ∧ Below w.heap.size w w')
    (i1 : IntKind.i64.wrap HM = hiI PP) (j1 : IntKind.i64.wrap x = hiI XY)
    (w : World) : Calls Tryd.prog 36 #[.int .u64 x, .int .u64 y, .int .u64 z] w fun e w' => e = .returned (.bool true) ∧ Below w.heap.size w w' := by
  go_enter Tryd.func36, Tryd.ntmps36
  go_wp2_with fail
  refine (c1 _).mono ?_
  rintro e w' ⟨rfl, n1, rfl⟩
  go_wp2_with fail
  refine (c2 _).mono ?_
  rintro e w' ⟨rfl, n2, rfl⟩
  go_wp2_with fail
  refine (c3 _).mono ?_
  rintro e w' ⟨rfl, n3, rfl⟩
  go_wp2_with fail
  refine (c4 _).mono ?_
  rintro e w' ⟨rfl, n4, rfl⟩
  go_wp2_with fail
  refine (c5 _).mono ?_
  rintro e w' ⟨rfl, n5, rfl⟩
  go_wp2_with fail
  refine (cu _).mono ?_
  rintro e w' ⟨rfl, b6⟩
  go_wp2_with fail
  refine (ca _).mono ?_
  rintro e w' ⟨rfl, b7⟩
  have lw := joined (joined (below_drewN (Below.refl w.heap.size w) _) b6) b7
  have s7 := lw.size
  go_wp2
  go_ret
  exact ⟨rfl, lw.alloc s7 _⟩

theorem parts_any (x y z : Nat) (hx : x ≤ 18446744073709551615) (hy : y ≤ 18446744073709551615) (hz : z ≤ 18446744073709551615) (w : World) :
    Calls Tryd.prog 36 #[.int .u64 x, .int .u64 y, .int .u64 z] w fun e w' => e = .returned (.bool true) ∧ Below w.heap.size w w' := by
  have c1 := mul_any x y hx hy
  have c2 := mul_any y x hy hx
  rw [(mul_swap x y).1, (mul_swap x y).2] at c2
  have hlo : IntKind.u64.wrap ((x : Int) * (y : Int)) = ((loM x y : Nat) : Int) := by
    rw [← Int.natCast_mul, IntKind.wrap_u64]; unfold loM; omega
  have hH : hiM x y ≤ 18446744073709551615 := by
    rcases Nat.eq_zero_or_pos y with h | h
    · subst h; simp [hiM]
    · have := mul_hi_lt hx h; omega
  have hL : loM x y ≤ 18446744073709551615 := by unfold loM; omega
  have cy : (¬ 0 < (y : Int)) ∨ (0 < (y : Int) ∧ ∀ w, Calls Tryd.prog 31 #[.int .u64 (hiM x y : Nat), .int .u64 (loM x y : Nat), .int .u64 y] w fun e w' => e = .returned (.tuple #[.int .u64 x, .int .u64 0, .int .i64 0]) ∧ ∃ n, w' = w.drewN n) := by
    by_cases h : 0 < y
    · right
      have c3 := fun w => div_any (hiM x y) (loM x y) y hH hy hL w
      rw [(div_back hx h).1, (div_back hx h).2.1, (div_back hx h).2.2] at c3
      exact ⟨by omega, c3⟩
    · left; omega
  have c4 := div_any x y z hx hz hy
  by_cases hz0 : z = 0
  · have e1 : divQ x y z = 0 := by rw [divQ, if_neg (by omega)]
    have e2 : divR x y z = 0 := by rw [divR, if_neg (by omega)]
    have e3 : divE x y z = 1 := by rw [divE, if_pos hz0]
    rw [e1, e2, e3] at c4
    have t1 : ((z : Int) == 0) = true := beq_iff_eq.2 (by omega)
    have t2 : ((z : Int) != 0) = false := by rw [bne, t1]; rfl
    rcases cy with d | ⟨d, c3⟩
    · exact parts_00 _ _ _ _ _ hlo c1 c2 d t1 t2 c4 w
    · exact parts_01 _ _ _ _ _ hlo c1 c2 d c3 t1 t2 c4 w
  · have t1 : ((z : Int) == 0) = false := beq_eq_false_iff_ne.2 (by omega)
    have t2 : ((z : Int) != 0) = true := by rw [bne, t1]; rfl
    by_cases hzx : z ≤ x
    · have e1 : divQ x y z = 0 := by rw [divQ, if_neg (by omega)]
      have e2 : divR x y z = 0 := by rw [divR, if_neg (by omega)]
      have e3 : divE x y z = 2 := by rw [divE, if_neg hz0, if_pos hzx]
      rw [e1, e2, e3] at c4
      have t3 : (z : Int) ≤ (x : Int) := by omega
      rcases cy with d | ⟨d, c3⟩
      · exact parts_10 _ _ _ _ _ hlo c1 c2 d t1 t2 t3 c4 w
      · exact parts_11 _ _ _ _ _ hlo c1 c2 d c3 t1 t2 t3 c4 w
    · obtain ⟨a1, a2, a3⟩ := whole_back (x := x) (y := y) (z := z) (by omega) hy hz
      have e3 : divE x y z = 0 := by rw [divE, if_neg hz0, if_neg hzx]
      rw [e3] at c4
      generalize divQ x y z = Q at *
      generalize divR x y z = R at *
      have t3 : ¬ (z : Int) ≤ (x : Int) := by omega
      have t4 : (R : Int) < (z : Int) := by omega
      have c5 := mul_any Q z a3 hz
      have cu := unsigned_any (R : Int) (by omega) (by omega)
      have ca := add_any ((Q * z : Nat) : Int) (R : Int)
      have hP : ((Q * z : Nat) : Int) + (R : Int) = (x : Int) * 18446744073709551616 + (y : Int) := by omega
      have i1 : IntKind.i64.wrap ((hiM Q z : Nat) : Int) = hiI ((Q * z : Nat) : Int) := by rw [IntKind.wrap_i64]; unfold hiM hiI; omega
      have i2 : ((loM Q z : Nat) : Int) = loI ((Q * z : Nat) : Int) := by unfold loM loI; omega
      have j1 : IntKind.i64.wrap (x : Int) = hiI ((x : Int) * 18446744073709551616 + (y : Int)) := by rw [IntKind.wrap_i64]; unfold hiI; omega
      have j2 : loI ((x : Int) * 18446744073709551616 + (y : Int)) = (y : Int) := by unfold loI; omega
      rw [hP] at ca
      unfold I128 at ca cu
      rw [j2] at ca
      rw [i2] at c5
      rcases cy with d | ⟨d, c3⟩
      · exact parts_20 _ _ _ _ _ hlo c1 c2 d _ _ _ _ _ t1 t3 t4 c4 c5 cu ca i1 j1 w
      · exact parts_21 _ _ _ _ _ hlo c1 c2 d c3 _ _ _ _ _ t1 t3 t4 c4 c5 cu ca i1 j1 w

end Go.Proofs.YtepmcblnhibfeaaDoor.Wi
