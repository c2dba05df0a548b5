/- package wide's Float: the walk. -/
import Derived.Test.YtepmcblnhibfeaaDoorWf4
import Derived.Test.YtepmcblnhibfeaaDoorShelf
namespace Go.Proofs.YtepmcblnhibfeaaDoor.Wf
open Go.RowKit Ieee Go.Proofs.YtepmcblnhibfeaaDoor.Wi
set_option linter.unusedVariables false

/-- The word of a sign and a magnitude. -/
def wordOf (x : Int) (r : Nat) : Nat := if x < 0 then 9223372036854775808 + r else r

theorem ret_float {b b' : Nat} (h : b = b') : Ending.returned (.float .f64 b) = .returned (.float .f64 b') := by rw [h]

set_option maxHeartbeats 2000000 in
theorem float_walk (x y : Int) (hi lo : Nat) (hh : hi ≤ 9223372036854775808) (hl : lo ≤ 18446744073709551615) (w : World)
    (c : ∀ w, Calls Tryd.prog 40 #[.agg #[.int .i64 x, .int .u64 y]] w fun e w' => e = .returned (.tuple #[.int .u64 (hi : Int), .int .u64 (lo : Int)]) ∧ Below w.heap.size w w') :
    Calls Tryd.prog 34 #[.agg #[.int .i64 x, .int .u64 y]] w fun e w' => e = .returned (.float .f64 (wordOf x (rung (hi * 18446744073709551616 + lo)))) ∧ Below w.heap.size w w' := by
  have hr := rung_lt (N := hi * 18446744073709551616 + lo) (by omega)
  by_cases h : hi = 0
  · subst h
    rw [Nat.zero_mul, Nat.zero_add] at hr ⊢
    have d0 : ((0 : Nat) : Int) = 0 := rfl
    have cv := of_int lo (by omega)
    have ng := neg_run (rung lo) (by omega)
    rw [d0] at c
    generalize rung lo = R at *
    have e1 : x < 0 → wordOf x R = 9223372036854775808 + R := fun h => by rw [wordOf, if_pos h]
    have e2 : ¬ x < 0 → wordOf x R = R := fun h => by rw [wordOf, if_neg h]
    replace e1 := Lib.hid e1
    replace e2 := Lib.hid e2
    clear hh hl hr
    by_cases hx : x < 0
    all_goals
      go_enter Tryd.func34, Tryd.ntmps34
      go_wp2_with fail
      refine (c _).mono ?_
      rintro e w1 ⟨rfl, b1⟩
      obtain ⟨k1, k2, k3, k4⟩ := kept2 b1 (g := w.heap.size) (.int .i64 x) (.int .u64 y) (by go_size) (by go_cell) (by go_cell) (by go_cell) (by go_cell)
      have bw := joined (w := w) (by go_grown) b1
      go_wp2
      go_ret
      first | exact ⟨ret_float (e1.out hx).symm, bw⟩ | exact ⟨ret_float (e2.out hx).symm, bw⟩
  · obtain ⟨n, K, T1, T2, T, Lw, S, q1, q2, q3, q4, q5, q6, q7, q8, q9, q10, q11, q12, q13, q14⟩ := big_nums h (by omega) hl
    rw [q12] at hr ⊢
    have cz := Tryd.bits_LeadingZeros64 (hi : Int)
    have cz' := fun w => cz w (by omega) (by omega)
    rw [Int.toNat_natCast, q1] at cz'
    have cv := of_int S (by omega)
    have cl := ldexp_any (rung S) K q13 q4 (by omega)
    have ng := neg_run (rung S + K * 4503599627370496) (by omega)
    have t0 : ((hi : Int) == 0) = false := beq_eq_false_iff_ne.2 (by omega)
    have q5' : (n : Int) ≤ 63 := by omega
    have q2' : IntKind.i64.wrap (64 - (n : Int)) = (K : Int) := by rw [q2, IntKind.wrap_i64]; omega
    have q3' : (K : Int) ≤ 64 := by omega
    generalize rung S = R at *
    generalize R + K * 4503599627370496 = RR at *
    have e1 : x < 0 → wordOf x RR = 9223372036854775808 + RR := fun h => by rw [wordOf, if_pos h]
    have e2 : ¬ x < 0 → wordOf x RR = RR := fun h => by rw [wordOf, if_neg h]
    replace e1 := Lib.hid e1
    replace e2 := Lib.hid e2
    clear hh hl hr h q1 q6 q12 q13 q14 cz q4
    rcases q11 with ⟨z1, z2⟩ | ⟨z1, z2⟩
    · subst z2
      have t1 : ((Lw : Int) != 0) = false := by rw [z1]; rfl
      clear z1
      by_cases hx : x < 0
      all_goals
        go_enter Tryd.func34, Tryd.ntmps34
        go_wp2_with fail
        refine (c _).mono ?_
        rintro e w1 ⟨rfl, b1⟩
        obtain ⟨k1, k2, k3, k4⟩ := kept2 b1 (g := w.heap.size) (.int .i64 x) (.int .u64 y) (by go_size) (by go_cell) (by go_cell) (by go_cell) (by go_cell)
        have bw := joined (w := w) (by go_grown) b1
        go_wp2_with fail
        refine (cz' _).mono ?_
        rintro e w2 ⟨rfl, rfl⟩
        go_wp2_with fail
        go_quiet (fail)
        go_wp2_with fail
        refine (cl _).mono ?_
        rintro e w2 ⟨rfl, rfl⟩
        go_wp2
        go_ret
        first | exact ⟨ret_float (e1.out hx).symm, below_drewN bw _⟩ | exact ⟨ret_float (e2.out hx).symm, below_drewN bw _⟩
    · have t1 : ((Lw : Int) != 0) = true := by simpa using z1
      clear z1
      by_cases hx : x < 0
      all_goals
        go_enter Tryd.func34, Tryd.ntmps34
        go_wp2_with fail
        refine (c _).mono ?_
        rintro e w1 ⟨rfl, b1⟩
        obtain ⟨k1, k2, k3, k4⟩ := kept2 b1 (g := w.heap.size) (.int .i64 x) (.int .u64 y) (by go_size) (by go_cell) (by go_cell) (by go_cell) (by go_cell)
        have bw := joined (w := w) (by go_grown) b1
        go_wp2_with fail
        refine (cz' _).mono ?_
        rintro e w2 ⟨rfl, rfl⟩
        go_wp2_with fail
        go_quiet (fail)
        go_wp2_with fail
        refine (cl _).mono ?_
        rintro e w2 ⟨rfl, rfl⟩
        go_wp2
        go_ret
        first | exact ⟨ret_float (e1.out hx).symm, below_drewN bw _⟩ | exact ⟨ret_float (e2.out hx).symm, below_drewN bw _⟩

theorem float_any {a : Int} (ha : In a) (w : World) :
    Calls Tryd.prog 34 #[I128 a] w fun e w' => e = .returned (.float .f64 (fw a)) ∧ Below w.heap.size w w' := by
  obtain ⟨hi, lo, e1, e2, h1, h2, e3⟩ := abs_parts ha
  have c := fun w => size_any ha w
  rw [e1, e2] at c
  have h := float_walk (hiI a) (loI a) hi lo h1 h2 w c
  have e : wordOf (hiI a) (rung (hi * 18446744073709551616 + lo)) = fw a := by
    rw [e3]
    obtain ⟨hn, hp⟩ := hi_neg ha
    unfold wordOf fw absI
    by_cases g : a < 0
    · rw [if_pos (hn g), if_pos g, if_pos g, show (-a).toNat = a.natAbs by omega]
    · rw [if_neg (hp g), if_neg g, if_neg g, show a.toNat = a.natAbs by omega]
  rw [e] at h
  exact h

end Go.Proofs.YtepmcblnhibfeaaDoor.Wf
