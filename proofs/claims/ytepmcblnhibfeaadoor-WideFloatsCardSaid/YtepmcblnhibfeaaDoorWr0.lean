/- The document's Print: the digits, by numbers; size, tenth. -/
import Derived.Test.YtepmcblnhibfeaaDoorWi5
import Derived.Test.YtepmcblnhibfeaaDoorSl
import Derived.Test.YtepmcblnhibfeaaDoorWdR
namespace Go.Proofs.YtepmcblnhibfeaaDoor.Wi
open Go.RowKit Go.Sort Go.Lib Go.Proofs.YtepmcblnhibfeaaDoor.Sl
set_option linter.unusedVariables false

theorem rsize_any {a : Int} (ha : In a) (w : World) :
    Calls Tryd.prog 44 #[I128 a] w fun e w' => e = .returned (.tuple #[.int .u64 (hU (absI a)), .int .u64 (loI (absI a))]) ∧ Below w.heap.size w w' := by
  obtain ⟨hn, hp⟩ := hi_neg ha
  clear ha
  have c := rneg_any a
  by_cases h : a < 0
  · have d := hn h
    have e : absI a = -a := by rw [absI, if_pos h]
    have e1 := wrap_hi (-a)
    rw [e]; clear hn hp h e
    unfold I128 at c ⊢
    go_enter Tryd.func44, Tryd.ntmps44
    go_wp2_with fail
    refine (c _).mono ?_
    rintro e w1 ⟨rfl, b1⟩
    obtain ⟨k1, k2, k3, k4⟩ := kept2 b1 (g := w.heap.size) (.int .i64 (hiI a)) (.int .u64 (loI a)) (by go_size) (by go_cell) (by go_cell) (by go_cell) (by go_cell)
    obtain ⟨l1, l2⟩ := set2 k1 k2 (.int .i64 (hiI (-a))) (.int .u64 (loI (-a)))
    have bw := joined (w := w) (by go_grown) b1
    go_wp2
    go_quiet (fail)
    go_wp2
    go_ret2
    exact ⟨rfl, below_drewN (by go_grown) _⟩
  · have d := hp h
    have e : absI a = a := by rw [absI, if_neg h]
    have e1 := wrap_hi a
    rw [e]; clear hn hp h e
    unfold I128 at c ⊢
    go_enter Tryd.func44, Tryd.ntmps44
    go_wp2
    go_quiet (fail)
    go_wp2
    go_ret2
    exact ⟨rfl, below_drewN (by go_grown) _⟩

theorem low32 (x : Nat) (h : x ≤ 18446744073709551615) : bits BinOp.and IntKind.u64 (x : Int) 4294967295 = (x : Int) % 4294967296 := by
  have h1 : bits BinOp.and IntKind.u64 (x : Int) ((4294967295 : Nat) : Int) = ((x &&& 4294967295 : Nat) : Int) := u64_and_nat x 4294967295 (by omega) (by omega)
  have h2 : x &&& 4294967295 = x % 2 ^ 32 := Nat.and_two_pow_sub_one_eq_mod x 32
  rw [h2] at h1
  rw [show (4294967295 : Int) = ((4294967295 : Nat) : Int) from rfl, h1]; omega

set_option maxHeartbeats 1000000 in
theorem tenth_any (hi lo : Nat) (hh : hi ≤ 18446744073709551615) (hl : lo ≤ 18446744073709551615) (w : World) :
    Calls Tryd.prog 45 #[.int .u64 (hi : Int), .int .u64 (lo : Int)] w fun e w' => e = .returned (.tuple #[.int .u64 (((hi * 18446744073709551616 + lo) / 10 / 18446744073709551616 : Nat) : Int), .int .u64 (((hi * 18446744073709551616 + lo) / 10 % 18446744073709551616 : Nat) : Int), .int .u64 (((hi * 18446744073709551616 + lo) % 10 : Nat) : Int)]) ∧ Below w.heap.size w w' := by
  have e1 := low32 hi hh
  have e2 := low32 lo hl
  obtain ⟨p0, P0⟩ : ∃ p : Int, p = (hi : Int) / 4294967296 := ⟨_, rfl⟩
  obtain ⟨p1, P1⟩ : ∃ p : Int, p = (hi : Int) % 4294967296 := ⟨_, rfl⟩
  obtain ⟨p2, P2⟩ : ∃ p : Int, p = (lo : Int) / 4294967296 := ⟨_, rfl⟩
  obtain ⟨p3, P3⟩ : ∃ p : Int, p = (lo : Int) % 4294967296 := ⟨_, rfl⟩
  rw [← P1] at e1
  rw [← P3] at e2
  obtain ⟨n0, N0⟩ : ∃ n : Int, n = p0 := ⟨_, rfl⟩
  obtain ⟨q0, Q0⟩ : ∃ q : Int, q = n0 / 10 := ⟨_, rfl⟩
  obtain ⟨r0, R0⟩ : ∃ r : Int, r = n0 % 10 := ⟨_, rfl⟩
  obtain ⟨n1, N1⟩ : ∃ n : Int, n = r0 * 4294967296 + p1 := ⟨_, rfl⟩
  obtain ⟨q1, Q1⟩ : ∃ q : Int, q = n1 / 10 := ⟨_, rfl⟩
  obtain ⟨r1, R1⟩ : ∃ r : Int, r = n1 % 10 := ⟨_, rfl⟩
  obtain ⟨n2, N2⟩ : ∃ n : Int, n = r1 * 4294967296 + p2 := ⟨_, rfl⟩
  obtain ⟨q2, Q2⟩ : ∃ q : Int, q = n2 / 10 := ⟨_, rfl⟩
  obtain ⟨r2, R2⟩ : ∃ r : Int, r = n2 % 10 := ⟨_, rfl⟩
  obtain ⟨n3, N3⟩ : ∃ n : Int, n = r2 * 4294967296 + p3 := ⟨_, rfl⟩
  obtain ⟨q3, Q3⟩ : ∃ q : Int, q = n3 / 10 := ⟨_, rfl⟩
  obtain ⟨r3, R3⟩ : ∃ r : Int, r = n3 % 10 := ⟨_, rfl⟩
  have f1 : ((((hi * 18446744073709551616 + lo) / 10 / 18446744073709551616 : Nat)) : Int) = q0 * 4294967296 + q1 := by omega
  have f2 : ((((hi * 18446744073709551616 + lo) / 10 % 18446744073709551616 : Nat)) : Int) = q2 * 4294967296 + q3 := by omega
  have f3 : ((((hi * 18446744073709551616 + lo) % 10 : Nat)) : Int) = r3 := by omega
  rw [f1, f2, f3]
  clear f1 f2 f3
  have b0 : 0 ≤ n0 ∧ n0 ≤ 42949672959 := by omega
  have c0 : 0 ≤ q0 ∧ q0 ≤ 4294967295 := by omega
  have d0 : 0 ≤ r0 ∧ r0 ≤ 9 := by omega
  have b1 : 0 ≤ n1 ∧ n1 ≤ 42949672959 := by omega
  have c1 : 0 ≤ q1 ∧ q1 ≤ 4294967295 := by omega
  have d1 : 0 ≤ r1 ∧ r1 ≤ 9 := by omega
  have b2 : 0 ≤ n2 ∧ n2 ≤ 42949672959 := by omega
  have c2 : 0 ≤ q2 ∧ q2 ≤ 4294967295 := by omega
  have d2 : 0 ≤ r2 ∧ r2 ≤ 9 := by omega
  have b3 : 0 ≤ n3 ∧ n3 ≤ 42949672959 := by omega
  have c3 : 0 ≤ q3 ∧ q3 ≤ 4294967295 := by omega
  have d3 : 0 ≤ r3 ∧ r3 ≤ 9 := by omega
  have w1 : IntKind.u64.wrap (r0 * 4294967296) = r0 * 4294967296 := by rw [IntKind.wrap_u64]; omega
  have v1 : IntKind.u64.wrap (r0 * 4294967296 + p1) = n1 := by rw [IntKind.wrap_u64]; omega
  have w2 : IntKind.u64.wrap (r1 * 4294967296) = r1 * 4294967296 := by rw [IntKind.wrap_u64]; omega
  have v2 : IntKind.u64.wrap (r1 * 4294967296 + p2) = n2 := by rw [IntKind.wrap_u64]; omega
  have w3 : IntKind.u64.wrap (r2 * 4294967296) = r2 * 4294967296 := by rw [IntKind.wrap_u64]; omega
  have v3 : IntKind.u64.wrap (r2 * 4294967296 + p3) = n3 := by rw [IntKind.wrap_u64]; omega
  have x0 : IntKind.u64.wrap (q0 * 4294967296) = q0 * 4294967296 := by rw [IntKind.wrap_u64]; omega
  have y0 : IntKind.u64.wrap (q0 * 4294967296 + q1) = q0 * 4294967296 + q1 := by rw [IntKind.wrap_u64]; omega
  have x2 : IntKind.u64.wrap (q2 * 4294967296) = q2 * 4294967296 := by rw [IntKind.wrap_u64]; omega
  have y2 : IntKind.u64.wrap (q2 * 4294967296 + q3) = q2 * 4294967296 + q3 := by rw [IntKind.wrap_u64]; omega
  have z0 : IntKind.u64.wrap p0 = n0 := by rw [IntKind.wrap_u64]; omega
  have i0 : n0 / 10 = q0 := Q0.symm
  have j0 : n0 % 10 = r0 := R0.symm
  have k0 : n0.tdiv 10 = q0 := by rw [Int.tdiv_eq_ediv_of_nonneg b0.1]; exact i0
  have l0 : n0.tmod 10 = r0 := by rw [Int.tmod_eq_emod_of_nonneg b0.1]; exact j0
  have i1 : n1 / 10 = q1 := Q1.symm
  have j1 : n1 % 10 = r1 := R1.symm
  have k1 : n1.tdiv 10 = q1 := by rw [Int.tdiv_eq_ediv_of_nonneg b1.1]; exact i1
  have l1 : n1.tmod 10 = r1 := by rw [Int.tmod_eq_emod_of_nonneg b1.1]; exact j1
  have i2 : n2 / 10 = q2 := Q2.symm
  have j2 : n2 % 10 = r2 := R2.symm
  have k2 : n2.tdiv 10 = q2 := by rw [Int.tdiv_eq_ediv_of_nonneg b2.1]; exact i2
  have l2 : n2.tmod 10 = r2 := by rw [Int.tmod_eq_emod_of_nonneg b2.1]; exact j2
  have i3 : n3 / 10 = q3 := Q3.symm
  have j3 : n3 % 10 = r3 := R3.symm
  have k3 : n3.tdiv 10 = q3 := by rw [Int.tdiv_eq_ediv_of_nonneg b3.1]; exact i3
  have l3 : n3.tmod 10 = r3 := by rw [Int.tmod_eq_emod_of_nonneg b3.1]; exact j3
  have P0' := P0.symm
  have P2' := P2.symm
  clear P0 P1 P2 P3 hh hl N0 Q0 R0 N1 Q1 R1 N2 Q2 R2 N3 Q3 R3
  obtain ⟨b0, b0'⟩ := b0
  obtain ⟨c0, c0'⟩ := c0
  obtain ⟨d0, d0'⟩ := d0
  obtain ⟨b1, b1'⟩ := b1
  obtain ⟨c1, c1'⟩ := c1
  obtain ⟨d1, d1'⟩ := d1
  obtain ⟨b2, b2'⟩ := b2
  obtain ⟨c2, c2'⟩ := c2
  obtain ⟨d2, d2'⟩ := d2
  obtain ⟨b3, b3'⟩ := b3
  obtain ⟨c3, c3'⟩ := c3
  obtain ⟨d3, d3'⟩ := d3
  go_enter Tryd.func45, Tryd.ntmps45
  go_wp2
  refine wp_loop_rounds 5 ?_
  rw [rounds_succ]
  go_wp2
  rw [rounds_succ]
  go_wp2
  rw [rounds_succ]
  go_wp2
  rw [rounds_succ]
  go_wp2
  rw [rounds_succ]
  go_wp2
  go_quiet (fail)
  go_wp2
  go_ret3
  exact ⟨rfl, below_drewN (by go_grown) _⟩

end Go.Proofs.YtepmcblnhibfeaaDoor.Wi
