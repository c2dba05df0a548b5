/- Whole numbers of 128 bits: order, and the document's answers. -/
import Derived.Test.YtepmcblnhibfeaaDoorWi1
namespace Go.Proofs.YtepmcblnhibfeaaDoor.Wi
open Go.RowKit
set_option linter.unusedVariables false

theorem compare_any {a b : Int} (ha : In a) (hb : In b) (w : World) :
    Calls Tryd.prog 17 #[I128 a, I128 b] w fun e w' => e = .returned (.int .i64 (cmpI a b)) ∧ Below w.heap.size w w' :=
  compare_walk _ _ _ _ _ w (cmp_cases ha hb)

theorem rcompare_walk (x y x' y' r : Int) (w : World)
    (h : (x < x' ∧ r = -1) ∨ (x' < x ∧ r = 1) ∨ (x = x' ∧ y < y' ∧ r = -1) ∨ (x = x' ∧ y' < y ∧ r = 1) ∨ (x = x' ∧ y = y' ∧ r = 0)) :
    Calls Tryd.prog 18 #[.agg #[.int .i64 x, .int .u64 y], .agg #[.int .i64 x', .int .u64 y']] w fun e w' => e = .returned (.int .i64 r) ∧ Below w.heap.size w w' := by
  rcases h with ⟨h, rfl⟩ | ⟨h, rfl⟩ | ⟨h, g, rfl⟩ | ⟨h, g, rfl⟩ | ⟨h, g, rfl⟩
  · go_enter Tryd.func18, Tryd.ntmps18
    go_wp2
    go_ret
    exact ⟨rfl, by go_grown⟩
  · have d1 : (x == x') = false := beq_eq_false_iff_ne.2 (by omega)
    have d2 : ¬ x < x' := by omega
    go_enter Tryd.func18, Tryd.ntmps18
    go_wp2
    go_ret
    exact ⟨rfl, by go_grown⟩
  · subst h
    go_enter Tryd.func18, Tryd.ntmps18
    go_wp2
    go_ret
    exact ⟨rfl, by go_grown⟩
  · subst h
    have d1 : (y == y') = false := beq_eq_false_iff_ne.2 (by omega)
    have d2 : ¬ y < y' := by omega
    go_enter Tryd.func18, Tryd.ntmps18
    go_wp2
    go_ret
    exact ⟨rfl, by go_grown⟩
  · subst h; subst g
    go_enter Tryd.func18, Tryd.ntmps18
    go_wp2
    go_ret
    exact ⟨rfl, by go_grown⟩

theorem rcompare_any {a b : Int} (ha : In a) (hb : In b) (w : World) :
    Calls Tryd.prog 18 #[I128 a, I128 b] w fun e w' => e = .returned (.int .i64 (cmpI a b)) ∧ Below w.heap.size w w' :=
  rcompare_walk _ _ _ _ _ w (cmp_cases ha hb)

theorem in_zero : In 0 := by unfold In; omega

theorem sign_any {a : Int} (ha : In a) (w : World) :
    Calls Tryd.prog 19 #[I128 a] w fun e w' => e = .returned (.int .i64 (cmpI a 0)) ∧ Below w.heap.size w w' := by
  have c := compare_any ha in_zero
  rw [I128_zero] at c
  unfold I128 at c ⊢
  go_enter Tryd.func19, Tryd.ntmps19
  go_wp2_with fail
  refine (c _).mono ?_
  rintro e w' ⟨rfl, b⟩
  have bw := joined (w := w) (by go_grown) b
  go_wp2
  go_ret
  exact ⟨rfl, by go_grown⟩

theorem rsign_any {a : Int} (ha : In a) (w : World) :
    Calls Tryd.prog 20 #[I128 a] w fun e w' => e = .returned (.int .i64 (cmpI a 0)) ∧ Below w.heap.size w w' := by
  have c := rcompare_any ha in_zero
  rw [I128_zero] at c
  unfold I128 at c ⊢
  go_enter Tryd.func20, Tryd.ntmps20
  go_wp2_with fail
  refine (c _).mono ?_
  rintro e w' ⟨rfl, b⟩
  have bw := joined (w := w) (by go_grown) b
  go_wp2
  go_ret
  exact ⟨rfl, by go_grown⟩

def notI (x : Int) : Int := 18446744073709551615 - x
theorem not_fact (x : Int) (h0 : 0 ≤ x) (h1 : x < 18446744073709551616) : bits BinOp.xor IntKind.u64 (if IntKind.u64.signed = true then -1 else IntKind.u64.max) x = notI x := by
  obtain ⟨n, rfl⟩ := Int.eq_ofNat_of_zero_le h0
  have hn : n < 2 ^ 64 := by omega
  have : bits BinOp.xor IntKind.u64 ((18446744073709551615 : Nat) : Int) (n : Int) = ((18446744073709551615 ^^^ n : Nat) : Int) := u64_xor_nat 18446744073709551615 n (by omega) (by omega)
  have e : 18446744073709551615 ^^^ n = 18446744073709551615 - n := by
    have h := congrArg BitVec.toNat (BitVec.not_def (x := BitVec.ofNat 64 n))
    rw [BitVec.toNat_not, BitVec.toNat_xor, BitVec.toNat_allOnes, BitVec.toNat_ofNat, Nat.mod_eq_of_lt hn] at h
    exact h.symm
  rw [if_neg (by decide), show IntKind.u64.max = ((18446744073709551615 : Nat) : Int) from rfl, this, e]; unfold notI; omega

theorem radd_any (a b : Int) (w : World) :
    Calls Tryd.prog 12 #[I128 a, I128 b] w fun e w' => e = .returned (I128 (a + b)) ∧ Below w.heap.size w w' := by
  have e1 := wrap_hi a
  have e2 := wrap_hi b
  have e3 := wrap_hU (a + b)
  have e4 : IntKind.u64.wrap (loI a + loI b) = loI (a + b) := by rw [IntKind.wrap_u64]; unfold loI; omega
  obtain ⟨x, hx⟩ : ∃ x, x = (hU a + hU b) % 18446744073709551616 := ⟨_, rfl⟩
  have e5 : IntKind.u64.wrap (hU a + hU b) = x := by rw [IntKind.wrap_u64, hx]
  by_cases h : loI (a + b) < loI a
  · have e6 : IntKind.u64.wrap (x + 1) = hU (a + b) := by rw [IntKind.wrap_u64, hx]; unfold hU; unfold loI at h; omega
    clear hx
    unfold I128
    go_enter Tryd.func12, Tryd.ntmps12
    go_wp2
    go_returns
    exact ⟨rfl, by go_grown⟩
  · have e6 : x = hU (a + b) := by rw [hx]; unfold hU; unfold loI at h; omega
    clear hx; subst e6
    unfold I128
    go_enter Tryd.func12, Tryd.ntmps12
    go_wp2
    go_returns
    exact ⟨rfl, by go_grown⟩

theorem rneg_any (a : Int) (w : World) :
    Calls Tryd.prog 16 #[I128 a] w fun e w' => e = .returned (I128 (-a)) ∧ Below w.heap.size w w' := by
  have e1 := wrap_hi a
  have e3 := wrap_hU (-a)
  have n1 := not_fact (loI a) (by unfold loI; omega) (by unfold loI; omega)
  have n2 := not_fact (hU a) (by unfold hU; omega) (by unfold hU; omega)
  have e4 : IntKind.u64.wrap (notI (loI a) + 1) = loI (-a) := by rw [IntKind.wrap_u64]; unfold notI loI; omega
  by_cases h : loI (-a) = 0
  · have d : (loI (-a) == 0) = true := beq_iff_eq.2 h
    have e6 : IntKind.u64.wrap (notI (hU a) + 1) = hU (-a) := by rw [IntKind.wrap_u64]; unfold notI hU; unfold loI at h; omega
    clear h
    unfold I128
    go_enter Tryd.func16, Tryd.ntmps16
    go_wp2
    go_returns
    exact ⟨rfl, by go_grown⟩
  · have d : (loI (-a) == 0) = false := beq_eq_false_iff_ne.2 h
    have e6 : notI (hU a) = hU (-a) := by unfold notI hU; unfold loI at h; omega
    clear h
    unfold I128
    go_enter Tryd.func16, Tryd.ntmps16
    go_wp2
    go_returns
    exact ⟨rfl, by go_grown⟩

theorem alloc2 {w : World} {g : Nat} {x y : Value} (h0 : w.cell? ⟨g, 0, none⟩ = some x) (h1 : w.cell? ⟨g, 1, none⟩ = some y) (f0 : w.frozen? ⟨g, 0, none⟩ = false) (f1 : w.frozen? ⟨g, 1, none⟩ = false) (hg : g < w.heap.size) :
    (∀ o, (w.alloc o).cell? ⟨g, 0, none⟩ = some x) ∧ (∀ o, (w.alloc o).cell? ⟨g, 1, none⟩ = some y) ∧ (∀ o, (w.alloc o).frozen? ⟨g, 0, none⟩ = false) ∧ (∀ o, (w.alloc o).frozen? ⟨g, 1, none⟩ = false) := by
  refine ⟨fun o => ?_, fun o => ?_, fun o => ?_, fun o => ?_⟩
  · rw [((Below.refl w.heap.size w).alloc (Nat.le_refl _) o).cell (by exact hg)]; exact h0
  · rw [((Below.refl w.heap.size w).alloc (Nat.le_refl _) o).cell (by exact hg)]; exact h1
  · rw [((Below.refl w.heap.size w).alloc (Nat.le_refl _) o).frozen (by exact hg)]; exact f0
  · rw [((Below.refl w.heap.size w).alloc (Nat.le_refl _) o).frozen (by exact hg)]; exact f1

theorem rsub_any (a b : Int) (w : World) :
    Calls Tryd.prog 14 #[I128 a, I128 b] w fun e w' => e = .returned (I128 (a - b)) ∧ Below w.heap.size w w' := by
  have cn := rneg_any b
  have ca := radd_any a (-b)
  rw [show a + -b = a - b by omega] at ca
  unfold I128 at cn ca ⊢
  go_enter Tryd.func14, Tryd.ntmps14
  go_wp2_with fail
  refine (cn _).mono ?_
  rintro e w1 ⟨rfl, b1⟩
  obtain ⟨k1, k2, k3, k4⟩ := kept2 b1 (g := w.heap.size + 2) (.int .i64 0) (.int .u64 0) (by go_size) (by go_cell) (by go_cell) (by go_cell) (by go_cell)
  obtain ⟨a1, a2, a3, a4⟩ := kept2 b1 (g := w.heap.size) (.int .i64 (hiI a)) (.int .u64 (loI a)) (by go_size) (by go_cell) (by go_cell) (by go_cell) (by go_cell)
  have bw := joined (w := w) (by go_grown) b1
  have s1 := b1.size
  simp only [World.size_alloc] at s1
  obtain ⟨a5, a6, a7, a8⟩ := alloc2 a1 a2 a3 a4 (by omega)
  obtain ⟨k5, k6, k7, k8⟩ := alloc2 k1 k2 k3 k4 (by omega)
  go_wp2_with fail
  refine (ca _).mono ?_
  rintro e w2 ⟨rfl, b2⟩
  obtain ⟨k1, k2, k3, k4⟩ := kept2 b2 (g := w.heap.size + 2) (.int .i64 0) (.int .u64 0) (by simp only [World.size_alloc]; omega) (k5 _) (k6 _) (k7 _) (k8 _)
  obtain ⟨l1, l2⟩ := set2 k1 k2 (.int .i64 (hiI (a - b))) (.int .u64 (loI (a - b)))
  have bw := joined (w := w) (by go_grown) b2
  go_wp2
  try simp only [Exit.inBlock, Exit.then]
  refine bodyPost_ret (ret2 rfl rfl l1 l2) rfl ?_
  exact ⟨rfl, by go_grown⟩

end Go.Proofs.YtepmcblnhibfeaaDoor.Wi
