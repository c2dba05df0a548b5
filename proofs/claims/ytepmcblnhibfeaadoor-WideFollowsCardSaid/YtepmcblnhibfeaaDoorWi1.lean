/- Whole numbers of 128 bits: from 64 bits, and order. -/
import Derived.Test.YtepmcblnhibfeaaDoorWi0
namespace Go.Proofs.YtepmcblnhibfeaaDoor.Wi
open Go.RowKit
set_option linter.unusedVariables false

theorem unsigned_any (n : Int) (h0 : 0 ≤ n) (h1 : n < 18446744073709551616) (w : World) :
    Calls Tryd.prog 23 #[.int .u64 n] w fun e w' => e = .returned (I128 n) ∧ Below w.heap.size w w' := by
  have e1 : hiI n = 0 := by unfold hiI; omega
  have e2 : loI n = n := by unfold loI; omega
  clear h0 h1
  unfold I128; rw [e1, e2]
  go_enter Tryd.func23, Tryd.ntmps23
  go_wp2
  go_returns
  exact ⟨rfl, by go_grown⟩

theorem runsigned_any (n : Int) (h0 : 0 ≤ n) (h1 : n < 18446744073709551616) (w : World) :
    Calls Tryd.prog 24 #[.int .u64 n] w fun e w' => e = .returned (I128 n) ∧ Below w.heap.size w w' := by
  have e1 : hiI n = 0 := by unfold hiI; omega
  have e2 : loI n = n := by unfold loI; omega
  clear h0 h1
  unfold I128; rw [e1, e2]
  go_enter Tryd.func24, Tryd.ntmps24
  go_wp2
  go_returns
  exact ⟨rfl, by go_grown⟩

theorem of_any (n : Int) (h0 : -9223372036854775808 ≤ n) (h1 : n ≤ 9223372036854775807) (w : World) :
    Calls Tryd.prog 21 #[.int .i64 n] w fun e w' => e = .returned (I128 n) ∧ Below w.heap.size w w' := by
  have e1 : n / 9223372036854775808 = hiI n := by unfold hiI; omega
  have e2 : IntKind.u64.wrap n = loI n := by rw [IntKind.wrap_u64]; rfl
  have e3 : IntKind.i64.wrap (hiI n) = hiI n := by rw [IntKind.wrap_i64]; unfold hiI; omega
  clear h0 h1
  unfold I128
  go_enter Tryd.func21, Tryd.ntmps21
  go_wp2
  go_returns
  exact ⟨rfl, by go_grown⟩

theorem rof_any (n : Int) (h0 : -9223372036854775808 ≤ n) (h1 : n ≤ 9223372036854775807) (w : World) :
    Calls Tryd.prog 22 #[.int .i64 n] w fun e w' => e = .returned (I128 n) ∧ Below w.heap.size w w' := by
  have e2 : IntKind.u64.wrap n = loI n := by rw [IntKind.wrap_u64]; rfl
  by_cases hn : n < 0
  · have e1 : hiI n = -1 := by unfold hiI; omega
    clear h0 h1
    unfold I128; rw [e1]
    go_enter Tryd.func22, Tryd.ntmps22
    go_wp2
    go_returns
    exact ⟨rfl, by go_grown⟩
  · have e1 : hiI n = 0 := by unfold hiI; omega
    clear h0 h1
    unfold I128; rw [e1]
    go_enter Tryd.func22, Tryd.ntmps22
    go_wp2
    go_returns
    exact ⟨rfl, by go_grown⟩

def cmpI (a b : Int) : Int := if a = b then 0 else if a < b then -1 else 1

/-- A number of 128 bits with a sign. -/
def In (a : Int) : Prop := -170141183460469231731687303715884105728 ≤ a ∧ a ≤ 170141183460469231731687303715884105727

theorem In.hi {a : Int} (h : In a) : hiI a = a / 18446744073709551616 := by unfold hiI; unfold In at h; omega

theorem cmp_cases {a b : Int} (ha : In a) (hb : In b) :
    (hiI a < hiI b ∧ cmpI a b = -1) ∨ (hiI b < hiI a ∧ cmpI a b = 1) ∨ (hiI a = hiI b ∧ loI a < loI b ∧ cmpI a b = -1) ∨ (hiI a = hiI b ∧ loI b < loI a ∧ cmpI a b = 1) ∨ (hiI a = hiI b ∧ loI a = loI b ∧ cmpI a b = 0) := by
  rw [ha.hi, hb.hi]
  unfold cmpI loI
  clear ha hb
  rcases Int.lt_trichotomy (a / 18446744073709551616) (b / 18446744073709551616) with h | h | h
  · exact .inl ⟨h, by rw [if_neg (by omega), if_pos (by omega)]⟩
  · rcases Int.lt_trichotomy (a % 18446744073709551616) (b % 18446744073709551616) with g | g | g
    · exact .inr (.inr (.inl ⟨h, g, by rw [if_neg (by omega), if_pos (by omega)]⟩))
    · exact .inr (.inr (.inr (.inr ⟨h, g, by rw [if_pos (by omega)]⟩)))
    · exact .inr (.inr (.inr (.inl ⟨h, g, by rw [if_neg (by omega), if_neg (by omega)]⟩)))
  · exact .inr (.inl ⟨h, by rw [if_neg (by omega), if_neg (by omega)]⟩)

theorem compare_walk (x y x' y' r : Int) (w : World)
    (h : (x < x' ∧ r = -1) ∨ (x' < x ∧ r = 1) ∨ (x = x' ∧ y < y' ∧ r = -1) ∨ (x = x' ∧ y' < y ∧ r = 1) ∨ (x = x' ∧ y = y' ∧ r = 0)) :
    Calls Tryd.prog 17 #[.agg #[.int .i64 x, .int .u64 y], .agg #[.int .i64 x', .int .u64 y']] w fun e w' => e = .returned (.int .i64 r) ∧ Below w.heap.size w w' := by
  rcases h with ⟨h, rfl⟩ | ⟨h, rfl⟩ | ⟨h, g, rfl⟩ | ⟨h, g, rfl⟩ | ⟨h, g, rfl⟩
  · have d1 : (x == x') = false := beq_eq_false_iff_ne.2 (by omega)
    go_enter Tryd.func17, Tryd.ntmps17
    go_wp2
    go_ret
    exact ⟨rfl, by go_grown⟩
  · have d1 : (x == x') = false := beq_eq_false_iff_ne.2 (by omega)
    have d2 : ¬ x < x' := by omega
    go_enter Tryd.func17, Tryd.ntmps17
    go_wp2
    go_ret
    exact ⟨rfl, by go_grown⟩
  · subst h
    have d1 : (y == y') = false := beq_eq_false_iff_ne.2 (by omega)
    go_enter Tryd.func17, Tryd.ntmps17
    go_wp2
    go_ret
    exact ⟨rfl, by go_grown⟩
  · subst h
    have d1 : (y == y') = false := beq_eq_false_iff_ne.2 (by omega)
    have d2 : ¬ y < y' := by omega
    go_enter Tryd.func17, Tryd.ntmps17
    go_wp2
    go_ret
    exact ⟨rfl, by go_grown⟩
  · subst h; subst g
    go_enter Tryd.func17, Tryd.ntmps17
    go_wp2
    go_ret
    exact ⟨rfl, by go_grown⟩


end Go.Proofs.YtepmcblnhibfeaaDoor.Wi
