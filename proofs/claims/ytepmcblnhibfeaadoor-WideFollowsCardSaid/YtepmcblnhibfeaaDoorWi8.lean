/- The law's 'fixed'. -/
import Derived.Test.YtepmcblnhibfeaaDoorWi7
namespace Go.Proofs.YtepmcblnhibfeaaDoor.Wi
open Go.RowKit Go.Sort Go.Lib
set_option linter.unusedVariables false

theorem parse_any (l : List UInt8) (hl : l.length ≤ 140737488355328) (w : World) (htab : Tab w) :
    Calls Tryd.prog 25 #[.string ⟨l.toArray⟩] w fun e w' => (∃ v er, e = .returned (.tuple #[I128 v, .int .i64 er]) ∧ Ans l v er) ∧ Below w.heap.size w w' := by
  by_cases h : 39 < (trimPrefix l [45]).length
  · exact (parse_long l hl h w).mono fun e w' ⟨h1, h2⟩ => ⟨⟨0, 5, h1, .inr ⟨rfl, rfl, fun a ha => no_long h ha⟩⟩, h2⟩
  · exact parse_short l hl h w htab

theorem ans_007 {v er : Int} (h : Ans [48, 48, 55] v er) : v = 0 ∧ er = 5 := by
  rcases h with ⟨h1, h2, h3⟩ | ⟨h1, h2, h3⟩
  · exfalso
    have e := sval_itoa v
    rw [h2] at e
    have e7 : sval [48, 48, 55] = 7 := by decide
    rw [e7] at e
    subst e
    have e8 : itoa 7 = [55] := by
      rw [itoa, if_neg (by decide)]
      exact decDigits_one (by decide)
    rw [e8] at h2
    simp at h2
  · exact ⟨h1, h2⟩

theorem in_2_64 : In 18446744073709551616 := by unfold In; omega
theorem in_m1 : In (-1) := by unfold In; omega
theorem itoa_2_64 : itoa 18446744073709551616 = [49, 56, 52, 52, 54, 55, 52, 52, 48, 55, 51, 55, 48, 57, 53, 53, 49, 54, 49, 54] := by kernel_rfl

theorem fixed_any (w : World) (htab : Tab w) :
    Calls Tryd.prog 10 #[] w fun e w' => e = .returned (.bool true) ∧ Below w.heap.size w w' := by
  have cu := fun w => unsigned_any 18446744073709551615 (by omega) (by omega) w
  have co := fun w => of_any 1 (by omega) (by omega) w
  have cm := fun w => of_any (-1) (by omega) (by omega) w
  have ca := fun w => add_any 18446744073709551615 1 w
  have cp := fun w => parse_any [48, 48, 55] (by decide) w
  have cq := fun w => print_any in_2_64 w
  have cs := fun w => sign_any in_m1 w
  rw [itoa_2_64] at cq
  have e1 : I128 (18446744073709551615 + 1) = .agg #[.int .i64 1, .int .u64 0] := by
    unfold I128; rw [show hiI (18446744073709551615 + 1) = 1 by decide, show loI (18446744073709551615 + 1) = 0 by decide]
  have e2 : I128 18446744073709551616 = .agg #[.int .i64 1, .int .u64 0] := by
    unfold I128; rw [show hiI 18446744073709551616 = 1 by decide, show loI 18446744073709551616 = 0 by decide]
  have e3 : cmpI (-1) 0 = -1 := by decide
  rw [e1] at ca
  rw [e2] at cq
  rw [e3] at cs
  clear e1 e2 e3
  go_enter Tryd.func10, Tryd.ntmps10
  go_wp2_with fail
  refine (cu _).mono ?_
  rintro e w1 ⟨rfl, b1⟩
  go_wp2_with fail
  refine (co _).mono ?_
  rintro e w2 ⟨rfl, b2⟩
  have b2 := joined b1 b2
  go_wp2_with fail
  refine (ca _).mono ?_
  rintro e w3 ⟨rfl, b3⟩
  have b3 := joined b2 b3
  have s3 := b3.size
  go_wp2_with fail
  refine (cp _ (htab.stays (by go_grown))).mono ?_
  rintro e w4 ⟨⟨v, er, rfl, ha⟩, b4⟩
  obtain ⟨rfl, rfl⟩ := ans_007 ha
  obtain ⟨k1, k2, k3, k4⟩ := kept2 b4 (g := w3.heap.size) (.int .i64 1) (.int .u64 0) (by go_size) (by go_cell) (by go_cell) (by go_cell) (by go_cell)
  have b4' := joined (w := w) (by go_grown) b4
  have s4 := b4.size
  simp only [World.size_alloc] at s4
  obtain ⟨k5, k6, k7, k8⟩ := alloc2 k1 k2 k3 k4 (by omega)
  rw [I128_zero]
  have s4' := b4'.size
  go_wp2_with fail
  refine (cq _ (htab.stays (by go_grown))).mono ?_
  rintro e w5 ⟨rfl, b5⟩
  have b5' := joined (w := w) (by go_grown) b5
  go_wp2_with fail
  refine (cm _).mono ?_
  rintro e w6 ⟨rfl, b6⟩
  have b6' := joined b5' b6
  go_wp2_with fail
  refine (cs _).mono ?_
  rintro e w7 ⟨rfl, b7⟩
  have b7' := joined b6' b7
  go_wp2
  go_ret
  exact ⟨rfl, b7'⟩

end Go.Proofs.YtepmcblnhibfeaaDoor.Wi
