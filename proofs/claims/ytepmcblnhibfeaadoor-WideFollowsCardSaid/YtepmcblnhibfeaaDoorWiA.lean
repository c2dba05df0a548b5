/- Arguments that came in: numbers of 128 bits. -/
import Derived.Test.YtepmcblnhibfeaaDoorWi8
import Derived.ProofKit
import Derived.OpenShut
import Derived.SizedLaws
import Derived.Lib.SmallJoins
namespace Go.Proofs.YtepmcblnhibfeaaDoor.Wi
open Go.RowKit Go.ChangeShapes Go.WideShapes
set_option linter.unusedVariables false

theorem mk128 {hi lo : Int} (h0 : -9223372036854775808 ≤ hi ∧ hi ≤ 9223372036854775807) (h1 : 0 ≤ lo ∧ lo ≤ 18446744073709551615) :
    ∃ a, In a ∧ Value.agg #[.int .i64 hi, .int .u64 lo] = I128 a ∧ a = hi * 18446744073709551616 + lo := by
  refine ⟨hi * 18446744073709551616 + lo, by unfold In; omega, ?_, rfl⟩
  have e1 : hiI (hi * 18446744073709551616 + lo) = hi := by unfold hiI; omega
  have e2 : loI (hi * 18446744073709551616 + lo) = lo := by unfold loI; omega
  unfold I128; rw [e1, e2]

set_option maxRecDepth 100000 in
theorem open128 {H : Type} {enc : TypeId × Value → H} {W : World} {b0 base : Nat} {spare : Nat → Bool} {held : Bool} {r : Reach} {v : Value} {d : DataW H} {p : List MemPlace}
    (k : Value.okWide Tryd.prog W r b0 25 v) (h : DataW.Trod enc Tryd.prog W base spare held 25 v d p) : ∃ a, In a ∧ v = I128 a := by
  obtain ⟨c0, c1, y0, y1, m, rfl, rfl, rfl, e0, e1⟩ := Joins.open_agg2 Tryd.underlying25 (by kernel_rfl) (by kernel_rfl) k h
  obtain ⟨hi, ea, rfl, wa⟩ := DataW.trod_int Tryd.underlying2 e0
  obtain ⟨lo, eb, rfl, wb⟩ := DataW.trod_int Tryd.underlying23 e1
  simp only [List.cons.injEq, and_true] at ea eb
  subst ea eb
  obtain ⟨a, ha, e, _⟩ := mk128 (bounds_i64 wa) (bounds_u64 wb)
  exact ⟨a, ha, e⟩

end Go.Proofs.YtepmcblnhibfeaaDoor.Wi
