/- Whole numbers of 128 bits: a number without its sign. -/
import Derived.Test.YtepmcblnhibfeaaDoorWi2
import Derived.BigQuiet
import Derived.WalkSmall
namespace Go.Proofs.YtepmcblnhibfeaaDoor.Wi
open Go.RowKit
set_option linter.unusedVariables false

def absI (a : Int) : Int := if a < 0 then -a else a

theorem hi_neg {a : Int} (ha : In a) : (a < 0 → hiI a < 0) ∧ (¬ a < 0 → ¬ hiI a < 0) := by
  rw [ha.hi]; clear ha; constructor <;> intro h <;> omega

theorem size_any {a : Int} (ha : In a) (w : World) :
    Calls Tryd.prog 40 #[I128 a] w fun e w' => e = .returned (.tuple #[.int .u64 (hU (absI a)), .int .u64 (loI (absI a))]) ∧ Below w.heap.size w w' := by
  obtain ⟨hn, hp⟩ := hi_neg ha
  clear ha
  have c := neg_any a
  by_cases h : a < 0
  · have d := hn h
    have e : absI a = -a := by rw [absI, if_pos h]
    have e1 := wrap_hi (-a)
    rw [e]; clear hn hp h e
    unfold I128 at c ⊢
    go_enter Tryd.func40, Tryd.ntmps40
    go_wp2_with fail
    refine (c _).mono ?_
    rintro e w1 ⟨rfl, b1⟩
    obtain ⟨k1, k2, k3, k4⟩ := kept2 b1 (g := w.heap.size) (.int .i64 (hiI a)) (.int .u64 (loI a)) (by go_size) (by go_cell) (by go_cell) (by go_cell) (by go_cell)
    obtain ⟨l1, l2⟩ := set2 k1 k2 (.int .i64 (hiI (-a))) (.int .u64 (loI (-a)))
    have bw := joined (w := w) (by go_grown) b1
    go_wp2
    go_quiet (fail)
    go_wp2
    go_ret2
    exact ⟨rfl, below_drewN (by go_grown) _⟩
  · have d := hp h
    have e : absI a = a := by rw [absI, if_neg h]
    have e1 := wrap_hi a
    rw [e]; clear hn hp h e
    unfold I128 at c ⊢
    go_enter Tryd.func40, Tryd.ntmps40
    go_wp2
    go_quiet (fail)
    go_wp2
    go_ret2
    exact ⟨rfl, below_drewN (by go_grown) _⟩

end Go.Proofs.YtepmcblnhibfeaaDoor.Wi
