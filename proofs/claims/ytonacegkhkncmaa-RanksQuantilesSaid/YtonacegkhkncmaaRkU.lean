/- The stage's theorem on quantiles: the walk. -/
import Derived.Test.YtonacegkhkncmaaRkV
namespace Go.Proofs.Ytonacegkhkncmaa.Rk
open Go.RowKit Go.Proofs.Ytonacegkhkncmaa.Sl Go.Proofs.Ytonacegkhkncmaa.Bk
set_option linter.unusedVariables false

set_option maxRecDepth 100000 in
set_option maxHeartbeats 1000000 in
theorem quantiles_bad (w : World) (p num den : Int) (A : Option Addr) (n cap : Nat) (hbad : ¬ good p ∨ den < 1 ∨ num < 0 ∨ den < num ∨ n = 0) :
    Calls Try.prog 8 #[.agg #[.int .i64 p, .slice A n cap, .int .i64 num, .int .i64 den]] w fun e w' => e = .returned (.bool true) ∧ Below w.heap.size w w' := by
  have hb : p < 1 ∨ (1 ≤ p ∧ 14 < p) ∨ (1 ≤ p ∧ p ≤ 14 ∧ den < 1) ∨ (1 ≤ p ∧ p ≤ 14 ∧ 1 ≤ den ∧ num < 0) ∨ (1 ≤ p ∧ p ≤ 14 ∧ 1 ≤ den ∧ 0 ≤ num ∧ den < num) ∨ (1 ≤ p ∧ p ≤ 14 ∧ 1 ≤ den ∧ 0 ≤ num ∧ num ≤ den ∧ n = 0) := by unfold good at hbad; omega
  clear hbad
  rcases hb with h | ⟨h1, h2⟩ | ⟨h1, h2, h3⟩ | ⟨h1, h2, h3, h4⟩ | ⟨h1, h2, h3, h4, h5⟩ | ⟨h1, h2, h3, h4, h5, h6⟩
  all_goals
    try subst h6
    go_enter Try.func8, Try.ntmps8
    go_wp2_with fail
    go_quiet (fail)
    go_wp2_with (first | (go_at_call 21; refine (fixed_t _).mono ?_; rintro e w1 ⟨rfl, hb1⟩))
    go_ret
    exact ⟨rfl, (below_drewN ((Below.refl _ w).alloc (Nat.le_refl _) _) nq).trans (hb1.mono (by simp))⟩
end Go.Proofs.Ytonacegkhkncmaa.Rk
