/- Names and labels: letters, names; the program's and the document's. -/
import Derived.Test.YtgjcdhcbniholaaGreatChecked
import Derived.Test.YtgjcdhcbniholaaGreatShelf
import Derived.WalkKit
import Derived.ProofKit
import Derived.WalkSmall
import Derived.BigQuiet
import Derived.Deep.QuietTactic
import Derived.Handy
import Derived.Outline
import Derived.Lib.Hide
import Derived.LoopTactic
import Derived.IntWalk
import Derived.WalkSpells
import Derived.WalkLawsBesides
namespace Go.Proofs.YtgjcdhcbniholaaGreat.La
open Go.RowKit
set_option linter.unusedVariables false

/-- A letter, a digit or _. -/
def isL (c : Int) : Bool := decide (97 ≤ c ∧ c ≤ 122 ∨ 65 ≤ c ∧ c ≤ 90 ∨ 48 ≤ c ∧ c ≤ 57 ∨ c = 95)
def isLB (b : UInt8) : Bool := isL (b.toNat : Int)

theorem ret_bool {a b : Bool} (h : a = b) : Ending.returned (.bool a) = .returned (.bool b) := by rw [h]

theorem letter_any (c : Int) (w : World) :
    Calls Tryz.prog 46 #[.int .u8 c] w fun e w' => e = .returned (.bool (isL c)) ∧ w' = w := by
  go_enter Tryz.func46, Tryz.ntmps46
  go_wp2
  all_goals
    go_ret
    refine ⟨ret_bool ?_, rfl⟩
    unfold isL
    first | (symm; refine decide_eq_true ?_; omega) | (symm; refine decide_eq_false ?_; omega) | (rw [Bool.eq_iff_iff]; simp only [Bool.or_eq_true, decide_eq_true_eq, beq_iff_eq]; omega)

theorem rletter_any (c : Int) (w : World) :
    Calls Tryz.prog 52 #[.int .u8 c] w fun e w' => e = .returned (.bool (isL c)) ∧ w' = w := by
  go_enter Tryz.func52, Tryz.ntmps52
  go_wp2
  all_goals
    go_ret
    refine ⟨ret_bool ?_, rfl⟩
    unfold isL
    first | (symm; refine decide_eq_true ?_; omega) | (symm; refine decide_eq_false ?_; omega) | (rw [Bool.eq_iff_iff]; simp only [Bool.or_eq_true, decide_eq_true_eq, beq_iff_eq]; omega)

end Go.Proofs.YtgjcdhcbniholaaGreat.La
