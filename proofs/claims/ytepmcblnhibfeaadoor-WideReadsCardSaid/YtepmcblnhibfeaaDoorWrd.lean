/- The law of reading. -/
import Derived.Test.YtepmcblnhibfeaaDoorWiA
namespace Go.Proofs.YtepmcblnhibfeaaDoor.Wi
open Go.RowKit Go.Sort Go.Lib
set_option linter.unusedVariables false

theorem reads_any (l : List UInt8) (hl : l.length ≤ 140737488355328) (w : World) (htab : Tab w) :
    Calls Tryd.prog 6 #[.string ⟨l.toArray⟩] w fun e w' => e = .returned (.bool true) ∧ Below w.heap.size w w' := by
  have cp := fun w h => parse_any l hl w h
  have cf := fun w h => fixed_any w h
  have cq := @print_any
  unfold I128 at cp cq
  clear hl
  go_enter Tryd.func6, Tryd.ntmps6
  go_wp2_with fail
  refine (cp _ htab).mono ?_
  rintro e w1 ⟨⟨v, er, rfl, ha⟩, b1⟩
  have lw : Below w.heap.size w w1 := b1
  rcases ha with ⟨hin, hit, rfl⟩ | ⟨rfl, rfl, _⟩
  · have cr := fun w h => cq hin w h
    rw [hit] at cr
    replace hit := Lib.hid hit
    clear hin cq cp
    go_wp2_with fail
    have lw1 : Below w.heap.size w (w1.alloc (.cells #[.int .i64 (hiI v), .int .u64 (loI v)] 25)) := lw.alloc b1.size _
    refine (cr _ (htab.stays lw1)).mono ?_
    rintro e w2 ⟨rfl, b2⟩
    have lw2 := joined lw1 b2
    go_wp2_with fail
    refine (cf _ (htab.stays lw2)).mono ?_
    rintro e w3 ⟨rfl, b3⟩
    have lw3 := joined lw2 b3
    go_wp2
    go_ret
    exact ⟨rfl, lw3⟩
  · rw [hi0, lo0]
    clear cq cp
    go_wp2_with fail
    have lw1 : Below w.heap.size w (w1.alloc (.cells #[.int .i64 0, .int .u64 0] 25)) := lw.alloc b1.size _
    refine (cf _ (htab.stays lw1)).mono ?_
    rintro e w3 ⟨rfl, b3⟩
    have lw3 := joined lw1 b3
    go_wp2
    go_ret
    exact ⟨rfl, lw3⟩

end Go.Proofs.YtepmcblnhibfeaaDoor.Wi
