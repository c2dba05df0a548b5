/- The law of texts. -/
import Derived.Test.YtepmcblnhibfeaaDoorWr2
import Derived.Test.YtepmcblnhibfeaaDoorWiA
import Derived.Test.YtepmcblnhibfeaaDoorReg
namespace Go.Proofs.YtepmcblnhibfeaaDoor.Wi
open Go.RowKit Go.Sort Go.Lib
set_option linter.unusedVariables false

set_option maxHeartbeats 2000000 in
theorem texts_any (a : Int) (ia : In a) (l : List UInt8) (hl : l.length ≤ 140737488355328) (w : World) (htab : Tab w) :
    Calls Tryd.prog 5 #[I128 a, .string ⟨l.toArray⟩] w fun e w' => e = .returned (.bool true) ∧ Below w.heap.size w w' := by
  have cp := fun w h => parse_any l hl w h
  have cr := fun w => rparse_any ⟨l.toArray⟩ (by simpa [ByteArray.size] using hl) w
  have cq := fun w h => print_any ia w h
  have cs := fun w => rprint_any ia w
  have cf := fun w h => fixed_any w h
  simp only at cr
  unfold I128 at *
  clear hl ia
  go_enter Tryd.func5, Tryd.ntmps5
  go_wp2_with fail
  have lw0 : Below w.heap.size w (w.alloc (.cells #[.int .i64 (hiI a), .int .u64 (loI a)] 25)) := by go_grown
  refine (cp _ (htab.stays lw0)).mono ?_
  rintro e w1 ⟨⟨v, er, rfl, h1⟩, b1⟩
  have lw1 := joined lw0 b1
  have T0 := (Two.new w a 25).stays b1 (by simp)
  have s1 := b1.size
  simp only [World.size_alloc] at s1
  have x1 := fun o => (T0.allocs (by omega) o).1
  have x2 := fun o => (T0.allocs (by omega) o).2.1
  have T1 := Two.new w1 v 25
  go_wp2_with fail
  have lw2 := lw1.alloc (by omega) (.cells #[.int .i64 (hiI v), .int .u64 (loI v)] 25)
  refine (cr _).mono ?_
  rintro e w2 ⟨⟨v', er', rfl, h2⟩, b2⟩
  have lw3 := joined lw2 b2
  have T0' := ((T0.allocs (by omega) (.cells #[.int .i64 (hiI v), .int .u64 (loI v)] 25)).stays b2 (by simp; omega))
  have T1' := T1.stays b2 (by simp)
  obtain ⟨rfl, rfl⟩ := h1.same h2
  have s2 := b2.size
  simp only [World.size_alloc] at s2
  clear x1 x2
  have y := fun o => T0'.allocs (by omega) o
  have z := fun o => T1'.allocs (by omega) o
  have y1 := fun o => (y o).1
  have y2 := fun o => (y o).2.1
  have z1 := fun o => (z o).1
  have z2 := fun o => (z o).2.1
  clear y z T0' T1' T0 T1 h1 h2 cp cr
  have lw4 := lw3.alloc (by omega) (.cells #[.int .i64 (hiI v), .int .u64 (loI v)] 25)
  have s4 : w.heap.size + 1 < w2.heap.size := by omega
  have hsz := lw4.size
  go_wp2_with fail
  refine Reg.region_below (by kernel_rfl) (by kernel_rfl) ?_
  intro S _ f hf hs
  have c0 := Reg.keepc hf (g := w.heap.size) (o := 0) (v := .int .i64 (hiI a)) (by simp; omega) (y1 _)
  have c1 := Reg.keepc hf (g := w.heap.size) (o := 1) (v := .int .u64 (loI a)) (by simp; omega) (y2 _)
  have c2 := Reg.keepc hf (g := w1.heap.size) (o := 0) (v := .int .i64 (hiI v)) (by simp; omega) (z1 _)
  have c3 := Reg.keepc hf (g := w1.heap.size) (o := 1) (v := .int .u64 (loI v)) (by simp; omega) (z2 _)
  have c4 := Reg.keepc hf (g := w2.heap.size) (o := 0) (v := .int .i64 (hiI v)) (by simp) (by go_cell)
  have c5 := Reg.keepc hf (g := w2.heap.size) (o := 1) (v := .int .u64 (loI v)) (by simp) (by go_cell)
  have ht := fun s => htab.stays (lw4.trans ((hf s).mono hsz))
  have lw5 := fun s => lw4.trans ((hf s).mono hsz)
  clear y1 y2 z1 z2
  repeat (go_big_quiet_step ((first | (go_at_call 27; with_reducible exact Reg.met hs (cq _ (ht _))) | (go_at_call 28; with_reducible exact Reg.met hs (cs _)) | (go_at_call 10; with_reducible exact Reg.met hs (cf _ (ht _))))))
  refine wpQuiet_nil ?_
  intro s
  go_wp2
  go_ret
  exact ⟨rfl, lw5 s⟩

end Go.Proofs.YtepmcblnhibfeaaDoor.Wi
