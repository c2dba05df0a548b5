/- The law of sums, differences and order. -/
import Derived.Test.YtepmcblnhibfeaaDoorWiA
import Derived.Test.YtepmcblnhibfeaaDoorReg
namespace Go.Proofs.YtepmcblnhibfeaaDoor.Wi
open Go.RowKit Go.Sort Go.Lib
set_option linter.unusedVariables false

/-- Two arguments in blocks of their own, behind calls that leave what was there. -/
def TwoArgs (w wr : World) (a b : Int) : Prop := Below w.heap.size w wr ∧ w.heap.size + 1 < wr.heap.size ∧ Two wr w.heap.size a ∧ Two wr (w.heap.size + 1) b

theorem TwoArgs.stays {w wr w' : World} {a b : Int} (h : TwoArgs w wr a b) (l : Below wr.heap.size wr w') : TwoArgs w w' a b := by
  obtain ⟨h1, h2, h3, h4⟩ := h
  exact ⟨joined h1 l, by have := l.size; omega, h3.stays l (by omega), h4.stays l (by omega)⟩

theorem TwoArgs.new (w : World) (a b : Int) (T U : TypeId) : TwoArgs w ((w.alloc (.cells #[.int .i64 (hiI a), .int .u64 (loI a)] T)).alloc (.cells #[.int .i64 (hiI b), .int .u64 (loI b)] U)) a b := by
  refine ⟨by go_grown, by simp, ?_, ?_⟩
  · exact (Two.new w a T).stays ((Below.refl _ _).alloc (Nat.le_refl _) _) (by simp)
  · have := Two.new (w.alloc (.cells #[.int .i64 (hiI a), .int .u64 (loI a)] T)) b U
    simpa using this

theorem cmp_self (a : Int) : cmpI a a = 0 := by unfold cmpI; rw [if_pos rfl]

set_option maxHeartbeats 2000000 in
theorem sums_any (a b n : Int) (ia : In a) (ib : In b) (hn0 : -9223372036854775808 ≤ n) (hn1 : n ≤ 9223372036854775807) (w : World) (htab : Tab w) :
    Calls Tryd.prog 4 #[I128 a, I128 b, .int .i64 n] w fun e w' => e = .returned (.bool true) ∧ Below w.heap.size w w' := by
  have ca := add_any a b
  have cra := radd_any a b
  have cs := sub_any a b
  have crs := rsub_any a b
  have cn := neg_any a
  have crn := rneg_any a
  have cc := compare_any ia ib
  have crc := rcompare_any ia ib
  have caa := compare_any ia ia
  rw [cmp_self] at caa
  have cg := sign_any ia
  have crg := rsign_any ia
  have co := of_any n hn0 hn1
  have cro := rof_any n hn0 hn1
  have hw : IntKind.u64.wrap n = loI n := by rw [IntKind.wrap_u64]; rfl
  have cu := unsigned_any (loI n) (by unfold loI; omega) (by unfold loI; omega)
  have cru := runsigned_any (loI n) (by unfold loI; omega) (by unfold loI; omega)
  have hNew := TwoArgs.new w a b
  replace hNew := Lib.hid hNew
  clear ia ib hn0 hn1
  unfold I128 at *
  go_enter Tryd.func4, Tryd.ntmps4
  go_wp2_with fail
  refine Reg.region_below (by kernel_rfl) (by kernel_rfl) ?_
  intro S _ f hf hs
  have c0 := Reg.keepc hf (g := w.heap.size) (o := 0) (v := .int .i64 (hiI a)) (by go_size) (by go_cell)
  have c1 := Reg.keepc hf (g := w.heap.size) (o := 1) (v := .int .u64 (loI a)) (by go_size) (by go_cell)
  have c2 := Reg.keepc hf (g := w.heap.size + 1) (o := 0) (v := .int .i64 (hiI b)) (by go_size) (by go_cell)
  have c3 := Reg.keepc hf (g := w.heap.size + 1) (o := 1) (v := .int .u64 (loI b)) (by go_size) (by go_cell)
  repeat (go_big_quiet_step ((first | (go_at_call 11; with_reducible exact Reg.met hs (ca _)) | (go_at_call 12; with_reducible exact Reg.met hs (cra _)) | (go_at_call 13; with_reducible exact Reg.met hs (cs _)) | (go_at_call 14; with_reducible exact Reg.met hs (crs _)) | (go_at_call 15; with_reducible exact Reg.met hs (cn _)) | (go_at_call 16; with_reducible exact Reg.met hs (crn _)))))
  refine wpQuiet_nil ?_
  intro s
  have hb1 := hf s
  have k0 := c0 s
  have k1 := c1 s
  have k2 := c2 s
  have k3 := c3 s
  obtain ⟨w1, hw1⟩ : ∃ w1, w1 = f s := ⟨_, rfl⟩
  rw [← hw1] at hb1 k0 k1 k2 k3 ⊢
  clear hw1 hs hf c0 c1 c2 c3
  have sz1 := hb1.size
  try simp only [World.size_alloc] at sz1
  go_wp2_with fail
  refine Reg.region_below (by kernel_rfl) (by kernel_rfl) ?_
  intro S _ f hf hs
  have c0 := Reg.keepc hf (g := w.heap.size) (o := 0) (v := .int .i64 (hiI a)) (by go_size) (by go_cell)
  have c1 := Reg.keepc hf (g := w.heap.size) (o := 1) (v := .int .u64 (loI a)) (by go_size) (by go_cell)
  have c2 := Reg.keepc hf (g := w.heap.size + 1) (o := 0) (v := .int .i64 (hiI b)) (by go_size) (by go_cell)
  have c3 := Reg.keepc hf (g := w.heap.size + 1) (o := 1) (v := .int .u64 (loI b)) (by go_size) (by go_cell)
  clear k0 k1 k2 k3
  repeat (go_big_quiet_step ((first | (go_at_call 17; with_reducible exact Reg.met hs (cc _)) | (go_at_call 18; with_reducible exact Reg.met hs (crc _)) | (go_at_call 17; with_reducible exact Reg.met hs (caa _)) | (go_at_call 19; with_reducible exact Reg.met hs (cg _)) | (go_at_call 20; with_reducible exact Reg.met hs (crg _)))))
  refine wpQuiet_nil ?_
  intro s
  have hb2 := hf s
  have k0 := c0 s
  have k1 := c1 s
  have k2 := c2 s
  have k3 := c3 s
  obtain ⟨w2, hw2⟩ : ∃ w2, w2 = f s := ⟨_, rfl⟩
  rw [← hw2] at hb2 k0 k1 k2 k3 ⊢
  clear hw2 hs hf c0 c1 c2 c3
  have sz2 := hb2.size
  try simp only [World.size_alloc] at sz2
  have lw1 : Below w.heap.size w w1 := joined (w := w) (by go_grown) hb1
  have lw := joined lw1 hb2
  have cf := fun w h => fixed_any w h
  go_wp2_with fail
  refine (co _).mono ?_
  rintro e w' ⟨rfl, l⟩
  replace lw := joined lw l
  clear l
  go_wp2_with fail
  refine (cro _).mono ?_
  rintro e w' ⟨rfl, l⟩
  replace lw := joined lw l
  clear l
  go_wp2_with fail
  refine (cu _).mono ?_
  rintro e w' ⟨rfl, l⟩
  replace lw := joined lw l
  clear l
  go_wp2_with fail
  refine (cru _).mono ?_
  rintro e w' ⟨rfl, l⟩
  replace lw := joined lw l
  clear l
  go_wp2_with fail
  refine (cf _ (htab.stays lw)).mono ?_
  rintro e w' ⟨rfl, l⟩
  replace lw := joined lw l
  clear l
  go_wp2
  go_ret
  exact ⟨rfl, lw⟩

end Go.Proofs.YtepmcblnhibfeaaDoor.Wi
