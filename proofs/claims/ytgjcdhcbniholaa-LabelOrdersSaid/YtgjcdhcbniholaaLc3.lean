/- LabelOrders: the walk. -/
import Derived.Test.YtgjcdhcbniholaaLc2
import Derived.Test.YtgjcdhcbniholaaReg
namespace Go.Proofs.Ytgjcdhcbniholaa.La
open Go.RowKit Go.Proofs.Ytgjcdhcbniholaa.Sl
set_option linter.unusedVariables false

theorem DD.In.below {d : DD} {w w' : World} {B : Nat} (h : d.In w B) (k : Below B w w') : d.In w' B := ⟨h.rd.below k, h.len⟩

theorem desc_ord : Ord3 (ByteArray × List Lab) (fun x y => if cB x.1 y.1 ≠ 0 then cB x.1 y.1 else cmpLs x.2 y.2) := cB_ord.lex labs_ord

/-- What the three comparisons say together. -/
theorem three (a b c : DD) : ∃ X Y Z : Int, cmpD a b = X ∧ cmpD b c = Y ∧ cmpD a c = Z ∧ cmpD a a = 0 ∧ (X = -1 ∨ X = 0 ∨ X = 1) ∧ (Y = -1 ∨ Y = 0 ∨ Y = 1) ∧ (Z = -1 ∨ Z = 0 ∨ Z = 1) ∧ (X ≤ 0 → Y ≤ 0 → Z ≤ 0 ∧ ((X = 0 ∧ Y = 0) ↔ Z = 0)) := by
  have h := desc_ord
  exact ⟨_, _, _, rfl, rfl, rfl, (h.eq (a.name, a.l) (a.name, a.l)).2 rfl, h.range (a.name, a.l) (b.name, b.l), h.range (b.name, b.l) (c.name, c.l), h.range (a.name, a.l) (c.name, c.l),
    fun x y => ⟨h.trans (a.name, a.l) (b.name, b.l) (c.name, c.l) x y, h.zero (a.name, a.l) (b.name, b.l) (c.name, c.l) x y⟩⟩

set_option maxRecDepth 100000 in
set_option maxHeartbeats 4000000 in
theorem orders_any {w : World} (a b c : DD) (ha : a.In w w.heap.size) (hb : b.In w w.heap.size) (hc : c.In w w.heap.size) :
    Calls Try.prog 8 #[a.v, b.v, c.v] w fun e w' => e = .returned (.bool true) ∧ Below w.heap.size w w' := by
  obtain ⟨X, Y, Z, e1, e2, e3, e4, r1, r2, r3, hxyz⟩ := three a b c
  have cw := fun w' (k : Below w.heap.size w w') => compare_any a b (ha.below k) (hb.below k) k.size
  have cw2 := fun w' (k : Below w.heap.size w w') => compare_any b c (hb.below k) (hc.below k) k.size
  have cw3 := fun w' (k : Below w.heap.size w w') => compare_any a c (ha.below k) (hc.below k) k.size
  have cw4 := fun w' (k : Below w.heap.size w w') => compare_any a a (ha.below k) (ha.below k) k.size
  rw [e1] at cw; rw [e2] at cw2; rw [e3] at cw3; rw [e4] at cw4
  obtain ⟨k1, n1, h1, A1, d1, l1⟩ := a
  obtain ⟨k2, n2, h2, A2, d2, l2⟩ := b
  obtain ⟨k3, n3, h3, A3, d3, l3⟩ := c
  unfold DD.v at *
  dsimp only at *
  clear e1 e2 e3 e4 ha hb hc
  have ca := awake_any (((w.alloc (.cells #[.int .i64 k1, .string n1, .string h1, .slice A1 l1.length d1] 37)).alloc (.cells #[.int .i64 k2, .string n2, .string h2, .slice A2 l2.length d2] 37)).alloc (.cells #[.int .i64 k3, .string n3, .string h3, .slice A3 l3.length d3] 37))
  replace ca := Lib.hid ca
  replace cw := Lib.hid cw
  replace cw2 := Lib.hid cw2
  replace cw3 := Lib.hid cw3
  replace cw4 := Lib.hid cw4
  replace hxyz := Lib.hid hxyz
  go_enter Try.func8, Try.ntmps8
  go_wp2_with fail
  refine ca.out.mono ?_
  rintro e w1 ⟨rfl, hb1⟩
  have hw1 : Below w.heap.size w w1 := ((((Below.refl _ w).alloc (Nat.le_refl _) _).alloc (by simp) _).alloc (by simp; omega) _).trans (hb1.mono (by simp; omega))
  have sz1 := hb1.size
  simp only [World.size_alloc] at sz1
  go_wp2_with fail
  have z0 : w1.cell? ⟨w.heap.size, 0, none⟩ = some (.int .i64 k1) := (hb1.cell (p := ⟨w.heap.size, 0, none⟩) (by simp; try omega)).trans (by go_cell)
  have z1 : w1.cell? ⟨w.heap.size, 1, none⟩ = some (.string n1) := (hb1.cell (p := ⟨w.heap.size, 1, none⟩) (by simp; try omega)).trans (by go_cell)
  have z2 : w1.cell? ⟨w.heap.size, 2, none⟩ = some (.string h1) := (hb1.cell (p := ⟨w.heap.size, 2, none⟩) (by simp; try omega)).trans (by go_cell)
  have z3 : w1.cell? ⟨w.heap.size, 3, none⟩ = some (.slice A1 l1.length d1) := (hb1.cell (p := ⟨w.heap.size, 3, none⟩) (by simp; try omega)).trans (by go_cell)
  have z4 : w1.cell? ⟨w.heap.size + 1, 0, none⟩ = some (.int .i64 k2) := (hb1.cell (p := ⟨w.heap.size + 1, 0, none⟩) (by simp; try omega)).trans (by go_cell)
  have z5 : w1.cell? ⟨w.heap.size + 1, 1, none⟩ = some (.string n2) := (hb1.cell (p := ⟨w.heap.size + 1, 1, none⟩) (by simp; try omega)).trans (by go_cell)
  have z6 : w1.cell? ⟨w.heap.size + 1, 2, none⟩ = some (.string h2) := (hb1.cell (p := ⟨w.heap.size + 1, 2, none⟩) (by simp; try omega)).trans (by go_cell)
  have z7 : w1.cell? ⟨w.heap.size + 1, 3, none⟩ = some (.slice A2 l2.length d2) := (hb1.cell (p := ⟨w.heap.size + 1, 3, none⟩) (by simp; try omega)).trans (by go_cell)
  have z8 : w1.cell? ⟨w.heap.size + 1 + 1, 0, none⟩ = some (.int .i64 k3) := (hb1.cell (p := ⟨w.heap.size + 1 + 1, 0, none⟩) (by simp; try omega)).trans (by go_cell)
  have z9 : w1.cell? ⟨w.heap.size + 1 + 1, 1, none⟩ = some (.string n3) := (hb1.cell (p := ⟨w.heap.size + 1 + 1, 1, none⟩) (by simp; try omega)).trans (by go_cell)
  have z10 : w1.cell? ⟨w.heap.size + 1 + 1, 2, none⟩ = some (.string h3) := (hb1.cell (p := ⟨w.heap.size + 1 + 1, 2, none⟩) (by simp; try omega)).trans (by go_cell)
  have z11 : w1.cell? ⟨w.heap.size + 1 + 1, 3, none⟩ = some (.slice A3 l3.length d3) := (hb1.cell (p := ⟨w.heap.size + 1 + 1, 3, none⟩) (by simp; try omega)).trans (by go_cell)
  refine Reg.region_below (by kernel_rfl) (by kernel_rfl) ?_
  intro S _ f hf hs
  have y0 := Reg.keepc hf (by omega) z0
  have y1 := Reg.keepc hf (by omega) z1
  have y2 := Reg.keepc hf (by omega) z2
  have y3 := Reg.keepc hf (by omega) z3
  have y4 := Reg.keepc hf (by omega) z4
  have y5 := Reg.keepc hf (by omega) z5
  have y6 := Reg.keepc hf (by omega) z6
  have y7 := Reg.keepc hf (by omega) z7
  have y8 := Reg.keepc hf (by omega) z8
  have y9 := Reg.keepc hf (by omega) z9
  have y10 := Reg.keepc hf (by omega) z10
  have y11 := Reg.keepc hf (by omega) z11
  have q1 := fun s => cw.out (f s) (hw1.trans ((hf s).mono hw1.size))
  have q2 := fun s => cw2.out (f s) (hw1.trans ((hf s).mono hw1.size))
  have q3 := fun s => cw3.out (f s) (hw1.trans ((hf s).mono hw1.size))
  clear z0 z1 z2 z3 z4 z5 z6 z7 z8 z9 z10 z11
  repeat (go_big_quiet_step ((first | (go_at_call 23; with_reducible exact Reg.met hs (q1 _)) | (go_at_call 23; with_reducible exact Reg.met hs (q2 _)) | (go_at_call 23; with_reducible exact Reg.met hs (q3 _)))))
  refine wpQuiet_nil ?_
  intro s
  have hb2 := hf s
  have z0 := y0 s
  have z1 := y1 s
  have z2 := y2 s
  have z3 := y3 s
  obtain ⟨w2, hw2⟩ : ∃ w2, w2 = f s := ⟨_, rfl⟩
  rw [← hw2] at hb2 z0 z1 z2 z3 ⊢
  clear hw2 hs hf q1 q2 q3 y0 y1 y2 y3 y4 y5 y6 y7 y8 y9 y10 y11
  have hw2 := hw1.trans (hb2.mono hw1.size)
  have q4 := cw4.out w2 hw2
  clear ca cw cw2 cw3 cw4 hb1 hb2 hw1 sz1
  replace q4 := Lib.hid q4
  have hx := hxyz.out
  clear hxyz
  rcases r1 with rfl | rfl | rfl <;> rcases r2 with rfl | rfl | rfl <;> rcases r3 with rfl | rfl | rfl <;> (try (exfalso; revert hx; decide)) <;> clear hx
  all_goals
    go_wp2_with fail
    refine q4.out.mono ?_
    rintro e w3 ⟨rfl, hb3⟩
    go_wp2
    go_ret
    exact ⟨rfl, hw2.trans (hb3.mono hw2.size)⟩

end Go.Proofs.Ytgjcdhcbniholaa.La
