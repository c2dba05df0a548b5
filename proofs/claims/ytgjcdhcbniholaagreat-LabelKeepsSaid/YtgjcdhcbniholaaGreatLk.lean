/- LabelChecks: the walk. -/
import Derived.Test.YtgjcdhcbniholaaGreatRc2
import Derived.Test.YtgjcdhcbniholaaGreatRt1
namespace Go.Proofs.YtgjcdhcbniholaaGreat.Lk
open Go.RowKit Go.Proofs.YtgjcdhcbniholaaGreat.La Go.Proofs.YtgjcdhcbniholaaGreat.Sl Go.Proofs.YtgjcdhcbniholaaGreat.Ck Go.Proofs.YtgjcdhcbniholaaGreat.Rc Go.Proofs.YtgjcdhcbniholaaGreat.Rt
set_option linter.unusedVariables false

theorem cmpD_neg (a b : DD) : cmpD b a = - cmpD a b := by
  have h := cB_ord.lex labs_ord
  have h1 := h.neg (a.name, a.l) (b.name, b.l)
  rw [← cmpD_ord a b] at h1
  rw [cmpD_ord b a]
  exact h1
theorem cmpD_range (a b : DD) : cmpD a b = -1 ∨ cmpD a b = 0 ∨ cmpD a b = 1 := by
  have := (cB_ord.lex labs_ord).range (a.name, a.l) (b.name, b.l)
  rw [← cmpD_ord a b] at this
  exact this

set_option maxRecDepth 100000 in
set_option maxHeartbeats 8000000 in
theorem checks_any (a b : DD) (w : World) (ha : Arg a w) (hb : Arg b w) (hl1 : a.l.length ≤ 140737488355328) (hl2 : b.l.length ≤ 140737488355328) :
    Calls Tryz.prog 5 #[a.v, b.v] w fun e w' => e = .returned (.bool true) ∧ Below w.heap.size w w' := by
  have ca := Lib.hid (awake_any ((w.alloc (.cells #[.int .i64 a.kind, .string a.name, .string a.help, .slice a.A a.l.length a.c] 35)).alloc (.cells #[.int .i64 b.kind, .string b.name, .string b.help, .slice b.A b.l.length b.c] 35)))
  have cc1 := fun w' (k : Below w.heap.size w w') => ha.check (w' := w') k
  have cc2 := fun w' (k : Below w.heap.size w w') => hb.check (w' := w') k
  have cr1 := fun w' (k : Below w.heap.size w w') => rcheck_any (w := w') a (ha.below k).rd (by have := ha.cap; have := ha.len; omega) ha.name ha.help ha.texts
  have cr2 := fun w' (k : Below w.heap.size w w') => rcheck_any (w := w') b (hb.below k).rd (by have := hb.cap; have := hb.len; omega) hb.name hb.help hb.texts
  have cm1 := fun w' (k : Below w.heap.size w w') => compare_any (w := w') a b ⟨(ha.below k).rd, by omega⟩ ⟨(hb.below k).rd, by omega⟩ (Nat.le_refl _)
  have cm2 := fun w' (k : Below w.heap.size w w') => compare_any (w := w') b a ⟨(hb.below k).rd, by omega⟩ ⟨(ha.below k).rd, by omega⟩ (Nat.le_refl _)
  have cm3 := fun w' (k : Below w.heap.size w w') => rcompare_any (w := w') a b (ha.below k).rd (hb.below k).rd (by omega) (by omega)
  have cs1 := fun w' (k : Below w.heap.size w w') => lsame_any (w := w') a b (ha.below k).rd (hb.below k).rd hl1 hl2
  have cs2 := fun w' (k : Below w.heap.size w w') => rsame_any (w := w') a b (ha.below k).rd (hb.below k).rd hl1 hl2
  have cs3 := fun w' (k : Below w.heap.size w w') => lsame_any (w := w') a a (ha.below k).rd (ha.below k).rd hl1 hl1
  rw [show sameD a a = true by unfold sameD; simp] at cs3
  rw [cmpD_neg a b] at cm2
  have hX := cmpD_range a b
  obtain ⟨X, hXe⟩ : ∃ X, X = cmpD a b := ⟨_, rfl⟩
  obtain ⟨ra, hra⟩ : ∃ r, r = chkD a := ⟨_, rfl⟩
  obtain ⟨rb, hrb⟩ : ∃ r, r = chkD b := ⟨_, rfl⟩
  obtain ⟨q, hq⟩ : ∃ r, r = sameD a b := ⟨_, rfl⟩
  rw [← hXe] at cm1 cm2 cm3 hX
  rw [← hra] at cc1 cr1
  rw [← hrb] at cc2 cr2
  rw [← hq] at cs1 cs2
  clear hXe hra hrb hq ha hb hl1 hl2
  obtain ⟨k1, n1, h1, A1, c1, l1⟩ := a
  obtain ⟨k2, n2, h2, A2, c2, l2⟩ := b
  unfold DD.v at *
  dsimp only at *
  obtain ⟨m1, hm1⟩ : ∃ m1, m1 = l1.length := ⟨_, rfl⟩
  obtain ⟨m2, hm2⟩ : ∃ m2, m2 = l2.length := ⟨_, rfl⟩
  rw [← hm1] at ca cc1 cr1 cm1 cm2 cm3 cs1 cs2 cs3 ⊢
  rw [← hm2] at ca cc2 cr2 cm1 cm2 cm3 cs1 cs2 ⊢
  clear hm1 hm2
  replace cc1 := Lib.hid cc1
  replace cc2 := Lib.hid cc2
  replace cr1 := Lib.hid cr1
  replace cr2 := Lib.hid cr2
  replace cm1 := Lib.hid cm1
  replace cm2 := Lib.hid cm2
  replace cm3 := Lib.hid cm3
  replace cs1 := Lib.hid cs1
  replace cs2 := Lib.hid cs2
  replace cs3 := Lib.hid cs3
  go_enter Tryz.func5, Tryz.ntmps5
  go_wp2_with fail
  refine ca.out.mono ?_
  rintro e w1 ⟨rfl, hb1⟩
  have hw1 : Below w.heap.size w w1 := (((Below.refl _ w).alloc (Nat.le_refl _) _).alloc (by simp) _).trans (hb1.mono (by simp; omega))
  simp only [World.size_alloc] at hb1
  have g1 : w1.heap[w.heap.size]? = some (.cells #[.int .i64 k1, .string n1, .string h1, .slice A1 m1 c1] 35 (0, 0)) :=
    (hb1.block _ (by omega)).trans ((heap_alloc_old _ _ (by simp)).trans (heap_alloc_new _ _))
  have g2 : w1.heap[w.heap.size + 1]? = some (.cells #[.int .i64 k2, .string n2, .string h2, .slice A2 m2 c2] 35 (0, 0)) := by
    have hn := heap_alloc_new (w.alloc (.cells #[.int .i64 k1, .string n1, .string h1, .slice A1 m1 c1] 35)) (.cells #[.int .i64 k2, .string n2, .string h2, .slice A2 m2 c2] 35)
    simp only [World.size_alloc] at hn
    exact (hb1.block _ (by omega)).trans hn
  have hlt : w.heap.size + 1 < w1.heap.size := Rp.lt_of_heap g2
  have hlt0 : w.heap.size < w1.heap.size := by omega
  clear ca hb1
  have z10 : w1.cell? ⟨w.heap.size, 0, none⟩ = some (.int .i64 k1) := by rw [cell_of_row _ _ _ _ _ _ g1]; rfl
  have z11 : w1.cell? ⟨w.heap.size, 1, none⟩ = some (.string n1) := by rw [cell_of_row _ _ _ _ _ _ g1]; rfl
  have z12 : w1.cell? ⟨w.heap.size, 2, none⟩ = some (.string h1) := by rw [cell_of_row _ _ _ _ _ _ g1]; rfl
  have z13 : w1.cell? ⟨w.heap.size, 3, none⟩ = some (.slice A1 m1 c1) := by rw [cell_of_row _ _ _ _ _ _ g1]; rfl
  have z20 : w1.cell? ⟨w.heap.size + 1, 0, none⟩ = some (.int .i64 k2) := by rw [cell_of_row _ _ _ _ _ _ g2]; rfl
  have z21 : w1.cell? ⟨w.heap.size + 1, 1, none⟩ = some (.string n2) := by rw [cell_of_row _ _ _ _ _ _ g2]; rfl
  have z22 : w1.cell? ⟨w.heap.size + 1, 2, none⟩ = some (.string h2) := by rw [cell_of_row _ _ _ _ _ _ g2]; rfl
  have z23 : w1.cell? ⟨w.heap.size + 1, 3, none⟩ = some (.slice A2 m2 c2) := by rw [cell_of_row _ _ _ _ _ _ g2]; rfl
  clear g1 g2
  go_wp2
  have hwx : wrap64 (-X) = -X := by unfold wrap64; omega
  refine Reg.region_below (by kernel_rfl) (by kernel_rfl) ?_
  intro Sx _ f hf hs
  have y10 := Reg.keepc hf hlt0 z10
  have y11 := Reg.keepc hf hlt0 z11
  have y12 := Reg.keepc hf hlt0 z12
  have y13 := Reg.keepc hf hlt0 z13
  have y20 := Reg.keepc hf hlt z20
  have y21 := Reg.keepc hf hlt z21
  have y22 := Reg.keepc hf hlt z22
  have y23 := Reg.keepc hf hlt z23
  have kk := fun s => hw1.trans ((hf s).mono hw1.size)
  have q1 := fun s => cc1.out (f s) (kk s)
  have q2 := fun s => cc2.out (f s) (kk s)
  have q3 := fun s => cr1.out (f s) (kk s)
  have q4 := fun s => cr2.out (f s) (kk s)
  have q5 := fun s => cm1.out (f s) (kk s)
  have q6 := fun s => cm2.out (f s) (kk s)
  have q7 := fun s => cm3.out (f s) (kk s)
  have q8 := fun s => cs1.out (f s) (kk s)
  have q9 := fun s => cs2.out (f s) (kk s)
  have q0 := fun s => cs3.out (f s) (kk s)
  clear z10 z11 z12 z13 z20 z21 z22 z23 hX
  repeat (go_big_quiet_step ((first | (go_at_call 11; with_reducible exact Reg.met hs (q1 _)) | (go_at_call 11; with_reducible exact Reg.met hs (q2 _)) | (go_at_call 16; with_reducible exact Reg.met hs (q3 _)) | (go_at_call 16; with_reducible exact Reg.met hs (q4 _)) | (go_at_call 15; with_reducible exact Reg.met hs (q5 _)) | (go_at_call 15; with_reducible exact Reg.met hs (q6 _)) | (go_at_call 17; with_reducible exact Reg.met hs (q7 _)) | (go_at_call 18; with_reducible exact Reg.met hs (q8 _)) | (go_at_call 19; with_reducible exact Reg.met hs (q9 _)) | (go_at_call 18; with_reducible exact Reg.met hs (q0 _)))))
  refine wpQuiet_nil ?_
  intro s
  have hb2 := hf s
  obtain ⟨w2, hw2⟩ : ∃ w2, w2 = f s := ⟨_, rfl⟩
  rw [← hw2] at hb2 ⊢
  clear hw2 hs hf q1 q2 q3 q4 q5 q6 q7 q8 q9 q0 kk y10 y11 y12 y13 y20 y21 y22 y23
  go_wp2
  go_ret
  exact ⟨by simp, hw1.trans (hb2.mono hw1.size)⟩
end Go.Proofs.YtgjcdhcbniholaaGreat.Lk
