/- Lemmas for the laws of this seat, laid together of SnR. -/
import Derived.Test.YtpiegngjpnpohaaGreatL24
import Derived.Test.YtpiegngjpnpohaaGreatL34

namespace Go.Proofs.YtpiegngjpnpohaaGreat.Sn
open Go.RowKit Go.Proofs.YtpiegngjpnpohaaGreat.La Go.Proofs.YtpiegngjpnpohaaGreat.Sl Go.Proofs.YtpiegngjpnpohaaGreat.Ck Go.Proofs.YtpiegngjpnpohaaGreat.Rc Go.Proofs.YtpiegngjpnpohaaGreat.Rk Go.Proofs.YtpiegngjpnpohaaGreat.Wi Go.Proofs.YtpiegngjpnpohaaGreat.Fb Go.Proofs.YtpiegngjpnpohaaGreat.Mg Go.Proofs.YtpiegngjpnpohaaGreat.St
set_option linter.unusedVariables false
theorem hi_neg {a b : Int} (ha : 0 ≤ a) (hb : 0 ≤ b) (ia : In a) (ib : In b) : (hiI (a + b) < 0) = (170141183460469231731687303715884105727 < a + b) := by
  unfold In at ia ib
  unfold hiI
  apply propext
  omega
def RTwoP (w : World) (x y : Vv) (E : Int) (e : Ending) (w' : World) : Prop := Below w.heap.size w w' ∧ ∃ v' : Vv, e = .returned (.tuple #[v'.v, .int .i64 E]) ∧ (E = 0 → TwoOut w w' x y v')
set_option maxRecDepth 100000 in
set_option maxHeartbeats 4000000 in
theorem rtwo_any (x y : Vv) (w : World) (hx : VAt x w w.heap.size) (hy : VAt y w w.heap.size) (ox : OkV x) (oy : OkV y) :
    Calls Tryz.prog 61 #[x.v, y.v] w (RTwoP w x y (twoE x.c y.c)) := by
  have cad := Wi.radd_any x.t y.t
  have hsg := hi_neg ox.t oy.t hx.tot hy.tot
  have cmg := fun (W : World) (k : Below w.heap.size w W) => rmerge_any W w.heap.size x.CA y.CA x.cs y.cs x.cc y.cc (hx.cs.below k) (hy.cs.below k) k.size (by have := ox.c; have := oy.c; omega)
  have hsf := fun (a : Addr) (x : Nat) (W : World) => run_store Tryz.prog W a (.float .f64 x) .plain rfl
  have hnw : IntKind.u64.wrap (x.n + y.n) = x.n + y.n := by
    have := ox.n; have := oy.n
    rw [IntKind.wrap_u64]; omega
  have hbadp : ∀ (E : Int) (w' : World), E ≠ 0 → Below w.heap.size w w' → RTwoP w x y E (.returned (.tuple #[zeroV.v, .int .i64 E])) w' := fun E w' h hb => ⟨hb, zeroV, rfl, fun e => absurd e h⟩
  have htst := fun (wx : World) (A : Option Addr) (c B2 : Nat) => @TwoSt.mk w wx x y A c B2 x.sm x.mn x.mx
  have hEE : twoE x.c y.c = if 170141183460469231731687303715884105727 < x.t + y.t ∨ 9223372036854775807 < x.n + y.n then 3 else if finF (flo x.c y.c).1 = false then 2 else 0 := rfl
  obtain ⟨E, hE⟩ : ∃ E, E = twoE x.c y.c := ⟨_, rfl⟩
  rw [← hE] at hEE ⊢
  obtain ⟨Pst, hPst⟩ : ∃ P, P = RTwoP w x y := ⟨_, rfl⟩
  rw [← hPst] at hbadp ⊢
  unfold I128 at cad
  unfold Vv.v
  rw [zeroV_v] at hbadp
  replace hbadp := Lib.hid hbadp
  replace hPst := Lib.hid hPst
  replace cmg := Lib.hid cmg
  replace hsg := Lib.hid hsg
  replace hnw := Lib.hid hnw
  replace htst := Lib.hid htst
  replace hEE := Lib.hid hEE
  replace hE := Lib.hid hE
  replace ox := Lib.hid ox
  replace oy := Lib.hid oy
  have h3 := fun (w1 : World) (e : w1 = _) => Blk.triple (w := w) (w1 := w1) (cs := x.row) (ds := y.row) (es := zcells) (T := 49) (U := 49) (X := 49) e
  have h4 := fun (W : World) => Blk.new W x.row 49
  unfold Vv.row zcells at h3
  unfold Vv.row at h4
  replace h3 := Lib.hid h3
  replace h4 := Lib.hid h4
  go_enter Tryz.func61, Tryz.ntmps61
  go_upto_region 2 with fail
  obtain ⟨w0, hw0⟩ : ∃ w0, w0 = (((w.alloc (.cells #[.int .i64 x.d.kind, .string x.d.name, .string x.d.help, .slice x.d.A x.d.l.length x.d.c, .int .i64 (hiI x.t), .int .u64 (loI x.t), .slice x.CA x.cs.length x.cc, .int .u64 x.n, .float .f64 x.sm, .float .f64 x.mn, .float .f64 x.mx] 49)).alloc (.cells #[.int .i64 y.d.kind, .string y.d.name, .string y.d.help, .slice y.d.A y.d.l.length y.d.c, .int .i64 (hiI y.t), .int .u64 (loI y.t), .slice y.CA y.cs.length y.cc, .int .u64 y.n, .float .f64 y.sm, .float .f64 y.mn, .float .f64 y.mx] 49)).alloc (.cells #[.int .i64 0, .string ⟨#[]⟩, .string ⟨#[]⟩, .slice none 0 0, .int .i64 0, .int .u64 0, .slice none 0 0, .int .u64 0, .float .f64 0, .float .f64 0, .float .f64 0] 49)) := ⟨_, rfl⟩
  have hsz0 : w0.heap.size = w.heap.size + 1 + 1 + 1 := by rw [hw0]; simp
  rw [← hw0]
  obtain ⟨k1, k2, k3, hb0⟩ := h3.out w0 hw0
  clear hw0 h3
  have k6 := h4.out w0
  obtain ⟨w1, hw1⟩ : ∃ w1, w1 = w0.alloc (.cells #[.int .i64 x.d.kind, .string x.d.name, .string x.d.help, .slice x.d.A x.d.l.length x.d.c, .int .i64 (hiI x.t), .int .u64 (loI x.t), .slice x.CA x.cs.length x.cc, .int .u64 x.n, .float .f64 x.sm, .float .f64 x.mn, .float .f64 x.mx] 49) := ⟨_, rfl⟩
  rw [hsz0] at k6
  have hb1' : Below w0.heap.size w0 w1 := by rw [hw1]; exact (Below.refl _ _).alloc (Nat.le_refl _) _
  have k6' : Blk w1 (w.heap.size + 1 + 1 + 1) [.int .i64 x.d.kind, .string x.d.name, .string x.d.help, .slice x.d.A x.d.l.length x.d.c, .int .i64 (hiI x.t), .int .u64 (loI x.t), .slice x.CA x.cs.length x.cc, .int .u64 x.n, .float .f64 x.sm, .float .f64 x.mn, .float .f64 x.mx] := by rw [hw1]; exact k6
  rw [← hw1]
  clear hw1 k6 h4
  replace k1 := k1.later hb1'
  replace k2 := k2.later hb1'
  replace k3 := k3.later hb1'
  have k6 := k6'
  have hb1 := hb0.trans (hb1'.mono hb0.size)
  clear k6' hb0 hb1' hsz0
  have x4 := (k1.2 4 _ rfl).1
  have x5 := (k1.2 5 _ rfl).1
  have u4 := (k2.2 4 _ rfl).1
  have u5 := (k2.2 5 _ rfl).1
  go_wp2_with fail
  refine (cad _).mono ?_
  rintro e w2 ⟨rfl, hb2⟩
  clear x4 x5 u4 u5 cad
  replace k1 := k1.later hb2
  replace k2 := k2.later hb2
  replace k3 := k3.later hb2
  replace k6 := k6.later hb2
  have hbw2 := hb1.trans (hb2.mono hb1.size)
  have hl6 := k6.1
  have a4 := (k6.2 4 _ rfl).1
  have a5 := (k6.2 5 _ rfl).1
  have f4 := (k6.2 4 _ rfl).2
  have f5 := (k6.2 5 _ rfl).2
  go_upto_region 3 with fail
  clear a4 a5 f4 f5
  have n1 : w.heap.size + 1 + 1 + 1 ≠ w.heap.size := by omega
  have n2 : w.heap.size + 1 + 1 + 1 ≠ w.heap.size + 1 := by omega
  have n3 : w.heap.size + 1 + 1 + 1 ≠ w.heap.size + 1 + 1 := by omega
  replace k1 := (k1.other (b := w.heap.size + 1 + 1 + 1) (i := 4) n1 (.int .i64 (hiI (x.t + y.t)))).other (b := w.heap.size + 1 + 1 + 1) (i := 5) n1 (.int .u64 (loI (x.t + y.t)))
  replace k2 := (k2.other (b := w.heap.size + 1 + 1 + 1) (i := 4) n2 (.int .i64 (hiI (x.t + y.t)))).other (b := w.heap.size + 1 + 1 + 1) (i := 5) n2 (.int .u64 (loI (x.t + y.t)))
  replace k3 := (k3.other (b := w.heap.size + 1 + 1 + 1) (i := 4) n3 (.int .i64 (hiI (x.t + y.t)))).other (b := w.heap.size + 1 + 1 + 1) (i := 5) n3 (.int .u64 (loI (x.t + y.t)))
  replace k6 := (k6.set 4 (.int .i64 (hiI (x.t + y.t))) (by simp)).set 5 (.int .u64 (loI (x.t + y.t))) (by simp)
  simp only [List.set_cons_zero, List.set_cons_succ] at k6
  have hb3 : Below w.heap.size w ((w2.setCell ⟨w.heap.size + 1 + 1 + 1, 4, none⟩ (.int .i64 (hiI (x.t + y.t)))).setCell ⟨w.heap.size + 1 + 1 + 1, 5, none⟩ (.int .u64 (loI (x.t + y.t)))) := by have := hbw2; go_grown
  obtain ⟨w3, hw3⟩ : ∃ w3, w3 = ((w2.setCell ⟨w.heap.size + 1 + 1 + 1, 4, none⟩ (.int .i64 (hiI (x.t + y.t)))).setCell ⟨w.heap.size + 1 + 1 + 1, 5, none⟩ (.int .u64 (loI (x.t + y.t)))) := ⟨_, rfl⟩
  rw [← hw3] at k1 k2 k3 k6 hb3 ⊢
  clear hw3 hl6 hb2 hbw2 hb1
  have y4 := (k6.2 4 _ rfl).1
  have x7 := (k1.2 7 _ rfl).1
  have u7 := (k2.2 7 _ rfl).1
  have hn2 := hnw.out
  by_cases hbig : 170141183460469231731687303715884105727 < x.t + y.t ∨ 9223372036854775807 < x.n + y.n
  · have hE3 : E = 3 := by rw [hEE.out]; exact if_pos hbig
    have hway : decide (hiI (x.t + y.t) < 0) = true ∨ (decide (hiI (x.t + y.t) < 0) = false ∧ (9223372036854775807 : Int) < x.n + y.n) := by
      by_cases h1 : 170141183460469231731687303715884105727 < x.t + y.t
      · exact .inl (decide_eq_true (by rw [hsg.out]; exact h1))
      · exact .inr ⟨decide_eq_false (by rw [hsg.out]; exact h1), by omega⟩
    have hfin := hbadp.out 3
    replace hE3 := Lib.hid hE3
    replace hfin := Lib.hid hfin
    clear hbig
    have r0 := (k3.2 0 _ rfl).1
    have r1 := (k3.2 1 _ rfl).1
    have r2 := (k3.2 2 _ rfl).1
    have r3 := (k3.2 3 _ rfl).1
    have r4 := (k3.2 4 _ rfl).1
    have r5 := (k3.2 5 _ rfl).1
    have r6 := (k3.2 6 _ rfl).1
    have r7 := (k3.2 7 _ rfl).1
    have r8 := (k3.2 8 _ rfl).1
    have r9 := (k3.2 9 _ rfl).1
    have r10 := (k3.2 10 _ rfl).1
    have s0 := (k3.2 0 _ rfl).2
    have s1 := (k3.2 1 _ rfl).2
    have s2 := (k3.2 2 _ rfl).2
    have s3 := (k3.2 3 _ rfl).2
    have s4 := (k3.2 4 _ rfl).2
    have s5 := (k3.2 5 _ rfl).2
    have s6 := (k3.2 6 _ rfl).2
    have s7 := (k3.2 7 _ rfl).2
    have s8 := (k3.2 8 _ rfl).2
    have s9 := (k3.2 9 _ rfl).2
    have s10 := (k3.2 10 _ rfl).2
    rcases hway with hw | ⟨hw, hw'⟩
    all_goals
      go_wp2
      try simp only [Exit.inBlock, Exit.then]
      refine bodyPost_ret (retVE rfl rfl rfl (k3.st11 rfl _ _ _ _ _ _ _ _ _ _ _)) rfl ?_
      rw [hE3.out]
      exact hfin.out _ (by decide) (by have := hb3; go_grown)
  · have d1 : decide (hiI (x.t + y.t) < 0) = false := decide_eq_false (by rw [hsg.out]; omega)
    have d2 : ¬ (9223372036854775807 : Int) < x.n + y.n := by omega
    have hE1 := hEE.out
    rw [if_neg hbig] at hE1
    replace hbig := Lib.hid hbig
    replace hE1 := Lib.hid hE1
    have x6 := (k1.2 6 _ rfl).1
    have u6 := (k2.2 6 _ rfl).1
    go_upto_region 5 with fail
    clear y4 x7 u7 d1 d2
    go_wp2_with fail
    refine (cmg.out _ hb3).mono ?_
    rintro e w4 ⟨A7, c7, rfl, ho7, hb4⟩
    clear x6 u6 cmg
    have hs3 : w.heap.size + 1 + 1 + 1 < w3.heap.size := k6.1
    replace k1 := k1.later hb4
    replace k2 := k2.later hb4
    replace k3 := k3.later hb4
    replace k6 := k6.later hb4
    have hbw4 := hb3.trans (hb4.mono hb3.size)
    have f6 := (k6.2 6 _ rfl).2
    have y6 := (k6.2 6 _ rfl).1
    go_upto_region 6 with fail
    clear f6 y6
    replace ho7 := own_set (o := 6) ho7 hs3 (.slice A7 (mrg (x.cs ++ y.cs)).length c7)
    replace k1 := k1.other (b := w.heap.size + 1 + 1 + 1) (i := 6) n1 (.slice A7 (mrg (x.cs ++ y.cs)).length c7)
    replace k2 := k2.other (b := w.heap.size + 1 + 1 + 1) (i := 6) n2 (.slice A7 (mrg (x.cs ++ y.cs)).length c7)
    replace k3 := k3.other (b := w.heap.size + 1 + 1 + 1) (i := 6) n3 (.slice A7 (mrg (x.cs ++ y.cs)).length c7)
    replace k6 := k6.set 6 (.slice A7 (mrg (x.cs ++ y.cs)).length c7) (by simp)
    simp only [List.set_cons_zero, List.set_cons_succ] at k6
    have hb5 : Below w.heap.size w (w4.setCell ⟨w.heap.size + 1 + 1 + 1, 6, none⟩ (.slice A7 (mrg (x.cs ++ y.cs)).length c7)) := by have := hbw4; go_grown
    obtain ⟨w5, hw5⟩ : ∃ w5, w5 = (w4.setCell ⟨w.heap.size + 1 + 1 + 1, 6, none⟩ (.slice A7 (mrg (x.cs ++ y.cs)).length c7)) := ⟨_, rfl⟩
    rw [← hw5] at k1 k2 k3 k6 ho7 hb5 ⊢
    clear hw5 hbw4 hb4
    have x7 := (k1.2 7 _ rfl).1
    have u7 := (k2.2 7 _ rfl).1
    have y7 := (k6.2 7 _ rfl).1
    have f7 := (k6.2 7 _ rfl).2
    go_upto_region 7 with fail
    clear x7 u7 y7 f7
    replace ho7 := own_set (o := 7) ho7 hs3 (.int .u64 (x.n + y.n))
    replace k1 := k1.other (b := w.heap.size + 1 + 1 + 1) (i := 7) n1 (.int .u64 (x.n + y.n))
    replace k2 := k2.other (b := w.heap.size + 1 + 1 + 1) (i := 7) n2 (.int .u64 (x.n + y.n))
    replace k3 := k3.other (b := w.heap.size + 1 + 1 + 1) (i := 7) n3 (.int .u64 (x.n + y.n))
    replace k6 := k6.set 7 (.int .u64 (x.n + y.n)) (by simp)
    simp only [List.set_cons_zero, List.set_cons_succ] at k6
    have hb6 : Below w.heap.size w (w5.setCell ⟨w.heap.size + 1 + 1 + 1, 7, none⟩ (.int .u64 (x.n + y.n))) := by have := hb5; go_grown
    obtain ⟨w6, hw6⟩ : ∃ w6, w6 = (w5.setCell ⟨w.heap.size + 1 + 1 + 1, 7, none⟩ (.int .u64 (x.n + y.n))) := ⟨_, rfl⟩
    rw [← hw6] at k1 k2 k3 k6 ho7 hb6 ⊢
    have hT : TwoSt w w6 x y A7 c7 w3.heap.size x.sm x.mn x.mx := ⟨k1, k2, k3, k6, ho7, hs3, hb6⟩
    clear hw6 k1 k2 k3 k6 ho7 hb6 hb5 hn2 hnw htst
    have x7 := (hT.k1.2 7 _ rfl).1
    have u7 := (hT.k2.2 7 _ rfl).1
    have hsz6 := hT.k6.1
    by_cases hxn : x.n = 0
    · have g1 : (x.n == 0) = true := by simpa using hxn
      have g2 : decide (0 < x.n) = false := decide_eq_false (by omega)
      have hfl : flo x.c y.c = (y.sm, y.mn, y.mx) := by unfold flo; exact if_pos hxn
      have hE0 : E = 0 := by rw [hE1.out, hfl]; exact if_neg (by dsimp only; rw [oy.out.f.1]; decide)
      have hff : finF y.sm = true := oy.out.f.1
      replace hfl := Lib.hid hfl
      replace hE0 := Lib.hid hE0
      replace hxn := Lib.hid hxn
      go_upto_region 8 with fail
      have hS : ∀ Wx, Below (w.heap.size + 1 + 1 + 1) w6 Wx → (Wx.cell? ⟨w.heap.size + 1, 8, none⟩ = some (.float .f64 y.sm) ∧ Wx.cell? ⟨w.heap.size + 1, 9, none⟩ = some (.float .f64 y.mn) ∧ Wx.cell? ⟨w.heap.size + 1, 10, none⟩ = some (.float .f64 y.mx)) := fun Wx hb => ⟨kc hb (by omega) (hT.k2.2 8 _ rfl).1, kc hb (by omega) (hT.k2.2 9 _ rfl).1, kc hb (by omega) (hT.k2.2 10 _ rfl).1⟩
      replace hS := Lib.hid hS
      have hB0 : Below (w.heap.size + 1 + 1 + 1) w6 w6.drew := below_drewN (Below.refl _ _) 1
      have hB1 : Below (w.heap.size + 1 + 1 + 1) w6 w6 := Below.refl _ _
      have k6 := hT.k6
      have a8 := (k6.2 8 _ rfl).1
      have a9 := (k6.2 9 _ rfl).1
      have a10 := (k6.2 10 _ rfl).1
      have b8 := (k6.2 8 _ rfl).2
      have b9 := (k6.2 9 _ rfl).2
      have b10 := (k6.2 10 _ rfl).2
      replace hT := Lib.hid hT
      clear k6
      go_region_held3 (fun Wx => Wx.cell? ⟨w.heap.size + 1, 8, none⟩ = some (.float .f64 y.sm) ∧ Wx.cell? ⟨w.heap.size + 1, 9, none⟩ = some (.float .f64 y.mn) ∧ Wx.cell? ⟨w.heap.size + 1, 10, none⟩ = some (.float .f64 y.mx)) (first | (with_reducible exact hS.out _ hB0) | (refine hS.out _ ?_; clear a8 a9 a10; go_grown)) (first | fail)
      all_goals
        rename_i hHeld
        clear hHeld a8 a9 a10 b8 b9 b10 hS hB0 hB1 x7 u7
        have hT2 : TwoSt w ((((w6.setCell ⟨w.heap.size + 1 + 1 + 1, 8, none⟩ (.float .f64 y.sm)).setCell ⟨w.heap.size + 1 + 1 + 1, 9, none⟩ (.float .f64 y.mn)).setCell ⟨w.heap.size + 1 + 1 + 1, 10, none⟩ (.float .f64 y.mx)).drew) x y A7 c7 w3.heap.size y.sm y.mn y.mx := (((hT.out.s8 y.sm).s9 y.mn).s10 y.mx).drew 1
        obtain ⟨w7, hw7⟩ : ∃ w7, w7 = ((((w6.setCell ⟨w.heap.size + 1 + 1 + 1, 8, none⟩ (.float .f64 y.sm)).setCell ⟨w.heap.size + 1 + 1 + 1, 9, none⟩ (.float .f64 y.mn)).setCell ⟨w.heap.size + 1 + 1 + 1, 10, none⟩ (.float .f64 y.mx)).drew) := ⟨_, rfl⟩
        rw [← hw7] at hT2 ⊢
        clear hw7 hT
        have hT := hT2
        clear hT2
        have x7 := (hT.k1.2 7 _ rfl).1
        have u7 := (hT.k2.2 7 _ rfl).1
        have k6 := hT.k6
        have y8 := (k6.2 8 _ rfl).1
        have cfi := finite_any y.sm hy.sm
        rw [hff] at cfi
        go_upto_region 18 with (go_at_call 104; refine (cfi _).mono ?_; rintro e w' ⟨rfl, rfl⟩)
        clear y8 cfi k6
        have k6 := hT.k6
        have k3 := hT.k3
        unfold zcells at k3
        have y0 := (k6.2 0 _ rfl).1
        have y1 := (k6.2 1 _ rfl).1
        have y2 := (k6.2 2 _ rfl).1
        have y3 := (k6.2 3 _ rfl).1
        have y4 := (k6.2 4 _ rfl).1
        have y5 := (k6.2 5 _ rfl).1
        have y6 := (k6.2 6 _ rfl).1
        have y7 := (k6.2 7 _ rfl).1
        have y8 := (k6.2 8 _ rfl).1
        have y9 := (k6.2 9 _ rfl).1
        have y10 := (k6.2 10 _ rfl).1
        have r0 := (k3.2 0 _ rfl).1
        have r1 := (k3.2 1 _ rfl).1
        have r2 := (k3.2 2 _ rfl).1
        have r3 := (k3.2 3 _ rfl).1
        have r4 := (k3.2 4 _ rfl).1
        have r5 := (k3.2 5 _ rfl).1
        have r6 := (k3.2 6 _ rfl).1
        have r7 := (k3.2 7 _ rfl).1
        have r8 := (k3.2 8 _ rfl).1
        have r9 := (k3.2 9 _ rfl).1
        have r10 := (k3.2 10 _ rfl).1
        have s0 := (k3.2 0 _ rfl).2
        have s1 := (k3.2 1 _ rfl).2
        have s2 := (k3.2 2 _ rfl).2
        have s3 := (k3.2 3 _ rfl).2
        have s4 := (k3.2 4 _ rfl).2
        have s5 := (k3.2 5 _ rfl).2
        have s6 := (k3.2 6 _ rfl).2
        have s7 := (k3.2 7 _ rfl).2
        have s8 := (k3.2 8 _ rfl).2
        have s9 := (k3.2 9 _ rfl).2
        have s10 := (k3.2 10 _ rfl).2
        have hbs := hT.base
        have hbl := hT.below
        have own9 := hT.own
        have hfin := fun wf => hT.fin (wf := wf) hx hy ox.out oy.out hbig.out hfl.out hy.sm hy.mn hy.mx
        replace hfin := Lib.hid hfin
        replace hT := Lib.hid hT
        skip
        go_wp2
        try simp only [Exit.inBlock, Exit.then]
        refine bodyPost_ret (retVE rfl rfl rfl (k3.st11 rfl _ _ _ _ _ _ _ _ _ _ _)) rfl ?_
        rw [hPst.out, hE0.out]
        refine ⟨by go_grown, ⟨x.d, x.t + y.t, A7, c7, mrg (x.cs ++ y.cs), x.n + y.n, y.sm, y.mn, y.mx⟩, rfl, fun _ => hfin.out _ ?_⟩
        iterate 11 (refine own_set ?_ (by omega) _)
        exact own9
    · have g1 : (x.n == 0) = false := by simpa using hxn
      have hxp : 0 < x.n := by have := ox.out.n; omega
      have g2 : decide (0 < x.n) = true := decide_eq_true hxp
      by_cases hyn : y.n = 0
      · have g3 : decide (0 < y.n) = false := decide_eq_false (by omega)
        have hfl : flo x.c y.c = (x.sm, x.mn, x.mx) := by
          unfold flo
          rw [if_neg (show ¬ x.c.n = 0 from hxn), if_pos (show y.c.n = 0 from hyn)]; rfl
        have hE0 : E = 0 := by rw [hE1.out, hfl]; exact if_neg (by dsimp only; rw [ox.out.f.1]; decide)
        have hff : finF x.sm = true := ox.out.f.1
        replace hfl := Lib.hid hfl
        replace hE0 := Lib.hid hE0
        replace hxn := Lib.hid hxn
        replace hyn := Lib.hid hyn
        replace hxp := Lib.hid hxp
        have k6 := hT.k6
        have y8 := (k6.2 8 _ rfl).1
        have cfi := finite_any x.sm hx.sm
        rw [hff] at cfi
        go_upto_region 18 with (go_at_call 104; refine (cfi _).mono ?_; rintro e w' ⟨rfl, rfl⟩)
        clear y8 cfi k6
        have k6 := hT.k6
        have k3 := hT.k3
        unfold zcells at k3
        have y0 := (k6.2 0 _ rfl).1
        have y1 := (k6.2 1 _ rfl).1
        have y2 := (k6.2 2 _ rfl).1
        have y3 := (k6.2 3 _ rfl).1
        have y4 := (k6.2 4 _ rfl).1
        have y5 := (k6.2 5 _ rfl).1
        have y6 := (k6.2 6 _ rfl).1
        have y7 := (k6.2 7 _ rfl).1
        have y8 := (k6.2 8 _ rfl).1
        have y9 := (k6.2 9 _ rfl).1
        have y10 := (k6.2 10 _ rfl).1
        have r0 := (k3.2 0 _ rfl).1
        have r1 := (k3.2 1 _ rfl).1
        have r2 := (k3.2 2 _ rfl).1
        have r3 := (k3.2 3 _ rfl).1
        have r4 := (k3.2 4 _ rfl).1
        have r5 := (k3.2 5 _ rfl).1
        have r6 := (k3.2 6 _ rfl).1
        have r7 := (k3.2 7 _ rfl).1
        have r8 := (k3.2 8 _ rfl).1
        have r9 := (k3.2 9 _ rfl).1
        have r10 := (k3.2 10 _ rfl).1
        have s0 := (k3.2 0 _ rfl).2
        have s1 := (k3.2 1 _ rfl).2
        have s2 := (k3.2 2 _ rfl).2
        have s3 := (k3.2 3 _ rfl).2
        have s4 := (k3.2 4 _ rfl).2
        have s5 := (k3.2 5 _ rfl).2
        have s6 := (k3.2 6 _ rfl).2
        have s7 := (k3.2 7 _ rfl).2
        have s8 := (k3.2 8 _ rfl).2
        have s9 := (k3.2 9 _ rfl).2
        have s10 := (k3.2 10 _ rfl).2
        have hbs := hT.base
        have hbl := hT.below
        have own9 := hT.own
        have hfin := fun wf => hT.fin (wf := wf) hx hy ox.out oy.out hbig.out hfl.out hx.sm hx.mn hx.mx
        replace hfin := Lib.hid hfin
        replace hT := Lib.hid hT
        skip
        go_wp2
        try simp only [Exit.inBlock, Exit.then]
        refine bodyPost_ret (retVE rfl rfl rfl (k3.st11 rfl _ _ _ _ _ _ _ _ _ _ _)) rfl ?_
        rw [hPst.out, hE0.out]
        refine ⟨by go_grown, ⟨x.d, x.t + y.t, A7, c7, mrg (x.cs ++ y.cs), x.n + y.n, x.sm, x.mn, x.mx⟩, rfl, fun _ => hfin.out _ ?_⟩
        iterate 11 (refine own_set ?_ (by omega) _)
        exact own9
      · have hyp : 0 < y.n := by have := oy.out.n; omega
        have g3 : decide (0 < y.n) = true := decide_eq_true hyp
        have hfl : flo x.c y.c = (fadd x.sm y.sm, if cmpF y.mn x.mn < 0 then y.mn else x.mn, if 0 < cmpF y.mx x.mx then y.mx else x.mx) := by
          unfold flo
          rw [if_neg (show ¬ x.c.n = 0 from hxn), if_neg (show ¬ y.c.n = 0 from hyn)]; rfl
        have hokS := fadd_ok hx.sm hy.sm ox.out.f.1 oy.out.f.1
        have cadd := fun W => Fb.radd_any x.sm y.sm hx.sm hy.sm ox.out.f.1 oy.out.f.1 W
        have hE2 : E = if finF (fadd x.sm y.sm) = false then 2 else 0 := by rw [hE1.out, hfl]
        obtain ⟨S, hS⟩ : ∃ S, S = fadd x.sm y.sm := ⟨_, rfl⟩
        rw [← hS] at hfl hokS cadd hE2
        have cfi := finite_any S hokS
        have cm1 := Fb.rcompare_any y.mn x.mn hy.mn hx.mn
        have cm2 := Fb.rcompare_any y.mx x.mx hy.mx hx.mx
        have bb1 := bits_run x.sm
        have bb2 := bits_run y.sm
        have bb3 := from_run S
        obtain ⟨mn, hmn⟩ : ∃ mn, mn = if cmpF y.mn x.mn < 0 then y.mn else x.mn := ⟨_, rfl⟩
        obtain ⟨mx, hmx⟩ : ∃ mx, mx = if 0 < cmpF y.mx x.mx then y.mx else x.mx := ⟨_, rfl⟩
        rw [← hmn, ← hmx] at hfl
        have okn : okF mn := by rw [hmn]; split; exact hy.mn; exact hx.mn
        have okx : okF mx := by rw [hmx]; split; exact hy.mx; exact hx.mx
        have wy1 : (cmpF y.mn x.mn < 0 ∧ mn = y.mn) ∨ (¬ cmpF y.mn x.mn < 0 ∧ mn = x.mn) := by
          by_cases h : cmpF y.mn x.mn < 0
          · exact .inl ⟨h, by rw [hmn, if_pos h]⟩
          · exact .inr ⟨h, by rw [hmn, if_neg h]⟩
        have wy2 : (0 < cmpF y.mx x.mx ∧ mx = y.mx) ∨ (¬ 0 < cmpF y.mx x.mx ∧ mx = x.mx) := by
          by_cases h : 0 < cmpF y.mx x.mx
          · exact .inl ⟨h, by rw [hmx, if_pos h]⟩
          · exact .inr ⟨h, by rw [hmx, if_neg h]⟩
        generalize cmpF y.mn x.mn = C1 at *
        generalize cmpF y.mx x.mx = C2 at *
        clear hmn hmx
        replace wy1 := Lib.hid wy1
        replace wy2 := Lib.hid wy2
        replace hS := Lib.hid hS
        replace hfl := Lib.hid hfl
        replace hE2 := Lib.hid hE2
        replace hxn := Lib.hid hxn
        replace hyn := Lib.hid hyn
        replace hxp := Lib.hid hxp
        replace hyp := Lib.hid hyp
        replace cadd := Lib.hid cadd
        replace okn := Lib.hid okn
        replace okx := Lib.hid okx
        go_upto_region 10 with fail
        have hl1 := hT.k1.1
        have hl2 := hT.k2.1
        have z1 := (hT.k1.2 8 _ rfl).1
        have z2 := (hT.k2.2 8 _ rfl).1
        clear x7 u7
        refine Reg.region_below_tail 9 (by kernel_rfl) (by kernel_rfl) ?_
        intro Sx _ f hf hs
        replace z1 := Reg.keepc hf hl1 z1
        replace z2 := Reg.keepc hf hl2 z2
        simp only [List.take_succ_cons, List.take_zero, List.drop_succ_cons, List.drop_zero]
        repeat (go_big_quiet_step ((go_at_call 115; with_reducible exact Reg.metQ hs (cadd.out _))))
        refine wpQuiet_nil ?_
        intro s
        have hT2 := hT.later (hf s)
        obtain ⟨w7, hw7⟩ : ∃ w7, w7 = f s := ⟨_, rfl⟩
        rw [← hw7] at hT2 ⊢
        clear hw7 hs hf z1 z2 hT cadd bb1 bb2 bb3
        have hsz7 := hT2.k6.1
        have a8 := (hT2.k6.2 8 _ rfl).1
        have b8 := (hT2.k6.2 8 _ rfl).2
        replace hT2 := Lib.hid hT2
        go_upto_region 11 with fail
        clear a8 b8
        have hT := hT2.out.s8 S
        clear hT2
        have z1 := (hT.k1.2 9 _ rfl).1
        have z2 := (hT.k2.2 9 _ rfl).1
        replace hT := Lib.hid hT
        go_upto_if 77 with (go_at_call 105; refine (cm1 _).mono ?_; rintro e w' ⟨rfl, rfl⟩)
        clear z1 z2 cm1
        go_cut [6] (fun s6 wx => s6 = .pointer (some ⟨w.heap.size + 1 + 1 + 1, 0, none⟩) ∧ Hid (TwoSt w wx x y A7 c7 w3.heap.size S mn x.mx))
        case first =>
          have u9 := (hT.out.k2.2 9 _ rfl).1
          have a9 := (hT.out.k6.2 9 _ rfl).1
          have b9 := (hT.out.k6.2 9 _ rfl).2
          rcases wy1.out with ⟨e1, e2⟩ | ⟨e1, e2⟩
          · replace e2 := Lib.hid e2
            go_wp2
            go_meet
            case rel => exact ⟨rfl, Lib.hid (by rw [e2.out]; exact hT.out.s9 y.mn)⟩
          · replace e2 := Lib.hid e2
            go_wp2
            go_meet
            case rel => exact ⟨rfl, Lib.hid (by rw [e2.out]; exact hT.out)⟩
        case rest =>
          obtain ⟨rfl, hcut⟩ := hcut
          clear hT wy1 hsz6 hsz7
          have hT := hcut.out
          clear hcut
          have z1 := (hT.k1.2 10 _ rfl).1
          have z2 := (hT.k2.2 10 _ rfl).1
          replace hT := Lib.hid hT
          go_upto_if 87 with (go_at_call 105; refine (cm2 _).mono ?_; rintro e w' ⟨rfl, rfl⟩)
          clear z1 z2 cm2
          go_cut [6] (fun s6 wx => s6 = .pointer (some ⟨w.heap.size + 1 + 1 + 1, 0, none⟩) ∧ Hid (TwoSt w wx x y A7 c7 w3.heap.size S mn mx))
          case first =>
            have u10 := (hT.out.k2.2 10 _ rfl).1
            have a10 := (hT.out.k6.2 10 _ rfl).1
            have b10 := (hT.out.k6.2 10 _ rfl).2
            rcases wy2.out with ⟨e1, e2⟩ | ⟨e1, e2⟩
            · replace e2 := Lib.hid e2
              go_wp2
              go_meet
              case rel => exact ⟨rfl, Lib.hid (by rw [e2.out]; exact hT.out.s10 y.mx)⟩
            · replace e2 := Lib.hid e2
              go_wp2
              go_meet
              case rel => exact ⟨rfl, Lib.hid (by rw [e2.out]; exact hT.out)⟩
          case rest =>
            obtain ⟨rfl, hcut⟩ := hcut
            clear hT wy2
            have hT := hcut.out
            clear hcut
            have y8 := (hT.k6.2 8 _ rfl).1
            replace hT := Lib.hid hT
            cases hfS : finF S
            · rw [hfS] at cfi hE2
              have hE3 : E = 2 := by rw [hE2.out]; rfl
              have hfin := hbadp.out 2
              have k3 := hT.out.k3
              have hbl := hT.out.below
              unfold zcells at k3
              have r0 := (k3.2 0 _ rfl).1
              have r1 := (k3.2 1 _ rfl).1
              have r2 := (k3.2 2 _ rfl).1
              have r3 := (k3.2 3 _ rfl).1
              have r4 := (k3.2 4 _ rfl).1
              have r5 := (k3.2 5 _ rfl).1
              have r6 := (k3.2 6 _ rfl).1
              have r7 := (k3.2 7 _ rfl).1
              have r8 := (k3.2 8 _ rfl).1
              have r9 := (k3.2 9 _ rfl).1
              have r10 := (k3.2 10 _ rfl).1
              have s0 := (k3.2 0 _ rfl).2
              have s1 := (k3.2 1 _ rfl).2
              have s2 := (k3.2 2 _ rfl).2
              have s3 := (k3.2 3 _ rfl).2
              have s4 := (k3.2 4 _ rfl).2
              have s5 := (k3.2 5 _ rfl).2
              have s6 := (k3.2 6 _ rfl).2
              have s7 := (k3.2 7 _ rfl).2
              have s8 := (k3.2 8 _ rfl).2
              have s9 := (k3.2 9 _ rfl).2
              have s10 := (k3.2 10 _ rfl).2
              replace hE3 := Lib.hid hE3
              replace hfin := Lib.hid hfin
              clear hfS
              go_wp2_with (go_at_call 104; refine (cfi _).mono ?_; rintro e w' ⟨rfl, rfl⟩)
              try simp only [Exit.inBlock, Exit.then]
              refine bodyPost_ret (retVE rfl rfl rfl (k3.st11 rfl _ _ _ _ _ _ _ _ _ _ _)) rfl ?_
              rw [hE3.out]
              exact hfin.out _ (by decide) (by go_grown)
            · rw [hfS] at cfi hE2
              have hE0 : E = 0 := by rw [hE2.out]; rfl
              replace hE0 := Lib.hid hE0
              clear hfS
              go_upto_region 18 with (go_at_call 104; refine (cfi _).mono ?_; rintro e w' ⟨rfl, rfl⟩)
              clear y8 cfi
              have hT3 := hT.out
              clear hT
              have hT := hT3
              clear hT3
              have k6 := hT.k6
              have k3 := hT.k3
              unfold zcells at k3
              have y0 := (k6.2 0 _ rfl).1
              have y1 := (k6.2 1 _ rfl).1
              have y2 := (k6.2 2 _ rfl).1
              have y3 := (k6.2 3 _ rfl).1
              have y4 := (k6.2 4 _ rfl).1
              have y5 := (k6.2 5 _ rfl).1
              have y6 := (k6.2 6 _ rfl).1
              have y7 := (k6.2 7 _ rfl).1
              have y8 := (k6.2 8 _ rfl).1
              have y9 := (k6.2 9 _ rfl).1
              have y10 := (k6.2 10 _ rfl).1
              have r0 := (k3.2 0 _ rfl).1
              have r1 := (k3.2 1 _ rfl).1
              have r2 := (k3.2 2 _ rfl).1
              have r3 := (k3.2 3 _ rfl).1
              have r4 := (k3.2 4 _ rfl).1
              have r5 := (k3.2 5 _ rfl).1
              have r6 := (k3.2 6 _ rfl).1
              have r7 := (k3.2 7 _ rfl).1
              have r8 := (k3.2 8 _ rfl).1
              have r9 := (k3.2 9 _ rfl).1
              have r10 := (k3.2 10 _ rfl).1
              have s0 := (k3.2 0 _ rfl).2
              have s1 := (k3.2 1 _ rfl).2
              have s2 := (k3.2 2 _ rfl).2
              have s3 := (k3.2 3 _ rfl).2
              have s4 := (k3.2 4 _ rfl).2
              have s5 := (k3.2 5 _ rfl).2
              have s6 := (k3.2 6 _ rfl).2
              have s7 := (k3.2 7 _ rfl).2
              have s8 := (k3.2 8 _ rfl).2
              have s9 := (k3.2 9 _ rfl).2
              have s10 := (k3.2 10 _ rfl).2
              have hbs := hT.base
              have hbl := hT.below
              have own9 := hT.own
              have hfin := fun wf => hT.fin (wf := wf) hx hy ox.out oy.out hbig.out hfl.out hokS okn.out okx.out
              replace hfin := Lib.hid hfin
              replace hT := Lib.hid hT
              skip
              go_wp2
              try simp only [Exit.inBlock, Exit.then]
              refine bodyPost_ret (retVE rfl rfl rfl (k3.st11 rfl _ _ _ _ _ _ _ _ _ _ _)) rfl ?_
              rw [hPst.out, hE0.out]
              refine ⟨by go_grown, ⟨x.d, x.t + y.t, A7, c7, mrg (x.cs ++ y.cs), x.n + y.n, S, mn, mx⟩, rfl, fun _ => hfin.out _ ?_⟩
              iterate 11 (refine own_set ?_ (by omega) _)
              exact own9
end Go.Proofs.YtpiegngjpnpohaaGreat.Sn
