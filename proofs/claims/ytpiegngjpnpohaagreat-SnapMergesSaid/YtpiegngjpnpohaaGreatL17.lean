/- Lemmas for the laws of this seat, laid together of Sn4, Sn5. -/
import Derived.Test.YtpiegngjpnpohaaGreatL16
import Derived.Laws.StructEq

namespace Go.Proofs.YtpiegngjpnpohaaGreat.Sn
open Go.RowKit Go.Proofs.YtpiegngjpnpohaaGreat.La Go.Proofs.YtpiegngjpnpohaaGreat.Sl Go.Proofs.YtpiegngjpnpohaaGreat.Ck Go.Proofs.YtpiegngjpnpohaaGreat.Rc Go.Proofs.YtpiegngjpnpohaaGreat.Rk Go.Proofs.YtpiegngjpnpohaaGreat.Wi Go.Proofs.YtpiegngjpnpohaaGreat.Fb
set_option linter.unusedVariables false
set_option maxRecDepth 100000 in
set_option maxHeartbeats 4000000 in
theorem between_any (p : Int) (v : Vv) (w : World) (h : VAt v w w.heap.size) (hm : mayE p v.cs = 0) :
    Calls Tryz.prog 103 #[.int .i64 p, v.v] w fun e w' => e = .returned (.bool (decide (lowS p v.cs ≤ v.t ∧ v.t ≤ higS p v.cs))) ∧ Below w.heap.size w w' := by
  obtain ⟨hg, hsum⟩ := may_sum hm
  have hcs := h.cs
  have hlen := h.cs.len
  have htot := h.tot
  unfold maxLen at hlen
  have hcap := h.cap
  have hclen := h.clen
  unfold Vv.v
  obtain ⟨⟨k0, n0, h0, A0, c0, l0⟩, tt, CA, cc, cs, n, sm, mn, mx⟩ := v
  dsimp only at *
  have hb0 := sums_rng p cs hcs.ok
  have cc1 := fun w => rcompare_any (b := tt) (a := lowS p cs) (by unfold In; omega) htot w
  have cc2 := fun w => rcompare_any (a := tt) (b := higS p cs) htot (by unfold In; omega) w
  unfold I128 at cc1 cc2
  have hI : ((cs.length : Nat) : Int) ≤ 9223372036854775807 := by omega
  clear h hm hsum hb0 htot hlen hclen hcap
  obtain ⟨res, hres⟩ : ∃ res, res = decide (lowS p cs ≤ tt ∧ tt ≤ higS p cs) := ⟨_, rfl⟩
  rw [← hres]
  replace hres := Lib.hid hres
  replace hcs := Lib.hid hcs
  replace cc1 := Lib.hid cc1
  replace cc2 := Lib.hid cc2
  generalize l0.length = ln at *
  obtain ⟨cn, hcn⟩ : ∃ cn, cn = cs.length := ⟨_, rfl⟩
  rw [← hcn] at hI ⊢
  replace hcn := Lib.hid hcn
  go_enter Tryz.func103, Tryz.ntmps103
  go_upto_region 1 with fail
  obtain ⟨w2, hw1⟩ : ∃ w2, w2 = w.alloc (.cells #[.int .i64 k0, .string n0, .string h0, .slice A0 ln c0, .int .i64 (hiI tt), .int .u64 (loI tt), .slice CA cn cc, .int .u64 n, .float .f64 sm, .float .f64 mn, .float .f64 mx] 49) := ⟨_, rfl⟩
  rw [← hw1]
  have hb2 : Below w.heap.size w w2 := by rw [hw1]; exact (Below.refl _ w).alloc (Nat.le_refl _) _
  have hlt2 : w.heap.size < w2.heap.size := by rw [hw1]; simp
  have z4 : w2.cell? ⟨w.heap.size, 4, none⟩ = some (.int .i64 (hiI tt)) := by rw [hw1, Mg.cell_new]; rfl
  have z5 : w2.cell? ⟨w.heap.size, 5, none⟩ = some (.int .u64 (loI tt)) := by rw [hw1, Mg.cell_new]; rfl
  have z6 : w2.cell? ⟨w.heap.size, 6, none⟩ = some (.slice CA cn cc) := by rw [hw1, Mg.cell_new]; rfl
  clear hw1
  go_upto_region 3 with fail
  have hi0 := HI.new w2 45
  obtain ⟨w3, hw3⟩ : ∃ w3, w3 = (w2.alloc (.cells #[.int .i64 0, .int .u64 0] 45)).alloc (.cells #[.int .i64 0, .int .u64 0] 45) := ⟨_, rfl⟩
  rw [← hw3] at hi0 ⊢
  clear hw3
  go_wp2
  go_loopw [7] (fun v wr => ∃ k : Nat, v = .int .i64 (k : Int) ∧ k ≤ cn ∧ HI w2 wr w2.heap.size (lowS p (cs.take k)) (higS p (cs.take k))) (fun v _ => cn - (intOf v).toNat)
  case atStart => exact ⟨0, rfl, Nat.zero_le _, hi0⟩
  case round =>
    obtain ⟨k, rfl, hk, hr⟩ := hrel
    by_cases hlt : k < cn
    · have hil : k < cs.length := by rw [← hcn.out]; exact hlt
      obtain ⟨b, off, hA, hbB, hcells⟩ := (hcs.out.below (hb2.trans (hr.bel.mono (by omega)))).cells (by omega)
      obtain ⟨c1, c2⟩ := hcells k cs[k] (List.getElem?_eq_getElem hil)
      have hokc := hcs.out.ok _ (List.getElem_mem hil)
      have e1 := lowS_snoc p hil
      have e2 := higS_snoc p hil
      subst hA
      generalize cs[k] = c at *
      obtain ⟨cx, cy⟩ := c
      dsimp only at c1 c2 e1 e2
      unfold okC at hokc
      obtain ⟨o1, o2, o3, o4⟩ := hokc
      have cl := Bk.rlow_any p cx o2
      have ch := Bk.rhigh_any p cx o2
      obtain ⟨r1, r2, r3⟩ := Bk.lo_rng (p := p) (i := cx)
      have r4 : 0 ≤ Bk.higI p cx ∧ Bk.higI p cx ≤ 9223372036854775807 := by unfold Bk.higI; omega
      have r5 : Bk.lowI p cx ≤ 9223372036854775807 := by omega
      have ct1 := product_int (Bk.lowI p cx) cy ⟨r1, r5⟩ ⟨o3, o4⟩
      have ct2 := product_int (Bk.higI p cx) cy r4 ⟨o3, o4⟩
      have u1 : IntKind.u64.wrap (Bk.lowI p cx) = Bk.lowI p cx := by rw [IntKind.wrap_u64]; omega
      have u2 : IntKind.u64.wrap (Bk.higI p cx) = Bk.higI p cx := by rw [IntKind.wrap_u64]; omega
      generalize Bk.lowI p cx = lx at *
      generalize Bk.higI p cx = hx at *
      generalize Bk.lowE p cx = ex at *
      have ca1 := radd_any (lowS p (cs.take k)) (lx * cy)
      have ca2 := radd_any (higS p (cs.take k)) (hx * cy)
      rw [← e1] at ca1
      rw [← e2] at ca2
      unfold I128 at ct1 ct2 ca1 ca2
      generalize lx * cy = la at *
      generalize hx * cy = ha at *
      generalize hL : lowS p (cs.take (k + 1)) = L' at *
      generalize hH : higS p (cs.take (k + 1)) = H' at *
      replace hL := Lib.hid hL
      replace hH := Lib.hid hH
      generalize lowS p (cs.take k) = L at *
      generalize higS p (cs.take k) = H at *
      clear hcells r1 r2 r3 r4 r5 o1 o2 o3 o4 e1 e2 hil
      have gI : (k : Int) < (cn : Int) := by omega
      have gI0 : (0 : Int) ≤ (k : Int) := by omega
      have y6 := kc hr.bel hlt2 z6
      have y6' : ∀ n, (wr.drewN n).cell? ⟨w.heap.size, 6, none⟩ = _ := fun n => y6
      replace hr := Lib.hid hr
      go_upto_region 8 with (first
        | (go_at_call 156; refine (cl _).mono ?_; rintro e w' ⟨rfl, n1, rfl⟩)
        | (go_at_call 125; refine (ch _).mono ?_; rintro e w' ⟨rfl, n2, rfl⟩))
      have hw4 := Lib.hid (hr.out.below (below_drewN (Below.refl wr.heap.size wr) (n1 + n2)))
      have x1 : (wr.drewN (n1 + n2)).cell? ⟨b, off + k * 2 + 1, none⟩ = some (.int .u64 cy) := c2
      have x6 : (wr.drewN (n1 + n2)).cell? ⟨w.heap.size, 6, none⟩ = _ := y6
      obtain ⟨w4, hW⟩ : ∃ w4, w4 = wr.drewN (n1 + n2) := ⟨_, rfl⟩
      rw [← hW] at hw4 x1 x6 ⊢
      clear hW hr c1 c2 cl ch y6 y6'
      obtain ⟨hbel, hsz4, ⟨t1, t2, t3, t4⟩, ⟨t5, t6, t7, t8⟩⟩ := hw4.out
      refine Reg.region_below_tail 11 (by kernel_rfl) (by kernel_rfl) ?_
      intro Sx _ f hf hs
      have y1 := Reg.keepc hf (by omega) x1
      have y2 := Reg.keepc hf (by omega) t1
      have y3 := Reg.keepc hf (by omega) t2
      have y6 := Reg.keepc hf (by omega) x6
      have q1 := fun s => ct1 (f s)
      have q3 := fun s => ca1 (f s)
      clear t1 t2 t3 t4 t5 t6 t7 t8
      simp only [List.take_succ_cons, List.take_zero, List.drop_succ_cons, List.drop_zero]
      repeat (go_big_quiet_step ((first | (go_at_call 157; with_reducible exact Reg.met hs (q1 _)) | (go_at_call 62; with_reducible exact Reg.met hs (q3 _)))))
      refine wpQuiet_nil ?_
      intro s
      have hw5 := hw4.out.below (hf s)
      have v1 := y1 s
      have v6 := y6 s
      obtain ⟨w5, hW5⟩ : ∃ w5, w5 = f s := ⟨_, rfl⟩
      rw [← hW5] at hw5 v1 v6 ⊢
      clear hW5 q1 q3 y1 y2 y3 y6 hf hs x1 x6 hw4 hbel hsz4
      replace hw5 := Lib.hid hw5
      obtain ⟨hbel, hsz4, ⟨t1, t2, t3, t4⟩, ⟨t5, t6, t7, t8⟩⟩ := hw5.out
      go_upto_region 9 with fail
      have hw6 := hw5.out.set1 L'
      have x1 : ((w5.setCell ⟨w2.heap.size, 0, none⟩ (.int .i64 (hiI L'))).setCell ⟨w2.heap.size, 1, none⟩ (.int .u64 (loI L'))).cell? ⟨b, off + k * 2 + 1, none⟩ = some (.int .u64 cy) := by
        rw [World.cell?_setCell_other _ _ _ _ (fun e => by have := congrArg Addr.block e; simp at this; omega), World.cell?_setCell_other _ _ _ _ (fun e => by have := congrArg Addr.block e; simp at this; omega)]; exact v1
      have x6 : ((w5.setCell ⟨w2.heap.size, 0, none⟩ (.int .i64 (hiI L'))).setCell ⟨w2.heap.size, 1, none⟩ (.int .u64 (loI L'))).cell? ⟨w.heap.size, 6, none⟩ = some (.slice (some ⟨b, off, none⟩) cn cc) := by
        rw [World.cell?_setCell_other _ _ _ _ (fun e => by have := congrArg Addr.block e; simp at this; omega), World.cell?_setCell_other _ _ _ _ (fun e => by have := congrArg Addr.block e; simp at this; omega)]; exact v6
      obtain ⟨w6, hW⟩ : ∃ w6, w6 = ((w5.setCell ⟨w2.heap.size, 0, none⟩ (.int .i64 (hiI L'))).setCell ⟨w2.heap.size, 1, none⟩ (.int .u64 (loI L'))) := ⟨_, rfl⟩
      rw [← hW] at hw6 x1 x6 ⊢
      replace hw6 := Lib.hid hw6
      clear hW v1 v6 t1 t2 t3 t4 t5 t6 t7 t8 hw5 hbel hsz4
      obtain ⟨hbel, hsz4, ⟨t1, t2, t3, t4⟩, ⟨t5, t6, t7, t8⟩⟩ := hw6.out
      refine Reg.region_below_tail 11 (by kernel_rfl) (by kernel_rfl) ?_
      intro Sx _ f hf hs
      have y1 := Reg.keepc hf (by omega) x1
      have y4 := Reg.keepc hf (by omega) t5
      have y5 := Reg.keepc hf (by omega) t6
      have y6 := Reg.keepc hf (by omega) x6
      have q2 := fun s => ct2 (f s)
      have q4 := fun s => ca2 (f s)
      clear t1 t2 t3 t4 t5 t6 t7 t8
      simp only [List.take_succ_cons, List.take_zero, List.drop_succ_cons, List.drop_zero]
      repeat (go_big_quiet_step ((first | (go_at_call 157; with_reducible exact Reg.met hs (q2 _)) | (go_at_call 62; with_reducible exact Reg.met hs (q4 _)))))
      refine wpQuiet_nil ?_
      intro s
      have hw7 := hw6.out.below (hf s)
      obtain ⟨w7, hW7⟩ : ∃ w7, w7 = f s := ⟨_, rfl⟩
      rw [← hW7] at hw7 ⊢
      clear hW7 q2 q4 y1 y4 y5 y6 hf hs
      replace hw7 := Lib.hid hw7
      obtain ⟨_, _, ⟨t1, t2, t3, t4⟩, ⟨t5, t6, t7, t8⟩⟩ := hw7.out
      go_wp2
      exact ⟨⟨k + 1, by go_num, hlt, by rw [hL.out, hH.out]; exact hw7.out.set2 H'⟩, by simp [intOf]; omega⟩
    · obtain rfl : k = cn := by omega
      have hall : cs.take k = cs := List.take_of_length_le (by rw [hcn.out]; exact Nat.le_refl _)
      rw [hall] at hr
      have x4 := kc hr.bel hlt2 z4
      have x5 := kc hr.bel hlt2 z5
      have x6 := kc hr.bel hlt2 z6
      have hbw : Below w.heap.size w wr := hb2.trans (hr.bel.mono (by omega))
      have hszr := hr.size
      obtain ⟨_, _, ⟨t1, t2, t3, t4⟩, ⟨t5, t6, t7, t8⟩⟩ := hr
      have k1 : (cmpI (lowS p cs) tt ≤ 0) = (lowS p cs ≤ tt) := by unfold cmpI; apply propext; split <;> (try split) <;> omega
      have k2 : (cmpI tt (higS p cs) ≤ 0) = (tt ≤ higS p cs) := by unfold cmpI; apply propext; split <;> (try split) <;> omega
      generalize cmpI (lowS p cs) tt = g1 at *
      generalize cmpI tt (higS p cs) = g2 at *
      have hr' := hres.out
      clear hcs hres z4 z5 z6 hi0 hI hg hall t3 t4 t7 t8
      by_cases hl1 : lowS p cs ≤ tt
      · have d1 : decide (g1 ≤ 0) = true := decide_eq_true (by rw [k1]; exact hl1)
        have d2 : decide (g2 ≤ 0) = res := by rw [hr', decide_eq_decide, k2]; exact ⟨fun h => ⟨hl1, h⟩, fun h => h.2⟩
        clear k1 k2 hl1 hr'
        generalize lowS p cs = L at *
        generalize higS p cs = H at *
        go_wp2_with fail
        refine (cc1.out _).mono ?_
        rintro e w5 ⟨rfl, hb5⟩
        have y3 := kc hb5 (by omega) t5
        have y4 := kc hb5 (by omega) t6
        have y5 := kc hb5 (by omega) x4
        have y6 := kc hb5 (by omega) x5
        clear t1 t2 t5 t6 x4 x5
        go_wp2_with (go_at_call 158; refine (cc2.out _).mono ?_; rintro e w6 ⟨rfl, hb6⟩)
        go_ret
        exact ⟨rfl, hbw.trans ((hb5.trans (hb6.mono hb5.size)).mono hbw.size)⟩
      · have d1 : decide (g1 ≤ 0) = false := decide_eq_false (by rw [k1]; exact hl1)
        have d2 : res = false := by rw [hr']; simp only [hl1, false_and, decide_false]
        subst d2
        clear k1 k2 hl1 hr'
        generalize lowS p cs = L at *
        generalize higS p cs = H at *
        go_wp2_with fail
        refine (cc1.out _).mono ?_
        rintro e w5 ⟨rfl, hb5⟩
        clear t1 t2 t5 t6 x4 x5
        go_wp2
        go_ret
        exact ⟨rfl, hbw.trans (hb5.mono hbw.size)⟩
end Go.Proofs.YtpiegngjpnpohaaGreat.Sn

namespace Go.Proofs.YtpiegngjpnpohaaGreat.Sn
open Go.RowKit Go.Proofs.YtpiegngjpnpohaaGreat.La Go.Proofs.YtpiegngjpnpohaaGreat.Sl Go.Proofs.YtpiegngjpnpohaaGreat.Ck Go.Proofs.YtpiegngjpnpohaaGreat.Rc Go.Proofs.YtpiegngjpnpohaaGreat.Rk Go.Proofs.YtpiegngjpnpohaaGreat.Wi Go.Proofs.YtpiegngjpnpohaaGreat.Fb
set_option linter.unusedVariables false
structure V11 (w : World) (g : Nat) (v : Vv) : Prop where
  z0 : w.cell? ⟨g, 0, none⟩ = some (.int .i64 v.d.kind)
  z1 : w.cell? ⟨g, 1, none⟩ = some (.string v.d.name)
  z2 : w.cell? ⟨g, 2, none⟩ = some (.string v.d.help)
  z3 : w.cell? ⟨g, 3, none⟩ = some (.slice v.d.A v.d.l.length v.d.c)
  z4 : w.cell? ⟨g, 4, none⟩ = some (.int .i64 (hiI v.t))
  z5 : w.cell? ⟨g, 5, none⟩ = some (.int .u64 (loI v.t))
  z6 : w.cell? ⟨g, 6, none⟩ = some (.slice v.CA v.cs.length v.cc)
  z7 : w.cell? ⟨g, 7, none⟩ = some (.int .u64 v.n)
  z8 : w.cell? ⟨g, 8, none⟩ = some (.float .f64 v.sm)
  z9 : w.cell? ⟨g, 9, none⟩ = some (.float .f64 v.mn)
  z10 : w.cell? ⟨g, 10, none⟩ = some (.float .f64 v.mx)
theorem V11.below {w w' : World} {g B : Nat} {v : Vv} (h : V11 w g v) (k : Below B w w') (hg : g < B) : V11 w' g v :=
  ⟨kc k hg h.z0, kc k hg h.z1, kc k hg h.z2, kc k hg h.z3, kc k hg h.z4, kc k hg h.z5, kc k hg h.z6, kc k hg h.z7, kc k hg h.z8, kc k hg h.z9, kc k hg h.z10⟩
theorem V11.new (w : World) (T : TypeId) (v : Vv) {w1 : World} (h : w1 = w.alloc (.cells v.row.toArray T)) : Below w.heap.size w w1 ∧ w.heap.size < w1.heap.size ∧ V11 w1 w.heap.size v := by
  subst h
  exact ⟨(Below.refl _ w).alloc (Nat.le_refl _) _, by simp, ⟨by rw [Mg.cell_new]; rfl, by rw [Mg.cell_new]; rfl, by rw [Mg.cell_new]; rfl, by rw [Mg.cell_new]; rfl, by rw [Mg.cell_new]; rfl, by rw [Mg.cell_new]; rfl, by rw [Mg.cell_new]; rfl, by rw [Mg.cell_new]; rfl, by rw [Mg.cell_new]; rfl, by rw [Mg.cell_new]; rfl, by rw [Mg.cell_new]; rfl⟩⟩
theorem zeros3 (a b c : Nat) (ha : okF a) (hb : okF b) (hc : okF c) (W : World) (T : TypeId) :
    Calls Tryz.prog 88 #[.slice (some ⟨W.heap.size, 0, none⟩) 3 3] (W.alloc (.cells #[.float .f64 a, .float .f64 b, .float .f64 c] T)) fun e w' => e = .returned (.bool (zeroF a && zeroF b && zeroF c)) ∧ Below W.heap.size W w' := by
  have hr := Rd.new W ([a, b, c].map flF) T 1 3 rfl
  have := zeros_any [a, b, c] (some ⟨W.heap.size, 0, none⟩) 3 (W.alloc (.cells #[.float .f64 a, .float .f64 b, .float .f64 c] T)) (by simpa [flF] using hr) (by simp [ha, hb, hc]) (by simp)
  refine this.mono ?_
  rintro e w' ⟨rfl, hb⟩
  exact ⟨by simp [Bool.and_assoc], ((Below.refl _ W).alloc (Nat.le_refl _) _).trans (hb.mono (by simp))⟩
theorem finite3 (a b c : Nat) (ha : okF a) (hb : okF b) (hc : okF c) (W : World) (T : TypeId) :
    Calls Tryz.prog 91 #[.slice (some ⟨W.heap.size, 0, none⟩) 3 3] (W.alloc (.cells #[.float .f64 a, .float .f64 b, .float .f64 c] T)) fun e w' => e = .returned (.bool (finF a && finF b && finF c)) ∧ Below W.heap.size W w' := by
  have hr := Rd.new W ([a, b, c].map flF) T 1 3 rfl
  have := finite_l [a, b, c] (some ⟨W.heap.size, 0, none⟩) 3 (W.alloc (.cells #[.float .f64 a, .float .f64 b, .float .f64 c] T)) (by simpa [flF] using hr) (by simp [ha, hb, hc]) (by simp)
  refine this.mono ?_
  rintro e w' ⟨rfl, hb⟩
  exact ⟨by simp [Bool.and_assoc], ((Below.refl _ W).alloc (Nat.le_refl _) _).trans (hb.mono (by simp))⟩
theorem finite1 (a : Nat) (ha : okF a) (W : World) (T : TypeId) :
    Calls Tryz.prog 91 #[.slice (some ⟨W.heap.size, 0, none⟩) 1 1] (W.alloc (.cells #[.float .f64 a] T)) fun e w' => e = .returned (.bool (finF a)) ∧ Below W.heap.size W w' := by
  have hr := Rd.new W ([a].map flF) T 1 1 rfl
  have := finite_l [a] (some ⟨W.heap.size, 0, none⟩) 1 (W.alloc (.cells #[.float .f64 a] T)) (by simpa [flF] using hr) (by simp [ha]) (by simp)
  refine this.mono ?_
  rintro e w' ⟨rfl, hb⟩
  exact ⟨by simp, ((Below.refl _ W).alloc (Nat.le_refl _) _).trans (hb.mono (by simp))⟩
def zer3 (v : Vv) : Bool := zeroF v.sm && zeroF v.mn && zeroF v.mx
def fin3 (v : Vv) : Bool := finF v.sm && finF v.mn && finF v.mx
def holdB (p : Int) (v : Vv) : Bool :=
  if v.d.kind = 1 then decide (v.cs.length = 0) && decide (v.n = 0) && zer3 v && decide (0 ≤ v.t)
  else if v.d.kind = 2 then zer3 v && histB p v
  else if v.t ≠ 0 ∨ 0 < v.cs.length ∨ 9223372036854775807 < v.n then false
  else if v.n = 0 then zer3 v else fin3 v && decide (cmpF v.mn v.mx ≤ 0)
set_option maxRecDepth 100000 in
set_option maxHeartbeats 4000000 in
theorem holds1_any (p : Int) (v : Vv) (w : World) (h : VAt v w w.heap.size) (hk : v.d.kind = 1) :
    Calls Tryz.prog 46 #[.int .i64 p, v.v] w fun e w' => e = .returned (.bool (holdB p v)) ∧ Below w.heap.size w w' := by
  have cz := fun W => zeros3 v.sm v.mn v.mx h.sm h.mn h.mx W
  have cs := fun W => sign_any h.tot W
  have hh : holdB p v = (decide (v.cs.length = 0) && decide (v.n = 0) && zer3 v && decide (0 ≤ v.t)) := by unfold holdB; rw [if_pos hk]
  rw [hh]
  have hz : (zeroF v.sm && zeroF v.mn && zeroF v.mx) = zer3 v := rfl
  rw [hz] at cz
  have ks : (0 ≤ cmpI v.t 0) = (0 ≤ v.t) := by unfold cmpI; apply propext; split <;> (try split) <;> omega
  have hnew := fun (w1 : World) (e : w1 = _) => V11.new w 49 v (w1 := w1) e
  have hd4 : decide (0 ≤ cmpI v.t 0) = decide (0 ≤ v.t) := by rw [decide_eq_decide, ks]
  obtain ⟨z, hz⟩ : ∃ z, z = zer3 v := ⟨_, rfl⟩
  obtain ⟨q, hq⟩ : ∃ q, q = decide (0 ≤ v.t) := ⟨_, rfl⟩
  rw [← hz] at cz ⊢
  rw [← hq] at hd4 ⊢
  obtain ⟨r, hr⟩ : ∃ r, r = (decide (v.cs.length = 0) && decide (v.n = 0) && z && q) := ⟨_, rfl⟩
  rw [← hr]
  have hcase : (v.cs.length ≠ 0 ∧ r = false) ∨ (v.cs.length = 0 ∧ v.n ≠ 0 ∧ r = false) ∨ (v.cs.length = 0 ∧ v.n = 0 ∧ z = false ∧ r = false) ∨ (v.cs.length = 0 ∧ v.n = 0 ∧ z = true ∧ r = q) := by
    by_cases h1 : v.cs.length = 0
    · by_cases h2 : v.n = 0
      · cases z
        · right; right; left; exact ⟨h1, h2, rfl, by rw [hr]; simp⟩
        · right; right; right; exact ⟨h1, h2, rfl, by rw [hr]; simp [h1, h2]⟩
      · right; left; exact ⟨h1, h2, by rw [hr]; simp [h2]⟩
    · left; exact ⟨h1, by rw [hr]; simp [h1]⟩
  unfold I128 at cs
  unfold Vv.v
  obtain ⟨⟨k0, n0, h0, A0, c0, l0⟩, tt, CA, cc, cs0, n, sm, mn, mx⟩ := v
  dsimp only at *
  subst hk
  unfold Vv.row at hnew
  dsimp only at hnew
  generalize cmpI tt 0 = g4 at *
  clear hh ks hz hq h hr
  obtain ⟨ln, hln⟩ : ∃ ln, ln = l0.length := ⟨_, rfl⟩
  obtain ⟨cn, hcn⟩ : ∃ cn, cn = cs0.length := ⟨_, rfl⟩
  rw [← hln, ← hcn] at hnew ⊢
  rw [← hcn] at hcase
  replace cz := Lib.hid cz
  replace cs := Lib.hid cs
  replace hnew := Lib.hid hnew
  replace hln := Lib.hid hln
  replace hcn := Lib.hid hcn
  replace hcase := Lib.hid hcase
  go_enter Tryz.func46, Tryz.ntmps46
  go_upto_region 1 with fail
  obtain ⟨w1, hw1⟩ : ∃ w1, w1 = w.alloc (.cells #[.int .i64 1, .string n0, .string h0, .slice A0 ln c0, .int .i64 (hiI tt), .int .u64 (loI tt), .slice CA cn cc, .int .u64 n, .float .f64 sm, .float .f64 mn, .float .f64 mx] 49) := ⟨_, rfl⟩
  rw [← hw1]
  obtain ⟨hb1, hlt, hv⟩ := hnew.out w1 hw1
  clear hw1 hnew
  obtain ⟨z0, z1, z2, z3, z4, z5, z6, z7, z8, z9, z10⟩ := id hv
  dsimp only at z0 z1 z2 z3 z4 z5 z6 z7 z8 z9 z10
  rw [← hcn.out] at z6
  rcases hcase.out with ⟨h1, rfl⟩ | ⟨h1, h2, rfl⟩ | ⟨h1, h2, rfl, rfl⟩ | ⟨h1, h2, rfl, rfl⟩
  · have h1I : ((cn : Int) == 0) = false := by simp [h1]
    clear hcase h1
    go_wp2
    go_ret
    exact ⟨rfl, hb1⟩
  · have h1I : ((cn : Int) == 0) = true := by simp [h1]
    have h2I : (n == 0) = false := by simp [h2]
    clear hcase h1 h2
    go_wp2
    go_ret
    exact ⟨rfl, hb1⟩
  · have h1I : ((cn : Int) == 0) = true := by simp [h1]
    have h2I : (n == 0) = true := by simp [h2]
    clear hcase h1 h2
    go_wp2_with (go_at_call 88; refine (cz.out _ _).mono ?_; rintro e w2 ⟨rfl, hb2⟩)
    go_ret
    exact ⟨rfl, hb1.trans (hb2.mono hb1.size)⟩
  · have h1I : ((cn : Int) == 0) = true := by simp [h1]
    have h2I : (n == 0) = true := by simp [h2]
    clear hcase h1 h2
    go_wp2_with fail
    refine (cz.out _ _).mono ?_
    rintro e w2 ⟨rfl, hb2⟩
    have x4 := kc hb2 hlt z4
    have x5 := kc hb2 hlt z5
    go_wp2_with (go_at_call 89; refine (cs.out _).mono ?_; rintro e w3 ⟨rfl, hb3⟩)
    go_ret
    exact ⟨rfl, hb1.trans ((hb2.trans (hb3.mono hb2.size)).mono hb1.size)⟩
set_option maxRecDepth 100000 in
set_option maxHeartbeats 4000000 in
theorem holds2_any (p : Int) (v : Vv) (w : World) (h : VAt v w w.heap.size) (hk : v.d.kind = 2) :
    Calls Tryz.prog 46 #[.int .i64 p, v.v] w fun e w' => e = .returned (.bool (holdB p v)) ∧ Below w.heap.size w w' := by
  have cz := fun W => zeros3 v.sm v.mn v.mx h.sm h.mn h.mx W
  have ch := fun W (k : Below w.heap.size w W) => histogram_any p v W ((h.below k).mono k.size)
  have hh : holdB p v = (zer3 v && histB p v) := by unfold holdB; rw [if_neg (by omega), if_pos hk]
  rw [hh]
  have hz : (zeroF v.sm && zeroF v.mn && zeroF v.mx) = zer3 v := rfl
  rw [hz] at cz
  have hnew := fun (w1 : World) (e : w1 = _) => V11.new w 49 v (w1 := w1) e
  obtain ⟨z, hz⟩ : ∃ z, z = zer3 v := ⟨_, rfl⟩
  obtain ⟨q, hq⟩ : ∃ q, q = histB p v := ⟨_, rfl⟩
  rw [← hz] at cz ⊢
  rw [← hq] at ch ⊢
  obtain ⟨r, hr⟩ : ∃ r, r = (z && q) := ⟨_, rfl⟩
  rw [← hr]
  have hcase : (z = false ∧ r = false) ∨ (z = true ∧ r = q) := by
    rw [hr]; cases z <;> simp
  unfold Vv.v at ch ⊢
  obtain ⟨⟨k0, n0, h0, A0, c0, l0⟩, tt, CA, cc, cs0, n, sm, mn, mx⟩ := v
  dsimp only at *
  subst hk
  unfold Vv.row at hnew
  dsimp only at hnew
  clear hh hz hq h hr
  obtain ⟨ln, hln⟩ : ∃ ln, ln = l0.length := ⟨_, rfl⟩
  obtain ⟨cn, hcn⟩ : ∃ cn, cn = cs0.length := ⟨_, rfl⟩
  rw [← hln, ← hcn] at hnew ch ⊢
  replace cz := Lib.hid cz
  replace ch := Lib.hid ch
  replace hnew := Lib.hid hnew
  replace hln := Lib.hid hln
  replace hcn := Lib.hid hcn
  replace hcase := Lib.hid hcase
  go_enter Tryz.func46, Tryz.ntmps46
  go_upto_region 1 with fail
  obtain ⟨w1, hw1⟩ : ∃ w1, w1 = w.alloc (.cells #[.int .i64 2, .string n0, .string h0, .slice A0 ln c0, .int .i64 (hiI tt), .int .u64 (loI tt), .slice CA cn cc, .int .u64 n, .float .f64 sm, .float .f64 mn, .float .f64 mx] 49) := ⟨_, rfl⟩
  rw [← hw1]
  obtain ⟨hb1, hlt, hv⟩ := hnew.out w1 hw1
  clear hw1 hnew
  obtain ⟨z0, z1, z2, z3, z4, z5, z6, z7, z8, z9, z10⟩ := id hv
  dsimp only at z0 z1 z2 z3 z4 z5 z6 z7 z8 z9 z10
  rcases hcase.out with ⟨rfl, rfl⟩ | ⟨rfl, rfl⟩
  · go_wp2_with (go_at_call 88; refine (cz.out _ _).mono ?_; rintro e w2 ⟨rfl, hb2⟩)
    go_ret
    exact ⟨rfl, hb1.trans (hb2.mono hb1.size)⟩
  · go_wp2_with fail
    refine (cz.out _ _).mono ?_
    rintro e w2 ⟨rfl, hb2⟩
    clear z0 z1 z2 z3 z4 z5 z6 z7 z8 z9 z10
    have hbw := hb1.trans (hb2.mono hb1.size)
    obtain ⟨z0, z1, z2, z3, z4, z5, z6, z7, z8, z9, z10⟩ := hv.below hb2 hlt
    dsimp only at z0 z1 z2 z3 z4 z5 z6 z7 z8 z9 z10
    rw [← hcn.out] at z6
    rw [← hln.out] at z3
    go_wp2_with (go_at_call 90; refine (ch.out _ hbw).mono ?_; rintro e w3 ⟨rfl, hb3⟩)
    go_ret
    exact ⟨rfl, hbw.trans (hb3.mono hbw.size)⟩
theorem neI_fact (a b c d : Int) (w : World) : (binOp .neq 45 (.agg #[.int .i64 a, .int .u64 b]) (.agg #[.int .i64 c, .int .u64 d])).run Tryz.prog w = .ok (.bool (!(a == c && b == d))) w := by
  have u3 := Tryz.underlying2
  have u39 := Tryz.underlying23
  have a3 := Tryz.isAgg2
  have a39 := Tryz.isAgg23
  have hS : Tryz.prog.underlying 45 = some (.struct (Tryz.prog.fieldsOf 45)) := by kernel_rfl
  have hp : Tryz.prog.stoodInHeld 45 = false := by kernel_rfl
  rw [run_neq_struct, run_equalIn_agg (d := 9999) (ht := hS) (hp := hp)]
  simp only [Program.fieldsOf, Tryz.underlying45]
  go_simp
  by_cases h1 : a = c <;> by_cases h2 : b = d <;> simp [h1, h2]
theorem eqI_fact (a b c d : Int) (w : World) : (binOp .eql 45 (.agg #[.int .i64 a, .int .u64 b]) (.agg #[.int .i64 c, .int .u64 d])).run Tryz.prog w = .ok (.bool (a == c && b == d)) w := by
  have u3 := Tryz.underlying2
  have u39 := Tryz.underlying23
  have a3 := Tryz.isAgg2
  have a39 := Tryz.isAgg23
  have hS : Tryz.prog.underlying 45 = some (.struct (Tryz.prog.fieldsOf 45)) := by kernel_rfl
  have hp : Tryz.prog.stoodInHeld 45 = false := by kernel_rfl
  rw [run_eql_struct, run_equalIn_agg (d := 9999) (ht := hS) (hp := hp)]
  simp only [Program.fieldsOf, Tryz.underlying45]
  go_simp
  by_cases h1 : a = c <;> by_cases h2 : b = d <;> simp [h1, h2]
theorem I128_inj {a b : Int} (ha : In a) (hb : In b) : (hiI a == hiI b && loI a == loI b) = decide (a = b) := by
  unfold In at ha hb
  rw [Bool.eq_iff_iff]
  simp only [Bool.and_eq_true, beq_iff_eq, decide_eq_true_eq]
  constructor
  · rintro ⟨h1, h2⟩
    unfold hiI at h1
    unfold loI at h2
    omega
  · rintro rfl; exact ⟨rfl, rfl⟩
set_option maxRecDepth 100000 in
set_option maxHeartbeats 4000000 in
theorem holds3_any (p : Int) (v : Vv) (w : World) (h : VAt v w w.heap.size) (hk1 : v.d.kind ≠ 1) (hk2 : v.d.kind ≠ 2) :
    Calls Tryz.prog 46 #[.int .i64 p, v.v] w fun e w' => e = .returned (.bool (holdB p v)) ∧ Below w.heap.size w w' := by
  have cz := fun W => zeros3 v.sm v.mn v.mx h.sm h.mn h.mx W
  have cf := fun W => finite3 v.sm v.mn v.mx h.sm h.mn h.mx W
  have cc1 := real_compare v.mn v.mx h.mn h.mx
  have hz : (zeroF v.sm && zeroF v.mn && zeroF v.mx) = zer3 v := rfl
  have hf : (finF v.sm && finF v.mn && finF v.mx) = fin3 v := rfl
  have hzf : zer3 v = true → fin3 v = true := by
    intro g
    unfold zer3 zeroF at g
    simp only [Bool.and_eq_true, decide_eq_true_eq] at g
    unfold fin3
    rw [g.1.1, g.1.2, g.2]; decide
  rw [hz] at cz
  rw [hf] at cf
  have hni := I128_inj (a := v.t) (b := 0) h.tot (by unfold In; omega)
  rw [show hiI 0 = 0 from by decide, show loI 0 = 0 from by decide] at hni
  have hne := neI_fact (hiI v.t) (loI v.t) 0 0
  rw [hni] at hne
  have hnew := fun (w1 : World) (e : w1 = _) => V11.new w 49 v (w1 := w1) e
  obtain ⟨r, hr⟩ : ∃ r, r = holdB p v := ⟨_, rfl⟩
  rw [← hr]
  have hn := h.n
  have hcase : (v.t ≠ 0 ∧ r = false) ∨ (v.t = 0 ∧ 0 < v.cs.length ∧ r = false) ∨ (v.t = 0 ∧ v.cs.length = 0 ∧ 9223372036854775807 < v.n ∧ r = false) ∨ (v.t = 0 ∧ v.cs.length = 0 ∧ v.n ≤ 9223372036854775807 ∧ fin3 v = false ∧ r = false) ∨
      (v.t = 0 ∧ v.cs.length = 0 ∧ v.n = 0 ∧ fin3 v = true ∧ r = zer3 v) ∨ (v.t = 0 ∧ v.cs.length = 0 ∧ 0 < v.n ∧ v.n ≤ 9223372036854775807 ∧ fin3 v = true ∧ r = decide (cmpF v.mn v.mx ≤ 0)) := by
    rw [hr]
    unfold holdB
    rw [if_neg hk1, if_neg hk2]
    by_cases h1 : v.t = 0
    · by_cases h2 : v.cs.length = 0
      · by_cases h3 : 9223372036854775807 < v.n
        · right; right; left; exact ⟨h1, h2, h3, by rw [if_pos (.inr (.inr h3))]⟩
        · rw [if_neg (by omega)]
          right; right; right
          cases h4 : fin3 v
          · left
            refine ⟨h1, h2, by omega, rfl, ?_⟩
            by_cases h5 : v.n = 0
            · rw [if_pos h5]
              cases h6 : zer3 v
              · rfl
              · rw [hzf h6] at h4; cases h4
            · rw [if_neg h5]; rfl
          · right
            by_cases h5 : v.n = 0
            · left; exact ⟨h1, h2, h5, rfl, by rw [if_pos h5]⟩
            · right; exact ⟨h1, h2, by omega, by omega, rfl, by rw [if_neg h5]; rfl⟩
      · right; left; exact ⟨h1, by omega, by rw [if_pos (.inr (.inl (by omega)))]⟩
    · left; exact ⟨h1, by rw [if_pos (.inl h1)]⟩
  obtain ⟨z, hz'⟩ : ∃ z, z = zer3 v := ⟨_, rfl⟩
  obtain ⟨f, hf'⟩ : ∃ f, f = fin3 v := ⟨_, rfl⟩
  rw [← hz'] at cz hcase
  rw [← hf'] at cf hcase
  have hk1' : (v.d.kind == 1) = false := by simpa using hk1
  have hk2' : (v.d.kind == 2) = false := by simpa using hk2
  unfold Vv.v
  obtain ⟨⟨k0, n0, h0, A0, c0, l0⟩, tt, CA, cc, cs0, n, sm, mn, mx⟩ := v
  dsimp only at *
  unfold Vv.row at hnew
  dsimp only at hnew
  generalize cmpF mn mx = g4 at *
  clear hz hf hzf hz' hf' h hr hk1 hk2 hni
  obtain ⟨ln, hln⟩ : ∃ ln, ln = l0.length := ⟨_, rfl⟩
  obtain ⟨cn, hcn⟩ : ∃ cn, cn = cs0.length := ⟨_, rfl⟩
  rw [← hln, ← hcn] at hnew ⊢
  rw [← hcn] at hcase
  replace cz := Lib.hid cz
  replace cf := Lib.hid cf
  replace cc1 := Lib.hid cc1
  replace hnew := Lib.hid hnew
  replace hln := Lib.hid hln
  replace hcn := Lib.hid hcn
  have hgd : ∀ w x y, (eqGuard .neq 45 x y (.agg #[.int .i64 (hiI tt), .int .u64 (loI tt)]) (.agg #[.int .i64 0, .int .u64 0])).run Tryz.prog w = .ok () w := fun w x y => run_eqGuard_agg (w := w) _ _ x y _ _ (by kernel_rfl)
  have hcI : (v : Nat) → v = 0 → ((v : Int) = 0) := fun v e => by omega
  have hcaseI : (tt ≠ 0 ∧ r = false) ∨ (tt = 0 ∧ (0 : Int) < (cn : Int) ∧ r = false) ∨ (tt = 0 ∧ cn = 0 ∧ (9223372036854775807 : Int) < n ∧ r = false) ∨ (tt = 0 ∧ cn = 0 ∧ ¬ (9223372036854775807 : Int) < n ∧ f = false ∧ r = false) ∨
      (tt = 0 ∧ cn = 0 ∧ n = 0 ∧ f = true ∧ r = z) ∨ (tt = 0 ∧ cn = 0 ∧ ¬ (9223372036854775807 : Int) < n ∧ (n == 0) = false ∧ f = true ∧ r = decide (g4 ≤ 0)) := by
    simp only [beq_eq_false_iff_ne, ne_eq]
    rcases hcase with h | h | h | h | h | h
    · exact .inl h
    · exact .inr (.inl ⟨h.1, by omega, h.2.2⟩)
    · exact .inr (.inr (.inl h))
    · exact .inr (.inr (.inr (.inl ⟨h.1, h.2.1, by omega, h.2.2.2⟩)))
    · exact .inr (.inr (.inr (.inr (.inl h))))
    · exact .inr (.inr (.inr (.inr (.inr ⟨h.1, h.2.1, by omega, by omega, h.2.2.2.2⟩))))
  clear hcase hcI hn
  replace hcaseI := Lib.hid hcaseI
  go_enter Tryz.func46, Tryz.ntmps46
  go_upto_region 1 with fail
  obtain ⟨w1, hw1⟩ : ∃ w1, w1 = w.alloc (.cells #[.int .i64 k0, .string n0, .string h0, .slice A0 ln c0, .int .i64 (hiI tt), .int .u64 (loI tt), .slice CA cn cc, .int .u64 n, .float .f64 sm, .float .f64 mn, .float .f64 mx] 49) := ⟨_, rfl⟩
  rw [← hw1]
  obtain ⟨hb1, hlt, hv⟩ := hnew.out w1 hw1
  clear hw1 hnew
  obtain ⟨z0, z1, z2, z3, z4, z5, z6, z7, z8, z9, z10⟩ := id hv
  dsimp only at z0 z1 z2 z3 z4 z5 z6 z7 z8 z9 z10
  rw [← hcn.out] at z6
  rcases hcaseI.out with ⟨h1, rfl⟩ | ⟨h1, h2, rfl⟩ | ⟨h1, h2, h3, rfl⟩ | ⟨h1, h2, h3, rfl, rfl⟩ | ⟨h1, h2, h3, rfl, rfl⟩ | ⟨h1, h2, h3, h4, rfl, rfl⟩
  · rw [decide_eq_false h1] at hne
    clear hcaseI h1
    go_wp2
    go_ret
    exact ⟨rfl, hb1⟩
  · rw [decide_eq_true h1] at hne
    clear hcaseI h1
    go_wp2
    go_ret
    exact ⟨rfl, hb1⟩
  · rw [decide_eq_true h1] at hne
    subst h2
    clear hcaseI h1
    go_wp2
    go_ret
    exact ⟨rfl, hb1⟩
  · rw [decide_eq_true h1] at hne
    subst h2
    clear hcaseI h1
    go_wp2_with (go_at_call 91; refine (cf.out _ _).mono ?_; rintro e w2 ⟨rfl, hb2⟩)
    go_ret
    exact ⟨rfl, hb1.trans (hb2.mono hb1.size)⟩
  · rw [decide_eq_true h1] at hne
    subst h2
    subst h3
    clear hcaseI h1
    go_wp2_with fail
    refine (cf.out _ _).mono ?_
    rintro e w2 ⟨rfl, hb2⟩
    clear z0 z1 z2 z3 z4 z5 z6 z7 z8 z9 z10
    have hbw := hb1.trans (hb2.mono hb1.size)
    obtain ⟨z0, z1, z2, z3, z4, z5, z6, z7, z8, z9, z10⟩ := hv.below hb2 hlt
    dsimp only at z0 z1 z2 z3 z4 z5 z6 z7 z8 z9 z10
    go_wp2_with (go_at_call 88; refine (cz.out _ _).mono ?_; rintro e w3 ⟨rfl, hb3⟩)
    go_ret
    exact ⟨rfl, hbw.trans (hb3.mono hbw.size)⟩
  · rw [decide_eq_true h1] at hne
    subst h2
    clear hcaseI h1
    go_wp2_with fail
    refine (cf.out _ _).mono ?_
    rintro e w2 ⟨rfl, hb2⟩
    clear z0 z1 z2 z3 z4 z5 z6 z7 z8 z9 z10
    have hbw := hb1.trans (hb2.mono hb1.size)
    obtain ⟨z0, z1, z2, z3, z4, z5, z6, z7, z8, z9, z10⟩ := hv.below hb2 hlt
    dsimp only at z0 z1 z2 z3 z4 z5 z6 z7 z8 z9 z10
    go_wp2_with (go_at_call 92; refine (cc1.out _).mono ?_; rintro e w3 ⟨rfl, nn, rfl⟩)
    go_ret
    exact ⟨rfl, below_drewN hbw _⟩
theorem holds_any (p : Int) (v : Vv) (w : World) (h : VAt v w w.heap.size) :
    Calls Tryz.prog 46 #[.int .i64 p, v.v] w fun e w' => e = .returned (.bool (holdB p v)) ∧ Below w.heap.size w w' := by
  by_cases h1 : v.d.kind = 1
  · exact holds1_any p v w h h1
  · by_cases h2 : v.d.kind = 2
    · exact holds2_any p v w h h2
    · exact holds3_any p v w h h1 h2
end Go.Proofs.YtpiegngjpnpohaaGreat.Sn
