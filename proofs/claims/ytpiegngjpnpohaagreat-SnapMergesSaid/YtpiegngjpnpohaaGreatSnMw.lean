/- SnapMerges: the walk. -/
import Derived.Test.YtpiegngjpnpohaaGreatSnT
import Derived.Test.YtpiegngjpnpohaaGreatL25
namespace Go.Proofs.YtpiegngjpnpohaaGreat.Sn
open Go.RowKit Go.Proofs.YtpiegngjpnpohaaGreat.La Go.Proofs.YtpiegngjpnpohaaGreat.Sl Go.Proofs.YtpiegngjpnpohaaGreat.Ck Go.Proofs.YtpiegngjpnpohaaGreat.Rc Go.Proofs.YtpiegngjpnpohaaGreat.Rk Go.Proofs.YtpiegngjpnpohaaGreat.Wi Go.Proofs.YtpiegngjpnpohaaGreat.Fb Go.Proofs.YtpiegngjpnpohaaGreat.Mg Go.Proofs.YtpiegngjpnpohaaGreat.St
set_option linter.unusedVariables false

theorem sameV_eq {x y : Vv} (h : x.c = y.c) : sameV x y = true := by
  simp only [Vv.c, Cv.mk.injEq] at h
  obtain ⟨h1, h2, h3, h4, h5, h6, h7, h8, h9, h10⟩ := h
  simp [sameV, sameD, sameFl, h1, h2, h3, h4, h5, h6, h7, h8, h9, h10]
theorem sameL_eq : ∀ {a b : List Vv}, a.map Vv.c = b.map Vv.c → sameL a b = true
  | [], [], _ => rfl
  | [], _ :: _, h => by cases h
  | _ :: _, [], h => by cases h
  | x :: xs, y :: ys, h => by
    simp only [List.map_cons, List.cons.injEq] at h
    unfold sameL
    rw [sameV_eq h.1, sameL_eq h.2]; rfl
theorem sameS_mrg {a b s x : Ss} (h1 : MrgC a b s) (h2 : MrgC a b x) : sameS s x = true := by
  by_cases h : mrgE a b = 0
  · obtain ⟨p1, r1, v1⟩ := h1.2 h
    obtain ⟨p2, r2, v2⟩ := h2.2 h
    unfold sameS
    rw [p1, p2, r1, r2, sameL_eq (v1.trans v2.symm)]
    simp
  · rw [h1.1 h, h2.1 h]; rfl

set_option maxRecDepth 100000 in
set_option maxHeartbeats 4000000 in
theorem smerges_any (hfx : FixedOk) (a b : Ss) (w : World) (ha : SAt a w w.heap.size) (hb : SAt b w w.heap.size) :
    Calls Tryz.prog 4 #[a.v, b.v] w fun e w' => e = .returned (.bool true) ∧ Below w.heap.size w w' := by
  have c1 := fun (W : World) (k : Below w.heap.size w W) => (merge_any' a b W ((ha.below k).mono k.size) ((hb.below k).mono k.size)).mono (R' := fun e w' => ∃ s : Ss, e = .returned (.tuple #[s.v, .int .i64 (mrgE a b)]) ∧ SAt s w' w'.heap.size ∧ MrgC a b s ∧ Below W.heap.size W w')
    fun e w' ⟨hb, s, he, hs, _, hc⟩ => ⟨s, he, hs, hc, hb⟩
  have c2 := fun (W : World) (k : Below w.heap.size w W) => (rmerge_any' a b W ((ha.below k).mono k.size) ((hb.below k).mono k.size)).mono (R' := fun e w' => ∃ s : Ss, e = .returned (.tuple #[s.v, .int .i64 (mrgE a b)]) ∧ SAt s w' w'.heap.size ∧ MrgC a b s ∧ Below W.heap.size W w')
    fun e w' ⟨hb, s, he, hs, hc⟩ => ⟨s, he, hs, hc, hb⟩
  have hss := fun (s x : Ss) => @sameS_mrg a b s x
  obtain ⟨E, hE⟩ : ∃ E, E = mrgE a b := ⟨_, rfl⟩
  obtain ⟨C, hC⟩ : ∃ C, C = MrgC a b := ⟨_, rfl⟩
  rw [← hE, ← hC] at c1 c2
  rw [← hC] at hss
  unfold Ss.v at *
  obtain ⟨na, hna⟩ : ∃ n, n = a.vs.length := ⟨_, rfl⟩
  obtain ⟨nb, hnb⟩ : ∃ n, n = b.vs.length := ⟨_, rfl⟩
  rw [← hna, ← hnb] at c1 c2 ⊢
  have hp := fun (w1 : World) (e : w1 = _) => Blk.pair (w := w) (w1 := w1) (cs := [.int .i64 a.p, .slice a.A na a.c, .int .u64 a.r]) (ds := [.int .i64 b.p, .slice b.A nb b.c, .int .u64 b.r]) (T := 25) (U := 25) e
  have hfx' := hfx
  unfold FixedOk at hfx'
  replace c1 := Lib.hid c1
  replace c2 := Lib.hid c2
  replace hss := Lib.hid hss
  replace hp := Lib.hid hp
  replace hfx' := Lib.hid hfx'
  clear hE hC hna hnb ha hb hfx
  go_enter Tryz.func4, Tryz.ntmps4
  go_upto_region 1 with fail
  obtain ⟨w1, hw1⟩ : ∃ w1, w1 = ((w.alloc (.cells #[.int .i64 a.p, .slice a.A na a.c, .int .u64 a.r] 25)).alloc (.cells #[.int .i64 b.p, .slice b.A nb b.c, .int .u64 b.r] 25)) := ⟨_, rfl⟩
  rw [← hw1]
  obtain ⟨k1, k2, hb1⟩ := hp.out w1 hw1
  clear hw1 hp
  have x0 := (k1.2 0 _ rfl).1
  have x1 := (k1.2 1 _ rfl).1
  have x2 := (k1.2 2 _ rfl).1
  have y0 := (k2.2 0 _ rfl).1
  have y1 := (k2.2 1 _ rfl).1
  have y2 := (k2.2 2 _ rfl).1
  go_wp2_with fail
  refine (c1.out _ hb1).mono ?_
  rintro e w2 ⟨s, rfl, hs, hsc, hb2⟩
  clear x0 x1 x2 y0 y1 y2 c1
  obtain ⟨ns, hns⟩ : ∃ n, n = s.vs.length := ⟨_, rfl⟩
  rw [← hns]
  have hnew := Blk.new w2 [.int .i64 s.p, .slice s.A ns s.c, .int .u64 s.r] 25
  replace hns := Lib.hid hns
  replace hs := Lib.hid hs
  replace hsc := Lib.hid hsc
  go_upto_region 2 with fail
  obtain ⟨w3, hw3⟩ : ∃ w3, w3 = w2.alloc (.cells #[.int .i64 s.p, .slice s.A ns s.c, .int .u64 s.r] 25) := ⟨_, rfl⟩
  have k3 : Blk w3 w2.heap.size [.int .i64 s.p, .slice s.A ns s.c, .int .u64 s.r] := by rw [hw3]; exact hnew
  have hb3 : Below w2.heap.size w2 w3 := by rw [hw3]; exact (Below.refl _ _).alloc (Nat.le_refl _) _
  rw [← hw3]
  clear hw3 hnew
  have hb23 := hb2.trans (hb3.mono hb2.size)
  have hb13 := hb1.trans (hb23.mono hb1.size)
  replace k1 := k1.later hb23
  replace k2 := k2.later hb23
  have x0 := (k1.2 0 _ rfl).1
  have x1 := (k1.2 1 _ rfl).1
  have x2 := (k1.2 2 _ rfl).1
  have y0 := (k2.2 0 _ rfl).1
  have y1 := (k2.2 1 _ rfl).1
  have y2 := (k2.2 2 _ rfl).1
  have hs3 := (hs.out.below hb3).mono hb3.size
  replace hs3 := Lib.hid hs3
  clear hs hb1 hb2 hb3 hb23
  go_wp2_with fail
  refine (c2.out _ hb13).mono ?_
  rintro e w4 ⟨x, rfl, hx, hxc, hb4⟩
  clear x0 x1 x2 y0 y1 y2 c2 k1 k2
  obtain ⟨nx, hnx⟩ : ∃ n, n = x.vs.length := ⟨_, rfl⟩
  rw [← hnx]
  have hnew := Blk.new w4 [.int .i64 x.p, .slice x.A nx x.c, .int .u64 x.r] 25
  replace hnx := Lib.hid hnx
  replace hx := Lib.hid hx
  go_upto_region 3 with fail
  obtain ⟨w5, hw5⟩ : ∃ w5, w5 = w4.alloc (.cells #[.int .i64 x.p, .slice x.A nx x.c, .int .u64 x.r] 25) := ⟨_, rfl⟩
  have k5 : Blk w5 w4.heap.size [.int .i64 x.p, .slice x.A nx x.c, .int .u64 x.r] := by rw [hw5]; exact hnew
  have hb5 : Below w4.heap.size w4 w5 := by rw [hw5]; exact (Below.refl _ _).alloc (Nat.le_refl _) _
  rw [← hw5]
  clear hw5 hnew
  have hb45 := hb4.trans (hb5.mono hb4.size)
  have hb15 := hb13.trans (hb45.mono hb13.size)
  replace k3 := k3.later hb45
  have x0 := (k3.2 0 _ rfl).1
  have x1 := (k3.2 1 _ rfl).1
  have x2 := (k3.2 2 _ rfl).1
  have y0 := (k5.2 0 _ rfl).1
  have y1 := (k5.2 1 _ rfl).1
  have y2 := (k5.2 2 _ rfl).1
  have cS := rsameS_any s x w5 ((hs3.out.below hb45).mono hb45.size) ((hx.out.below hb5).mono hb5.size)
  rw [hss.out s x hsc.out hxc] at cS
  unfold Ss.v at cS
  rw [← hns.out, ← hnx.out] at cS
  replace cS := Lib.hid cS
  clear hs3 hx hsc hxc hss hb4 hb5 hb45 hb13 hns hnx
  go_wp2_with fail
  refine cS.out.mono ?_
  rintro e w6 ⟨rfl, hb6⟩
  clear x0 x1 x2 y0 y1 y2 cS k3 k5
  have hb16 := hb15.trans (hb6.mono hb15.size)
  go_wp2_with fail
  refine (hfx'.out _).mono ?_
  rintro e w7 ⟨rfl, hb7⟩
  go_wp2
  go_ret
  exact ⟨by simp, hb16.trans (hb7.mono hb16.size)⟩
end Go.Proofs.YtpiegngjpnpohaaGreat.Sn
