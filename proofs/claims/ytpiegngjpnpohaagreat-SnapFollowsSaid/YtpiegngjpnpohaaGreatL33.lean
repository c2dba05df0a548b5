/- Lemmas for the laws of this seat, laid together of Sd1. -/
import Derived.Test.YtpiegngjpnpohaaGreatL25
import Derived.Test.YtpiegngjpnpohaaGreatL26
import Derived.Test.YtpiegngjpnpohaaGreatL32

namespace Go.Proofs.YtpiegngjpnpohaaGreat.Sn
open Go.RowKit Go.Proofs.YtpiegngjpnpohaaGreat.La Go.Proofs.YtpiegngjpnpohaaGreat.Sl Go.Proofs.YtpiegngjpnpohaaGreat.Ck Go.Proofs.YtpiegngjpnpohaaGreat.Rc Go.Proofs.YtpiegngjpnpohaaGreat.Rk Go.Proofs.YtpiegngjpnpohaaGreat.Wi Go.Proofs.YtpiegngjpnpohaaGreat.Fb Go.Proofs.YtpiegngjpnpohaaGreat.Mg Go.Proofs.YtpiegngjpnpohaaGreat.St Go.Proofs.YtpiegngjpnpohaaGreat.Bk Go.Proofs.YtpiegngjpnpohaaGreat.So
set_option linter.unusedVariables false
theorem ssAt3 {a b c : Ss} {w : World} {g : Nat} (ha : SAt a w w.heap.size) (hb : SAt b w w.heap.size) (hc : SAt c w w.heap.size) (za : SSz a) (zb : SSz b) (zc : SSz c)
    (hg : Blk w g [.int .i64 a.p, .slice a.A a.vs.length a.c, .int .u64 a.r, .int .i64 b.p, .slice b.A b.vs.length b.c, .int .u64 b.r, .int .i64 c.p, .slice c.A c.vs.length c.c, .int .u64 c.r]) : SsAt [a, b, c] (some ⟨g, 0, none⟩) w w.heap.size := by
  refine ⟨fun i hi => ⟨g, 0, rfl, hg.1, ?_⟩, fun s hs => ?_⟩
  · match i, hi with
    | 0, _ => exact (hg.2 1 _ rfl).1
    | 1, _ => exact (hg.2 4 _ rfl).1
    | 2, _ => exact (hg.2 7 _ rfl).1
  · rcases List.mem_cons.1 hs with rfl | hs
    · exact ⟨ha, za⟩
    · rcases List.mem_cons.1 hs with rfl | hs
      · exact ⟨hb, zb⟩
      · rcases List.mem_cons.1 hs with rfl | hs
        · exact ⟨hc, zc⟩
        · cases hs
theorem small3 {a b c : Ss} (h : bulks [a, b, c] ≤ 1048576) : (a.vs.length ≤ 1048576 ∧ ∀ v ∈ a.vs, v.d.l.length ≤ 1048576 ∧ v.cs.length ≤ 1048576) ∧ (b.vs.length ≤ 1048576 ∧ ∀ v ∈ b.vs, v.d.l.length ≤ 1048576 ∧ v.cs.length ≤ 1048576) := by
  have h1 := bulks_mem (ss := [a, b, c]) (s := a) (by simp)
  have h2 := bulks_mem (ss := [a, b, c]) (s := b) (by simp)
  have l1 := bulk_len a.vs
  have l2 := bulk_len b.vs
  refine ⟨⟨by omega, fun v hv => ?_⟩, by omega, fun v hv => ?_⟩
  · have := bulk_mem hv
    unfold bulkV at this
    omega
  · have := bulk_mem hv
    unfold bulkV at this
    omega
theorem find_small {s : Ss} {N : Nat} (h : ∀ v ∈ s.vs, v.cs.length ≤ N) (nm : ByteArray) (l : List Lab) : (findC s nm l).cs.length ≤ N := by
  unfold findC
  cases hv : findV s.vs nm l with
  | none => exact Nat.zero_le _
  | some v => exact h v (List.mem_of_find?_eq_some hv)
theorem SAt.pl {s : Ss} {w : World} {B : Nat} (h : SAt s w B) : ∀ v ∈ s.vs, PlainV v := fun v hv => (h.vs.all v hv).plain
theorem chk_size {s : Ss} {w : World} {B : Nat} (h : SAt s w B) (e : (chkS s.p s.vs).1 = 0) : s.vs.length ≤ 1048576 ∧ ∀ v ∈ s.vs, v.d.l.length ≤ 1048576 ∧ v.cs.length ≤ 1048576 := by
  obtain ⟨g, hl, c⟩ := (chkS_ok _ _).1 e
  refine ⟨by omega, fun v hv => ?_⟩
  have o := okV_of (h.pl v hv) (c.each v hv).1 (c.each v hv).2
  exact ⟨by have := o.l; omega, o.c⟩
theorem emptyS_at {p : Int} (h : -9223372036854775808 ≤ p ∧ p ≤ 9223372036854775807) (w : World) (B : Nat) : SAt (emptyS p) w B :=
  ⟨⟨⟨rfl, fun k => absurd k (Nat.lt_irrefl 0)⟩, by intro v hv; cases hv⟩, h, Nat.zero_le _, (by decide : (0 : Nat) ≤ 9223372036854775807), (by decide : (0 : Nat) ≤ 140737488355328), (by decide : (0 : Int) ≤ 0), (by decide : (0 : Int) ≤ 18446744073709551615)⟩
theorem merged_ok {a b m : Ss} {w : World} {B : Nat} (pa : ∀ v ∈ a.vs, PlainV v) (pb : ∀ v ∈ b.vs, PlainV v) (hm : MrgC a b m) (e : mrgE a b = 0) : chkS m.p m.vs = (0, 0) := by
  obtain ⟨h1, h2, h3⟩ := hm.2 e
  have := merged_chk pa pb e h3
  rw [← h1] at this
  exact Prod.ext this (chkS_snd this)
set_option maxRecDepth 100000 in
set_option maxHeartbeats 4000000 in
theorem sfollows_any (hfx : FixedOk) (a b c : Ss) (w : World) (ha : SAt a w w.heap.size) (za : SSz a) (hb : SAt b w w.heap.size) (zb : SSz b) (hc : SAt c w w.heap.size) (zc : SSz c) :
    Calls Tryz.prog 5 #[a.v, b.v, c.v] w fun e w' => e = .returned (.bool true) ∧ Below w.heap.size w w' := by
  have h3 := fun (w1 : World) (e : w1 = _) => Blk.triple (w := w) (w1 := w1) (cs := [.int .i64 a.p, .slice a.A a.vs.length a.c, .int .u64 a.r]) (ds := [.int .i64 b.p, .slice b.A b.vs.length b.c, .int .u64 b.r]) (es := [.int .i64 c.p, .slice c.A c.vs.length c.c, .int .u64 c.r]) (T := 25) (U := 25) (X := 25) e
  have cF := fun (W : World) (g : Nat) (h1 : SAt a W W.heap.size) (h2 : SAt b W W.heap.size) (h4 : SAt c W W.heap.size) (hg : Blk W g [.int .i64 a.p, .slice a.A a.vs.length a.c, .int .u64 a.r, .int .i64 b.p, .slice b.A b.vs.length b.c, .int .u64 b.r, .int .i64 c.p, .slice c.A c.vs.length c.c, .int .u64 c.r]) =>
    (few_any [a, b, c] (some ⟨g, 0, none⟩) 3 W (ssAt3 h1 h2 h4 za zb zc hg) (by simp)).mono (R' := fun e w' => ∃ q : Bool, e = .returned (.bool q) ∧ (q = true → bulks [a, b, c] ≤ 1048576) ∧ Below W.heap.size W w') fun _ _ h => h
  rw [show ([a, b, c] : List Ss).length = 3 from rfl] at cF
  have cM := fun (s t : Ss) (W : World) (hs : SAt s W W.heap.size) (ht : SAt t W W.heap.size) => (merge_any' s t W hs ht).mono (R' := fun e w' => ∃ m : Ss, e = .returned (.tuple #[m.v, .int .i64 (mrgE s t)]) ∧ SAt m w' w'.heap.size ∧ MrgC s t m ∧ Below W.heap.size W w')
    fun e w' ⟨hb, s, he, hs, _, hc⟩ => ⟨s, he, hs, hc, hb⟩
  have cC := fun (s : Ss) (W : World) (hs : SAt s W W.heap.size) => check_any s W hs
  have cR := fun (s : Ss) (W : World) (hs : SAt s W W.heap.size) => rcheck_any s W hs
  have cS := fun (s t : Ss) (W : World) (hs : SAt s W W.heap.size) (ht : SAt t W W.heap.size) (e : sameS s t = true) => (rsameS_any s t W hs ht).mono (R' := fun e w' => e = .returned (.bool true) ∧ Below W.heap.size W w') fun _ _ ⟨h, b⟩ => ⟨by rw [h, e], b⟩
  have cL := fun (s t : Ss) (W : World) (hs : SAt s W W.heap.size) (ht : SAt t W W.heap.size) (e1 : (chkS s.p s.vs).1 = 0) (e2 : (chkS t.p t.vs).1 = 0) (e : alikeS s t = true) => (lalike_any s t W hs ht (chk_size hs e1).1 (chk_size ht e2).1 (chk_size hs e1).2 (chk_size ht e2).2).mono (R' := fun e w' => e = .returned (.bool true) ∧ Below W.heap.size W w') fun _ _ ⟨h, b⟩ => ⟨by rw [h, e], b⟩
  have cD := fun (m : Ss) (W : World) (h1 : SAt a W W.heap.size) (h2 : SAt b W W.heap.size) (h4 : SAt m W W.heap.size) (F : AddsF a b m) (hs : bulks [a, b, c] ≤ 1048576) => adds_any a b m W h1 h2 h4 F (fun v hv => by have := (small3 hs).1.2 v hv; omega) (fun v hv => by have := (small3 hs).2.2 v hv; omega) (small3 hs).1.1 (small3 hs).2.1
    (fun x hx => by have h1 := find_small (fun v hv => ((small3 hs).1.2 v hv).2) x.d.name x.d.l; have h2 := find_small (fun v hv => ((small3 hs).2.2 v hv).2) x.d.name x.d.l; omega)
  unfold Ss.v at cM cC cR cS cL cD ⊢
  have hfx' := hfx
  unfold FixedOk at hfx'
  have pa := ha.pl
  have pb := hb.pl
  have pc := hc.pl
  have ra := ha.r
  have rb := hb.r
  obtain ⟨BB, hBB⟩ : ∃ BB : Prop, BB = (bulks [a, b, c] ≤ 1048576) := ⟨_, rfl⟩
  rw [← hBB] at cF cD
  have wa := ha.p
  replace pa := Lib.hid pa
  replace pb := Lib.hid pb
  replace pc := Lib.hid pc
  replace ra := Lib.hid ra
  replace rb := Lib.hid rb
  replace wa := Lib.hid wa
  replace h3 := Lib.hid h3
  replace cF := Lib.hid cF
  replace cM := Lib.hid cM
  replace cC := Lib.hid cC
  replace cR := Lib.hid cR
  replace cS := Lib.hid cS
  replace cL := Lib.hid cL
  replace cD := Lib.hid cD
  replace hfx' := Lib.hid hfx'
  replace ha := Lib.hid ha
  replace hb := Lib.hid hb
  replace hc := Lib.hid hc
  clear hBB za zb zc hfx
  go_enter Tryz.func5, Tryz.ntmps5
  go_upto_region 1 with fail
  obtain ⟨w1, hw1⟩ : ∃ w1, w1 = (((w.alloc (.cells #[.int .i64 a.p, .slice a.A a.vs.length a.c, .int .u64 a.r] 25)).alloc (.cells #[.int .i64 b.p, .slice b.A b.vs.length b.c, .int .u64 b.r] 25)).alloc (.cells #[.int .i64 c.p, .slice c.A c.vs.length c.c, .int .u64 c.r] 25)) := ⟨_, rfl⟩
  rw [← hw1]
  obtain ⟨ka, kb, kc, bW⟩ := h3.out w1 hw1
  clear hw1 h3
  replace ha := Lib.hid ((ha.out.below bW).mono bW.size)
  replace hb := Lib.hid ((hb.out.below bW).mono bW.size)
  replace hc := Lib.hid ((hc.out.below bW).mono bW.size)
  have za0 := (ka.2 0 _ rfl).1
  have za1 := (ka.2 1 _ rfl).1
  have za2 := (ka.2 2 _ rfl).1
  have zb0 := (kb.2 0 _ rfl).1
  have zb1 := (kb.2 1 _ rfl).1
  have zb2 := (kb.2 2 _ rfl).1
  have zc0 := (kc.2 0 _ rfl).1
  have zc1 := (kc.2 1 _ rfl).1
  have zc2 := (kc.2 2 _ rfl).1
  go_wp2_with fail
  have hnew := Blk.new w1 [.int .i64 a.p, .slice a.A a.vs.length a.c, .int .u64 a.r, .int .i64 b.p, .slice b.A b.vs.length b.c, .int .u64 b.r, .int .i64 c.p, .slice c.A c.vs.length c.c, .int .u64 c.r] 25
  obtain ⟨w2, hw⟩ : ∃ w0, w0 = w1.alloc (.cells #[.int .i64 a.p, .slice a.A a.vs.length a.c, .int .u64 a.r, .int .i64 b.p, .slice b.A b.vs.length b.c, .int .u64 b.r, .int .i64 c.p, .slice c.A c.vs.length c.c, .int .u64 c.r] 25) := ⟨_, rfl⟩
  have kq : Blk w2 w1.heap.size [.int .i64 a.p, .slice a.A a.vs.length a.c, .int .u64 a.r, .int .i64 b.p, .slice b.A b.vs.length b.c, .int .u64 b.r, .int .i64 c.p, .slice c.A c.vs.length c.c, .int .u64 c.r] := by rw [hw]; exact hnew
  have hb2 : Below w1.heap.size w1 w2 := by rw [hw]; exact (Below.refl _ _).alloc (Nat.le_refl _) _
  rw [← hw]
  clear hw hnew
  clear za0 za1 za2 zb0 zb1 zb2 zc0 zc1 zc2
  replace ka := ka.later hb2
  replace kb := kb.later hb2
  replace kc := kc.later hb2
  replace ha := Lib.hid ((ha.out.below hb2).mono hb2.size)
  replace hb := Lib.hid ((hb.out.below hb2).mono hb2.size)
  replace hc := Lib.hid ((hc.out.below hb2).mono hb2.size)
  replace bW := bW.trans (hb2.mono bW.size)
  clear hb2
  refine (cF.out w2 w1.heap.size ha.out hb.out hc.out kq).mono ?_
  rintro e w3 ⟨q, rfl, hqq, hb3⟩
  clear kq cF
  replace ka := ka.later hb3
  replace kb := kb.later hb3
  replace kc := kc.later hb3
  replace ha := Lib.hid ((ha.out.below hb3).mono hb3.size)
  replace hb := Lib.hid ((hb.out.below hb3).mono hb3.size)
  replace hc := Lib.hid ((hc.out.below hb3).mono hb3.size)
  replace bW := bW.trans (hb3.mono bW.size)
  clear hb3
  cases q with
  | false =>
    clear hqq
    go_wp2_with fail
    refine (hfx'.out _).mono ?_
    rintro e w4 ⟨rfl, hb4⟩
    replace ka := ka.later hb4
    replace kb := kb.later hb4
    replace kc := kc.later hb4
    replace ha := Lib.hid ((ha.out.below hb4).mono hb4.size)
    replace hb := Lib.hid ((hb.out.below hb4).mono hb4.size)
    replace hc := Lib.hid ((hc.out.below hb4).mono hb4.size)
    replace bW := bW.trans (hb4.mono bW.size)
    clear hb4
    go_wp2
    go_ret
    exact ⟨by first | rfl | (simp; done) | (simp; exact ⟨n1, n2⟩), bW⟩
  | true =>
    have hs := Lib.hid (hqq rfl)
    clear hqq
    have za0 := (ka.2 0 _ rfl).1
    have za1 := (ka.2 1 _ rfl).1
    have za2 := (ka.2 2 _ rfl).1
    have zb0 := (kb.2 0 _ rfl).1
    have zb1 := (kb.2 1 _ rfl).1
    have zb2 := (kb.2 2 _ rfl).1
    go_wp2_with fail
    refine (cM.out a b _ ha.out hb.out).mono ?_
    rintro e w4 ⟨m, rfl, hm, cm, hb4⟩
    clear za0 za1 za2 zb0 zb1 zb2
    replace ka := ka.later hb4
    replace kb := kb.later hb4
    replace kc := kc.later hb4
    replace ha := Lib.hid ((ha.out.below hb4).mono hb4.size)
    replace hb := Lib.hid ((hb.out.below hb4).mono hb4.size)
    replace hc := Lib.hid ((hc.out.below hb4).mono hb4.size)
    replace bW := bW.trans (hb4.mono bW.size)
    clear hb4
    replace cm := Lib.hid cm
    replace hm := Lib.hid hm
    have hnew := Blk.new w4 [.int .i64 m.p, .slice m.A m.vs.length m.c, .int .u64 m.r] 25
    go_upto_region 4 with fail
    obtain ⟨w5, hw⟩ : ∃ w0, w0 = w4.alloc (.cells #[.int .i64 m.p, .slice m.A m.vs.length m.c, .int .u64 m.r] 25) := ⟨_, rfl⟩
    have km : Blk w5 w4.heap.size [.int .i64 m.p, .slice m.A m.vs.length m.c, .int .u64 m.r] := by rw [hw]; exact hnew
    have hb5 : Below w4.heap.size w4 w5 := by rw [hw]; exact (Below.refl _ _).alloc (Nat.le_refl _) _
    rw [← hw]
    clear hw hnew
    replace ka := ka.later hb5
    replace kb := kb.later hb5
    replace kc := kc.later hb5
    replace ha := Lib.hid ((ha.out.below hb5).mono hb5.size)
    replace hb := Lib.hid ((hb.out.below hb5).mono hb5.size)
    replace hc := Lib.hid ((hc.out.below hb5).mono hb5.size)
    replace hm := Lib.hid ((hm.out.below hb5).mono hb5.size)
    replace bW := bW.trans (hb5.mono bW.size)
    clear hb5
    have zb0 := (kb.2 0 _ rfl).1
    have zb1 := (kb.2 1 _ rfl).1
    have zb2 := (kb.2 2 _ rfl).1
    have za0 := (ka.2 0 _ rfl).1
    have za1 := (ka.2 1 _ rfl).1
    have za2 := (ka.2 2 _ rfl).1
    go_wp2_with fail
    refine (cM.out b a _ hb.out ha.out).mono ?_
    rintro e w6 ⟨n, rfl, hn, cn, hb6⟩
    clear zb0 zb1 zb2 za0 za1 za2
    replace ka := ka.later hb6
    replace kb := kb.later hb6
    replace kc := kc.later hb6
    replace km := km.later hb6
    replace ha := Lib.hid ((ha.out.below hb6).mono hb6.size)
    replace hb := Lib.hid ((hb.out.below hb6).mono hb6.size)
    replace hc := Lib.hid ((hc.out.below hb6).mono hb6.size)
    replace hm := Lib.hid ((hm.out.below hb6).mono hb6.size)
    replace bW := bW.trans (hb6.mono bW.size)
    clear hb6
    replace cn := Lib.hid cn
    replace hn := Lib.hid hn
    have hnew := Blk.new w6 [.int .i64 n.p, .slice n.A n.vs.length n.c, .int .u64 n.r] 25
    go_upto_region 5 with fail
    obtain ⟨w7, hw⟩ : ∃ w0, w0 = w6.alloc (.cells #[.int .i64 n.p, .slice n.A n.vs.length n.c, .int .u64 n.r] 25) := ⟨_, rfl⟩
    have kn : Blk w7 w6.heap.size [.int .i64 n.p, .slice n.A n.vs.length n.c, .int .u64 n.r] := by rw [hw]; exact hnew
    have hb7 : Below w6.heap.size w6 w7 := by rw [hw]; exact (Below.refl _ _).alloc (Nat.le_refl _) _
    rw [← hw]
    clear hw hnew
    replace ka := ka.later hb7
    replace kb := kb.later hb7
    replace kc := kc.later hb7
    replace km := km.later hb7
    replace ha := Lib.hid ((ha.out.below hb7).mono hb7.size)
    replace hb := Lib.hid ((hb.out.below hb7).mono hb7.size)
    replace hc := Lib.hid ((hc.out.below hb7).mono hb7.size)
    replace hm := Lib.hid ((hm.out.below hb7).mono hb7.size)
    replace hn := Lib.hid ((hn.out.below hb7).mono hb7.size)
    replace bW := bW.trans (hb7.mono bW.size)
    clear hb7
    obtain ⟨E1, hE1⟩ : ∃ e, e = mrgE a b := ⟨_, rfl⟩
    obtain ⟨E2, hE2⟩ : ∃ e, e = mrgE b a := ⟨_, rfl⟩
    rw [← hE1, ← hE2]
    have hE12 : (mrgE a b = 0) ↔ (mrgE b a = 0) := ⟨fun h => mrgE_swap pa.out pb.out ra.out rb.out h, fun h => mrgE_swap pb.out pa.out rb.out ra.out h⟩
    rw [← hE1, ← hE2] at hE12
    replace hE1 := Lib.hid hE1
    replace hE2 := Lib.hid hE2
    replace hE12 := Lib.hid hE12
    obtain ⟨X, hX⟩ : ∃ X, X = chkS a.p a.vs := ⟨_, rfl⟩
    obtain ⟨Y, hY⟩ : ∃ Y, Y = chkS b.p b.vs := ⟨_, rfl⟩
    have cCa := fun W h => cC.out a W h
    have cCb := fun W h => cC.out b W h
    have cRa := fun W h => cR.out a W h
    have cRb := fun W h => cR.out b W h
    rw [← hX] at cCa cRa
    rw [← hY] at cCb cRb
    obtain ⟨X1, X2⟩ := X
    obtain ⟨Y1, Y2⟩ := Y
    replace cCa := Lib.hid cCa
    replace cCb := Lib.hid cCb
    replace cRa := Lib.hid cRa
    replace cRb := Lib.hid cRb
    replace hX := Lib.hid hX
    replace hY := Lib.hid hY
    have za0 := (ka.2 0 _ rfl).1
    have za1 := (ka.2 1 _ rfl).1
    have za2 := (ka.2 2 _ rfl).1
    go_wp2_with fail
    refine (cCa.out _ ha.out).mono ?_
    rintro e w8 ⟨rfl, hb8⟩
    clear za0 za1 za2
    replace ka := ka.later hb8
    replace kb := kb.later hb8
    replace kc := kc.later hb8
    replace km := km.later hb8
    replace kn := kn.later hb8
    replace ha := Lib.hid ((ha.out.below hb8).mono hb8.size)
    replace hb := Lib.hid ((hb.out.below hb8).mono hb8.size)
    replace hc := Lib.hid ((hc.out.below hb8).mono hb8.size)
    replace hm := Lib.hid ((hm.out.below hb8).mono hb8.size)
    replace hn := Lib.hid ((hn.out.below hb8).mono hb8.size)
    replace bW := bW.trans (hb8.mono bW.size)
    clear hb8
    go_upto_region 6 with fail
    have zb0 := (kb.2 0 _ rfl).1
    have zb1 := (kb.2 1 _ rfl).1
    have zb2 := (kb.2 2 _ rfl).1
    go_wp2_with fail
    refine (cCb.out _ hb.out).mono ?_
    rintro e w9 ⟨rfl, hb9⟩
    clear zb0 zb1 zb2
    replace ka := ka.later hb9
    replace kb := kb.later hb9
    replace kc := kc.later hb9
    replace km := km.later hb9
    replace kn := kn.later hb9
    replace ha := Lib.hid ((ha.out.below hb9).mono hb9.size)
    replace hb := Lib.hid ((hb.out.below hb9).mono hb9.size)
    replace hc := Lib.hid ((hc.out.below hb9).mono hb9.size)
    replace hm := Lib.hid ((hm.out.below hb9).mono hb9.size)
    replace hn := Lib.hid ((hn.out.below hb9).mono hb9.size)
    replace bW := bW.trans (hb9.mono bW.size)
    clear hb9
    go_upto_region 7 with fail
    by_cases hok : X1 = 0 ∧ Y1 = 0
    · obtain ⟨rfl, rfl⟩ := hok
      have ok1 : (chkS a.p a.vs).1 = 0 := by rw [← hX.out]
      have ok2 : (chkS b.p b.vs).1 = 0 := by rw [← hY.out]
      have hem : SAt (emptyS a.p) w9 w9.heap.size := emptyS_at wa.out _ _
      have gl := mrgE_emptyL ok1 ra.out
      have gr := mrgE_emptyR ok1 ra.out
      replace ok1 := Lib.hid ok1
      replace ok2 := Lib.hid ok2
      replace hem := Lib.hid hem
      clear cCa cCb cRa cRb hX hY
      have za0 := (ka.2 0 _ rfl).1
      have za1 := (ka.2 1 _ rfl).1
      have za2 := (ka.2 2 _ rfl).1
      go_upto_region 11 with fail
      have hnew := Blk.new w9 [.int .i64 a.p, .slice none 0 0, .int .u64 0] 25
      go_upto_region 12 with fail
      obtain ⟨w10, hw⟩ : ∃ w0, w0 = w9.alloc (.cells #[.int .i64 a.p, .slice none 0 0, .int .u64 0] 25) := ⟨_, rfl⟩
      have kem : Blk w10 w9.heap.size [.int .i64 a.p, .slice none 0 0, .int .u64 0] := by rw [hw]; exact hnew
      have hb10 : Below w9.heap.size w9 w10 := by rw [hw]; exact (Below.refl _ _).alloc (Nat.le_refl _) _
      rw [← hw]
      clear hw hnew
      replace ka := ka.later hb10
      replace kb := kb.later hb10
      replace kc := kc.later hb10
      replace km := km.later hb10
      replace kn := kn.later hb10
      replace ha := Lib.hid ((ha.out.below hb10).mono hb10.size)
      replace hb := Lib.hid ((hb.out.below hb10).mono hb10.size)
      replace hc := Lib.hid ((hc.out.below hb10).mono hb10.size)
      replace hm := Lib.hid ((hm.out.below hb10).mono hb10.size)
      replace hn := Lib.hid ((hn.out.below hb10).mono hb10.size)
      replace hem := Lib.hid ((hem.out.below hb10).mono hb10.size)
      replace bW := bW.trans (hb10.mono bW.size)
      clear hb10
      clear za0 za1 za2
      have zem0 := (kem.2 0 _ rfl).1
      have zem1 := (kem.2 1 _ rfl).1
      have zem2 := (kem.2 2 _ rfl).1
      have za0 := (ka.2 0 _ rfl).1
      have za1 := (ka.2 1 _ rfl).1
      have za2 := (ka.2 2 _ rfl).1
      go_wp2_with fail
      refine (cM.out (emptyS a.p) a _ hem.out ha.out).mono ?_
      rintro e w11 ⟨l, rfl, hl, cl, hb11⟩
      clear zem0 zem1 zem2 za0 za1 za2
      replace ka := ka.later hb11
      replace kb := kb.later hb11
      replace kc := kc.later hb11
      replace km := km.later hb11
      replace kn := kn.later hb11
      replace kem := kem.later hb11
      replace ha := Lib.hid ((ha.out.below hb11).mono hb11.size)
      replace hb := Lib.hid ((hb.out.below hb11).mono hb11.size)
      replace hc := Lib.hid ((hc.out.below hb11).mono hb11.size)
      replace hm := Lib.hid ((hm.out.below hb11).mono hb11.size)
      replace hn := Lib.hid ((hn.out.below hb11).mono hb11.size)
      replace hem := Lib.hid ((hem.out.below hb11).mono hb11.size)
      replace bW := bW.trans (hb11.mono bW.size)
      clear hb11
      rw [gl]
      have sl := same_emptyL ok1.out ra.out cl
      replace hl := Lib.hid hl
      replace sl := Lib.hid sl
      clear cl
      have hnew := Blk.new w11 [.int .i64 l.p, .slice l.A l.vs.length l.c, .int .u64 l.r] 25
      go_upto_region 13 with fail
      obtain ⟨w12, hw⟩ : ∃ w0, w0 = w11.alloc (.cells #[.int .i64 l.p, .slice l.A l.vs.length l.c, .int .u64 l.r] 25) := ⟨_, rfl⟩
      have kl : Blk w12 w11.heap.size [.int .i64 l.p, .slice l.A l.vs.length l.c, .int .u64 l.r] := by rw [hw]; exact hnew
      have hb12 : Below w11.heap.size w11 w12 := by rw [hw]; exact (Below.refl _ _).alloc (Nat.le_refl _) _
      rw [← hw]
      clear hw hnew
      replace ka := ka.later hb12
      replace kb := kb.later hb12
      replace kc := kc.later hb12
      replace km := km.later hb12
      replace kn := kn.later hb12
      replace kem := kem.later hb12
      replace ha := Lib.hid ((ha.out.below hb12).mono hb12.size)
      replace hb := Lib.hid ((hb.out.below hb12).mono hb12.size)
      replace hc := Lib.hid ((hc.out.below hb12).mono hb12.size)
      replace hm := Lib.hid ((hm.out.below hb12).mono hb12.size)
      replace hn := Lib.hid ((hn.out.below hb12).mono hb12.size)
      replace hem := Lib.hid ((hem.out.below hb12).mono hb12.size)
      replace hl := Lib.hid ((hl.out.below hb12).mono hb12.size)
      replace bW := bW.trans (hb12.mono bW.size)
      clear hb12
      have za0 := (ka.2 0 _ rfl).1
      have za1 := (ka.2 1 _ rfl).1
      have za2 := (ka.2 2 _ rfl).1
      have zem0 := (kem.2 0 _ rfl).1
      have zem1 := (kem.2 1 _ rfl).1
      have zem2 := (kem.2 2 _ rfl).1
      go_wp2_with fail
      refine (cM.out a (emptyS a.p) _ ha.out hem.out).mono ?_
      rintro e w13 ⟨r, rfl, hr, cr, hb13⟩
      clear za0 za1 za2 zem0 zem1 zem2
      replace ka := ka.later hb13
      replace kb := kb.later hb13
      replace kc := kc.later hb13
      replace km := km.later hb13
      replace kn := kn.later hb13
      replace kem := kem.later hb13
      replace kl := kl.later hb13
      replace ha := Lib.hid ((ha.out.below hb13).mono hb13.size)
      replace hb := Lib.hid ((hb.out.below hb13).mono hb13.size)
      replace hc := Lib.hid ((hc.out.below hb13).mono hb13.size)
      replace hm := Lib.hid ((hm.out.below hb13).mono hb13.size)
      replace hn := Lib.hid ((hn.out.below hb13).mono hb13.size)
      replace hem := Lib.hid ((hem.out.below hb13).mono hb13.size)
      replace hl := Lib.hid ((hl.out.below hb13).mono hb13.size)
      replace bW := bW.trans (hb13.mono bW.size)
      clear hb13
      rw [gr]
      have sr := same_emptyR ok1.out ra.out cr
      replace hr := Lib.hid hr
      replace sr := Lib.hid sr
      clear cr
      have hnew := Blk.new w13 [.int .i64 r.p, .slice r.A r.vs.length r.c, .int .u64 r.r] 25
      go_upto_region 14 with fail
      obtain ⟨w14, hw⟩ : ∃ w0, w0 = w13.alloc (.cells #[.int .i64 r.p, .slice r.A r.vs.length r.c, .int .u64 r.r] 25) := ⟨_, rfl⟩
      have kr : Blk w14 w13.heap.size [.int .i64 r.p, .slice r.A r.vs.length r.c, .int .u64 r.r] := by rw [hw]; exact hnew
      have hb14 : Below w13.heap.size w13 w14 := by rw [hw]; exact (Below.refl _ _).alloc (Nat.le_refl _) _
      rw [← hw]
      clear hw hnew
      replace ka := ka.later hb14
      replace kb := kb.later hb14
      replace kc := kc.later hb14
      replace km := km.later hb14
      replace kn := kn.later hb14
      replace kem := kem.later hb14
      replace kl := kl.later hb14
      replace ha := Lib.hid ((ha.out.below hb14).mono hb14.size)
      replace hb := Lib.hid ((hb.out.below hb14).mono hb14.size)
      replace hc := Lib.hid ((hc.out.below hb14).mono hb14.size)
      replace hm := Lib.hid ((hm.out.below hb14).mono hb14.size)
      replace hn := Lib.hid ((hn.out.below hb14).mono hb14.size)
      replace hem := Lib.hid ((hem.out.below hb14).mono hb14.size)
      replace hl := Lib.hid ((hl.out.below hb14).mono hb14.size)
      replace hr := Lib.hid ((hr.out.below hb14).mono hb14.size)
      replace bW := bW.trans (hb14.mono bW.size)
      clear hb14
      have zl0 := (kl.2 0 _ rfl).1
      have zl1 := (kl.2 1 _ rfl).1
      have zl2 := (kl.2 2 _ rfl).1
      have za0 := (ka.2 0 _ rfl).1
      have za1 := (ka.2 1 _ rfl).1
      have za2 := (ka.2 2 _ rfl).1
      go_wp2_with fail
      refine (cS.out l a _ hl.out ha.out sl.out).mono ?_
      rintro e w15 ⟨rfl, hb15⟩
      clear zl0 zl1 zl2 za0 za1 za2
      replace ka := ka.later hb15
      replace kb := kb.later hb15
      replace kc := kc.later hb15
      replace km := km.later hb15
      replace kn := kn.later hb15
      replace kem := kem.later hb15
      replace kl := kl.later hb15
      replace kr := kr.later hb15
      replace ha := Lib.hid ((ha.out.below hb15).mono hb15.size)
      replace hb := Lib.hid ((hb.out.below hb15).mono hb15.size)
      replace hc := Lib.hid ((hc.out.below hb15).mono hb15.size)
      replace hm := Lib.hid ((hm.out.below hb15).mono hb15.size)
      replace hn := Lib.hid ((hn.out.below hb15).mono hb15.size)
      replace hem := Lib.hid ((hem.out.below hb15).mono hb15.size)
      replace hl := Lib.hid ((hl.out.below hb15).mono hb15.size)
      replace hr := Lib.hid ((hr.out.below hb15).mono hb15.size)
      replace bW := bW.trans (hb15.mono bW.size)
      clear hb15
      have zr0 := (kr.2 0 _ rfl).1
      have zr1 := (kr.2 1 _ rfl).1
      have zr2 := (kr.2 2 _ rfl).1
      have za0 := (ka.2 0 _ rfl).1
      have za1 := (ka.2 1 _ rfl).1
      have za2 := (ka.2 2 _ rfl).1
      go_wp2_with fail
      refine (cS.out r a _ hr.out ha.out sr.out).mono ?_
      rintro e w16 ⟨rfl, hb16⟩
      clear zr0 zr1 zr2 za0 za1 za2
      replace ka := ka.later hb16
      replace kb := kb.later hb16
      replace kc := kc.later hb16
      replace km := km.later hb16
      replace kn := kn.later hb16
      replace kem := kem.later hb16
      replace kl := kl.later hb16
      replace kr := kr.later hb16
      replace ha := Lib.hid ((ha.out.below hb16).mono hb16.size)
      replace hb := Lib.hid ((hb.out.below hb16).mono hb16.size)
      replace hc := Lib.hid ((hc.out.below hb16).mono hb16.size)
      replace hm := Lib.hid ((hm.out.below hb16).mono hb16.size)
      replace hn := Lib.hid ((hn.out.below hb16).mono hb16.size)
      replace hem := Lib.hid ((hem.out.below hb16).mono hb16.size)
      replace hl := Lib.hid ((hl.out.below hb16).mono hb16.size)
      replace hr := Lib.hid ((hr.out.below hb16).mono hb16.size)
      replace bW := bW.trans (hb16.mono bW.size)
      clear hb16
      clear kl
      clear kr
      clear kem
      have smn := Lib.hid (same_swap pa.out pb.out ra.out rb.out cm.out cn.out)
      go_upto_region 16 with fail
      by_cases h0 : E1 = 0
      · have h02 : E2 = 0 := hE12.out.1 h0
        have e0 : mrgE a b = 0 := by rw [← hE1.out]; exact h0
        subst h0
        subst h02
        have cok := merged_ok (w := w) (B := 0) pa.out pb.out cm.out e0
        have hF := adds_ok pa.out pb.out cm.out e0
        replace e0 := Lib.hid e0
        replace hF := Lib.hid hF
        have zm0 := (km.2 0 _ rfl).1
        have zm1 := (km.2 1 _ rfl).1
        have zm2 := (km.2 2 _ rfl).1
        have zn0 := (kn.2 0 _ rfl).1
        have zn1 := (kn.2 1 _ rfl).1
        have zn2 := (kn.2 2 _ rfl).1
        go_wp2_with fail
        refine (cS.out m n _ hm.out hn.out smn.out).mono ?_
        rintro e w17 ⟨rfl, hb17⟩
        clear zm0 zm1 zm2 zn0 zn1 zn2
        replace ka := ka.later hb17
        replace kb := kb.later hb17
        replace kc := kc.later hb17
        replace km := km.later hb17
        replace kn := kn.later hb17
        replace ha := Lib.hid ((ha.out.below hb17).mono hb17.size)
        replace hb := Lib.hid ((hb.out.below hb17).mono hb17.size)
        replace hc := Lib.hid ((hc.out.below hb17).mono hb17.size)
        replace hm := Lib.hid ((hm.out.below hb17).mono hb17.size)
        replace hn := Lib.hid ((hn.out.below hb17).mono hb17.size)
        replace bW := bW.trans (hb17.mono bW.size)
        clear hb17
        clear kn
        go_upto_region 20 with fail
        have cCm := fun W h => cC.out m W h
        rw [cok] at cCm
        replace cCm := Lib.hid cCm
        replace cok := Lib.hid cok
        have zm0 := (km.2 0 _ rfl).1
        have zm1 := (km.2 1 _ rfl).1
        have zm2 := (km.2 2 _ rfl).1
        go_wp2_with fail
        refine (cCm.out _ hm.out).mono ?_
        rintro e w18 ⟨rfl, hb18⟩
        clear zm0 zm1 zm2
        replace ka := ka.later hb18
        replace kb := kb.later hb18
        replace kc := kc.later hb18
        replace km := km.later hb18
        replace ha := Lib.hid ((ha.out.below hb18).mono hb18.size)
        replace hb := Lib.hid ((hb.out.below hb18).mono hb18.size)
        replace hc := Lib.hid ((hc.out.below hb18).mono hb18.size)
        replace hm := Lib.hid ((hm.out.below hb18).mono hb18.size)
        replace bW := bW.trans (hb18.mono bW.size)
        clear hb18
        go_upto_region 21 with fail
        have za0 := (ka.2 0 _ rfl).1
        have za1 := (ka.2 1 _ rfl).1
        have za2 := (ka.2 2 _ rfl).1
        have zb0 := (kb.2 0 _ rfl).1
        have zb1 := (kb.2 1 _ rfl).1
        have zb2 := (kb.2 2 _ rfl).1
        have zm0 := (km.2 0 _ rfl).1
        have zm1 := (km.2 1 _ rfl).1
        have zm2 := (km.2 2 _ rfl).1
        go_wp2_with fail
        refine (cD.out m _ ha.out hb.out hm.out hF.out hs.out).mono ?_
        rintro e w19 ⟨rfl, hb19⟩
        clear za0 za1 za2 zb0 zb1 zb2 zm0 zm1 zm2
        replace ka := ka.later hb19
        replace kb := kb.later hb19
        replace kc := kc.later hb19
        replace km := km.later hb19
        replace ha := Lib.hid ((ha.out.below hb19).mono hb19.size)
        replace hb := Lib.hid ((hb.out.below hb19).mono hb19.size)
        replace hc := Lib.hid ((hc.out.below hb19).mono hb19.size)
        replace hm := Lib.hid ((hm.out.below hb19).mono hb19.size)
        replace bW := bW.trans (hb19.mono bW.size)
        clear hb19
        go_upto_region 23 with fail
        have zm0 := (km.2 0 _ rfl).1
        have zm1 := (km.2 1 _ rfl).1
        have zm2 := (km.2 2 _ rfl).1
        have zc0 := (kc.2 0 _ rfl).1
        have zc1 := (kc.2 1 _ rfl).1
        have zc2 := (kc.2 2 _ rfl).1
        go_wp2_with fail
        refine (cM.out m c _ hm.out hc.out).mono ?_
        rintro e w20 ⟨x, rfl, hx, cx, hb20⟩
        clear zm0 zm1 zm2 zc0 zc1 zc2
        replace ka := ka.later hb20
        replace kb := kb.later hb20
        replace kc := kc.later hb20
        replace km := km.later hb20
        replace ha := Lib.hid ((ha.out.below hb20).mono hb20.size)
        replace hb := Lib.hid ((hb.out.below hb20).mono hb20.size)
        replace hc := Lib.hid ((hc.out.below hb20).mono hb20.size)
        replace hm := Lib.hid ((hm.out.below hb20).mono hb20.size)
        replace bW := bW.trans (hb20.mono bW.size)
        clear hb20
        replace cx := Lib.hid cx
        replace hx := Lib.hid hx
        have hnew := Blk.new w20 [.int .i64 x.p, .slice x.A x.vs.length x.c, .int .u64 x.r] 25
        go_upto_region 24 with fail
        obtain ⟨w21, hw⟩ : ∃ w0, w0 = w20.alloc (.cells #[.int .i64 x.p, .slice x.A x.vs.length x.c, .int .u64 x.r] 25) := ⟨_, rfl⟩
        have kx : Blk w21 w20.heap.size [.int .i64 x.p, .slice x.A x.vs.length x.c, .int .u64 x.r] := by rw [hw]; exact hnew
        have hb21 : Below w20.heap.size w20 w21 := by rw [hw]; exact (Below.refl _ _).alloc (Nat.le_refl _) _
        rw [← hw]
        clear hw hnew
        replace ka := ka.later hb21
        replace kb := kb.later hb21
        replace kc := kc.later hb21
        replace km := km.later hb21
        replace ha := Lib.hid ((ha.out.below hb21).mono hb21.size)
        replace hb := Lib.hid ((hb.out.below hb21).mono hb21.size)
        replace hc := Lib.hid ((hc.out.below hb21).mono hb21.size)
        replace hm := Lib.hid ((hm.out.below hb21).mono hb21.size)
        replace hx := Lib.hid ((hx.out.below hb21).mono hb21.size)
        replace bW := bW.trans (hb21.mono bW.size)
        clear hb21
        have zb0 := (kb.2 0 _ rfl).1
        have zb1 := (kb.2 1 _ rfl).1
        have zb2 := (kb.2 2 _ rfl).1
        have zc0 := (kc.2 0 _ rfl).1
        have zc1 := (kc.2 1 _ rfl).1
        have zc2 := (kc.2 2 _ rfl).1
        go_wp2_with fail
        refine (cM.out b c _ hb.out hc.out).mono ?_
        rintro e w22 ⟨d, rfl, hd, cd, hb22⟩
        clear zb0 zb1 zb2 zc0 zc1 zc2
        replace ka := ka.later hb22
        replace kb := kb.later hb22
        replace kc := kc.later hb22
        replace km := km.later hb22
        replace kx := kx.later hb22
        replace ha := Lib.hid ((ha.out.below hb22).mono hb22.size)
        replace hb := Lib.hid ((hb.out.below hb22).mono hb22.size)
        replace hc := Lib.hid ((hc.out.below hb22).mono hb22.size)
        replace hm := Lib.hid ((hm.out.below hb22).mono hb22.size)
        replace hx := Lib.hid ((hx.out.below hb22).mono hb22.size)
        replace bW := bW.trans (hb22.mono bW.size)
        clear hb22
        replace cd := Lib.hid cd
        replace hd := Lib.hid hd
        have hnew := Blk.new w22 [.int .i64 d.p, .slice d.A d.vs.length d.c, .int .u64 d.r] 25
        go_upto_region 25 with fail
        obtain ⟨w23, hw⟩ : ∃ w0, w0 = w22.alloc (.cells #[.int .i64 d.p, .slice d.A d.vs.length d.c, .int .u64 d.r] 25) := ⟨_, rfl⟩
        have kd : Blk w23 w22.heap.size [.int .i64 d.p, .slice d.A d.vs.length d.c, .int .u64 d.r] := by rw [hw]; exact hnew
        have hb23 : Below w22.heap.size w22 w23 := by rw [hw]; exact (Below.refl _ _).alloc (Nat.le_refl _) _
        rw [← hw]
        clear hw hnew
        replace ka := ka.later hb23
        replace kb := kb.later hb23
        replace kc := kc.later hb23
        replace km := km.later hb23
        replace kx := kx.later hb23
        replace ha := Lib.hid ((ha.out.below hb23).mono hb23.size)
        replace hb := Lib.hid ((hb.out.below hb23).mono hb23.size)
        replace hc := Lib.hid ((hc.out.below hb23).mono hb23.size)
        replace hm := Lib.hid ((hm.out.below hb23).mono hb23.size)
        replace hx := Lib.hid ((hx.out.below hb23).mono hb23.size)
        replace hd := Lib.hid ((hd.out.below hb23).mono hb23.size)
        replace bW := bW.trans (hb23.mono bW.size)
        clear hb23
        obtain ⟨E3, hE3⟩ : ∃ e, e = mrgE m c := ⟨_, rfl⟩
        obtain ⟨E4, hE4⟩ : ∃ e, e = mrgE b c := ⟨_, rfl⟩
        rw [← hE3, ← hE4]
        replace hE3 := Lib.hid hE3
        replace hE4 := Lib.hid hE4
        by_cases h34 : E3 = 0 ∧ E4 = 0
        · obtain ⟨rfl, rfl⟩ := h34
          go_upto_region 27 with fail
          have za0 := (ka.2 0 _ rfl).1
          have za1 := (ka.2 1 _ rfl).1
          have za2 := (ka.2 2 _ rfl).1
          have zd0 := (kd.2 0 _ rfl).1
          have zd1 := (kd.2 1 _ rfl).1
          have zd2 := (kd.2 2 _ rfl).1
          go_wp2_with fail
          refine (cM.out a d _ ha.out hd.out).mono ?_
          rintro e w24 ⟨y, rfl, hy, cy, hb24⟩
          clear za0 za1 za2 zd0 zd1 zd2
          replace ka := ka.later hb24
          replace kb := kb.later hb24
          replace kc := kc.later hb24
          replace km := km.later hb24
          replace kx := kx.later hb24
          replace kd := kd.later hb24
          replace ha := Lib.hid ((ha.out.below hb24).mono hb24.size)
          replace hb := Lib.hid ((hb.out.below hb24).mono hb24.size)
          replace hc := Lib.hid ((hc.out.below hb24).mono hb24.size)
          replace hm := Lib.hid ((hm.out.below hb24).mono hb24.size)
          replace hx := Lib.hid ((hx.out.below hb24).mono hb24.size)
          replace hd := Lib.hid ((hd.out.below hb24).mono hb24.size)
          replace bW := bW.trans (hb24.mono bW.size)
          clear hb24
          replace cy := Lib.hid cy
          replace hy := Lib.hid hy
          have hnew := Blk.new w24 [.int .i64 y.p, .slice y.A y.vs.length y.c, .int .u64 y.r] 25
          go_upto_region 28 with fail
          obtain ⟨w25, hw⟩ : ∃ w0, w0 = w24.alloc (.cells #[.int .i64 y.p, .slice y.A y.vs.length y.c, .int .u64 y.r] 25) := ⟨_, rfl⟩
          have ky : Blk w25 w24.heap.size [.int .i64 y.p, .slice y.A y.vs.length y.c, .int .u64 y.r] := by rw [hw]; exact hnew
          have hb25 : Below w24.heap.size w24 w25 := by rw [hw]; exact (Below.refl _ _).alloc (Nat.le_refl _) _
          rw [← hw]
          clear hw hnew
          replace ka := ka.later hb25
          replace kb := kb.later hb25
          replace kc := kc.later hb25
          replace km := km.later hb25
          replace kx := kx.later hb25
          replace kd := kd.later hb25
          replace ha := Lib.hid ((ha.out.below hb25).mono hb25.size)
          replace hb := Lib.hid ((hb.out.below hb25).mono hb25.size)
          replace hc := Lib.hid ((hc.out.below hb25).mono hb25.size)
          replace hm := Lib.hid ((hm.out.below hb25).mono hb25.size)
          replace hx := Lib.hid ((hx.out.below hb25).mono hb25.size)
          replace hd := Lib.hid ((hd.out.below hb25).mono hb25.size)
          replace hy := Lib.hid ((hy.out.below hb25).mono hb25.size)
          replace bW := bW.trans (hb25.mono bW.size)
          clear hb25
          obtain ⟨E5, hE5⟩ : ∃ e, e = mrgE a d := ⟨_, rfl⟩
          rw [← hE5]
          by_cases h5 : E5 = 0
          · subst h5
            have al := alike_three pa.out pb.out pc.out cm.out cx.out cd.out cy.out e0.out (by rw [← hE3.out]) (by rw [← hE4.out]) (by rw [← hE5])
            have ox := merged_ok (w := w) (B := 0) hm.out.pl pc.out cx.out (by rw [← hE3.out])
            have oy := merged_ok (w := w) (B := 0) pa.out hd.out.pl cy.out (by rw [← hE5])
            replace al := Lib.hid al
            replace ox := Lib.hid ox
            replace oy := Lib.hid oy
            clear hE5
            have zx0 := (kx.2 0 _ rfl).1
            have zx1 := (kx.2 1 _ rfl).1
            have zx2 := (kx.2 2 _ rfl).1
            have zy0 := (ky.2 0 _ rfl).1
            have zy1 := (ky.2 1 _ rfl).1
            have zy2 := (ky.2 2 _ rfl).1
            go_wp2_with fail
            refine (cL.out x y _ hx.out hy.out (by rw [ox.out]) (by rw [oy.out]) al.out).mono ?_
            rintro e w26 ⟨rfl, hb26⟩
            clear zx0 zx1 zx2 zy0 zy1 zy2
            replace ka := ka.later hb26
            replace kb := kb.later hb26
            replace kc := kc.later hb26
            replace km := km.later hb26
            replace kx := kx.later hb26
            replace kd := kd.later hb26
            replace ky := ky.later hb26
            replace ha := Lib.hid ((ha.out.below hb26).mono hb26.size)
            replace hb := Lib.hid ((hb.out.below hb26).mono hb26.size)
            replace hc := Lib.hid ((hc.out.below hb26).mono hb26.size)
            replace hm := Lib.hid ((hm.out.below hb26).mono hb26.size)
            replace hx := Lib.hid ((hx.out.below hb26).mono hb26.size)
            replace hd := Lib.hid ((hd.out.below hb26).mono hb26.size)
            replace hy := Lib.hid ((hy.out.below hb26).mono hb26.size)
            replace bW := bW.trans (hb26.mono bW.size)
            clear hb26
            go_wp2_with fail
            refine (hfx'.out _).mono ?_
            rintro e w27 ⟨rfl, hb27⟩
            replace ka := ka.later hb27
            replace kb := kb.later hb27
            replace kc := kc.later hb27
            replace km := km.later hb27
            replace kx := kx.later hb27
            replace kd := kd.later hb27
            replace ky := ky.later hb27
            replace ha := Lib.hid ((ha.out.below hb27).mono hb27.size)
            replace hb := Lib.hid ((hb.out.below hb27).mono hb27.size)
            replace hc := Lib.hid ((hc.out.below hb27).mono hb27.size)
            replace hm := Lib.hid ((hm.out.below hb27).mono hb27.size)
            replace hx := Lib.hid ((hx.out.below hb27).mono hb27.size)
            replace hd := Lib.hid ((hd.out.below hb27).mono hb27.size)
            replace hy := Lib.hid ((hy.out.below hb27).mono hb27.size)
            replace bW := bW.trans (hb27.mono bW.size)
            clear hb27
            go_wp2
            go_ret
            exact ⟨by first | rfl | (simp; done) | (simp; exact ⟨n1, n2⟩), bW⟩
          · have g5 : (E5 == 0) = false := by simpa using h5
            clear hE5
            go_wp2_with fail
            refine (hfx'.out _).mono ?_
            rintro e w26 ⟨rfl, hb26⟩
            replace ka := ka.later hb26
            replace kb := kb.later hb26
            replace kc := kc.later hb26
            replace km := km.later hb26
            replace kx := kx.later hb26
            replace kd := kd.later hb26
            replace ky := ky.later hb26
            replace ha := Lib.hid ((ha.out.below hb26).mono hb26.size)
            replace hb := Lib.hid ((hb.out.below hb26).mono hb26.size)
            replace hc := Lib.hid ((hc.out.below hb26).mono hb26.size)
            replace hm := Lib.hid ((hm.out.below hb26).mono hb26.size)
            replace hx := Lib.hid ((hx.out.below hb26).mono hb26.size)
            replace hd := Lib.hid ((hd.out.below hb26).mono hb26.size)
            replace hy := Lib.hid ((hy.out.below hb26).mono hb26.size)
            replace bW := bW.trans (hb26.mono bW.size)
            clear hb26
            go_wp2
            go_ret
            exact ⟨by first | rfl | (simp; done) | (simp; exact ⟨n1, n2⟩), bW⟩
        · rcases (show E3 ≠ 0 ∨ (E3 = 0 ∧ E4 ≠ 0) by omega) with h6 | ⟨rfl, h6⟩
          all_goals
            clear h34
            first
              | (have g6 : (E3 == 0) = false := by simpa using h6)
              | (have g6 : (E4 == 0) = false := by simpa using h6)
            go_wp2_with fail
            refine (hfx'.out _).mono ?_
            rintro e w24 ⟨rfl, hb24⟩
            replace ka := ka.later hb24
            replace kb := kb.later hb24
            replace kc := kc.later hb24
            replace km := km.later hb24
            replace kx := kx.later hb24
            replace kd := kd.later hb24
            replace ha := Lib.hid ((ha.out.below hb24).mono hb24.size)
            replace hb := Lib.hid ((hb.out.below hb24).mono hb24.size)
            replace hc := Lib.hid ((hc.out.below hb24).mono hb24.size)
            replace hm := Lib.hid ((hm.out.below hb24).mono hb24.size)
            replace hx := Lib.hid ((hx.out.below hb24).mono hb24.size)
            replace hd := Lib.hid ((hd.out.below hb24).mono hb24.size)
            replace bW := bW.trans (hb24.mono bW.size)
            clear hb24
            go_wp2
            go_ret
            exact ⟨by first | rfl | (simp; done) | (simp; exact ⟨n1, n2⟩), bW⟩
      · have h02 : E2 ≠ 0 := fun e => h0 (hE12.out.2 e)
        have zm : m = zeroS := cm.out.1 (by rw [← hE1.out]; exact h0)
        replace zm := Lib.hid zm
        have g1 : (E1 == 0) = false := by simpa using h0
        have g2 : (E2 == 0) = false := by simpa using h02
        have zm0 := (km.2 0 _ rfl).1
        have zm1 := (km.2 1 _ rfl).1
        have zm2 := (km.2 2 _ rfl).1
        have zn0 := (kn.2 0 _ rfl).1
        have zn1 := (kn.2 1 _ rfl).1
        have zn2 := (kn.2 2 _ rfl).1
        go_wp2_with fail
        refine (cS.out m n _ hm.out hn.out smn.out).mono ?_
        rintro e w17 ⟨rfl, hb17⟩
        clear zm0 zm1 zm2 zn0 zn1 zn2
        replace ka := ka.later hb17
        replace kb := kb.later hb17
        replace kc := kc.later hb17
        replace km := km.later hb17
        replace kn := kn.later hb17
        replace ha := Lib.hid ((ha.out.below hb17).mono hb17.size)
        replace hb := Lib.hid ((hb.out.below hb17).mono hb17.size)
        replace hc := Lib.hid ((hc.out.below hb17).mono hb17.size)
        replace hm := Lib.hid ((hm.out.below hb17).mono hb17.size)
        replace hn := Lib.hid ((hn.out.below hb17).mono hb17.size)
        replace bW := bW.trans (hb17.mono bW.size)
        clear hb17
        clear kn
        have zm0 := (km.2 0 _ rfl).1
        have zm1 := (km.2 1 _ rfl).1
        have zm2 := (km.2 2 _ rfl).1
        go_wp2_with fail
        refine (cS.out m zeroS _ hm.out (zeroS_at _ _) (by rw [zm.out]; exact sameS_self _)).mono ?_
        rintro e w18 ⟨rfl, hb18⟩
        clear zm0 zm1 zm2
        replace ka := ka.later hb18
        replace kb := kb.later hb18
        replace kc := kc.later hb18
        replace km := km.later hb18
        replace ha := Lib.hid ((ha.out.below hb18).mono hb18.size)
        replace hb := Lib.hid ((hb.out.below hb18).mono hb18.size)
        replace hc := Lib.hid ((hc.out.below hb18).mono hb18.size)
        replace hm := Lib.hid ((hm.out.below hb18).mono hb18.size)
        replace bW := bW.trans (hb18.mono bW.size)
        clear hb18
        go_wp2_with fail
        refine (hfx'.out _).mono ?_
        rintro e w19 ⟨rfl, hb19⟩
        replace ka := ka.later hb19
        replace kb := kb.later hb19
        replace kc := kc.later hb19
        replace km := km.later hb19
        replace ha := Lib.hid ((ha.out.below hb19).mono hb19.size)
        replace hb := Lib.hid ((hb.out.below hb19).mono hb19.size)
        replace hc := Lib.hid ((hc.out.below hb19).mono hb19.size)
        replace hm := Lib.hid ((hm.out.below hb19).mono hb19.size)
        replace bW := bW.trans (hb19.mono bW.size)
        clear hb19
        go_wp2
        go_ret
        exact ⟨by first | rfl | (simp; done) | (simp; exact ⟨n1, n2⟩), bW⟩
    · have n1 : E1 ≠ 0 := fun e => hok (by have h := mrgE_ok (hE1.out.symm.trans e); have c1 := (chkS_ok a.p a.vs).2 ⟨h.1, h.2.2.2.2.1, h.2.2.1⟩; have c2 := (chkS_ok b.p b.vs).2 ⟨h.2.1 ▸ h.1, h.2.2.2.2.2.1, h.2.2.2.1⟩; rw [← hX.out] at c1; rw [← hY.out] at c2; exact ⟨c1, c2⟩)
      have n2 : E2 ≠ 0 := fun e => n1 (hE12.out.2 e)
      have zm : m = zeroS := cm.out.1 (by rw [← hE1.out]; exact n1)
      replace zm := Lib.hid zm
      have g1 : (E1 == 0) = false := by simpa using n1
      have g2 : (E2 == 0) = false := by simpa using n2
      clear kn
      rcases (show X1 ≠ 0 ∨ (X1 = 0 ∧ Y1 ≠ 0) by omega) with h6 | ⟨rfl, h6⟩
      all_goals
        first
          | (have g6 : (X1 == 0) = false := by simpa using h6)
          | (have g6 : (Y1 == 0) = false := by simpa using h6)
        go_upto_region 8 with fail
        have za0 := (ka.2 0 _ rfl).1
        have za1 := (ka.2 1 _ rfl).1
        have za2 := (ka.2 2 _ rfl).1
        go_wp2_with fail
        refine (cRa.out _ ha.out).mono ?_
        rintro e w10 ⟨rfl, hb10⟩
        clear za0 za1 za2
        replace ka := ka.later hb10
        replace kb := kb.later hb10
        replace kc := kc.later hb10
        replace km := km.later hb10
        replace ha := Lib.hid ((ha.out.below hb10).mono hb10.size)
        replace hb := Lib.hid ((hb.out.below hb10).mono hb10.size)
        replace hc := Lib.hid ((hc.out.below hb10).mono hb10.size)
        replace hm := Lib.hid ((hm.out.below hb10).mono hb10.size)
        replace bW := bW.trans (hb10.mono bW.size)
        clear hb10
        go_upto_region 9 with fail
        have zb0 := (kb.2 0 _ rfl).1
        have zb1 := (kb.2 1 _ rfl).1
        have zb2 := (kb.2 2 _ rfl).1
        go_wp2_with fail
        refine (cRb.out _ hb.out).mono ?_
        rintro e w11 ⟨rfl, hb11⟩
        clear zb0 zb1 zb2
        replace ka := ka.later hb11
        replace kb := kb.later hb11
        replace kc := kc.later hb11
        replace km := km.later hb11
        replace ha := Lib.hid ((ha.out.below hb11).mono hb11.size)
        replace hb := Lib.hid ((hb.out.below hb11).mono hb11.size)
        replace hc := Lib.hid ((hc.out.below hb11).mono hb11.size)
        replace hm := Lib.hid ((hm.out.below hb11).mono hb11.size)
        replace bW := bW.trans (hb11.mono bW.size)
        clear hb11
        go_upto_region 10 with fail
        have zm0 := (km.2 0 _ rfl).1
        have zm1 := (km.2 1 _ rfl).1
        have zm2 := (km.2 2 _ rfl).1
        go_wp2_with fail
        refine (cS.out m zeroS _ hm.out (zeroS_at _ _) (by rw [zm.out]; exact sameS_self _)).mono ?_
        rintro e w12 ⟨rfl, hb12⟩
        clear zm0 zm1 zm2
        replace ka := ka.later hb12
        replace kb := kb.later hb12
        replace kc := kc.later hb12
        replace km := km.later hb12
        replace ha := Lib.hid ((ha.out.below hb12).mono hb12.size)
        replace hb := Lib.hid ((hb.out.below hb12).mono hb12.size)
        replace hc := Lib.hid ((hc.out.below hb12).mono hb12.size)
        replace hm := Lib.hid ((hm.out.below hb12).mono hb12.size)
        replace bW := bW.trans (hb12.mono bW.size)
        clear hb12
        go_wp2_with fail
        refine (hfx'.out _).mono ?_
        rintro e w13 ⟨rfl, hb13⟩
        replace ka := ka.later hb13
        replace kb := kb.later hb13
        replace kc := kc.later hb13
        replace km := km.later hb13
        replace ha := Lib.hid ((ha.out.below hb13).mono hb13.size)
        replace hb := Lib.hid ((hb.out.below hb13).mono hb13.size)
        replace hc := Lib.hid ((hc.out.below hb13).mono hb13.size)
        replace hm := Lib.hid ((hm.out.below hb13).mono hb13.size)
        replace bW := bW.trans (hb13.mono bW.size)
        clear hb13
        go_wp2
        go_ret
        exact ⟨by first | rfl | (simp; done) | (simp; exact ⟨n1, n2⟩), bW⟩
end Go.Proofs.YtpiegngjpnpohaaGreat.Sn
