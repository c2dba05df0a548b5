/- Lemmas for the laws of this seat, laid together of SnK, SnX, SnY, Ao. -/
import Derived.Test.YtpiegngjpnpohaaGreatK07
import Derived.Test.YtpiegngjpnpohaaGreatK26
import Derived.Test.YtpiegngjpnpohaaGreatK29
import Derived.Test.YtpiegngjpnpohaaGreatRows
import Derived.ProofKit
import Derived.SizedLaws
import Derived.ChangeArms
import Derived.ChangeSame
import Derived.Lib.SmallJoins
import Derived.OpenShut

namespace Go.Proofs.YtpiegngjpnpohaaGreat.Sn
open Go.RowKit Go.Proofs.YtpiegngjpnpohaaGreat.La Go.Proofs.YtpiegngjpnpohaaGreat.Sl Go.Proofs.YtpiegngjpnpohaaGreat.Ck Go.Proofs.YtpiegngjpnpohaaGreat.Rc Go.Proofs.YtpiegngjpnpohaaGreat.Rk Go.Proofs.YtpiegngjpnpohaaGreat.Wi Go.Proofs.YtpiegngjpnpohaaGreat.Fb Go.Proofs.YtpiegngjpnpohaaGreat.Mg Go.Proofs.YtpiegngjpnpohaaGreat.St
set_option linter.unusedVariables false
theorem sameL_step {xs ys : List Vv} {i : Nat} (hx : i < xs.length) (hy : i < ys.length) (h : Hid (∀ j, j < i → ∀ x y, xs[j]? = some x → ys[j]? = some y → sameV x y = true)) (hs : sameV xs[i] ys[i] = true) :
    Hid (∀ j, j < i + 1 → ∀ x y, xs[j]? = some x → ys[j]? = some y → sameV x y = true) := Lib.hid fun j hj x y h1 h2 => by
  by_cases e : j = i
  · subst e
    rw [List.getElem?_eq_getElem hx] at h1
    rw [List.getElem?_eq_getElem hy] at h2
    cases h1; cases h2; exact hs
  · exact h.out j (by omega) x y h1 h2
set_option maxRecDepth 100000 in
set_option maxHeartbeats 2000000 in
theorem equalFuncV_any (xs ys : List Vv) (A B : Option Addr) (c k : Nat) (w : World) (ha : VsAt xs A w w.heap.size) (hb : VsAt ys B w w.heap.size) (hla : xs.length ≤ 140737488355328) :
    Calls Tryz.prog 72 #[.slice A xs.length c, .slice B ys.length k, .func (.func 73) #[] #[]] w fun e w' => e = .returned (.bool (sameL xs ys)) ∧ Below w.heap.size w w' := by
  have hE := enter_sameValue
  obtain ⟨n, hn⟩ : ∃ n, n = xs.length := ⟨_, rfl⟩
  obtain ⟨m, hm⟩ : ∃ m, m = ys.length := ⟨_, rfl⟩
  obtain ⟨R, hR⟩ : ∃ R, R = sameL xs ys := ⟨_, rfl⟩
  rw [← hn] at hla
  have hlaI : (n : Int) ≤ 140737488355328 := by omega
  rw [← hn, ← hm, ← hR]
  clear hla
  by_cases hnm : n = m
  · obtain rfl := hnm
    have hiff : R = true ↔ ∀ (i : Nat) (x y : Vv), xs[i]? = some x → ys[i]? = some y → sameV x y = true := by rw [hR]; exact sameL_iff (by rw [← hn, ← hm])
    replace hn := Lib.hid hn
    replace hm := Lib.hid hm
    replace hiff := Lib.hid hiff
    replace ha := Lib.hid ha
    replace hb := Lib.hid hb
    clear hR
    go_enter Tryz.func72, Tryz.ntmps72
    go_wp2
    go_loopw [17] (fun v wr => ∃ i : Nat, v = .int .i64 (i : Int) ∧ i ≤ n ∧ Hid (∀ j, j < i → ∀ x y, xs[j]? = some x → ys[j]? = some y → sameV x y = true) ∧ Below w.heap.size w wr) (fun v _ => n + 1 - natOf' v)
    case atStart => exact ⟨0, rfl, Nat.zero_le _, Lib.hid (fun j hj => absurd hj (by omega)), Below.refl _ _⟩
    case round =>
      obtain ⟨i, rfl, hi, hpre, hw⟩ := hrel
      by_cases hlt : i < n
      · have hil : i < xs.length := by rw [← hn.out]; exact hlt
        have him : i < ys.length := by rw [← hm.out]; exact hlt
        obtain ⟨b, off, hA, hbB, x0, x1, x2, x3, x4, x5, x6, x7, x8, x9, x10⟩ := (ha.out.below hw).cells i hil
        obtain ⟨b2, off2, hB, hbB2, y0, y1, y2, y3, y4, y5, y6, y7, y8, y9, y10⟩ := (hb.out.below hw).cells i him
        obtain ⟨x, hx⟩ : ∃ v, v = xs[i] := ⟨_, rfl⟩
        obtain ⟨y, hy⟩ : ∃ v, v = ys[i] := ⟨_, rfl⟩
        have vx : VAt x wr wr.heap.size := by rw [hx]; exact ((ha.out.all _ (List.getElem_mem hil)).below hw).mono hw.size
        have vy : VAt y wr wr.heap.size := by rw [hy]; exact ((hb.out.all _ (List.getElem_mem him)).below hw).mono hw.size
        have cx := fun (W : World) (k : Below wr.heap.size wr W) => sameV_any x y W ((vx.below k).mono k.size) ((vy.below k).mono k.size)
        rw [← hx] at x0 x1 x2 x3 x4 x5 x6 x7 x8 x9 x10
        rw [← hy] at y0 y1 y2 y3 y4 y5 y6 y7 y8 y9 y10
        have hstep := sameL_step hil him hpre
        rw [← hx, ← hy] at hstep
        have hbad : sameV x y = false → R = false := fun e => by
          cases hRR : R
          · rfl
          · have := hiff.out.1 hRR i x y (by rw [hx]; exact List.getElem?_eq_getElem hil) (by rw [hy]; exact List.getElem?_eq_getElem him)
            rw [e] at this; cases this
        subst hA hB
        have g1 : (i : Int) < (n : Int) := by omega
        have g0 : (0 : Int) ≤ (i : Int) := by omega
        have hbw : b < wr.heap.size := by have := hw.size; omega
        have hbw2 : b2 < wr.heap.size := by have := hw.size; omega
        unfold Vv.v at cx
        clear hx hy vx vy hil him
        generalize sameV x y = r at *
        obtain ⟨ln, hln⟩ : ∃ ln, ln = x.d.l.length := ⟨_, rfl⟩
        obtain ⟨cn, hcn⟩ : ∃ cn, cn = x.cs.length := ⟨_, rfl⟩
        obtain ⟨lm, hlm⟩ : ∃ lm, lm = y.d.l.length := ⟨_, rfl⟩
        obtain ⟨cm, hcm⟩ : ∃ cm, cm = y.cs.length := ⟨_, rfl⟩
        rw [← hln] at x3
        rw [← hcn] at x6
        rw [← hlm] at y3
        rw [← hcm] at y6
        rw [← hln, ← hcn, ← hlm, ← hcm] at cx
        clear hln hcn hlm hcm
        have h2 := fun (w1 : World) (e : w1 = _) => Blk.pair (w := wr) (cs := [.int .i64 x.d.kind, .string x.d.name, .string x.d.help, .slice x.d.A ln x.d.c, .int .i64 (hiI x.t), .int .u64 (loI x.t), .slice x.CA cn x.cc, .int .u64 x.n, .float .f64 x.sm, .float .f64 x.mn, .float .f64 x.mx]) (ds := [.int .i64 y.d.kind, .string y.d.name, .string y.d.help, .slice y.d.A lm y.d.c, .int .i64 (hiI y.t), .int .u64 (loI y.t), .slice y.CA cm y.cc, .int .u64 y.n, .float .f64 y.sm, .float .f64 y.mn, .float .f64 y.mx]) (T := 49) (U := 49) (w1 := w1) e
        have hsf := fun (a : Addr) (x : Nat) (W : World) => run_store Tryz.prog W a (.float .f64 x) .plain rfl
        replace cx := Lib.hid cx
        replace hstep := Lib.hid hstep
        replace hbad := Lib.hid hbad
        replace h2 := Lib.hid h2
        go_upto_region 7 with fail
        obtain ⟨w1, hw1⟩ : ∃ w1, w1 = (wr.alloc (.cells #[.int .i64 x.d.kind, .string x.d.name, .string x.d.help, .slice x.d.A ln x.d.c, .int .i64 (hiI x.t), .int .u64 (loI x.t), .slice x.CA cn x.cc, .int .u64 x.n, .float .f64 x.sm, .float .f64 x.mn, .float .f64 x.mx] 49)).alloc (.cells #[.int .i64 y.d.kind, .string y.d.name, .string y.d.help, .slice y.d.A lm y.d.c, .int .i64 (hiI y.t), .int .u64 (loI y.t), .slice y.CA cm y.cc, .int .u64 y.n, .float .f64 y.sm, .float .f64 y.mn, .float .f64 y.mx] 49) := ⟨_, rfl⟩
        rw [← hw1]
        obtain ⟨k1, k2, hb1⟩ := h2.out w1 (by rw [hw1])
        clear hw1 h2 x0 x1 x2 x3 x4 x5 x6 x7 x8 x9 x10 y0 y1 y2 y3 y4 y5 y6 y7 y8 y9 y10 hsf
        have x0 := (k1.2 0 _ rfl).1
        have x1 := (k1.2 1 _ rfl).1
        have x2 := (k1.2 2 _ rfl).1
        have x3 := (k1.2 3 _ rfl).1
        have x4 := (k1.2 4 _ rfl).1
        have x5 := (k1.2 5 _ rfl).1
        have x6 := (k1.2 6 _ rfl).1
        have x7 := (k1.2 7 _ rfl).1
        have x8 := (k1.2 8 _ rfl).1
        have x9 := (k1.2 9 _ rfl).1
        have x10 := (k1.2 10 _ rfl).1
        have y0 := (k2.2 0 _ rfl).1
        have y1 := (k2.2 1 _ rfl).1
        have y2 := (k2.2 2 _ rfl).1
        have y3 := (k2.2 3 _ rfl).1
        have y4 := (k2.2 4 _ rfl).1
        have y5 := (k2.2 5 _ rfl).1
        have y6 := (k2.2 6 _ rfl).1
        have y7 := (k2.2 7 _ rfl).1
        have y8 := (k2.2 8 _ rfl).1
        have y9 := (k2.2 9 _ rfl).1
        have y10 := (k2.2 10 _ rfl).1
        go_wp2_with fail
        refine (cx.out _ hb1).mono ?_
        rintro e w2 ⟨rfl, hb2⟩
        clear x0 x1 x2 x3 x4 x5 x6 x7 x8 x9 x10 y0 y1 y2 y3 y4 y5 y6 y7 y8 y9 y10 k1 k2
        have hbw2 := hw.trans ((hb1.trans (hb2.mono hb1.size)).mono hw.size)
        cases r
        · obtain rfl := hbad.out rfl
          go_wp2
          go_ret
          exact ⟨rfl, hbw2⟩
        · have hst := hstep.out rfl
          go_wp2
          exact ⟨⟨i + 1, by simp, hlt, hst, hbw2⟩, by simp [natOf']; omega⟩
      · obtain rfl : i = n := by omega
        have hr : R = true := hiff.out.2 fun j x y hx hy => hpre.out j (by have := (List.getElem?_eq_some_iff.1 hx).1; rw [hn.out]; exact this) x y hx hy
        subst hr
        go_wp2
        go_ret
        exact ⟨rfl, hw⟩
  · have hr : R = false := by rw [hR]; exact sameL_len (by rw [← hn, ← hm]; exact hnm)
    subst hr
    have t1 : ((n : Int) != (m : Int)) = true := by simp; omega
    go_enter Tryz.func72, Tryz.ntmps72
    go_wp2
    go_ret
    exact ⟨rfl, Below.refl _ _⟩
theorem SAt.blk2 (a b : Ss) (w : World) {w1 : World} (e : w1 = (w.alloc (.cells #[.int .i64 a.p, .slice a.A a.vs.length a.c, .int .u64 a.r] 25)).alloc (.cells #[.int .i64 b.p, .slice b.A b.vs.length b.c, .int .u64 b.r] 25)) :
    Blk w1 w.heap.size [.int .i64 a.p, .slice a.A a.vs.length a.c, .int .u64 a.r] ∧ Blk w1 (w.heap.size + 1) [.int .i64 b.p, .slice b.A b.vs.length b.c, .int .u64 b.r] ∧ Below w.heap.size w w1 := Blk.pair (by rw [e])
set_option maxRecDepth 100000 in
set_option maxHeartbeats 2000000 in
theorem sameS_any (a b : Ss) (w : World) (ha : SAt a w w.heap.size) (hb : SAt b w w.heap.size) :
    Calls Tryz.prog 29 #[a.v, b.v] w fun e w' => e = .returned (.bool (sameS a b)) ∧ Below w.heap.size w w' := by
  have h2 := fun (w1 : World) => SAt.blk2 a b w (w1 := w1)
  have ce := fun (W : World) (k : Below w.heap.size w W) => equalFuncV_any a.vs b.vs a.A b.A a.c b.c W ((ha.vs.below k).mono k.size) ((hb.vs.below k).mono k.size) ha.len2
  have hs : sameS a b = (decide (a.p = b.p) && decide (a.r = b.r) && sameL a.vs b.vs) := rfl
  have e1 := beqI a.p b.p
  have e2 := beqI a.r b.r
  obtain ⟨R, hR⟩ : ∃ R, R = sameS a b := ⟨_, rfl⟩
  rw [← hR] at hs ⊢
  unfold Ss.v
  obtain ⟨p, A, c, vs, r⟩ := a
  obtain ⟨q, B, k, us, s⟩ := b
  dsimp only at *
  clear ha hb hR
  generalize decide (p = q) = bp at *
  generalize decide (r = s) = br at *
  generalize sameL vs us = bl at *
  generalize vs.length = n at *
  generalize us.length = m at *
  replace h2 := Lib.hid h2
  replace ce := Lib.hid ce
  replace hs := Lib.hid hs
  go_enter Tryz.func29, Tryz.ntmps29
  go_upto_region 1 with fail
  obtain ⟨w1, hw1⟩ : ∃ w1, w1 = (w.alloc (.cells #[.int .i64 p, .slice A n c, .int .u64 r] 25)).alloc (.cells #[.int .i64 q, .slice B m k, .int .u64 s] 25) := ⟨_, rfl⟩
  rw [← hw1]
  obtain ⟨k1, k2, hb1⟩ := h2.out w1 hw1
  clear hw1 h2
  have x0 := (k1.2 0 _ rfl).1
  have x1 := (k1.2 1 _ rfl).1
  have x2 := (k1.2 2 _ rfl).1
  have y0 := (k2.2 0 _ rfl).1
  have y1 := (k2.2 1 _ rfl).1
  have y2 := (k2.2 2 _ rfl).1
  cases bp
  · obtain rfl : R = false := by rw [hs.out]; rfl
    go_wp2
    go_ret
    exact ⟨rfl, hb1⟩
  cases br
  · obtain rfl : R = false := by rw [hs.out]; rfl
    go_wp2
    go_ret
    exact ⟨rfl, hb1⟩
  obtain rfl : R = bl := by rw [hs.out]; rfl
  go_wp2_with fail
  refine (ce.out _ hb1).mono ?_
  rintro e w2 ⟨rfl, hb2⟩
  go_wp2
  go_ret
  exact ⟨rfl, hb1.trans (hb2.mono hb1.size)⟩
set_option maxRecDepth 100000 in
set_option maxHeartbeats 2000000 in
theorem rsameS_any (a b : Ss) (w : World) (ha : SAt a w w.heap.size) (hb : SAt b w w.heap.size) :
    Calls Tryz.prog 17 #[a.v, b.v] w fun e w' => e = .returned (.bool (sameS a b)) ∧ Below w.heap.size w w' := by
  have h2 := fun (w1 : World) => SAt.blk2 a b w (w1 := w1)
  have hs : sameS a b = (decide (a.p = b.p) && decide (a.r = b.r) && sameL a.vs b.vs) := rfl
  have e1 : (a.p != b.p) = !decide (a.p = b.p) := by rw [bne, beqI]
  have e2 : (a.r != b.r) = !decide (a.r = b.r) := by rw [bne, beqI]
  have hav := ha.vs
  have hbv := hb.vs
  have hla := ha.len2
  obtain ⟨R, hR⟩ : ∃ R, R = sameS a b := ⟨_, rfl⟩
  rw [← hR] at hs ⊢
  unfold Ss.v
  obtain ⟨p, A, c, xs, r⟩ := a
  obtain ⟨q, B, k, ys, s⟩ := b
  dsimp only at *
  clear ha hb hR
  obtain ⟨n, hn⟩ : ∃ n, n = xs.length := ⟨_, rfl⟩
  obtain ⟨m, hm⟩ : ∃ m, m = ys.length := ⟨_, rfl⟩
  rw [← hn] at hla h2 ⊢
  rw [← hm] at h2 ⊢
  have hlaI : (n : Int) ≤ 140737488355328 := by omega
  have hne : n ≠ m → sameL xs ys = false := fun e => sameL_len (by rw [← hn, ← hm]; exact e)
  have hiff : n = m → (sameL xs ys = true ↔ ∀ (i : Nat) (x y : Vv), xs[i]? = some x → ys[i]? = some y → sameV x y = true) := fun e => sameL_iff (by rw [← hn, ← hm]; exact e)
  clear hla
  generalize decide (p = q) = bp at *
  generalize decide (r = s) = br at *
  generalize sameL xs ys = bl at *
  replace h2 := Lib.hid h2
  replace hs := Lib.hid hs
  replace hn := Lib.hid hn
  replace hm := Lib.hid hm
  replace hav := Lib.hid hav
  replace hbv := Lib.hid hbv
  replace hne := Lib.hid hne
  replace hiff := Lib.hid hiff
  go_enter Tryz.func17, Tryz.ntmps17
  go_upto_region 1 with fail
  obtain ⟨w1, hw1⟩ : ∃ w1, w1 = (w.alloc (.cells #[.int .i64 p, .slice A n c, .int .u64 r] 25)).alloc (.cells #[.int .i64 q, .slice B m k, .int .u64 s] 25) := ⟨_, rfl⟩
  rw [← hw1]
  obtain ⟨k1, k2, hb1⟩ := h2.out w1 hw1
  clear hw1 h2
  have x0 := (k1.2 0 _ rfl).1
  have x1 := (k1.2 1 _ rfl).1
  have x2 := (k1.2 2 _ rfl).1
  have y0 := (k2.2 0 _ rfl).1
  have y1 := (k2.2 1 _ rfl).1
  have y2 := (k2.2 2 _ rfl).1
  cases bp
  · obtain rfl : R = false := by rw [hs.out]; rfl
    go_wp2
    go_ret
    exact ⟨rfl, hb1⟩
  cases br
  · obtain rfl : R = false := by rw [hs.out]; rfl
    go_wp2
    go_ret
    exact ⟨rfl, hb1⟩
  obtain rfl : R = bl := by rw [hs.out]; rfl
  by_cases hnm : n = m
  · obtain rfl := hnm
    have t1 : ((n : Int) != (n : Int)) = false := by simp
    go_wp2
    clear x0 x1 x2 y0 y1 y2
    go_loopw [5] (fun v wr => ∃ i : Nat, v = .int .i64 (i : Int) ∧ i ≤ n ∧ Hid (∀ j, j < i → ∀ x y, xs[j]? = some x → ys[j]? = some y → sameV x y = true) ∧ Below w1.heap.size w1 wr) (fun v _ => n - (intOf v).toNat)
    case atStart => exact ⟨0, rfl, Nat.zero_le _, Lib.hid (fun j hj => absurd hj (by omega)), Below.refl _ _⟩
    case round =>
      obtain ⟨i, rfl, hi, hpre, hbr⟩ := hrel
      have m1 := k1.later hbr
      have m2 := k2.later hbr
      have u1 := (m1.2 1 _ rfl).1
      have v1 := (m2.2 1 _ rfl).1
      have hw : Below w.heap.size w wr := hb1.trans (hbr.mono hb1.size)
      have hl1 := m1.1
      have hl2 := m2.1
      by_cases hlt : i < n
      · have hil : i < xs.length := by rw [← hn.out]; exact hlt
        have him : i < ys.length := by rw [← hm.out]; exact hlt
        obtain ⟨b, off, hA, hbB, x0, x1, x2, x3, x4, x5, x6, x7, x8, x9, x10⟩ := (hav.out.below hw).cells i hil
        obtain ⟨b2, off2, hB, hbB2, y0, y1, y2, y3, y4, y5, y6, y7, y8, y9, y10⟩ := (hbv.out.below hw).cells i him
        obtain ⟨x, hx⟩ : ∃ v, v = xs[i] := ⟨_, rfl⟩
        obtain ⟨y, hy⟩ : ∃ v, v = ys[i] := ⟨_, rfl⟩
        have vx : VAt x wr wr.heap.size := by rw [hx]; exact ((hav.out.all _ (List.getElem_mem hil)).below hw).mono hw.size
        have vy : VAt y wr wr.heap.size := by rw [hy]; exact ((hbv.out.all _ (List.getElem_mem him)).below hw).mono hw.size
        have cx := fun (W : World) (k : Below wr.heap.size wr W) => rsameV_any x y W ((vx.below k).mono k.size) ((vy.below k).mono k.size)
        rw [← hx] at x0 x1 x2 x3 x4 x5 x6 x7 x8 x9 x10
        rw [← hy] at y0 y1 y2 y3 y4 y5 y6 y7 y8 y9 y10
        have hstep := sameL_step hil him hpre
        rw [← hx, ← hy] at hstep
        have hbad : sameV x y = false → R = false := fun e => by
          cases hRR : R
          · rfl
          · have := (hiff.out (by first | rfl | trivial)).1 hRR i x y (by rw [hx]; exact List.getElem?_eq_getElem hil) (by rw [hy]; exact List.getElem?_eq_getElem him)
            rw [e] at this; cases this
        subst hA hB
        have g1 : (i : Int) < (n : Int) := by omega
        have g0 : (0 : Int) ≤ (i : Int) := by omega
        have hbw : b < wr.heap.size := by have := hw.size; omega
        have hbw2 : b2 < wr.heap.size := by have := hw.size; omega
        unfold Vv.v at cx
        clear hx hy vx vy hil him
        generalize sameV x y = rr at *
        obtain ⟨ln, hln⟩ : ∃ ln, ln = x.d.l.length := ⟨_, rfl⟩
        obtain ⟨cn, hcn⟩ : ∃ cn, cn = x.cs.length := ⟨_, rfl⟩
        obtain ⟨lm, hlm⟩ : ∃ lm, lm = y.d.l.length := ⟨_, rfl⟩
        obtain ⟨cm, hcm⟩ : ∃ cm, cm = y.cs.length := ⟨_, rfl⟩
        rw [← hln] at x3
        rw [← hcn] at x6
        rw [← hlm] at y3
        rw [← hcm] at y6
        rw [← hln, ← hcn, ← hlm, ← hcm] at cx
        clear hln hcn hlm hcm
        replace cx := Lib.hid cx
        replace hstep := Lib.hid hstep
        replace hbad := Lib.hid hbad
        go_upto_region 6 with fail
        refine Reg.region_below (by kernel_rfl) (by kernel_rfl) ?_
        intro S _ f hf hs
        replace u1 := Reg.keepc hf hl1 u1
        replace v1 := Reg.keepc hf hl2 v1
        replace x0 := Reg.keepc hf hbw x0
        replace x1 := Reg.keepc hf hbw x1
        replace x2 := Reg.keepc hf hbw x2
        replace x3 := Reg.keepc hf hbw x3
        replace x4 := Reg.keepc hf hbw x4
        replace x5 := Reg.keepc hf hbw x5
        replace x6 := Reg.keepc hf hbw x6
        replace x7 := Reg.keepc hf hbw x7
        replace x8 := Reg.keepc hf hbw x8
        replace x9 := Reg.keepc hf hbw x9
        replace x10 := Reg.keepc hf hbw x10
        replace y0 := Reg.keepc hf hbw2 y0
        replace y1 := Reg.keepc hf hbw2 y1
        replace y2 := Reg.keepc hf hbw2 y2
        replace y3 := Reg.keepc hf hbw2 y3
        replace y4 := Reg.keepc hf hbw2 y4
        replace y5 := Reg.keepc hf hbw2 y5
        replace y6 := Reg.keepc hf hbw2 y6
        replace y7 := Reg.keepc hf hbw2 y7
        replace y8 := Reg.keepc hf hbw2 y8
        replace y9 := Reg.keepc hf hbw2 y9
        replace y10 := Reg.keepc hf hbw2 y10
        repeat (go_big_quiet_step ((go_at_call 26; with_reducible exact Reg.met hs (cx.out _ (hf _)))))
        refine wpQuiet_nil ?_
        intro t
        have hb3 := hf t
        obtain ⟨w3, hw3⟩ : ∃ w3, w3 = f t := ⟨_, rfl⟩
        rw [← hw3] at hb3 ⊢
        clear hw3 hs hf x0 x1 x2 x3 x4 x5 x6 x7 x8 x9 x10 y0 y1 y2 y3 y4 y5 y6 y7 y8 y9 y10 u1 v1
        have hbr3 := hbr.trans (hb3.mono hbr.size)
        cases rr
        · obtain rfl := hbad.out rfl
          go_wp2
          go_ret
          exact ⟨rfl, hw.trans (hb3.mono hw.size)⟩
        · have hst := hstep.out rfl
          go_wp2
          exact ⟨⟨i + 1, by go_num, hlt, hst, hbr3⟩, by simp [intOf]; omega⟩
      · obtain rfl : i = n := by omega
        have hr : R = true := (hiff.out (by first | rfl | trivial)).2 fun j x y hx hy => hpre.out j (by have := (List.getElem?_eq_some_iff.1 hx).1; rw [hn.out]; exact this) x y hx hy
        subst hr
        go_wp2
        go_ret
        exact ⟨rfl, hw⟩
  · have t1 : ((n : Int) != (m : Int)) = true := by simp; omega
    obtain rfl := hne.out hnm
    go_wp2
    go_ret
    exact ⟨rfl, hb1⟩
end Go.Proofs.YtpiegngjpnpohaaGreat.Sn

namespace Go.Proofs.YtpiegngjpnpohaaGreat.Sn
open Go.RowKit Go.Proofs.YtpiegngjpnpohaaGreat.La Go.Proofs.YtpiegngjpnpohaaGreat.Sl Go.Proofs.YtpiegngjpnpohaaGreat.Ck Go.Proofs.YtpiegngjpnpohaaGreat.Rc Go.Proofs.YtpiegngjpnpohaaGreat.Rk Go.Proofs.YtpiegngjpnpohaaGreat.Wi Go.Proofs.YtpiegngjpnpohaaGreat.Fb Go.Proofs.YtpiegngjpnpohaaGreat.Mg Go.Proofs.YtpiegngjpnpohaaGreat.St Go.Proofs.YtpiegngjpnpohaaGreat.Bk
set_option linter.unusedVariables false
theorem chk_one (n : Int) (hn : 0 ≤ n) : chkS 2 [cV n] = (0, 0) := by
  have h1 : (chkS 2 [cV n]).1 = 0 := by
    rw [chkS_ok]
    refine ⟨by unfold good; decide, (show 1 ≤ 256 by decide), ⟨fun v hv => ?_, List.pairwise_singleton _ _⟩⟩
    rw [List.mem_singleton] at hv
    subst hv
    refine ⟨?_, ?_⟩
    · show chkD ⟨1, ⟨#[99]⟩, ⟨#[]⟩, none, 0, []⟩ = 0
      decide
    · unfold holdB
      rw [if_pos (show (cV n).d.kind = 1 from rfl)]
      simp only [Bool.and_eq_true, decide_eq_true_eq]
      exact ⟨⟨⟨rfl, rfl⟩, by show (zeroF 0 && zeroF 0 && zeroF 0) = true; decide⟩, hn⟩
  have h2 := chkS_snd h1
  exact Prod.ext h1 h2
theorem cmp_cV (a b : Int) : cmpD (cV a).d (cV b).d = 0 := (cmpD_zero _ _).2 ⟨rfl, rfl⟩
theorem mz_one (a b : Int) : mz [cV a] [cV b] = [(some (cV a), some (cV b))] := by
  rw [mz_both (cmp_cV a b), mz_nilL]; rfl
theorem unl_one (a b : Int) : unlikeB [cV a] [cV b] = false := by
  unfold unlikeB badV alD cV
  simp
theorem twoE_one : twoE (cV 5).c (cV 6).c = 0 := by decide
theorem mrgE_one {s t : Ss} (hs : s.p = 2 ∧ s.vs = [cV 5] ∧ s.r = 0) (ht : t.p = 2 ∧ t.vs = [cV 6] ∧ t.r = 0) : mrgE s t = 0 := by
  unfold mrgE
  rw [hs.1, hs.2.1, hs.2.2, ht.1, ht.2.1, ht.2.2, chk_one 5 (by decide), chk_one 6 (by decide), unl_one, mz_one]
  have hf : firstE [(some (cV 5), some (cV 6))] = 0 := by
    have e : errP (some (cV 5), some (cV 6)) = 0 := twoE_one
    unfold firstE
    rw [e]; rfl
  rw [hf]
  decide
theorem mrgC_one {s t m : Ss} (hs : s.p = 2 ∧ s.vs = [cV 5] ∧ s.r = 0) (ht : t.p = 2 ∧ t.vs = [cV 6] ∧ t.r = 0) (h : MrgC s t m) : m.p = 2 ∧ m.r = 0 ∧ ∃ v, m.vs = [v] ∧ v.c = ⟨1, ⟨#[99]⟩, ⟨#[]⟩, [], 11, [], 0, 0, 0, 0⟩ := by
  obtain ⟨h1, h2, h3⟩ := h.2 (mrgE_one hs ht)
  rw [hs.2.1, ht.2.1, mz_one] at h3
  rw [hs.1] at h1
  rw [hs.2.2, ht.2.2] at h2
  refine ⟨h1, by rw [h2]; decide, ?_⟩
  match hm : m.vs with
  | [] => rw [hm] at h3; simp at h3
  | [v] =>
    rw [hm] at h3
    refine ⟨v, rfl, ?_⟩
    simp only [List.map_cons, List.map_nil, List.cons.injEq, and_true] at h3
    rw [h3]
    have eo : outP (some (cV 5), some (cV 6)) = twoC (cV 5).c (cV 6).c := rfl
    rw [eo]
    unfold twoC
    have e : mrg ((cV 5).c.cs ++ (cV 6).c.cs) = [] := mrg_self (l := []) List.Pairwise.nil (by simp) (by intro c hc; cases hc)
    rw [e]
    rfl
  | u :: v :: r => rw [hm] at h3; simp at h3
theorem same_one {m t : Ss} {v : Vv} {n : Int} (hm : m.p = 2 ∧ m.r = 0 ∧ m.vs = [v]) (hv : v.c = ⟨1, ⟨#[99]⟩, ⟨#[]⟩, [], 11, [], 0, 0, 0, 0⟩) (ht : t.p = 2 ∧ t.vs = [cV n] ∧ t.r = 0) : sameS m t = decide (n = 11) := by
  have e1 : v.d.kind = 1 := congrArg Cv.kind hv
  have e2 : v.d.name = ⟨#[99]⟩ := congrArg Cv.name hv
  have e3 : v.d.help = ⟨#[]⟩ := congrArg Cv.help hv
  have e4 : v.d.l = [] := congrArg Cv.l hv
  have e5 : v.t = 11 := congrArg Cv.t hv
  have e6 : v.cs = [] := congrArg Cv.cs hv
  have e7 : v.n = 0 := congrArg Cv.n hv
  have e8 : v.sm = 0 := congrArg Cv.sm hv
  have e9 : v.mn = 0 := congrArg Cv.mn hv
  have e10 : v.mx = 0 := congrArg Cv.mx hv
  unfold sameS
  rw [hm.1, hm.2.1, hm.2.2, ht.1, ht.2.1, ht.2.2]
  unfold sameL sameL sameV sameD sameFl cV
  dsimp only
  rw [e1, e2, e3, e4, e5, e6, e7, e8, e9, e10]
  rw [Bool.eq_iff_iff]
  simp
  exact eq_comm
theorem find_one {v : Vv} (hv : v.c = ⟨1, ⟨#[99]⟩, ⟨#[]⟩, [], 11, [], 0, 0, 0, 0⟩) : findV [v] ⟨#[99]⟩ [] = some v ∧ findV [v] ⟨#[100]⟩ [] = none := by
  have e2 : v.d.name = ⟨#[99]⟩ := congrArg Cv.name hv
  have e4 : v.d.l = [] := congrArg Cv.l hv
  unfold findV isF
  simp only [List.find?_cons, e2, e4]
  exact ⟨rfl, rfl⟩
end Go.Proofs.YtpiegngjpnpohaaGreat.Sn

namespace Go.Proofs.YtpiegngjpnpohaaGreat.Sn
open Go.RowKit Go.Proofs.YtpiegngjpnpohaaGreat.La Go.Proofs.YtpiegngjpnpohaaGreat.Sl Go.Proofs.YtpiegngjpnpohaaGreat.Ck Go.Proofs.YtpiegngjpnpohaaGreat.Rc Go.Proofs.YtpiegngjpnpohaaGreat.Rk Go.Proofs.YtpiegngjpnpohaaGreat.Wi Go.Proofs.YtpiegngjpnpohaaGreat.Fb Go.Proofs.YtpiegngjpnpohaaGreat.Mg Go.Proofs.YtpiegngjpnpohaaGreat.St
set_option linter.unusedVariables false
theorem q_nil (nm : ByteArray) (hn : nm.size ≤ 9223372036854775807) (w : World) (B : Nat) : QAt nm none 0 [] w B := ⟨⟨rfl, fun h => absurd h (by decide)⟩, Nat.le_refl _, by decide, by decide, hn, (by intro x hx; cases hx)⟩
theorem loI11 {v : Vv} (hv : v.c = ⟨1, ⟨#[99]⟩, ⟨#[]⟩, [], 11, [], 0, 0, 0, 0⟩) : loI v.t = 11 := by
  rw [show v.t = 11 from congrArg Cv.t hv]; decide
set_option maxRecDepth 100000 in
set_option maxHeartbeats 2000000 in
theorem fixed_any (w : World) :
    Calls Tryz.prog 14 #[] w fun e w' => e = .returned (.bool true) ∧ Below w.heap.size w w' := by
  have c5 := fun W => one_any 5 (by decide) W
  have c6 := fun W => one_any 6 (by decide) W
  have hsf := fun (a : Addr) (x : Nat) (W : World) => run_store Tryz.prog W a (.float .f64 x) .plain rfl
  unfold Ss.v at c5 c6
  go_enter Tryz.func14, Tryz.ntmps14
  go_wp2_with fail
  refine (c5 _).mono ?_
  rintro e w1 ⟨s1, rfl, h1, hb1⟩
  have ck := check_any s1 w1 h1.at_
  rw [h1.p, h1.vs, chk_one 5 (by decide)] at ck
  have hv1 : s1.v = .agg #[.int .i64 2, .slice s1.A 1 s1.c, .int .u64 0] := by unfold Ss.v; rw [h1.p, h1.vs, h1.r]; rfl
  have hp1 := h1.p
  have hr1 := h1.r
  have hl1 : s1.vs.length = 1 := by rw [h1.vs]; rfl
  rw [hv1] at ck
  rw [hp1, hr1, hl1]
  replace h1 := Lib.hid h1
  clear hv1 hp1 hr1 hl1
  go_wp2_with fail
  refine ck.mono ?_
  rintro e w2 ⟨rfl, hb2⟩
  clear ck
  go_wp2_with fail
  refine (c5 _).mono ?_
  rintro e w3 ⟨s3, rfl, h3, hb3⟩
  go_wp2_with fail
  refine (c6 _).mono ?_
  rintro e w4 ⟨s4, rfl, h4, hb4⟩
  have a3 := (h3.below hb4).mono hb4.size
  have cm := merge_any' s3 s4 w4 a3.at_ h4.at_
  have hE := mrgE_one ⟨h3.p, h3.vs, h3.r⟩ ⟨h4.p, h4.vs, h4.r⟩
  have hMC := fun m => mrgC_one (m := m) ⟨h3.p, h3.vs, h3.r⟩ ⟨h4.p, h4.vs, h4.r⟩
  unfold MrgP at cm
  rw [hE] at cm
  unfold Ss.v at cm
  replace h3 := Lib.hid h3
  replace h4 := Lib.hid h4
  replace a3 := Lib.hid a3
  replace hMC := Lib.hid hMC
  replace cm := Lib.hid cm
  clear hE
  go_wp2_with fail
  refine cm.out.mono ?_
  rintro e w5 ⟨hb5, m, rfl, hma, hmo, hmc⟩
  obtain ⟨p1, r1, v, v1, hv⟩ := hMC.out m hmc
  have hl : m.vs.length = 1 := by rw [v1]; rfl
  have hmv : m.v = .agg #[.int .i64 2, .slice m.A 1 m.c, .int .u64 0] := by unfold Ss.v; rw [p1, r1, hl]
  have hbb : ∀ u ∈ m.vs, u.d.l.length ≤ 4398046511104 ∧ u.cs.length ≤ 8796093022208 := fun u hu => by
    rw [v1, List.mem_singleton] at hu
    subst hu
    rw [show u.d.l = [] from congrArg Cv.l hv, show u.cs = [] from congrArg Cv.cs hv]
    decide
  have cf := fun (W : World) (k : Below w5.heap.size w5 W) => find_any m ⟨#[99]⟩ none 0 [] W ((hma.below k).mono k.size) (q_nil _ (by decide) _ _) hbb
  have cg := fun (W : World) (k : Below w5.heap.size w5 W) => find_any m ⟨#[100]⟩ none 0 [] W ((hma.below k).mono k.size) (q_nil _ (by decide) _ _) hbb
  rw [v1, (find_one hv).1, hmv] at cf
  rw [v1, (find_one hv).2, hmv] at cg
  have csm := fun (W : World) (n : Int) (s : Ss) (k : Below w5.heap.size w5 W) (h : OneAt n s W W.heap.size) => sameS_any m s W ((hma.below k).mono k.size) h.at_
  have cs11 : ∀ (W : World) (s : Ss), Below w5.heap.size w5 W → OneAt 11 s W W.heap.size → Calls Tryz.prog 29 #[.agg #[.int .i64 2, .slice m.A 1 m.c, .int .u64 0], s.v] W fun e w' => e = .returned (.bool true) ∧ Below W.heap.size W w' := fun W s k h => by
    have := csm W 11 s k h
    rw [same_one ⟨p1, r1, v1⟩ hv ⟨h.p, h.vs, h.r⟩, hmv] at this
    exact this
  have cs10 : ∀ (W : World) (s : Ss), Below w5.heap.size w5 W → OneAt 10 s W W.heap.size → Calls Tryz.prog 29 #[.agg #[.int .i64 2, .slice m.A 1 m.c, .int .u64 0], s.v] W fun e w' => e = .returned (.bool false) ∧ Below W.heap.size W w' := fun W s k h => by
    have := csm W 10 s k h
    rw [same_one ⟨p1, r1, v1⟩ hv ⟨h.p, h.vs, h.r⟩, hmv] at this
    exact this
  have cf' : ∀ (W : World), Below w5.heap.size w5 W → Calls Tryz.prog 24 #[.agg #[.int .i64 2, .slice m.A 1 m.c, .int .u64 0], .string ⟨#[99]⟩, .slice none 0 0] W fun e w' => ∃ u : Vv, e = .returned (.tuple #[u.v, .int .i64 0]) ∧ Below W.heap.size W w' ∧ loI u.t = 11 := fun W k => (cf W k).mono fun e w' ⟨hb, u, he, _, _, hc⟩ => ⟨u, he, hb, loI11 (hc.trans hv)⟩
  have cg' : ∀ (W : World), Below w5.heap.size w5 W → Calls Tryz.prog 24 #[.agg #[.int .i64 2, .slice m.A 1 m.c, .int .u64 0], .string ⟨#[100]⟩, .slice none 0 0] W fun e w' => ∃ u : Vv, e = .returned (.tuple #[u.v, .int .i64 6]) ∧ Below W.heap.size W w' := fun W k => (cg W k).mono fun e w' ⟨hb, u, he, _, _, hc⟩ => ⟨u, he, hb⟩
  have cz := fun (W : World) => check_any zeroS W (zeroS_at _ _)
  rw [zeroS_v, show chkS zeroS.p zeroS.vs = (1, 0) from rfl] at cz
  have hbw5 : Below w.heap.size w w5 := hb1.trans ((hb2.trans ((hb3.trans ((hb4.trans (hb5.mono hb4.size)).mono hb3.size)).mono hb2.size)).mono hb1.size)
  rw [p1, r1, hl]
  have hnew := Blk.new w5 [.int .i64 2, .slice m.A 1 m.c, .int .u64 0] 25
  unfold Vv.v at cf' cg'
  replace cf' := Lib.hid cf'
  replace cg' := Lib.hid cg'
  replace cs11 := Lib.hid cs11
  replace cs10 := Lib.hid cs10
  replace hma := Lib.hid hma
  clear hmo hmc hMC hmv hl hbb cf cg csm cm a3 h3 h4 hv v1 p1 r1 hb1 hb2 hb3 hb4 hb5 h1 c5 c6
  go_upto_region 3 with fail
  obtain ⟨w6, hw6⟩ : ∃ w6, w6 = w5.alloc (.cells #[.int .i64 2, .slice m.A 1 m.c, .int .u64 0] 25) := ⟨_, rfl⟩
  have k6 : Blk w6 w5.heap.size [.int .i64 2, .slice m.A 1 m.c, .int .u64 0] := by rw [hw6]; exact hnew
  have hb6 : Below w5.heap.size w5 w6 := by rw [hw6]; exact (Below.refl _ _).alloc (Nat.le_refl _) _
  rw [← hw6]
  clear hw6 hnew
  have x0 := (k6.2 0 _ rfl).1
  have x1 := (k6.2 1 _ rfl).1
  have x2 := (k6.2 2 _ rfl).1
  go_wp2_with fail
  refine (cf'.out _ hb6).mono ?_
  rintro e w7 ⟨u, rfl, hb7, hu⟩
  clear x0 x1 x2 cf'
  have hnew := Blk.new w7 u.row 49
  unfold Vv.row at hnew
  replace hu := Lib.hid hu
  go_upto_region 4 with fail
  obtain ⟨w8, hw8⟩ : ∃ w8, w8 = w7.alloc (.cells #[.int .i64 u.d.kind, .string u.d.name, .string u.d.help, .slice u.d.A u.d.l.length u.d.c, .int .i64 (hiI u.t), .int .u64 (loI u.t), .slice u.CA u.cs.length u.cc, .int .u64 u.n, .float .f64 u.sm, .float .f64 u.mn, .float .f64 u.mx] 49) := ⟨_, rfl⟩
  have k8 : Blk w8 w7.heap.size [.int .i64 u.d.kind, .string u.d.name, .string u.d.help, .slice u.d.A u.d.l.length u.d.c, .int .i64 (hiI u.t), .int .u64 (loI u.t), .slice u.CA u.cs.length u.cc, .int .u64 u.n, .float .f64 u.sm, .float .f64 u.mn, .float .f64 u.mx] := by rw [hw8]; exact hnew
  have hb8 : Below w7.heap.size w7 w8 := by rw [hw8]; exact (Below.refl _ _).alloc (Nat.le_refl _) _
  rw [← hw8]
  clear hw8 hnew
  have hb68 := hb7.trans (hb8.mono hb7.size)
  have k6b := k6.later hb68
  have x0 := (k6b.2 0 _ rfl).1
  have x1 := (k6b.2 1 _ rfl).1
  have x2 := (k6b.2 2 _ rfl).1
  have hb58 := hb6.trans (hb68.mono hb6.size)
  go_wp2_with fail
  refine (cg'.out _ hb58).mono ?_
  rintro e w9 ⟨u2, rfl, hb9⟩
  clear x0 x1 x2 cg'
  go_upto_region 5 with fail
  obtain ⟨wa, hwa⟩ : ∃ wa, wa = w9.alloc (.cells #[.int .i64 u2.d.kind, .string u2.d.name, .string u2.d.help, .slice u2.d.A u2.d.l.length u2.d.c, .int .i64 (hiI u2.t), .int .u64 (loI u2.t), .slice u2.CA u2.cs.length u2.cc, .int .u64 u2.n, .float .f64 u2.sm, .float .f64 u2.mn, .float .f64 u2.mx] 49) := ⟨_, rfl⟩
  have hba : Below w9.heap.size w9 wa := by rw [hwa]; exact (Below.refl _ _).alloc (Nat.le_refl _) _
  rw [← hwa]
  clear hwa
  go_wp2_with fail
  refine (cz _).mono ?_
  rintro e wb ⟨rfl, hbb⟩
  have hb8b := hb9.trans ((hba.trans (hbb.mono hba.size)).mono hb9.size)
  have hb5b := hb58.trans (hb8b.mono hb58.size)
  have k6c := k6b.later hb8b
  have k8c := k8.later hb8b
  have y0 := (k6c.2 0 _ rfl).1
  have y1 := (k6c.2 1 _ rfl).1
  have y2 := (k6c.2 2 _ rfl).1
  have z5 := (k8c.2 5 _ rfl).1
  rw [hu.out] at z5
  have hl6 := k6c.1
  have hl8 := k8c.1
  clear cz
  have hS : ∀ Wx, Below wb.heap.size wb Wx → (Wx.cell? ⟨w5.heap.size, 0, none⟩ = some (.int .i64 2) ∧ Wx.cell? ⟨w5.heap.size, 1, none⟩ = some (.slice m.A 1 m.c) ∧ Wx.cell? ⟨w5.heap.size, 2, none⟩ = some (.int .u64 0) ∧ Wx.cell? ⟨w7.heap.size, 5, none⟩ = some (.int .u64 11)) := fun Wx hb => ⟨kc hb hl6 y0, kc hb hl6 y1, kc hb hl6 y2, kc hb hl8 z5⟩
  have cs11' : ∀ (W : World) (s : Ss), Below wb.heap.size wb W → OneAt 11 s W W.heap.size → Calls Tryz.prog 29 #[.agg #[.int .i64 2, .slice m.A 1 m.c, .int .u64 0], s.v] W fun e w' => e = .returned (.bool true) ∧ Below wb.heap.size wb w' := fun W s k h => (cs11.out W s (hb5b.trans (k.mono hb5b.size)) h).mono fun e w' ⟨he, hb⟩ => ⟨he, k.trans (hb.mono k.size)⟩
  have cs10' : ∀ (W : World) (s : Ss), Below wb.heap.size wb W → OneAt 10 s W W.heap.size → Calls Tryz.prog 29 #[.agg #[.int .i64 2, .slice m.A 1 m.c, .int .u64 0], s.v] W fun e w' => e = .returned (.bool false) ∧ Below wb.heap.size wb w' := fun W s k h => (cs10.out W s (hb5b.trans (k.mono hb5b.size)) h).mono fun e w' ⟨he, hb⟩ => ⟨he, k.trans (hb.mono k.size)⟩
  have co11 : ∀ (W : World), Below wb.heap.size wb W → Calls Tryz.prog 52 #[.int .u64 11] W fun e w' => ∃ s : Ss, e = .returned s.v ∧ OneAt 11 s w' w'.heap.size ∧ Below wb.heap.size wb w' := fun W k => (one_any 11 (by decide) W).mono fun e w' ⟨s, he, ho, hb⟩ => ⟨s, he, ho, k.trans (hb.mono k.size)⟩
  have co10 : ∀ (W : World), Below wb.heap.size wb W → Calls Tryz.prog 52 #[.int .u64 10] W fun e w' => ∃ s : Ss, e = .returned s.v ∧ OneAt 10 s w' w'.heap.size ∧ Below wb.heap.size wb w' := fun W k => (one_any 10 (by decide) W).mono fun e w' ⟨s, he, ho, hb⟩ => ⟨s, he, ho, k.trans (hb.mono k.size)⟩
  have hbw : Below w.heap.size w wb := hbw5.trans (hb5b.mono hbw5.size)
  have hd0 : Below wb.heap.size wb wb.drew := below_drewN (Below.refl _ _) 1
  replace hS := Lib.hid hS
  replace cs11' := Lib.hid cs11'
  replace cs10' := Lib.hid cs10'
  replace co11 := Lib.hid co11
  replace co10 := Lib.hid co10
  clear cs11 cs10 k6 k6b k6c k8 k8c hb6 hb7 hb8 hb68 hb58 hb9 hba hbb hb8b hb5b hbw5
  go_upto_region 6 with fail
  go_region_held3 (fun Wx => Wx.cell? ⟨w5.heap.size, 0, none⟩ = some (.int .i64 2) ∧ Wx.cell? ⟨w5.heap.size, 1, none⟩ = some (.slice m.A 1 m.c) ∧ Wx.cell? ⟨w5.heap.size, 2, none⟩ = some (.int .u64 0) ∧ Wx.cell? ⟨w7.heap.size, 5, none⟩ = some (.int .u64 11))
    (with_reducible exact hS.out _ (by assumption))
    (first | (go_at_call 52; refine (co11.out _ (by assumption)).mono ?_; rintro e W1 ⟨s11, rfl, ho11, hbW1⟩) | (go_at_call 52; refine (co10.out _ (by assumption)).mono ?_; rintro e W3 ⟨s10, rfl, ho10, hbW3⟩) | (go_at_call 29; refine (cs11'.out _ _ (by assumption) (by assumption)).mono ?_; rintro e W2 ⟨rfl, hbW2⟩) | (go_at_call 29; refine (cs10'.out _ _ (by assumption) (by assumption)).mono ?_; rintro e W4 ⟨rfl, hbW4⟩))
  all_goals
    go_wp2_with fail
    go_ret
    exact ⟨rfl, hbw.trans (hbW4.mono hbw.size)⟩
end Go.Proofs.YtpiegngjpnpohaaGreat.Sn

namespace Go.Proofs.YtpiegngjpnpohaaGreat.Ao
open Go.RowKit Go.ChangeShapes Go.WideShapes Go.Deep Go.Proofs.YtpiegngjpnpohaaGreat.Rk
set_option linter.unusedVariables false
set_option maxRecDepth 100000
section
variable {H : Type} {enc : TypeId × Value → H} {W : World} {base : Nat} {spare : Nat → Bool} {held : Bool}
theorem pick_all {α : Type} {p : Nat → α → Prop} : ∀ n, (∀ i, i < n → ∃ x, p i x) → ∃ l : List α, l.length = n ∧ ∀ i (h : i < l.length), p i l[i]
  | 0, _ => ⟨[], rfl, fun i h => absurd h (by simp)⟩
  | n + 1, hp => by
    obtain ⟨l, hl, h⟩ := pick_all n (fun i hi => hp i (by omega))
    obtain ⟨x, hx⟩ := hp n (by omega)
    refine ⟨l ++ [x], by simp [hl], fun i hi => ?_⟩
    by_cases hi' : i < l.length
    · rw [List.getElem_append_left hi']; exact h i hi'
    · have hi2 : i = l.length := by simp at hi; omega
      subst hi2
      simp [hl, hx]
theorem add_plain (b o k : Nat) : (⟨b, o, none⟩ : Addr).add k = ⟨b, o + k, none⟩ := by
  unfold Addr.add
  by_cases h : k = 0
  · simp [h]
  · simp [h]
def cntD {H : Type} (x : Int × Int) : DataW H := .agg [.lit (.int .i64 x.1), .lit (.int .u64 x.2)]
theorem one_cnt {m : Nat} {cs : List Value} {y : DataW H × List MemPlace} (h : DataW.trod enc Tryz.prog W base spare held m 54 cs = some y) :
    ∃ x : Int × Int, cs = [.int .i64 x.1, .int .u64 x.2] ∧ okC x ∧ y.1 = cntD x := by
  obtain ⟨y0, y1, n, hy, hl, h0, h1⟩ := trod_struct2 Tryz.underlying54 h
  have hl2 : cs.length = 2 := hl.trans (by kernel_rfl)
  match cs, hl2 with
  | [c0, c1], _ =>
    obtain ⟨a, e0, z0, b0⟩ := DataW.trod_int (k := .i64) (by kernel_rfl) (show DataW.trod enc Tryz.prog W base spare held n _ [c0] = some y0 from h0)
    obtain ⟨b, e1, z1, b1⟩ := DataW.trod_int (k := .u64) (by kernel_rfl) (show DataW.trod enc Tryz.prog W base spare held n _ [c1] = some y1 from h1)
    obtain rfl : c0 = .int .i64 a := by simpa using e0
    obtain rfl : c1 = .int .u64 b := by simpa using e1
    have := bounds_i64 b0
    have := bounds_u64 b1
    exact ⟨(a, b), rfl, by unfold okC; simp only; omega, by rw [hy, z0, z1]; rfl⟩
theorem cnts_open {m : Nat} {c : Value} {y : DataW H × List MemPlace} (h : DataW.trod enc Tryz.prog W base spare held m 46 [c] = some y) :
    ∃ (A : Option Addr) (cap : Nat) (l : List (Int × Int)), c = .slice A l.length cap ∧ Cs W W.heap.size A l ∧ l.length ≤ cap ∧ cap ≤ maxLen ∧ ((y.1 = .nil ∧ l = []) ∨ ∃ rest, y.1 = .slice (l.map cntD) rest) := by
  rcases DataW.trod_slice Tryz.underlying46 h with ⟨hc, hy⟩ | ⟨a, len, cap, elems, rest, n, _, hc, hy, hb, hl, hm, hlen, hel, _, _⟩
  · obtain rfl : c = .slice none 0 0 := by simpa using hc
    exact ⟨none, 0, [], rfl, ⟨by decide, fun x hx => by simp at hx, fun h => absurd h (by simp)⟩, Nat.le_refl _, by decide, .inl ⟨by rw [hy], rfl⟩⟩
  · obtain rfl : c = .slice (some a) len cap := by simpa using hc
    have hC : Tryz.prog.cellsOf 54 = 2 := by kernel_rfl
    rw [hC] at hel
    have key : ∀ i, i < len → ∃ x : Int × Int, (W.cell? (a.add (i * 2)) = some (.int .i64 x.1) ∧ W.cell? ((a.add (i * 2)).add 1) = some (.int .u64 x.2)) ∧ okC x ∧ (elems.map (·.1))[i]? = some (cntD x) := by
      intro i hi
      have he := hel i hi
      rw [List.getElem?_eq_getElem (by omega)] at he
      simp only [Option.bind_eq_some_iff] at he
      obtain ⟨cs, hcs, ht⟩ := he
      obtain ⟨x, rfl, z01, hd⟩ := one_cnt ht
      have hcc := (World.cells?_some hcs).2.2
      refine ⟨x, ⟨?_, hcc 1 (by omega)⟩, z01, by rw [List.getElem?_map, List.getElem?_eq_getElem (by omega), Option.map_some, hd]⟩
      have := hcc 0 (by omega)
      simpa [Addr.add] using this
    obtain ⟨l, hll, hp⟩ := pick_all len key
    refine ⟨some a, cap, l, by rw [hll], ⟨by omega, fun x hx => ?_, fun hn => ?_⟩, by omega, hm, .inr ⟨rest.map (·.1), ?_⟩⟩
    · obtain ⟨i, hi, rfl⟩ := List.mem_iff_getElem.1 hx
      exact (hp i hi).2.1
    · have h0 := (hp 0 hn).1.1
      have ha : a.add (0 * 2) = a := by simp [Addr.add]
      rw [ha] at h0
      have hsp := World.cell?_spot h0
      have hlt := World.block_lt_of_cell? W _ h0
      obtain ⟨ab, ao, at0⟩ := a
      simp only at hsp hlt
      subst hsp
      refine ⟨ab, ao, rfl, hlt, fun i x hx => ?_⟩
      obtain ⟨hi, rfl⟩ := List.getElem?_eq_some_iff.1 hx
      obtain ⟨w1, w2⟩ := (hp i hi).1
      rw [add_plain] at w1 w2
      rw [add_plain] at w2
      exact ⟨w1, w2⟩
    · have hE : elems.map (·.1) = l.map cntD := by
        apply List.ext_getElem?
        intro i
        by_cases hi : i < l.length
        · rw [(hp i hi).2.2, List.getElem?_map, List.getElem?_eq_getElem hi]; rfl
        · rw [List.getElem?_eq_none (by simp; omega), List.getElem?_eq_none (by simp; omega)]
      rw [hy]
      show DataW.slice (elems.map (·.1)) _ = _
      rw [hE]
end
end Go.Proofs.YtpiegngjpnpohaaGreat.Ao
