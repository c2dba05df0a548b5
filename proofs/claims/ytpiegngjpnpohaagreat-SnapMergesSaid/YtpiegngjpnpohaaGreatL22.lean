/- Lemmas for the laws of this seat, laid together of SnE, SnF. -/
import Derived.Test.YtpiegngjpnpohaaGreatL21

namespace Go.Proofs.YtpiegngjpnpohaaGreat.Sn
open Go.RowKit Go.Proofs.YtpiegngjpnpohaaGreat.La Go.Proofs.YtpiegngjpnpohaaGreat.Sl Go.Proofs.YtpiegngjpnpohaaGreat.Ck Go.Proofs.YtpiegngjpnpohaaGreat.Rc Go.Proofs.YtpiegngjpnpohaaGreat.Rk Go.Proofs.YtpiegngjpnpohaaGreat.Wi Go.Proofs.YtpiegngjpnpohaaGreat.Fb Go.Proofs.YtpiegngjpnpohaaGreat.Mg Go.Proofs.YtpiegngjpnpohaaGreat.St
set_option linter.unusedVariables false
def mz : List Vv → List Vv → List (Option Vv × Option Vv)
  | [], ys => ys.map fun b => (none, some b)
  | a :: xs, [] => (a :: xs).map fun a => (some a, none)
  | a :: xs, b :: ys => if cmpD a.d b.d < 0 then (some a, none) :: mz xs (b :: ys) else if 0 < cmpD a.d b.d then (none, some b) :: mz (a :: xs) ys else (some a, some b) :: mz xs ys
termination_by xs ys => xs.length + ys.length
theorem mz_nilL (ys : List Vv) : mz [] ys = ys.map fun b => (none, some b) := by unfold mz; rfl
theorem mz_nilR (xs : List Vv) : mz xs [] = xs.map fun a => (some a, none) := by
  cases xs with
  | nil => unfold mz; rfl
  | cons a xs => unfold mz; rfl
theorem mz_left {a : Vv} {xs ys : List Vv} (h : ys = [] ∨ ∃ b r, ys = b :: r ∧ cmpD a.d b.d < 0) : mz (a :: xs) ys = (some a, none) :: mz xs ys := by
  rcases h with rfl | ⟨b, r, rfl, h⟩
  · rw [mz_nilR, mz_nilR]; rfl
  · rw [mz, if_pos h]
theorem mz_right {b : Vv} {xs ys : List Vv} (h : xs = [] ∨ ∃ a r, xs = a :: r ∧ 0 < cmpD a.d b.d) : mz xs (b :: ys) = (none, some b) :: mz xs ys := by
  rcases h with rfl | ⟨a, r, rfl, h⟩
  · rw [mz_nilL, mz_nilL]; rfl
  · rw [mz, if_neg (by omega), if_pos h]
theorem mz_both {a b : Vv} {xs ys : List Vv} (h : cmpD a.d b.d = 0) : mz (a :: xs) (b :: ys) = (some a, some b) :: mz xs ys := by
  rw [mz, if_neg (by omega), if_neg (by omega)]
theorem VsAt.cut {v : Vv} {vs : List Vv} {A : Option Addr} {w : World} {B c : Nat} (h : VsAt (v :: vs) A w B) (hc : vs.length + 1 ≤ c) : VsAt vs (cutA A 1 c 11) w B := by
  have := h.rd.cut (k := 1) (cap := c) (by simp) (by simpa using hc)
  refine ⟨?_, fun u hu => h.all u (List.mem_cons_of_mem _ hu)⟩
  have e : (rows (v :: vs)).drop (1 * 11) = rows vs := by
    unfold rows
    rw [List.flatMap_cons]
    exact List.drop_left' (by simp [Vv.row])
  rw [e] at this
  simpa using this
theorem infoVal : (Tryz.prog.info? 49).map (fun i => (i.zero, i.size, i.bytes)) = some (some (.agg #[.int .i64 0, .string ⟨#[]⟩, .string ⟨#[]⟩, .slice none 0 0, .int .i64 0, .int .u64 0, .slice none 0 0, .int .u64 0, .float .f64 0, .float .f64 0, .float .f64 0]), 11, 136) := by kernel_rfl
set_option maxRecDepth 100000 in
theorem series_any (x y : Vv) (w : World) (hx : VAt x w w.heap.size) (hy : VAt y w w.heap.size) :
    Calls Tryz.prog 55 #[x.v, y.v] w fun e w' => e = .returned (.int .i64 (cmpD x.d y.d)) ∧ Below w.heap.size w w' := by
  have cc := fun W (k : Below w.heap.size w W) => hx.d.cmp hy.d (Nat.le_refl _) k
  unfold Vv.v
  have h2 := fun (w1 : World) (e : w1 = (w.alloc (.cells x.row.toArray 49)).alloc (.cells y.row.toArray 49)) => Blk.pair (w := w) (w1 := w1) e
  unfold Vv.row at h2
  obtain ⟨C, hC⟩ : ∃ C, C = cmpD x.d y.d := ⟨_, rfl⟩
  rw [← hC] at cc ⊢
  unfold DD.v at cc
  obtain ⟨lx, hlx⟩ : ∃ n, n = x.d.l.length := ⟨_, rfl⟩
  obtain ⟨ly, hly⟩ : ∃ n, n = y.d.l.length := ⟨_, rfl⟩
  obtain ⟨cx, hcx⟩ : ∃ n, n = x.cs.length := ⟨_, rfl⟩
  obtain ⟨cy, hcy⟩ : ∃ n, n = y.cs.length := ⟨_, rfl⟩
  rw [← hlx, ← hly] at cc
  rw [← hlx, ← hly, ← hcx, ← hcy] at h2
  rw [← hlx, ← hly, ← hcx, ← hcy]
  replace h2 := Lib.hid h2
  replace cc := Lib.hid cc
  clear hlx hly hcx hcy hx hy hC
  go_enter Tryz.func55, Tryz.ntmps55
  go_upto_region 1 with fail
  obtain ⟨w1, hw1⟩ : ∃ w1, w1 = (w.alloc (.cells #[.int .i64 x.d.kind, .string x.d.name, .string x.d.help, .slice x.d.A lx x.d.c, .int .i64 (hiI x.t), .int .u64 (loI x.t), .slice x.CA cx x.cc, .int .u64 x.n, .float .f64 x.sm, .float .f64 x.mn, .float .f64 x.mx] 49)).alloc (.cells #[.int .i64 y.d.kind, .string y.d.name, .string y.d.help, .slice y.d.A ly y.d.c, .int .i64 (hiI y.t), .int .u64 (loI y.t), .slice y.CA cy y.cc, .int .u64 y.n, .float .f64 y.sm, .float .f64 y.mn, .float .f64 y.mx] 49) := ⟨_, rfl⟩
  rw [← hw1]
  obtain ⟨k1, k2, hb1⟩ := h2.out w1 (by rw [hw1])
  clear hw1 h2
  have x0 := (k1.2 0 _ rfl).1
  have x1 := (k1.2 1 _ rfl).1
  have x2 := (k1.2 2 _ rfl).1
  have x3 := (k1.2 3 _ rfl).1
  have y0 := (k2.2 0 _ rfl).1
  have y1 := (k2.2 1 _ rfl).1
  have y2 := (k2.2 2 _ rfl).1
  have y3 := (k2.2 3 _ rfl).1
  go_wp2_with (go_at_call 47; refine (cc.out _ hb1).mono ?_; rintro e w2 ⟨rfl, hb2⟩)
  go_ret
  exact ⟨rfl, hb1.trans (hb2.mono hb1.size)⟩
def PAt (w : World) (B : Nat) (p : Value) : Option Vv → Prop
  | none => p = .pointer none
  | some v => VAt v w B ∧ ∃ b o, p = .pointer (some ⟨b, o, none⟩) ∧ b < B ∧ ∀ j u, (Vv.row v)[j]? = some u → w.cell? ⟨b, o + j, none⟩ = some u
set_option maxRecDepth 100000 in
set_option maxHeartbeats 4000000 in
theorem merged_any (F : FuncId) (hE : ∀ a w, (callFunc F a).run Tryz.prog w = .ok (.enter F a) w) (caps : Array Value) (w0 : World) (B0 : Nat) (hB0 : B0 ≤ w0.heap.size) (as0 bs0 : List Vv) (A1 A2 : Option Addr) (c1 c2 : Nat) (w : World)
    (I : Nat → World → Prop) (hI : ∀ k W W', I k W → Below W.heap.size W W' → I k W') (hIB : ∀ k W, I k W → Below B0 w0 W)
    (hF : ∀ k x y px py W, (mz as0 bs0)[k]? = some (x, y) → I k W → PAt w0 B0 px x → PAt w0 B0 py y → Calls Tryz.prog F (#[px, py] ++ caps) W fun e w' => e = .returned (.tuple #[]) ∧ I (k + 1) w')
    (h0 : I 0 w) (ha : VsAt as0 A1 w0 B0) (hb : VsAt bs0 A2 w0 B0) (hc1 : as0.length ≤ c1) (hc2 : bs0.length ≤ c2) (hm1 : c1 ≤ 9223372036854775807) (hm2 : c2 ≤ 9223372036854775807) :
    Calls Tryz.prog 54 #[.slice A1 as0.length c1, .slice A2 bs0.length c2, .func (.func 55) #[] #[], .func (.func F) #[] caps] w fun e w' => e = .returned (.tuple #[]) ∧ I (mz as0 bs0).length w' := by
  obtain ⟨L, hL⟩ : ∃ L, L = mz as0 bs0 := ⟨_, rfl⟩
  rw [← hL] at hF ⊢
  obtain ⟨N, hN⟩ : ∃ N, N = L.length := ⟨_, rfl⟩
  rw [← hN]
  have hrel0 : L.drop 0 = mz as0 bs0 ∧ 0 ≤ L.length := ⟨by rw [hL]; rfl, Nat.zero_le _⟩
  replace hF := Lib.hid hF
  replace hI := Lib.hid hI
  replace hIB := Lib.hid hIB
  replace hrel0 := Lib.hid hrel0
  replace hN := Lib.hid hN
  replace h0 := Lib.hid h0
  replace ha := Lib.hid ha
  replace hb := Lib.hid hb
  clear hL
  obtain ⟨na, hna⟩ : ∃ n, n = as0.length := ⟨_, rfl⟩
  obtain ⟨nb, hnb⟩ : ∃ n, n = bs0.length := ⟨_, rfl⟩
  rw [← hna] at hc1
  rw [← hnb] at hc2
  rw [← hna, ← hnb]
  replace hna := Lib.hid hna
  replace hnb := Lib.hid hnb
  obtain ⟨i0, hi, hz0, hz1, hz2⟩ := info_parts infoVal
  clear hz0 hz2
  go_enter Tryz.func54, Tryz.ntmps54
  go_wp2
  go_loopw [0, 1] (fun a b wr => ∃ (k : Nat) (A1 A2 : Option Addr) (n1 n2 k1 k2 : Nat) (xs ys : List Vv), a = .slice A1 n1 k1 ∧ b = .slice A2 n2 k2 ∧ n1 = xs.length ∧ n2 = ys.length ∧ n1 ≤ k1 ∧ n2 ≤ k2 ∧ k1 ≤ 9223372036854775807 ∧ k2 ≤ 9223372036854775807 ∧
      Hid (L.drop k = mz xs ys ∧ k ≤ L.length) ∧ Hid (VsAt xs A1 w0 B0) ∧ Hid (VsAt ys A2 w0 B0) ∧ Hid (I k wr)) (fun a b _ => La.lenOf a + La.lenOf b)
  case atStart => exact ⟨0, A1, A2, na, nb, c1, c2, as0, bs0, rfl, rfl, hna.out, hnb.out, hc1, hc2, hm1, hm2, hrel0, ha, hb, h0⟩
  case round =>
    clear ha hb h0 hrel0 hc1 hc2 hm1 hm2 hna hnb
    obtain ⟨k, A1, A2, n1, n2, k1, k2, xs, ys, rfl, rfl, hn1, hn2, hc1, hc2, hm1, hm2, hrel, ha, hb, hk⟩ := hrel
    have hnext : ∀ {p : Option Vv × Option Vv} {r : List (Option Vv × Option Vv)}, mz xs ys = p :: r → L[k]? = some p ∧ L.drop (k + 1) = r ∧ k + 1 ≤ L.length := fun {p r} h => by
      have h1 := hrel.out.1
      rw [h] at h1
      have h2 : L[k]? = some p := by
        have := congrArg (·[0]?) h1
        simpa using this
      refine ⟨h2, ?_, (List.getElem?_eq_some_iff.1 h2).1⟩
      have := congrArg (List.drop 1) h1
      simpa [Nat.add_comm] using this
    cases xs with
    | nil =>
      cases ys with
      | nil =>
        have hkN : k = N := by
          have h1 := hrel.out.1
          rw [mz_nilL, List.map_nil, List.drop_eq_nil_iff] at h1
          have := hrel.out.2
          rw [hN.out]; omega
        clear hnext
        simp only [List.length_nil] at hn1 hn2
        subst hn1 hn2 hkN
        go_wp2
        go_end0
        exact ⟨rfl, hk.out⟩
      | cons y ys =>
        obtain ⟨e1, e2, e3⟩ := hnext (mz_right (.inl rfl))
        clear hnext
        simp only [List.length_nil, List.length_cons] at hn1 hn2
        obtain ⟨b2, o2, hA2, hbB2, hcc2⟩ := hb.out.get 0 (by simp)
        have hy : PAt w0 B0 (.pointer (some ⟨b2, o2, none⟩)) (some y) := ⟨hb.out.all y (List.mem_cons_self ..), b2, o2, rfl, hbB2, by simpa using hcc2⟩
        have hb' := hb.out.cut (v := y) (c := k2) (by omega)
        subst hA2
        obtain ⟨m2, hmm2⟩ : ∃ m, m = ys.length := ⟨_, rfl⟩
        rw [← hmm2] at hn2
        have t2 := run_cut 22 49 Tryz.underlying22 hi hz1 (some ⟨b2, o2, none⟩) (m2 + 1) k2 1 (by omega) 1 rfl
        simp only [Nat.add_sub_cancel] at t2
        obtain ⟨C2, hC2⟩ : ∃ C, C = cutA (some ⟨b2, o2, none⟩) 1 k2 11 := ⟨_, rfl⟩
        rw [← hC2] at t2 hb'
        clear hC2
        have p2 : decide ((0 : Int) < (m2 : Int) + 1) = true := decide_eq_true (by omega)
        have hx2 : m2 ≤ k2 - 1 := by omega
        have cF := fun W (hW : I k W) => hF.out k _ _ (.pointer none) _ W e1 hW rfl hy
        have hrel' := Lib.hid (And.intro e2 e3)
        subst hn1 hn2
        have hwk := fun W (h : Below wr.heap.size wr W) => hI.out k wr W hk.out h
        clear hcc2 hrel e1 e2 e3 hb
        replace cF := Lib.hid cF
        replace hwk := Lib.hid hwk
        replace hb' := Lib.hid hb'
        replace hmm2 := Lib.hid hmm2
        replace hy := Lib.hid hy
        go_wp2
        go_quiet (fail)
        have hcall := cF.out _ (hwk.out _ (below_drewN (Below.refl _ wr) nq))
        go_wp2_with (refine hcall.mono ?_; rintro e w' ⟨rfl, hk'⟩)
        exact ⟨⟨k + 1, A1, C2, 0, m2, k1, (k2 - 1), [], ys, rfl, rfl, (by rfl), hmm2.out, hc1, hx2, by omega, by omega, hrel', ha, hb', Lib.hid hk'⟩, by simp [La.lenOf]⟩
    | cons x xs =>
      cases ys with
      | nil =>
        obtain ⟨e1, e2, e3⟩ := hnext (mz_left (.inl rfl))
        clear hnext
        simp only [List.length_nil, List.length_cons] at hn1 hn2
        obtain ⟨b1, o1, hA1, hbB1, hcc1⟩ := ha.out.get 0 (by simp)
        have hx : PAt w0 B0 (.pointer (some ⟨b1, o1, none⟩)) (some x) := ⟨ha.out.all x (List.mem_cons_self ..), b1, o1, rfl, hbB1, by simpa using hcc1⟩
        have ha' := ha.out.cut (v := x) (c := k1) (by omega)
        subst hA1
        obtain ⟨m1, hmm1⟩ : ∃ m, m = xs.length := ⟨_, rfl⟩
        rw [← hmm1] at hn1
        have t1 := run_cut 22 49 Tryz.underlying22 hi hz1 (some ⟨b1, o1, none⟩) (m1 + 1) k1 1 (by omega) 1 rfl
        simp only [Nat.add_sub_cancel] at t1
        obtain ⟨C1, hC1⟩ : ∃ C, C = cutA (some ⟨b1, o1, none⟩) 1 k1 11 := ⟨_, rfl⟩
        rw [← hC1] at t1 ha'
        clear hC1
        have p1 : decide ((0 : Int) < (m1 : Int) + 1) = true := decide_eq_true (by omega)
        have hx1 : m1 ≤ k1 - 1 := by omega
        have cF := fun W (hW : I k W) => hF.out k _ _ _ (.pointer none) W e1 hW hx rfl
        have hrel' := Lib.hid (And.intro e2 e3)
        subst hn1 hn2
        have hwk := fun W (h : Below wr.heap.size wr W) => hI.out k wr W hk.out h
        clear hcc1 hrel e1 e2 e3 ha
        replace cF := Lib.hid cF
        replace hwk := Lib.hid hwk
        replace ha' := Lib.hid ha'
        replace hmm1 := Lib.hid hmm1
        replace hx := Lib.hid hx
        go_wp2
        go_quiet (fail)
        have hcall := cF.out _ (hwk.out _ (below_drewN (Below.refl _ wr) nq))
        go_wp2_with (refine hcall.mono ?_; rintro e w' ⟨rfl, hk'⟩)
        exact ⟨⟨k + 1, C1, A2, m1, 0, (k1 - 1), k2, xs, [], rfl, rfl, hmm1.out, (by rfl), hx1, hc2, by omega, by omega, hrel', ha', hb, Lib.hid hk'⟩, by simp [La.lenOf]⟩
      | cons y ys =>
        have hwr := hIB.out k wr hk.out
        have hB0w : B0 ≤ wr.heap.size := Nat.le_trans hB0 hwr.size
        have vx : VAt x wr wr.heap.size := ((ha.out.all x (List.mem_cons_self ..)).below hwr).mono hB0w
        have vy : VAt y wr wr.heap.size := ((hb.out.all y (List.mem_cons_self ..)).below hwr).mono hB0w
        have cser := fun W (kk : Below wr.heap.size wr W) => series_any x y W ((vx.below kk).mono kk.size) ((vy.below kk).mono kk.size)
        obtain ⟨C, hC⟩ : ∃ C, C = cmpD x.d y.d := ⟨_, rfl⟩
        rw [← hC] at cser
        unfold Vv.v at cser
        simp only [List.length_cons] at hn1 hn2
        obtain ⟨b1, o1, hA1, hbB1, hcc1⟩ := ha.out.get 0 (by simp)
        have hx : PAt w0 B0 (.pointer (some ⟨b1, o1, none⟩)) (some x) := ⟨ha.out.all x (List.mem_cons_self ..), b1, o1, rfl, hbB1, by simpa using hcc1⟩
        have ha' := ha.out.cut (v := x) (c := k1) (by omega)
        subst hA1
        obtain ⟨m1, hmm1⟩ : ∃ m, m = xs.length := ⟨_, rfl⟩
        rw [← hmm1] at hn1
        have t1 := run_cut 22 49 Tryz.underlying22 hi hz1 (some ⟨b1, o1, none⟩) (m1 + 1) k1 1 (by omega) 1 rfl
        simp only [Nat.add_sub_cancel] at t1
        obtain ⟨C1, hC1⟩ : ∃ C, C = cutA (some ⟨b1, o1, none⟩) 1 k1 11 := ⟨_, rfl⟩
        rw [← hC1] at t1 ha'
        clear hC1
        have p1 : decide ((0 : Int) < (m1 : Int) + 1) = true := decide_eq_true (by omega)
        have hx1 : m1 ≤ k1 - 1 := by omega
        obtain ⟨b2, o2, hA2, hbB2, hcc2⟩ := hb.out.get 0 (by simp)
        have hy : PAt w0 B0 (.pointer (some ⟨b2, o2, none⟩)) (some y) := ⟨hb.out.all y (List.mem_cons_self ..), b2, o2, rfl, hbB2, by simpa using hcc2⟩
        have hb' := hb.out.cut (v := y) (c := k2) (by omega)
        subst hA2
        obtain ⟨m2, hmm2⟩ : ∃ m, m = ys.length := ⟨_, rfl⟩
        rw [← hmm2] at hn2
        have t2 := run_cut 22 49 Tryz.underlying22 hi hz1 (some ⟨b2, o2, none⟩) (m2 + 1) k2 1 (by omega) 1 rfl
        simp only [Nat.add_sub_cancel] at t2
        obtain ⟨C2, hC2⟩ : ∃ C, C = cutA (some ⟨b2, o2, none⟩) 1 k2 11 := ⟨_, rfl⟩
        rw [← hC2] at t2 hb'
        clear hC2
        have p2 : decide ((0 : Int) < (m2 : Int) + 1) = true := decide_eq_true (by omega)
        have hx2 : m2 ≤ k2 - 1 := by omega
        have x0 := kc hwr hbB1 (hcc1 0 _ rfl)
        have x1 := kc hwr hbB1 (hcc1 1 _ rfl)
        have x2 := kc hwr hbB1 (hcc1 2 _ rfl)
        have x3 := kc hwr hbB1 (hcc1 3 _ rfl)
        have x4 := kc hwr hbB1 (hcc1 4 _ rfl)
        have x5 := kc hwr hbB1 (hcc1 5 _ rfl)
        have x6 := kc hwr hbB1 (hcc1 6 _ rfl)
        have x7 := kc hwr hbB1 (hcc1 7 _ rfl)
        have x8 := kc hwr hbB1 (hcc1 8 _ rfl)
        have x9 := kc hwr hbB1 (hcc1 9 _ rfl)
        have x10 := kc hwr hbB1 (hcc1 10 _ rfl)
        simp only [Nat.zero_mul, Nat.add_zero, List.getElem_cons_zero] at x0 x1 x2 x3 x4 x5 x6 x7 x8 x9 x10
        have y0 := kc hwr hbB2 (hcc2 0 _ rfl)
        have y1 := kc hwr hbB2 (hcc2 1 _ rfl)
        have y2 := kc hwr hbB2 (hcc2 2 _ rfl)
        have y3 := kc hwr hbB2 (hcc2 3 _ rfl)
        have y4 := kc hwr hbB2 (hcc2 4 _ rfl)
        have y5 := kc hwr hbB2 (hcc2 5 _ rfl)
        have y6 := kc hwr hbB2 (hcc2 6 _ rfl)
        have y7 := kc hwr hbB2 (hcc2 7 _ rfl)
        have y8 := kc hwr hbB2 (hcc2 8 _ rfl)
        have y9 := kc hwr hbB2 (hcc2 9 _ rfl)
        have y10 := kc hwr hbB2 (hcc2 10 _ rfl)
        simp only [Nat.zero_mul, Nat.add_zero, List.getElem_cons_zero] at y0 y1 y2 y3 y4 y5 y6 y7 y8 y9 y10
        have hbw1 : b1 < wr.heap.size := by omega
        have hbw2 : b2 < wr.heap.size := by omega
        obtain ⟨lx, hlx⟩ : ∃ n, n = x.d.l.length := ⟨_, rfl⟩
        obtain ⟨ly, hly⟩ : ∃ n, n = y.d.l.length := ⟨_, rfl⟩
        obtain ⟨cx, hcx⟩ : ∃ n, n = x.cs.length := ⟨_, rfl⟩
        obtain ⟨cy, hcy⟩ : ∃ n, n = y.cs.length := ⟨_, rfl⟩
        rw [← hlx, ← hly, ← hcx, ← hcy] at cser
        rw [← hlx] at x3
        rw [← hcx] at x6
        rw [← hly] at y3
        rw [← hcy] at y6
        clear hlx hly hcx hcy vx vy hcc1 hcc2 hwr hB0w
        have htri : C < 0 ∨ 0 < C ∨ C = 0 := by omega
        rcases htri with hc | hc | hc
        ·
          obtain ⟨e1, e2, e3⟩ := hnext (mz_left (.inr ⟨_, _, rfl, by rw [← hC]; exact hc⟩))
          clear hnext
          have cF := fun W (hW : I k W) => hF.out k _ _ _ (.pointer none) W e1 hW hx rfl
          have hrel' := Lib.hid (And.intro e2 e3)
          clear hC hrel e1 e2 e3
          subst hn1 hn2
          have hwk := fun W (h : Below wr.heap.size wr W) => hI.out k wr W hk.out h
          have hle : C ≤ 0 := by omega
          have hge : ¬ 0 ≤ C := by omega
          have hle' : decide (C ≤ 0) = true := decide_eq_true hle
          have hge' : decide (0 ≤ C) = false := decide_eq_false hge
          clear hc
          replace cF := Lib.hid cF
          replace hwk := Lib.hid hwk
          replace ha' := Lib.hid ha'
          replace hb' := Lib.hid hb'
          replace hmm1 := Lib.hid hmm1
          replace hmm2 := Lib.hid hmm2
          replace hx := Lib.hid hx
          replace hy := Lib.hid hy
          replace cser := Lib.hid cser
          go_upto_region 2 with fail
          refine Reg.region_below (by kernel_rfl) (by kernel_rfl) ?_
          intro S _ f hf hs
          replace x0 := Reg.keepc hf hbw1 x0
          replace x1 := Reg.keepc hf hbw1 x1
          replace x2 := Reg.keepc hf hbw1 x2
          replace x3 := Reg.keepc hf hbw1 x3
          replace x4 := Reg.keepc hf hbw1 x4
          replace x5 := Reg.keepc hf hbw1 x5
          replace x6 := Reg.keepc hf hbw1 x6
          replace x7 := Reg.keepc hf hbw1 x7
          replace x8 := Reg.keepc hf hbw1 x8
          replace x9 := Reg.keepc hf hbw1 x9
          replace x10 := Reg.keepc hf hbw1 x10
          replace y0 := Reg.keepc hf hbw2 y0
          replace y1 := Reg.keepc hf hbw2 y1
          replace y2 := Reg.keepc hf hbw2 y2
          replace y3 := Reg.keepc hf hbw2 y3
          replace y4 := Reg.keepc hf hbw2 y4
          replace y5 := Reg.keepc hf hbw2 y5
          replace y6 := Reg.keepc hf hbw2 y6
          replace y7 := Reg.keepc hf hbw2 y7
          replace y8 := Reg.keepc hf hbw2 y8
          replace y9 := Reg.keepc hf hbw2 y9
          replace y10 := Reg.keepc hf hbw2 y10
          repeat (go_big_quiet_step ((first | (go_at_call 55; with_reducible exact Reg.met hs (cser.out _ (hf _))))))
          refine wpQuiet_nil ?_
          intro s
          have hb3 := hf s
          obtain ⟨w3, hw3⟩ : ∃ w3, w3 = f s := ⟨_, rfl⟩
          rw [← hw3] at hb3 ⊢
          clear hw3 hs hf x0 x1 x2 x3 x4 x5 x6 x7 x8 x9 x10 y0 y1 y2 y3 y4 y5 y6 y7 y8 y9 y10
          go_wp2
          go_quiet (fail)
          have hcall := cF.out _ (hwk.out _ (below_drewN hb3 nq))
          go_wp2_with (refine hcall.mono ?_; rintro e w' ⟨rfl, hk'⟩)
          exact ⟨⟨k + 1, C1, (some ⟨b2, o2, none⟩), m1, (m2 + 1), (k1 - 1), k2, xs, (y :: ys), rfl, rfl, hmm1.out, (by rw [List.length_cons, hmm2.out]), hx1, hc2, by omega, by omega, hrel', ha', hb, Lib.hid hk'⟩, by simp [La.lenOf]; try omega⟩
        ·
          obtain ⟨e1, e2, e3⟩ := hnext (mz_right (.inr ⟨_, _, rfl, by rw [← hC]; exact hc⟩))
          clear hnext
          have cF := fun W (hW : I k W) => hF.out k _ _ (.pointer none) _ W e1 hW rfl hy
          have hrel' := Lib.hid (And.intro e2 e3)
          clear hC hrel e1 e2 e3
          subst hn1 hn2
          have hwk := fun W (h : Below wr.heap.size wr W) => hI.out k wr W hk.out h
          have hle : ¬ C ≤ 0 := by omega
          have hge : 0 ≤ C := by omega
          have hle' : decide (C ≤ 0) = false := decide_eq_false hle
          have hge' : decide (0 ≤ C) = true := decide_eq_true hge
          clear hc
          replace cF := Lib.hid cF
          replace hwk := Lib.hid hwk
          replace ha' := Lib.hid ha'
          replace hb' := Lib.hid hb'
          replace hmm1 := Lib.hid hmm1
          replace hmm2 := Lib.hid hmm2
          replace hx := Lib.hid hx
          replace hy := Lib.hid hy
          replace cser := Lib.hid cser
          go_upto_region 2 with fail
          refine Reg.region_below (by kernel_rfl) (by kernel_rfl) ?_
          intro S _ f hf hs
          replace x0 := Reg.keepc hf hbw1 x0
          replace x1 := Reg.keepc hf hbw1 x1
          replace x2 := Reg.keepc hf hbw1 x2
          replace x3 := Reg.keepc hf hbw1 x3
          replace x4 := Reg.keepc hf hbw1 x4
          replace x5 := Reg.keepc hf hbw1 x5
          replace x6 := Reg.keepc hf hbw1 x6
          replace x7 := Reg.keepc hf hbw1 x7
          replace x8 := Reg.keepc hf hbw1 x8
          replace x9 := Reg.keepc hf hbw1 x9
          replace x10 := Reg.keepc hf hbw1 x10
          replace y0 := Reg.keepc hf hbw2 y0
          replace y1 := Reg.keepc hf hbw2 y1
          replace y2 := Reg.keepc hf hbw2 y2
          replace y3 := Reg.keepc hf hbw2 y3
          replace y4 := Reg.keepc hf hbw2 y4
          replace y5 := Reg.keepc hf hbw2 y5
          replace y6 := Reg.keepc hf hbw2 y6
          replace y7 := Reg.keepc hf hbw2 y7
          replace y8 := Reg.keepc hf hbw2 y8
          replace y9 := Reg.keepc hf hbw2 y9
          replace y10 := Reg.keepc hf hbw2 y10
          repeat (go_big_quiet_step ((first | (go_at_call 55; with_reducible exact Reg.met hs (cser.out _ (hf _))))))
          refine wpQuiet_nil ?_
          intro s
          have hb3 := hf s
          obtain ⟨w3, hw3⟩ : ∃ w3, w3 = f s := ⟨_, rfl⟩
          rw [← hw3] at hb3 ⊢
          clear hw3 hs hf x0 x1 x2 x3 x4 x5 x6 x7 x8 x9 x10 y0 y1 y2 y3 y4 y5 y6 y7 y8 y9 y10
          go_wp2
          go_quiet (fail)
          have hcall := cF.out _ (hwk.out _ (below_drewN hb3 nq))
          go_wp2_with (refine hcall.mono ?_; rintro e w' ⟨rfl, hk'⟩)
          exact ⟨⟨k + 1, (some ⟨b1, o1, none⟩), C2, (m1 + 1), m2, k1, (k2 - 1), (x :: xs), ys, rfl, rfl, (by rw [List.length_cons, hmm1.out]), hmm2.out, hc1, hx2, by omega, by omega, hrel', ha, hb', Lib.hid hk'⟩, by simp [La.lenOf]; try omega⟩
        ·
          obtain ⟨e1, e2, e3⟩ := hnext (mz_both (by rw [← hC]; exact hc))
          clear hnext
          have cF := fun W (hW : I k W) => hF.out k _ _ _ _ W e1 hW hx hy
          have hrel' := Lib.hid (And.intro e2 e3)
          clear hC hrel e1 e2 e3
          subst hn1 hn2
          have hwk := fun W (h : Below wr.heap.size wr W) => hI.out k wr W hk.out h
          subst hc
          replace cF := Lib.hid cF
          replace hwk := Lib.hid hwk
          replace ha' := Lib.hid ha'
          replace hb' := Lib.hid hb'
          replace hmm1 := Lib.hid hmm1
          replace hmm2 := Lib.hid hmm2
          replace hx := Lib.hid hx
          replace hy := Lib.hid hy
          replace cser := Lib.hid cser
          go_upto_region 2 with fail
          refine Reg.region_below (by kernel_rfl) (by kernel_rfl) ?_
          intro S _ f hf hs
          replace x0 := Reg.keepc hf hbw1 x0
          replace x1 := Reg.keepc hf hbw1 x1
          replace x2 := Reg.keepc hf hbw1 x2
          replace x3 := Reg.keepc hf hbw1 x3
          replace x4 := Reg.keepc hf hbw1 x4
          replace x5 := Reg.keepc hf hbw1 x5
          replace x6 := Reg.keepc hf hbw1 x6
          replace x7 := Reg.keepc hf hbw1 x7
          replace x8 := Reg.keepc hf hbw1 x8
          replace x9 := Reg.keepc hf hbw1 x9
          replace x10 := Reg.keepc hf hbw1 x10
          replace y0 := Reg.keepc hf hbw2 y0
          replace y1 := Reg.keepc hf hbw2 y1
          replace y2 := Reg.keepc hf hbw2 y2
          replace y3 := Reg.keepc hf hbw2 y3
          replace y4 := Reg.keepc hf hbw2 y4
          replace y5 := Reg.keepc hf hbw2 y5
          replace y6 := Reg.keepc hf hbw2 y6
          replace y7 := Reg.keepc hf hbw2 y7
          replace y8 := Reg.keepc hf hbw2 y8
          replace y9 := Reg.keepc hf hbw2 y9
          replace y10 := Reg.keepc hf hbw2 y10
          repeat (go_big_quiet_step ((first | (go_at_call 55; with_reducible exact Reg.met hs (cser.out _ (hf _))))))
          refine wpQuiet_nil ?_
          intro s
          have hb3 := hf s
          obtain ⟨w3, hw3⟩ : ∃ w3, w3 = f s := ⟨_, rfl⟩
          rw [← hw3] at hb3 ⊢
          clear hw3 hs hf x0 x1 x2 x3 x4 x5 x6 x7 x8 x9 x10 y0 y1 y2 y3 y4 y5 y6 y7 y8 y9 y10
          go_wp2
          go_quiet (fail)
          have hb4 := below_drewN hb3 nq
          obtain ⟨w4, hw4⟩ : ∃ w4, w4 = w3.drewN nq := ⟨_, rfl⟩
          rw [← hw4] at hb4 ⊢
          clear hw4
          go_wp2
          go_quiet (fail)
          have hcall := cF.out _ (hwk.out _ (below_drewN hb4 nq))
          go_wp2_with (refine hcall.mono ?_; rintro e w' ⟨rfl, hk'⟩)
          exact ⟨⟨k + 1, C1, C2, m1, m2, (k1 - 1), (k2 - 1), xs, ys, rfl, rfl, hmm1.out, hmm2.out, hx1, hx2, by omega, by omega, hrel', ha', hb', Lib.hid hk'⟩, by simp [La.lenOf]; try omega⟩
end Go.Proofs.YtpiegngjpnpohaaGreat.Sn

namespace Go.Proofs.YtpiegngjpnpohaaGreat.Sn
open Go.RowKit Go.Proofs.YtpiegngjpnpohaaGreat.La Go.Proofs.YtpiegngjpnpohaaGreat.Sl Go.Proofs.YtpiegngjpnpohaaGreat.Ck Go.Proofs.YtpiegngjpnpohaaGreat.Rc Go.Proofs.YtpiegngjpnpohaaGreat.Rk Go.Proofs.YtpiegngjpnpohaaGreat.Wi Go.Proofs.YtpiegngjpnpohaaGreat.Fb Go.Proofs.YtpiegngjpnpohaaGreat.Mg Go.Proofs.YtpiegngjpnpohaaGreat.St
set_option linter.unusedVariables false
noncomputable def outP : Option Vv × Option Vv → Cv
  | (some x, none) => x.c
  | (none, some y) => y.c
  | (some x, some y) => twoC x.c y.c
  | (none, none) => ⟨0, ⟨#[]⟩, ⟨#[]⟩, [], 0, [], 0, 0, 0, 0⟩
def errP : Option Vv × Option Vv → Int
  | (some x, some y) => twoE x.c y.c
  | _ => 0
def firstE : List (Option Vv × Option Vv) → Int
  | [] => 0
  | p :: r => if errP p ≠ 0 then errP p else firstE r
theorem firstE_append (l : List (Option Vv × Option Vv)) (p : Option Vv × Option Vv) : firstE (l ++ [p]) = if firstE l = 0 then errP p else firstE l := by
  induction l with
  | nil =>
    show firstE [p] = _
    unfold firstE
    show (if errP p ≠ 0 then errP p else firstE []) = _
    unfold firstE
    split <;> simp_all
  | cons q l ih =>
    show firstE (q :: (l ++ [p])) = _
    have e1 : firstE (q :: (l ++ [p])) = if errP q ≠ 0 then errP q else firstE (l ++ [p]) := rfl
    have e2 : firstE (q :: l) = if errP q ≠ 0 then errP q else firstE l := rfl
    rw [e1, e2, ih]
    by_cases h : errP q = 0
    · simp [h]
    · simp [h]
theorem firstE_take {L : List (Option Vv × Option Vv)} {k : Nat} {p : Option Vv × Option Vv} (h : L[k]? = some p) : firstE (L.take (k + 1)) = if firstE (L.take k) = 0 then errP p else firstE (L.take k) := by
  obtain ⟨hk, e⟩ := List.getElem?_eq_some_iff.1 h
  rw [List.take_succ_eq_append_getElem hk, e, firstE_append]
theorem mz_len (xs ys : List Vv) : (mz xs ys).length ≤ xs.length + ys.length := by
  induction xs, ys using mz.induct with
  | case1 ys => rw [mz_nilL]; simp
  | case2 x xs => rw [mz_nilR]; simp
  | case3 x xs y ys h ih => rw [mz_left (.inr ⟨_, _, rfl, h⟩)]; simp at *; omega
  | case4 x xs y ys h h2 ih => rw [mz_right (.inr ⟨_, _, rfl, h2⟩)]; simp at *; omega
  | case5 x xs y ys h h2 ih => rw [mz_both (by omega)]; simp at *; omega
theorem count_any (g : Nat) (k : Nat) (px py : Value) (W : World) (hk : k ≤ 1048576) (hc : W.cell? ⟨g, 0, none⟩ = some (.int .i64 (k : Int))) (hf : W.frozen? ⟨g, 0, none⟩ = false) :
    Calls Tryz.prog 56 #[px, py, .pointer (some ⟨g, 0, none⟩)] W fun e w' => e = .returned (.tuple #[]) ∧ w' = W.setCell ⟨g, 0, none⟩ (.int .i64 ((k + 1 : Nat) : Int)) := by
  go_enter Tryz.func56, Tryz.ntmps56
  go_wp2
  go_end0
  exact ⟨rfl, by simp⟩
end Go.Proofs.YtpiegngjpnpohaaGreat.Sn
