/- Lemmas for the laws of this seat, laid together of SnC. -/
import Derived.Test.YtpiegngjpnpohaaGreatL20

namespace Go.Proofs.YtpiegngjpnpohaaGreat.Sn
open Go.RowKit Go.Proofs.YtpiegngjpnpohaaGreat.La Go.Proofs.YtpiegngjpnpohaaGreat.Sl Go.Proofs.YtpiegngjpnpohaaGreat.Ck Go.Proofs.YtpiegngjpnpohaaGreat.Rc Go.Proofs.YtpiegngjpnpohaaGreat.Rk Go.Proofs.YtpiegngjpnpohaaGreat.Wi Go.Proofs.YtpiegngjpnpohaaGreat.Fb Go.Proofs.YtpiegngjpnpohaaGreat.Mg Go.Proofs.YtpiegngjpnpohaaGreat.St
set_option linter.unusedVariables false
theorem own_setne {w : World} {base n s b o : Nat} {e : TypeId} {v : Value} {xs : List Value} (h : w.ownsRow base e s v n xs) (hb : ∀ k, v.ownBlock = some k → k ≠ b) (u : Value) : (w.setCell ⟨b, o, none⟩ u).ownsRow base e s v n xs := by
  refine h.kept (only_set (only_refl w _) o u) ?_
  cases hv : v.ownBlock with
  | none => exact .inl rfl
  | some k => exact .inr (fun e => hb k hv (by injection e))
theorem Blk.st11 {W : World} {g : Nat} {cs : List Value} (h : Blk W g cs) (hl : cs.length = 11) (x0 x1 x2 x3 x4 x5 x6 x7 x8 x9 x10 : Value) : Blk (((((((((((W.setCell ⟨g, 0, none⟩ x0).setCell ⟨g, 1, none⟩ x1).setCell ⟨g, 2, none⟩ x2).setCell ⟨g, 3, none⟩ x3).setCell ⟨g, 4, none⟩ x4).setCell ⟨g, 5, none⟩ x5).setCell ⟨g, 6, none⟩ x6).setCell ⟨g, 7, none⟩ x7).setCell ⟨g, 8, none⟩ x8).setCell ⟨g, 9, none⟩ x9).setCell ⟨g, 10, none⟩ x10) g [x0, x1, x2, x3, x4, x5, x6, x7, x8, x9, x10] := by
  match cs, hl with
  | [c0, c1, c2, c3, c4, c5, c6, c7, c8, c9, c10], _ =>
    have q := (((((((((((h).set 0 x0 (by simp )).set 1 x1 (by simp )).set 2 x2 (by simp )).set 3 x3 (by simp )).set 4 x4 (by simp )).set 5 x5 (by simp )).set 6 x6 (by simp )).set 7 x7 (by simp )).set 8 x8 (by simp )).set 9 x9 (by simp )).set 10 x10 (by simp )
    simpa only [List.set_cons_zero, List.set_cons_succ] using q
def zeroV : Vv := ⟨⟨0, ⟨#[]⟩, ⟨#[]⟩, none, 0, []⟩, 0, none, 0, [], 0, 0, 0, 0⟩
theorem zeroV_v : zeroV.v = .agg #[.int .i64 0, .string ⟨#[]⟩, .string ⟨#[]⟩, .slice none 0 0, .int .i64 0, .int .u64 0, .slice none 0 0, .int .u64 0, .float .f64 0, .float .f64 0, .float .f64 0] := by
  simp [zeroV, Vv.v, hiI, loI]
theorem mrg_ok {l : List Cnt} (h : ∀ c ∈ l, okC c) : ∀ c ∈ mrg l, okC c := by
  intro c hc
  obtain ⟨⟨d, hd, e⟩, h1, h2⟩ := (mrg_facts l (okC_okN h)).2.1 c hc
  have := h d hd
  unfold okC at *
  simp only [two64] at h2
  omega
def OwnV (B : Nat) (w : World) (v : Vv) : Prop := (∃ c0, w.ownsRow B 103 2 (.slice v.d.A v.d.l.length c0) v.d.l.length (labs v.d.l)) ∧ ∃ c0, w.ownsRow B 54 2 (.slice v.CA v.cs.length c0) v.cs.length (flat v.cs)
theorem both_fin {x y : Vv} {w : World} (hx : VAt x w w.heap.size) (hy : VAt y w w.heap.size) (ox : OkV x) (oy : OkV y) {d' : DD} {Wf : World} {A : Option Addr} {c cl0 B1 B2 sm mn mx : Nat}
    (hdeq : d'.kind = x.d.kind ∧ d'.name = x.d.name ∧ d'.help = x.d.help ∧ d'.l = x.d.l ∧ d'.c = x.d.l.length) (hol : Wf.ownsRow B1 103 2 (.slice d'.A x.d.l.length cl0) x.d.l.length (labs x.d.l)) (hB1 : w.heap.size ≤ B1)
    (hoc : Wf.ownsRow B2 54 2 (.slice A (mrg (x.cs ++ y.cs)).length c) (mrg (x.cs ++ y.cs)).length (flat (mrg (x.cs ++ y.cs)))) (hbig : ¬ (170141183460469231731687303715884105727 < x.t + y.t ∨ 9223372036854775807 < x.n + y.n))
    (hsm : okF sm) (hmn : okF mn) (hmx : okF mx) (hflo : flo x.c y.c = (sm, mn, mx)) (hB2 : w.heap.size ≤ B2) :
    (⟨d', x.t + y.t, A, c, mrg (x.cs ++ y.cs), x.n + y.n, sm, mn, mx⟩ : Vv).c = twoC x.c y.c ∧ VAt ⟨d', x.t + y.t, A, c, mrg (x.cs ++ y.cs), x.n + y.n, sm, mn, mx⟩ Wf Wf.heap.size ∧ OwnV w.heap.size Wf ⟨d', x.t + y.t, A, c, mrg (x.cs ++ y.cs), x.n + y.n, sm, mn, mx⟩ := by
  obtain ⟨e1, e2, e3, e4, e5⟩ := id hdeq
  obtain ⟨A2, c2, e, h1, h2, _⟩ := own_form hoc
  cases e
  refine ⟨?_, ?_, ⟨⟨cl0, by dsimp only; rw [e4]; exact own_base hol hB1⟩, ⟨_, own_base hoc hB2⟩⟩⟩
  · unfold twoC
    rw [hflo]
    unfold Vv.c
    dsimp only
    rw [e1, e2, e3, e4]
  · have hnd : NewD w Wf x.d d' := ⟨hdeq, cl0, own_base hol hB1⟩
    have ht := ox.t
    have ht2 := oy.t
    have hn := ox.n
    have hn2 := oy.n
    refine ⟨hnd.at hx.d, cs_of_own hoc (mrg_ok fun z hz => (List.mem_append.1 hz).elim (hx.cs.ok z) (hy.cs.ok z)), h1, Nat.le_trans h2 (by decide), by unfold In; dsimp only; omega, by dsimp only; omega, hsm, hmn, hmx⟩
set_option maxRecDepth 100000 in
set_option maxHeartbeats 2000000 in
theorem both_any (x y : Vv) (w : World) (hx : VAt x w w.heap.size) (hy : VAt y w w.heap.size) (ox : OkV x) (oy : OkV y) (hkind : x.d.kind = y.d.kind) :
    Calls Tryz.prog 59 #[x.v, y.v] w fun e w' => Below w.heap.size w w' ∧ ∃ v' : Vv, e = .returned (.tuple #[v'.v, .int .i64 (twoE x.c y.c)]) ∧ (twoE x.c y.c = 0 → v'.c = twoC x.c y.c ∧ VAt v' w' w'.heap.size ∧ OwnV w.heap.size w' v') := by
  have ccv := fun (W : World) (k : Below w.heap.size w W) => copyV_any x W ((hx.below k).mono k.size) (Nat.le_trans ox.l (by decide)) (Nat.le_trans ox.c (by decide))
  have cad := add_any x.t y.t
  have csg := sign_w (x.t + y.t)
  have hsg := w128_neg ox.t oy.t hx.tot hy.tot
  have cmg := fun (W : World) (k : Below w.heap.size w W) => merge_any W w.heap.size x.CA y.CA x.cs y.cs x.cc y.cc (hx.cs.below k) (hy.cs.below k) k.size (by have := ox.c; have := oy.c; omega)
  have hsf := fun (a : Addr) (x : Nat) (W : World) => run_store Tryz.prog W a (.float .f64 x) .plain rfl
  have hnw : IntKind.u64.wrap (x.n + y.n) = x.n + y.n := by
    have := ox.n; have := oy.n
    rw [IntKind.wrap_u64]; omega
  unfold I128 at cad
  unfold Vv.v at ccv ⊢
  replace ccv := Lib.hid ccv
  replace cmg := Lib.hid cmg
  replace hsg := Lib.hid hsg
  replace hnw := Lib.hid hnw
  replace hkind := Lib.hid hkind
  replace ox := Lib.hid ox
  replace oy := Lib.hid oy
  obtain ⟨E, hE⟩ : ∃ E, E = twoE x.c y.c := ⟨_, rfl⟩
  rw [← hE]
  replace hE := Lib.hid hE
  go_enter Tryz.func59, Tryz.ntmps59
  go_upto_region 1 with fail
  obtain ⟨w1, hw1⟩ : ∃ w1, w1 = (((w.alloc (.cells #[.int .i64 x.d.kind, .string x.d.name, .string x.d.help, .slice x.d.A x.d.l.length x.d.c, .int .i64 (hiI x.t), .int .u64 (loI x.t), .slice x.CA x.cs.length x.cc, .int .u64 x.n, .float .f64 x.sm, .float .f64 x.mn, .float .f64 x.mx] 49)).alloc (.cells #[.int .i64 y.d.kind, .string y.d.name, .string y.d.help, .slice y.d.A y.d.l.length y.d.c, .int .i64 (hiI y.t), .int .u64 (loI y.t), .slice y.CA y.cs.length y.cc, .int .u64 y.n, .float .f64 y.sm, .float .f64 y.mn, .float .f64 y.mx] 49)).alloc (.cells #[.int .i64 0, .string ⟨#[]⟩, .string ⟨#[]⟩, .slice none 0 0, .int .i64 0, .int .u64 0, .slice none 0 0, .int .u64 0, .float .f64 0, .float .f64 0, .float .f64 0] 49)) := ⟨_, rfl⟩
  obtain ⟨k1, k2, k3, hb1⟩ := Blk.triple (cs := x.row) (ds := y.row) (es := [.int .i64 0, .string ⟨#[]⟩, .string ⟨#[]⟩, .slice none 0 0, .int .i64 0, .int .u64 0, .slice none 0 0, .int .u64 0, .float .f64 0, .float .f64 0, .float .f64 0]) hw1
  rw [← hw1]
  clear hw1
  unfold Vv.row at k1 k2
  have hs1 : w.heap.size + 1 + 1 < w1.heap.size := k3.1
  have y0 := (k1.2 0 _ rfl).1
  have y1 := (k1.2 1 _ rfl).1
  have y2 := (k1.2 2 _ rfl).1
  have y3 := (k1.2 3 _ rfl).1
  have y4 := (k1.2 4 _ rfl).1
  have y5 := (k1.2 5 _ rfl).1
  have y6 := (k1.2 6 _ rfl).1
  have y7 := (k1.2 7 _ rfl).1
  have y8 := (k1.2 8 _ rfl).1
  have y9 := (k1.2 9 _ rfl).1
  have y10 := (k1.2 10 _ rfl).1
  go_wp2_with fail
  refine (ccv.out _ hb1).mono ?_
  rintro e w2 ⟨v', rfl, hv', hb2⟩
  clear y0 y1 y2 y3 y4 y5 y6 y7 y8 y9 y10 ccv
  have hva := hv'.at hx
  obtain ⟨hd', heq, c0, ho⟩ := hv'
  replace heq := Lib.hid heq
  replace k1 := k1.later hb2
  replace k2 := k2.later hb2
  replace k3 := k3.later hb2
  have hbw := hb1.trans (hb2.mono hb1.size)
  have hs2 : w.heap.size + 1 + 1 < w2.heap.size := k3.1
  go_upto_region 2 with fail
  obtain ⟨w3, hw3⟩ : ∃ w3, w3 = w2.alloc (.cells #[.int .i64 v'.d.kind, .string v'.d.name, .string v'.d.help, .slice v'.d.A v'.d.l.length v'.d.c, .int .i64 (hiI v'.t), .int .u64 (loI v'.t), .slice v'.CA v'.cs.length v'.cc, .int .u64 v'.n, .float .f64 v'.sm, .float .f64 v'.mn, .float .f64 v'.mx] 49) := ⟨_, rfl⟩
  have k6 := Blk.new w2 v'.row 49
  unfold Vv.row at k6
  have hb3 : Below w2.heap.size w2 w3 := by rw [hw3]; exact (Below.refl _ _).alloc (Nat.le_refl _) _
  have ho3 : w3.ownsRow w1.heap.size 54 2 (.slice v'.CA x.cs.length c0) x.cs.length (flat x.cs) := by rw [hw3]; exact ho.alloc _
  obtain ⟨hdeq, cl0, hol⟩ := hd'
  have hlb : ∀ k, (Value.slice v'.d.A x.d.l.length cl0).ownBlock = some k → k ≠ w2.heap.size ∧ k ≠ w.heap.size + 1 + 1 := fun k hk => by have := hol.lt k hk; omega
  replace hdeq := Lib.hid hdeq
  have hol3 : w3.ownsRow w1.heap.size 103 2 (.slice v'.d.A x.d.l.length cl0) x.d.l.length (labs x.d.l) := by rw [hw3]; exact hol.alloc _
  replace k1 := k1.later hb3
  replace k2 := k2.later hb3
  replace k3 := k3.later hb3
  have k6' : Blk w3 w2.heap.size [.int .i64 v'.d.kind, .string v'.d.name, .string v'.d.help, .slice v'.d.A v'.d.l.length v'.d.c, .int .i64 (hiI v'.t), .int .u64 (loI v'.t), .slice v'.CA v'.cs.length v'.cc, .int .u64 v'.n, .float .f64 v'.sm, .float .f64 v'.mn, .float .f64 v'.mx] := by rw [hw3]; exact k6
  rw [← hw3]
  clear hw3 k6
  have hbw3 := hbw.trans (hb3.mono hbw.size)
  have hb1s := hb1.size
  have x4 := (k1.2 4 _ rfl).1
  have x5 := (k1.2 5 _ rfl).1
  have x7 := (k1.2 7 _ rfl).1
  have u4 := (k2.2 4 _ rfl).1
  have u5 := (k2.2 5 _ rfl).1
  have u7 := (k2.2 7 _ rfl).1
  have hl1 := k1.1
  have hl2 := k2.1
  have hne1 : w2.heap.size ≠ w.heap.size := by omega
  have hne2 : w2.heap.size ≠ w.heap.size + 1 := by omega
  have hn2 := hnw.out
  replace k1 := Lib.hid k1
  replace k2 := Lib.hid k2
  replace k3 := Lib.hid k3
  replace k6' := Lib.hid k6'
  have hkp : ∀ (W : World) (o : Nat) (u : Value), (W.cell? ⟨w.heap.size, 4, none⟩ = some (.int .i64 (hiI x.t)) ∧ W.cell? ⟨w.heap.size, 5, none⟩ = some (.int .u64 (loI x.t)) ∧ W.cell? ⟨w.heap.size, 7, none⟩ = some (.int .u64 x.n) ∧ W.cell? ⟨w.heap.size + 1, 4, none⟩ = some (.int .i64 (hiI y.t)) ∧ W.cell? ⟨w.heap.size + 1, 5, none⟩ = some (.int .u64 (loI y.t)) ∧ W.cell? ⟨w.heap.size + 1, 7, none⟩ = some (.int .u64 y.n)) → ((W.setCell ⟨w2.heap.size, o, none⟩ u).cell? ⟨w.heap.size, 4, none⟩ = some (.int .i64 (hiI x.t)) ∧ (W.setCell ⟨w2.heap.size, o, none⟩ u).cell? ⟨w.heap.size, 5, none⟩ = some (.int .u64 (loI x.t)) ∧ (W.setCell ⟨w2.heap.size, o, none⟩ u).cell? ⟨w.heap.size, 7, none⟩ = some (.int .u64 x.n) ∧ (W.setCell ⟨w2.heap.size, o, none⟩ u).cell? ⟨w.heap.size + 1, 4, none⟩ = some (.int .i64 (hiI y.t)) ∧ (W.setCell ⟨w2.heap.size, o, none⟩ u).cell? ⟨w.heap.size + 1, 5, none⟩ = some (.int .u64 (loI y.t)) ∧ (W.setCell ⟨w2.heap.size, o, none⟩ u).cell? ⟨w.heap.size + 1, 7, none⟩ = some (.int .u64 y.n)) := fun W o u h => by
    obtain ⟨h1, h2, h3, h4, h5, h6⟩ := h
    have ne1 : ∀ o', (⟨w2.heap.size, o, none⟩ : Addr) ≠ ⟨w.heap.size, o', none⟩ := fun o' e => hne1 (congrArg Addr.block e)
    have ne2 : ∀ o', (⟨w2.heap.size, o, none⟩ : Addr) ≠ ⟨w.heap.size + 1, o', none⟩ := fun o' e => hne2 (congrArg Addr.block e)
    exact ⟨by rw [World.cell?_setCell_other _ _ _ _ (ne1 _)]; exact h1, by rw [World.cell?_setCell_other _ _ _ _ (ne1 _)]; exact h2, by rw [World.cell?_setCell_other _ _ _ _ (ne1 _)]; exact h3, by rw [World.cell?_setCell_other _ _ _ _ (ne2 _)]; exact h4, by rw [World.cell?_setCell_other _ _ _ _ (ne2 _)]; exact h5, by rw [World.cell?_setCell_other _ _ _ _ (ne2 _)]; exact h6⟩
  go_region_held3 (fun W => W.cell? ⟨w.heap.size, 4, none⟩ = some (.int .i64 (hiI x.t)) ∧ W.cell? ⟨w.heap.size, 5, none⟩ = some (.int .u64 (loI x.t)) ∧ W.cell? ⟨w.heap.size, 7, none⟩ = some (.int .u64 x.n) ∧ W.cell? ⟨w.heap.size + 1, 4, none⟩ = some (.int .i64 (hiI y.t)) ∧ W.cell? ⟨w.heap.size + 1, 5, none⟩ = some (.int .u64 (loI y.t)) ∧ W.cell? ⟨w.heap.size + 1, 7, none⟩ = some (.int .u64 y.n)) (first | assumption | exact ⟨by assumption, by assumption, by assumption, by assumption, by assumption, by assumption⟩ | exact hkp _ _ _ ⟨by assumption, by assumption, by assumption, by assumption, by assumption, by assumption⟩ | exact hkp _ _ _ (hkp _ _ _ ⟨by assumption, by assumption, by assumption, by assumption, by assumption, by assumption⟩) | exact hkp _ _ _ (hkp _ _ _ (hkp _ _ _ ⟨by assumption, by assumption, by assumption, by assumption, by assumption, by assumption⟩))) (first
    | (go_at_call 112; refine (cad _).mono ?_; rintro e w4 ⟨rfl, hb4⟩; have m1 := Blk.later (w := w3.drew) k1.out hb4; have m2 := Blk.later (w := w3.drew) k2.out hb4; have m6 := Blk.later (w := w3.drew) k6'.out hb4; have c4 := (m1.2 4 _ rfl).1; have c5 := (m1.2 5 _ rfl).1; have c7 := (m1.2 7 _ rfl).1; have v4 := (m2.2 4 _ rfl).1; have v5 := (m2.2 5 _ rfl).1; have v7 := (m2.2 7 _ rfl).1; have a4 := (m6.2 4 _ rfl).1; have a5 := (m6.2 5 _ rfl).1; have a7 := (m6.2 7 _ rfl).1; have g4 := (m6.2 4 _ rfl).2; have g5 := (m6.2 5 _ rfl).2; have g7 := (m6.2 7 _ rfl).2))
  clear hkp x4 x5 x7 u4 u5 u7 hn2 cad
  replace k1 := ((m1.other (b := w2.heap.size) (i := 4) hne1 (.int .i64 (hiI (x.t + y.t)))).other (b := w2.heap.size) (i := 5) hne1 (.int .u64 (loI (x.t + y.t)))).other (b := w2.heap.size) (i := 7) hne1 (.int .u64 (x.n + y.n))
  replace k2 := ((m2.other (b := w2.heap.size) (i := 4) hne2 (.int .i64 (hiI (x.t + y.t)))).other (b := w2.heap.size) (i := 5) hne2 (.int .u64 (loI (x.t + y.t)))).other (b := w2.heap.size) (i := 7) hne2 (.int .u64 (x.n + y.n))
  have hne3 : w2.heap.size ≠ w.heap.size + 1 + 1 := by omega
  replace k3 := (((Blk.later (w := w3.drew) k3.out hb4).other (b := w2.heap.size) (i := 4) hne3 (.int .i64 (hiI (x.t + y.t)))).other (b := w2.heap.size) (i := 5) hne3 (.int .u64 (loI (x.t + y.t)))).other (b := w2.heap.size) (i := 7) hne3 (.int .u64 (x.n + y.n))
  have k6 := ((m6.set 4 (.int .i64 (hiI (x.t + y.t))) (by simp)).set 5 (.int .u64 (loI (x.t + y.t))) (by simp)).set 7 (.int .u64 (x.n + y.n)) (by simp)
  simp only [List.set_cons_zero, List.set_cons_succ] at k6
  have hb4' : Below w3.heap.size w3 w4 := (below_drewN (Below.refl w3.heap.size w3) 1).trans hb4
  have ho4 := own_later ho3 hb4'
  have hol4 := own_later hol3 hb4'
  have hbw4 := hbw3.trans (hb4'.mono hbw3.size)
  have hs12 := hb2.size
  clear m1 m2 m6 k6' c4 c5 c7 v4 v5 v7 a4 a5 a7 g4 g5 g7 hb4 ho hol ho3 hol3
  have hol5 := own_setne (o := 7) (own_setne (o := 5) (own_setne (o := 4) hol4 (fun k hk => (hlb k hk).1) (.int .i64 (hiI (x.t + y.t)))) (fun k hk => (hlb k hk).1) (.int .u64 (loI (x.t + y.t)))) (fun k hk => (hlb k hk).1) (.int .u64 (x.n + y.n))
  have hbw5 : Below w.heap.size w (((w4.setCell ⟨w2.heap.size, 4, none⟩ (.int .i64 (hiI (x.t + y.t)))).setCell ⟨w2.heap.size, 5, none⟩ (.int .u64 (loI (x.t + y.t)))).setCell ⟨w2.heap.size, 7, none⟩ (.int .u64 (x.n + y.n))) := by
    have := hbw4
    go_grown
  obtain ⟨w5, hw5⟩ : ∃ w5, w5 = (((w4.setCell ⟨w2.heap.size, 4, none⟩ (.int .i64 (hiI (x.t + y.t)))).setCell ⟨w2.heap.size, 5, none⟩ (.int .u64 (loI (x.t + y.t)))).setCell ⟨w2.heap.size, 7, none⟩ (.int .u64 (x.n + y.n))) := ⟨_, rfl⟩
  rename_i hHeld
  clear hHeld
  rw [← hw5] at k1 k2 k3 k6 hol5 hbw5 ⊢
  clear hw5 hol4 ho4 hb4' hbw4 hbw3 hl1 hl2 hb3
  have y4 := (k6.2 4 _ rfl).1
  have y5 := (k6.2 5 _ rfl).1
  go_wp2_with fail
  refine (csg _).mono ?_
  rintro e w6 ⟨rfl, hb6⟩
  clear y4 y5 csg
  replace k1 := k1.later hb6
  replace k2 := k2.later hb6
  replace k3 := k3.later hb6
  replace k6 := k6.later hb6
  have hol6 := own_later hol5 hb6
  have hbw6 := hbw5.trans (hb6.mono hbw5.size)
  clear hol5 hbw5 hb6
  have y7 := (k6.2 7 _ rfl).1
  have r0 := (k3.2 0 _ rfl).1
  have r1 := (k3.2 1 _ rfl).1
  have r2 := (k3.2 2 _ rfl).1
  have r3 := (k3.2 3 _ rfl).1
  have r4 := (k3.2 4 _ rfl).1
  have r5 := (k3.2 5 _ rfl).1
  have r6 := (k3.2 6 _ rfl).1
  have r7 := (k3.2 7 _ rfl).1
  have r8 := (k3.2 8 _ rfl).1
  have r9 := (k3.2 9 _ rfl).1
  have r10 := (k3.2 10 _ rfl).1
  have s0 := (k3.2 0 _ rfl).2
  have s1 := (k3.2 1 _ rfl).2
  have s2 := (k3.2 2 _ rfl).2
  have s3 := (k3.2 3 _ rfl).2
  have s4 := (k3.2 4 _ rfl).2
  have s5 := (k3.2 5 _ rfl).2
  have s6 := (k3.2 6 _ rfl).2
  have s7 := (k3.2 7 _ rfl).2
  have s8 := (k3.2 8 _ rfl).2
  have s9 := (k3.2 9 _ rfl).2
  have s10 := (k3.2 10 _ rfl).2
  by_cases hbig : 170141183460469231731687303715884105727 < x.t + y.t ∨ 9223372036854775807 < x.n + y.n
  · have hE3 : E = 3 := by rw [hE.out]; unfold twoE; exact if_pos hbig
    have hway : decide (cmpI (w128 (x.t + y.t)) 0 < 0) = true ∨ (decide (cmpI (w128 (x.t + y.t)) 0 < 0) = false ∧ (9223372036854775807 : Int) < x.n + y.n) := by
      by_cases h1 : 170141183460469231731687303715884105727 < x.t + y.t
      · exact .inl (decide_eq_true (by rw [hsg.out]; exact h1))
      · exact .inr ⟨decide_eq_false (by rw [hsg.out]; exact h1), by omega⟩
    generalize cmpI (w128 (x.t + y.t)) 0 = sg at *
    have hz : Blk w6 (w.heap.size + 1 + 1) _ := k3
    replace hE := Lib.hid hE
    clear hbig
    rcases hway with hw | ⟨hw, hw'⟩
    all_goals
      go_wp2
      try simp only [Exit.inBlock, Exit.then]
      refine bodyPost_ret (retVE rfl rfl rfl (k3.st11 rfl _ _ _ _ _ _ _ _ _ _ _)) rfl ?_
      refine ⟨by have := hbw6; go_grown, zeroV, ?_, fun h => ?_⟩
      · rw [hE3]
        exact congrArg (fun v => Ending.returned (.tuple #[v, .int .i64 3])) zeroV_v.symm
      · rw [hE3] at h; cases h
  · have d1 : decide (cmpI (w128 (x.t + y.t)) 0 < 0) = false := decide_eq_false (by rw [hsg.out]; omega)
    have d2 : ¬ (9223372036854775807 : Int) < x.n + y.n := by omega
    generalize cmpI (w128 (x.t + y.t)) 0 = sg at *
    clear r0 r1 r2 r3 r4 r5 r6 r7 r8 r9 r10 s0 s1 s2 s3 s4 s5 s6 s7 s8 s9 s10
    replace hbig := Lib.hid hbig
    have x6 := (k1.2 6 _ rfl).1
    have u6 := (k2.2 6 _ rfl).1
    go_upto_region 5 with fail
    clear y7
    go_wp2_with fail
    refine (cmg.out _ hbw6).mono ?_
    rintro e w7 ⟨A7, c7, rfl, ho7, hb7⟩
    clear x6 u6 cmg
    have hs6 : w2.heap.size < w6.heap.size := k6.1
    replace k1 := k1.later hb7
    replace k2 := k2.later hb7
    replace k3 := k3.later hb7
    replace k6 := k6.later hb7
    have hol7 := own_later hol6 hb7
    have hbw7 := hbw6.trans (hb7.mono hbw6.size)
    replace ho7 := own_set (o := 6) ho7 hs6 (.slice A7 (mrg (x.cs ++ y.cs)).length c7)
    replace hol7 := own_setne (o := 6) hol7 (fun k hk => (hlb k hk).1) (.slice A7 (mrg (x.cs ++ y.cs)).length c7)
    have f6 := (k6.2 6 _ rfl).2
    have y6 := (k6.2 6 _ rfl).1
    go_upto_region 13 with fail
    clear f6 y6
    replace k1 := k1.other (b := w2.heap.size) (i := 6) hne1 (.slice A7 (mrg (x.cs ++ y.cs)).length c7)
    replace k2 := k2.other (b := w2.heap.size) (i := 6) hne2 (.slice A7 (mrg (x.cs ++ y.cs)).length c7)
    replace k3 := k3.other (b := w2.heap.size) (i := 6) hne3 (.slice A7 (mrg (x.cs ++ y.cs)).length c7)
    replace k6 := k6.set 6 (.slice A7 (mrg (x.cs ++ y.cs)).length c7) (by simp)
    simp only [List.set_cons_zero, List.set_cons_succ] at k6
    have hbw8 : Below w.heap.size w (w7.setCell ⟨w2.heap.size, 6, none⟩ (.slice A7 (mrg (x.cs ++ y.cs)).length c7)) := by have := hbw7; go_grown
    obtain ⟨w8, hw8⟩ : ∃ w8, w8 = (w7.setCell ⟨w2.heap.size, 6, none⟩ (.slice A7 (mrg (x.cs ++ y.cs)).length c7)) := ⟨_, rfl⟩
    rw [← hw8] at k1 k2 k3 k6 hol7 ho7 hbw8 ⊢
    clear hw8 hbw7 hb7 hbw6 hol6
    obtain ⟨q1, q2, q3, q4, q5, q6, q7⟩ := heq.out
    have hkv : v'.d.kind = x.d.kind := hdeq.out.1
    have y0 := (k6.2 0 _ rfl).1
    have u7 := (k2.2 7 _ rfl).1
    by_cases hpl : x.d.kind ≠ 3 ∨ y.n = 0
    · have hfl := flo_plain ox.out oy.out hpl hkind.out
      have hE0 : E = 0 := by
        rw [hE.out]; unfold twoE
        rw [if_neg (show ¬ (170141183460469231731687303715884105727 < x.c.t + y.c.t ∨ 9223372036854775807 < x.c.n + y.c.n) from hbig.out), hfl, if_neg (by dsimp only; rw [ox.out.f.1]; decide)]
      have hway : (v'.d.kind != 3) = true ∨ ((v'.d.kind != 3) = false ∧ (y.n == 0) = true) := by
        rw [hkv]
        by_cases h3 : x.d.kind = 3
        · right; simp [h3]; rcases hpl with h | h; exact absurd h3 h; exact h
        · left; simpa using h3
      have hfin := fun (Wf : World) h1 h2 h3 => both_fin hx hy ox.out oy.out (d' := v'.d) (Wf := Wf) (A := A7) (c := c7) (cl0 := cl0) (B1 := w1.heap.size) (B2 := w6.heap.size) hdeq.out h1 (by omega) h2 hbig.out hx.sm hx.mn hx.mx hfl h3
      replace hfin := Lib.hid hfin
      rw [q5, q6, q7] at k6
      clear hpl hfl hkv q1 q2 q3 q4 q5 q6 q7
      have y1 := (k6.2 1 _ rfl).1
      have y2 := (k6.2 2 _ rfl).1
      have y3 := (k6.2 3 _ rfl).1
      have y4 := (k6.2 4 _ rfl).1
      have y5 := (k6.2 5 _ rfl).1
      have y6 := (k6.2 6 _ rfl).1
      have y7 := (k6.2 7 _ rfl).1
      have y8 := (k6.2 8 _ rfl).1
      have y9 := (k6.2 9 _ rfl).1
      have y10 := (k6.2 10 _ rfl).1
      have r0 := (k3.2 0 _ rfl).1
      have r1 := (k3.2 1 _ rfl).1
      have r2 := (k3.2 2 _ rfl).1
      have r3 := (k3.2 3 _ rfl).1
      have r4 := (k3.2 4 _ rfl).1
      have r5 := (k3.2 5 _ rfl).1
      have r6 := (k3.2 6 _ rfl).1
      have r7 := (k3.2 7 _ rfl).1
      have r8 := (k3.2 8 _ rfl).1
      have r9 := (k3.2 9 _ rfl).1
      have r10 := (k3.2 10 _ rfl).1
      have s0 := (k3.2 0 _ rfl).2
      have s1 := (k3.2 1 _ rfl).2
      have s2 := (k3.2 2 _ rfl).2
      have s3 := (k3.2 3 _ rfl).2
      have s4 := (k3.2 4 _ rfl).2
      have s5 := (k3.2 5 _ rfl).2
      have s6 := (k3.2 6 _ rfl).2
      have s7 := (k3.2 7 _ rfl).2
      have s8 := (k3.2 8 _ rfl).2
      have s9 := (k3.2 9 _ rfl).2
      have s10 := (k3.2 10 _ rfl).2
      rcases hway with hw | ⟨hw, hw'⟩
      all_goals
        go_wp2
        try simp only [Exit.inBlock, Exit.then]
        refine bodyPost_ret (retVE rfl rfl rfl (k3.st11 rfl _ _ _ _ _ _ _ _ _ _ _)) rfl ?_
        have hh1 := hol7
        have hh2 := ho7
        have hr1 : w.heap.size + 1 + 1 < w6.heap.size := by omega
        refine ⟨by have := hbw8; go_grown, ⟨v'.d, x.t + y.t, A7, c7, mrg (x.cs ++ y.cs), x.n + y.n, x.sm, x.mn, x.mx⟩, by rw [hE0], fun _ => hfin.out _ ?_ ?_ (by omega)⟩
        · iterate 11 (refine own_setne ?_ (fun k hk => (hlb k hk).2) _)
          exact hh1
        · iterate 11 (refine own_set ?_ hr1 _)
          exact hh2
    · obtain ⟨hk3, hyn⟩ : x.d.kind = 3 ∧ y.n ≠ 0 := ⟨Decidable.not_not.1 fun h => hpl (.inl h), fun h => hpl (.inr h)⟩
      have g1 : (v'.d.kind != 3) = false := by rw [hkv]; simpa using hk3
      have g2 : (y.n == 0) = false := by simpa using hyn
      have x7 := (k1.2 7 _ rfl).1
      rw [q5, q6, q7] at k6
      clear hkv q1 q2 q3 q4 q5 q6 q7 hpl
      by_cases hxn : x.n = 0
      · have g3 : (x.n == 0) = true := by simpa using hxn
        have hfl : flo x.c y.c = (y.sm, y.mn, y.mx) := by unfold flo; exact if_pos hxn
        have hE0 : E = 0 := by
          rw [hE.out]; unfold twoE
          rw [if_neg (show ¬ (170141183460469231731687303715884105727 < x.c.t + y.c.t ∨ 9223372036854775807 < x.c.n + y.c.n) from hbig.out), hfl, if_neg (by dsimp only; rw [oy.out.f.1]; decide)]
        have hfin := fun (Wf : World) h1 h2 h3 => both_fin hx hy ox.out oy.out (d' := v'.d) (Wf := Wf) (A := A7) (c := c7) (cl0 := cl0) (B1 := w1.heap.size) (B2 := w6.heap.size) hdeq.out h1 (by omega) h2 hbig.out hy.sm hy.mn hy.mx hfl h3
        replace hfin := Lib.hid hfin
        clear hk3 hyn hxn hfl
        go_upto_region 15 with fail
        have hkp : ∀ (W : World) (o : Nat) (u : Value), (W.cell? ⟨w.heap.size + 1, 8, none⟩ = some (.float .f64 y.sm) ∧ W.cell? ⟨w.heap.size + 1, 9, none⟩ = some (.float .f64 y.mn) ∧ W.cell? ⟨w.heap.size + 1, 10, none⟩ = some (.float .f64 y.mx)) → ((W.setCell ⟨w2.heap.size, o, none⟩ u).cell? ⟨w.heap.size + 1, 8, none⟩ = some (.float .f64 y.sm) ∧ (W.setCell ⟨w2.heap.size, o, none⟩ u).cell? ⟨w.heap.size + 1, 9, none⟩ = some (.float .f64 y.mn) ∧ (W.setCell ⟨w2.heap.size, o, none⟩ u).cell? ⟨w.heap.size + 1, 10, none⟩ = some (.float .f64 y.mx)) := fun W o u h => by
          obtain ⟨h1, h2, h3⟩ := h
          have ne2 : ∀ o', (⟨w2.heap.size, o, none⟩ : Addr) ≠ ⟨w.heap.size + 1, o', none⟩ := fun o' e => hne2 (congrArg Addr.block e)
          exact ⟨by rw [World.cell?_setCell_other _ _ _ _ (ne2 _)]; exact h1, by rw [World.cell?_setCell_other _ _ _ _ (ne2 _)]; exact h2, by rw [World.cell?_setCell_other _ _ _ _ (ne2 _)]; exact h3⟩
        have v8 := (k2.2 8 _ rfl).1
        have v9 := (k2.2 9 _ rfl).1
        have v10 := (k2.2 10 _ rfl).1
        have a8 := (k6.2 8 _ rfl).1
        have a9 := (k6.2 9 _ rfl).1
        have a10 := (k6.2 10 _ rfl).1
        have b8 := (k6.2 8 _ rfl).2
        have b9 := (k6.2 9 _ rfl).2
        have b10 := (k6.2 10 _ rfl).2
        clear y0 u7 x7
        go_region_held3 (fun W => W.cell? ⟨w.heap.size + 1, 8, none⟩ = some (.float .f64 y.sm) ∧ W.cell? ⟨w.heap.size + 1, 9, none⟩ = some (.float .f64 y.mn) ∧ W.cell? ⟨w.heap.size + 1, 10, none⟩ = some (.float .f64 y.mx)) (first | assumption | exact ⟨by assumption, by assumption, by assumption⟩ | exact hkp _ _ _ (by assumption) | exact hkp _ _ _ ⟨by assumption, by assumption, by assumption⟩ | exact hkp _ _ _ (hkp _ _ _ ⟨by assumption, by assumption, by assumption⟩) | exact hkp _ _ _ (hkp _ _ _ (hkp _ _ _ ⟨by assumption, by assumption, by assumption⟩))) (first | fail)
        rename_i hHeld
        clear hHeld hkp v8 v9 v10 a8 a9 a10 b8 b9 b10
        replace k3 : Blk (((w8.setCell ⟨w2.heap.size, 8, none⟩ (.float .f64 y.sm)).setCell ⟨w2.heap.size, 9, none⟩ (.float .f64 y.mn)).setCell ⟨w2.heap.size, 10, none⟩ (.float .f64 y.mx)).drew (w.heap.size + 1 + 1) _ := ((k3.other (b := w2.heap.size) (i := 8) hne3 (.float .f64 y.sm)).other (b := w2.heap.size) (i := 9) hne3 (.float .f64 y.mn)).other (b := w2.heap.size) (i := 10) hne3 (.float .f64 y.mx)
        have k6b := ((k6.set 8 (.float .f64 y.sm) (by simp)).set 9 (.float .f64 y.mn) (by simp)).set 10 (.float .f64 y.mx) (by simp)
        simp only [List.set_cons_zero, List.set_cons_succ] at k6b
        replace k6 : Blk (((w8.setCell ⟨w2.heap.size, 8, none⟩ (.float .f64 y.sm)).setCell ⟨w2.heap.size, 9, none⟩ (.float .f64 y.mn)).setCell ⟨w2.heap.size, 10, none⟩ (.float .f64 y.mx)).drew w2.heap.size _ := k6b
        clear k6b
        replace ho7 : ((((w8.setCell ⟨w2.heap.size, 8, none⟩ (.float .f64 y.sm)).setCell ⟨w2.heap.size, 9, none⟩ (.float .f64 y.mn)).setCell ⟨w2.heap.size, 10, none⟩ (.float .f64 y.mx)).drew).ownsRow _ _ _ _ _ _ := own_set (o := 10) (own_set (o := 9) (own_set (o := 8) ho7 hs6 (.float .f64 y.sm)) hs6 (.float .f64 y.mn)) hs6 (.float .f64 y.mx)
        replace hol7 : ((((w8.setCell ⟨w2.heap.size, 8, none⟩ (.float .f64 y.sm)).setCell ⟨w2.heap.size, 9, none⟩ (.float .f64 y.mn)).setCell ⟨w2.heap.size, 10, none⟩ (.float .f64 y.mx)).drew).ownsRow _ _ _ _ _ _ := own_setne (o := 10) (own_setne (o := 9) (own_setne (o := 8) hol7 (fun k hk => (hlb k hk).1) (.float .f64 y.sm)) (fun k hk => (hlb k hk).1) (.float .f64 y.mn)) (fun k hk => (hlb k hk).1) (.float .f64 y.mx)
        replace hbw8 : Below w.heap.size w ((((w8.setCell ⟨w2.heap.size, 8, none⟩ (.float .f64 y.sm)).setCell ⟨w2.heap.size, 9, none⟩ (.float .f64 y.mn)).setCell ⟨w2.heap.size, 10, none⟩ (.float .f64 y.mx)).drew) := by
          have h0 : Below w.heap.size w ((w8.setCell ⟨w2.heap.size, 8, none⟩ (.float .f64 y.sm)).setCell ⟨w2.heap.size, 9, none⟩ (.float .f64 y.mn) |>.setCell ⟨w2.heap.size, 10, none⟩ (.float .f64 y.mx)) := by have := hbw8; go_grown
          exact below_drewN h0 1
        obtain ⟨w9, hw9⟩ : ∃ w9, w9 = (((w8.setCell ⟨w2.heap.size, 8, none⟩ (.float .f64 y.sm)).setCell ⟨w2.heap.size, 9, none⟩ (.float .f64 y.mn)).setCell ⟨w2.heap.size, 10, none⟩ (.float .f64 y.mx)).drew := ⟨_, rfl⟩
        rw [← hw9] at k3 k6 ho7 hol7 hbw8 ⊢
        clear hw9
        have y0 := (k6.2 0 _ rfl).1
        have y1 := (k6.2 1 _ rfl).1
        have y2 := (k6.2 2 _ rfl).1
        have y3 := (k6.2 3 _ rfl).1
        have y4 := (k6.2 4 _ rfl).1
        have y5 := (k6.2 5 _ rfl).1
        have y6 := (k6.2 6 _ rfl).1
        have y7 := (k6.2 7 _ rfl).1
        have y8 := (k6.2 8 _ rfl).1
        have y9 := (k6.2 9 _ rfl).1
        have y10 := (k6.2 10 _ rfl).1
        have r0 := (k3.2 0 _ rfl).1
        have r1 := (k3.2 1 _ rfl).1
        have r2 := (k3.2 2 _ rfl).1
        have r3 := (k3.2 3 _ rfl).1
        have r4 := (k3.2 4 _ rfl).1
        have r5 := (k3.2 5 _ rfl).1
        have r6 := (k3.2 6 _ rfl).1
        have r7 := (k3.2 7 _ rfl).1
        have r8 := (k3.2 8 _ rfl).1
        have r9 := (k3.2 9 _ rfl).1
        have r10 := (k3.2 10 _ rfl).1
        have s0 := (k3.2 0 _ rfl).2
        have s1 := (k3.2 1 _ rfl).2
        have s2 := (k3.2 2 _ rfl).2
        have s3 := (k3.2 3 _ rfl).2
        have s4 := (k3.2 4 _ rfl).2
        have s5 := (k3.2 5 _ rfl).2
        have s6 := (k3.2 6 _ rfl).2
        have s7 := (k3.2 7 _ rfl).2
        have s8 := (k3.2 8 _ rfl).2
        have s9 := (k3.2 9 _ rfl).2
        have s10 := (k3.2 10 _ rfl).2
        go_wp2
        try simp only [Exit.inBlock, Exit.then]
        refine bodyPost_ret (retVE rfl rfl rfl (k3.st11 rfl _ _ _ _ _ _ _ _ _ _ _)) rfl ?_
        have hh1 := hol7
        have hh2 := ho7
        have hr1 : w.heap.size + 1 + 1 < w6.heap.size := by omega
        refine ⟨by have := hbw8; go_grown, ⟨v'.d, x.t + y.t, A7, c7, mrg (x.cs ++ y.cs), x.n + y.n, y.sm, y.mn, y.mx⟩, by rw [hE0], fun _ => hfin.out _ ?_ ?_ (by omega)⟩
        · iterate 11 (refine own_setne ?_ (fun k hk => (hlb k hk).2) _)
          exact hh1
        · iterate 11 (refine own_set ?_ hr1 _)
          exact hh2
      · have g3 : (x.n == 0) = false := by simpa using hxn
        have hfl : flo x.c y.c = (fadd x.sm y.sm, if cmpF y.mn x.mn < 0 then y.mn else x.mn, if 0 < cmpF y.mx x.mx then y.mx else x.mx) := by
          unfold flo
          rw [if_neg (show ¬ x.c.n = 0 from hxn), if_neg (show ¬ y.c.n = 0 from hyn)]; rfl
        have hokS := fadd_ok hx.sm hy.sm ox.out.f.1 oy.out.f.1
        have hfa := fun W => run_float_arith (P := Tryz.prog) W .add 47 .f64 x.sm y.sm (fadd x.sm y.sm) (add_facts hx.sm hy.sm ox.out.f.1 oy.out.f.1).1
        have hE2 : E = if finF (fadd x.sm y.sm) = false then 2 else 0 := by
          rw [hE.out]; unfold twoE
          rw [if_neg (show ¬ (170141183460469231731687303715884105727 < x.c.t + y.c.t ∨ 9223372036854775807 < x.c.n + y.c.n) from hbig.out), hfl]
        have hcf := fun W T => finite1 (fadd x.sm y.sm) hokS W T
        clear hk3 hyn hxn
        obtain ⟨S, hS⟩ : ∃ S, S = fadd x.sm y.sm := ⟨_, rfl⟩
        rw [← hS] at hfl hokS hfa hE2 hcf
        replace hS := Lib.hid hS
        replace hfl := Lib.hid hfl
        replace hcf := Lib.hid hcf
        have x8 := (k1.2 8 _ rfl).1
        have u8 := (k2.2 8 _ rfl).1
        have a8 := (k6.2 8 _ rfl).1
        have b8 := (k6.2 8 _ rfl).2
        go_upto_region 7 with fail
        clear x8 u8 a8 b8 x7 u7 y0
        replace k2 := k2.other (b := w2.heap.size) (i := 8) hne2 (.float .f64 S)
        replace k3 := k3.other (b := w2.heap.size) (i := 8) hne3 (.float .f64 S)
        replace k6 := k6.set 8 (.float .f64 S) (by simp)
        simp only [List.set_cons_zero, List.set_cons_succ] at k6
        replace ho7 := own_set (o := 8) ho7 hs6 (.float .f64 S)
        replace hol7 := own_setne (o := 8) hol7 (fun k hk => (hlb k hk).1) (.float .f64 S)
        replace hbw8 : Below w.heap.size w (w8.setCell ⟨w2.heap.size, 8, none⟩ (.float .f64 S)) := by have := hbw8; go_grown
        obtain ⟨w9, hw9⟩ : ∃ w9, w9 = w8.setCell ⟨w2.heap.size, 8, none⟩ (.float .f64 S) := ⟨_, rfl⟩
        rw [← hw9] at k2 k3 k6 ho7 hol7 hbw8 ⊢
        clear hw9 k1
        have y8 := (k6.2 8 _ rfl).1
        go_wp2_with fail
        refine (hcf.out _ _).mono ?_
        rintro e w10 ⟨rfl, hb10⟩
        clear y8 hcf
        replace k2 := k2.later hb10
        replace k3 := k3.later hb10
        replace k6 := k6.later hb10
        replace ho7 := own_later ho7 hb10
        replace hol7 := own_later hol7 hb10
        replace hbw8 := hbw8.trans (hb10.mono hbw8.size)
        clear hb10
        cases hfin0 : finF S
        · rw [hfin0, if_pos rfl] at hE2
          have r0 := (k3.2 0 _ rfl).1
          have r1 := (k3.2 1 _ rfl).1
          have r2 := (k3.2 2 _ rfl).1
          have r3 := (k3.2 3 _ rfl).1
          have r4 := (k3.2 4 _ rfl).1
          have r5 := (k3.2 5 _ rfl).1
          have r6 := (k3.2 6 _ rfl).1
          have r7 := (k3.2 7 _ rfl).1
          have r8 := (k3.2 8 _ rfl).1
          have r9 := (k3.2 9 _ rfl).1
          have r10 := (k3.2 10 _ rfl).1
          have s0 := (k3.2 0 _ rfl).2
          have s1 := (k3.2 1 _ rfl).2
          have s2 := (k3.2 2 _ rfl).2
          have s3 := (k3.2 3 _ rfl).2
          have s4 := (k3.2 4 _ rfl).2
          have s5 := (k3.2 5 _ rfl).2
          have s6 := (k3.2 6 _ rfl).2
          have s7 := (k3.2 7 _ rfl).2
          have s8 := (k3.2 8 _ rfl).2
          have s9 := (k3.2 9 _ rfl).2
          have s10 := (k3.2 10 _ rfl).2
          go_wp2
          try simp only [Exit.inBlock, Exit.then]
          refine bodyPost_ret (retVE rfl rfl rfl (k3.st11 rfl _ _ _ _ _ _ _ _ _ _ _)) rfl ?_
          refine ⟨by have := hbw8; go_grown, zeroV, ?_, fun h => ?_⟩
          · rw [hE2]
            exact congrArg (fun v => Ending.returned (.tuple #[v, .int .i64 2])) zeroV_v.symm
          · rw [hE2] at h; cases h
        · rw [hfin0, if_neg (by decide)] at hE2
          have hE0 := hE2
          clear hE2
          have cm1 := real_compare y.mn x.mn hy.mn hx.mn
          have cm2 := real_compare y.mx x.mx hy.mx hx.mx
          obtain ⟨mn, hmn⟩ : ∃ mn, mn = if cmpF y.mn x.mn < 0 then y.mn else x.mn := ⟨_, rfl⟩
          obtain ⟨mx, hmx⟩ : ∃ mx, mx = if 0 < cmpF y.mx x.mx then y.mx else x.mx := ⟨_, rfl⟩
          have hfl := hfl.out
          rw [← hmn, ← hmx] at hfl
          have okn : okF mn := by rw [hmn]; split; exact hy.mn; exact hx.mn
          have okx : okF mx := by rw [hmx]; split; exact hy.mx; exact hx.mx
          have hfin := fun (Wf : World) h1 h2 h3 => both_fin hx hy ox.out oy.out (d' := v'.d) (Wf := Wf) (A := A7) (c := c7) (cl0 := cl0) (B1 := w1.heap.size) (B2 := w6.heap.size) hdeq.out h1 (by omega) h2 hbig.out hokS okn okx hfl h3
          replace hfin := Lib.hid hfin
          clear hfl okn okx
          have wy1 : (cmpF y.mn x.mn < 0 ∧ mn = y.mn) ∨ (¬ cmpF y.mn x.mn < 0 ∧ mn = x.mn) := by
            by_cases h : cmpF y.mn x.mn < 0
            · exact .inl ⟨h, by rw [hmn, if_pos h]⟩
            · exact .inr ⟨h, by rw [hmn, if_neg h]⟩
          have wy2 : (0 < cmpF y.mx x.mx ∧ mx = y.mx) ∨ (¬ 0 < cmpF y.mx x.mx ∧ mx = x.mx) := by
            by_cases h : 0 < cmpF y.mx x.mx
            · exact .inl ⟨h, by rw [hmx, if_pos h]⟩
            · exact .inr ⟨h, by rw [hmx, if_neg h]⟩
          clear hmn hmx
          generalize cmpF y.mn x.mn = C1 at *
          generalize cmpF y.mx x.mx = C2 at *
          replace wy1 := Lib.hid wy1
          replace wy2 := Lib.hid wy2
          have v9 := (k2.2 9 _ rfl).1
          have a9 := (k6.2 9 _ rfl).1
          go_upto_if 54 with (go_at_call 92; refine (cm1 _).mono ?_; rintro e w11 ⟨rfl, n1, rfl⟩)
          clear v9 a9 cm1
          replace k2 : Blk (w10.drewN n1) _ _ := k2
          replace k3 : Blk (w10.drewN n1) _ _ := k3
          replace k6 : Blk (w10.drewN n1) _ _ := k6
          replace ho7 : (w10.drewN n1).ownsRow _ _ _ _ _ _ := ho7
          replace hol7 : (w10.drewN n1).ownsRow _ _ _ _ _ _ := hol7
          replace hbw8 := below_drewN hbw8 n1
          obtain ⟨w11, hw11⟩ : ∃ w11, w11 = w10.drewN n1 := ⟨_, rfl⟩
          rw [← hw11] at k2 k3 k6 ho7 hol7 hbw8 ⊢
          clear hw11
          go_cut [5] (fun s5 wx => s5 = .int .i64 0 ∧ Hid (Blk wx w2.heap.size [.int .i64 v'.d.kind, .string v'.d.name, .string v'.d.help, .slice v'.d.A v'.d.l.length v'.d.c, .int .i64 (hiI (x.t + y.t)), .int .u64 (loI (x.t + y.t)), .slice A7 (mrg (x.cs ++ y.cs)).length c7, .int .u64 (x.n + y.n), .float .f64 S, .float .f64 mn, .float .f64 x.mx] ∧ Blk wx (w.heap.size + 1) [.int .i64 y.d.kind, .string y.d.name, .string y.d.help, .slice y.d.A y.d.l.length y.d.c, .int .i64 (hiI y.t), .int .u64 (loI y.t), .slice y.CA y.cs.length y.cc, .int .u64 y.n, .float .f64 y.sm, .float .f64 y.mn, .float .f64 y.mx] ∧ Blk wx (w.heap.size + 1 + 1) [.int .i64 0, .string ⟨#[]⟩, .string ⟨#[]⟩, .slice none 0 0, .int .i64 0, .int .u64 0, .slice none 0 0, .int .u64 0, .float .f64 0, .float .f64 0, .float .f64 0] ∧ wx.ownsRow w6.heap.size 54 2 (.slice A7 (mrg (x.cs ++ y.cs)).length c7) (mrg (x.cs ++ y.cs)).length (flat (mrg (x.cs ++ y.cs))) ∧ wx.ownsRow w1.heap.size 103 2 (.slice v'.d.A x.d.l.length cl0) x.d.l.length (labs x.d.l) ∧ Below w.heap.size w wx))
          case first =>
            have u9 := (k2.2 9 _ rfl).1
            have a9 := (k6.2 9 _ rfl).1
            have b9 := (k6.2 9 _ rfl).2
            rcases wy1.out with ⟨e1, e2⟩ | ⟨e1, e2⟩
            · replace e2 := Lib.hid e2
              go_wp2
              go_meet
              case rel =>
                refine ⟨rfl, Lib.hid ⟨?_, k2.other (b := w2.heap.size) (i := 9) hne2 _, k3.other (b := w2.heap.size) (i := 9) hne3 _, own_set ho7 hs6 _, own_setne hol7 (fun k hk => (hlb k hk).1) _, by have := hbw8; go_grown⟩⟩
                have q := k6.set 9 (.float .f64 y.mn) (by simp)
                simp only [List.set_cons_zero, List.set_cons_succ] at q
                rw [e2.out]; exact q
            · replace e2 := Lib.hid e2
              go_wp2
              go_meet
              case rel => exact ⟨rfl, Lib.hid ⟨by rw [e2.out]; exact k6, k2, k3, ho7, hol7, hbw8⟩⟩
          case rest =>
            obtain ⟨rfl, hcut⟩ := hcut
            replace k6 := hcut.out.1
            replace k2 := hcut.out.2.1
            replace k3 := hcut.out.2.2.1
            replace ho7 := hcut.out.2.2.2.1
            replace hol7 := hcut.out.2.2.2.2.1
            replace hbw8 := hcut.out.2.2.2.2.2
            clear hcut
            have v10 := (k2.2 10 _ rfl).1
            have a10 := (k6.2 10 _ rfl).1
            go_upto_if 63 with (go_at_call 92; refine (cm2 _).mono ?_; rintro e w12 ⟨rfl, n2, rfl⟩)
            clear v10 a10 cm2
            replace k2 : Blk (wc.drewN n2) _ _ := k2
            replace k3 : Blk (wc.drewN n2) _ _ := k3
            replace k6 : Blk (wc.drewN n2) _ _ := k6
            replace ho7 : (wc.drewN n2).ownsRow _ _ _ _ _ _ := ho7
            replace hol7 : (wc.drewN n2).ownsRow _ _ _ _ _ _ := hol7
            replace hbw8 := below_drewN hbw8 n2
            obtain ⟨w12, hw12⟩ : ∃ w12, w12 = wc.drewN n2 := ⟨_, rfl⟩
            rw [← hw12] at k2 k3 k6 ho7 hol7 hbw8 ⊢
            clear hw12
            have u10 := (k2.2 10 _ rfl).1
            have b10 := (k6.2 10 _ rfl).2
            rcases wy2.out with ⟨e1, e2⟩ | ⟨e1, e2⟩
            · replace e2 := Lib.hid e2
              have a10 := (k6.2 10 _ rfl).1
              go_upto_region 16 with fail
              clear a10 b10 u10
              replace ho7 := own_set (o := 10) ho7 hs6 (.float .f64 y.mx)
              replace hol7 := own_setne (o := 10) hol7 (fun k hk => (hlb k hk).1) (.float .f64 y.mx)
              replace k3 := k3.other (b := w2.heap.size) (i := 10) hne3 (.float .f64 y.mx)
              replace k6 := k6.set 10 (.float .f64 y.mx) (by simp)
              simp only [List.set_cons_zero, List.set_cons_succ] at k6
              replace hbw8 : Below w.heap.size w (w12.setCell ⟨w2.heap.size, 10, none⟩ (.float .f64 y.mx)) := by have := hbw8; go_grown
              obtain ⟨w13, hw13⟩ : ∃ w13, w13 = w12.setCell ⟨w2.heap.size, 10, none⟩ (.float .f64 y.mx) := ⟨_, rfl⟩
              rw [← hw13] at k3 k6 ho7 hol7 hbw8 ⊢
              clear hw13
              rw [← e2.out] at k6 ⊢
              have y0 := (k6.2 0 _ rfl).1
              have y1 := (k6.2 1 _ rfl).1
              have y2 := (k6.2 2 _ rfl).1
              have y3 := (k6.2 3 _ rfl).1
              have y4 := (k6.2 4 _ rfl).1
              have y5 := (k6.2 5 _ rfl).1
              have y6 := (k6.2 6 _ rfl).1
              have y7 := (k6.2 7 _ rfl).1
              have y8 := (k6.2 8 _ rfl).1
              have y9 := (k6.2 9 _ rfl).1
              have y10 := (k6.2 10 _ rfl).1
              have r0 := (k3.2 0 _ rfl).1
              have r1 := (k3.2 1 _ rfl).1
              have r2 := (k3.2 2 _ rfl).1
              have r3 := (k3.2 3 _ rfl).1
              have r4 := (k3.2 4 _ rfl).1
              have r5 := (k3.2 5 _ rfl).1
              have r6 := (k3.2 6 _ rfl).1
              have r7 := (k3.2 7 _ rfl).1
              have r8 := (k3.2 8 _ rfl).1
              have r9 := (k3.2 9 _ rfl).1
              have r10 := (k3.2 10 _ rfl).1
              have s0 := (k3.2 0 _ rfl).2
              have s1 := (k3.2 1 _ rfl).2
              have s2 := (k3.2 2 _ rfl).2
              have s3 := (k3.2 3 _ rfl).2
              have s4 := (k3.2 4 _ rfl).2
              have s5 := (k3.2 5 _ rfl).2
              have s6 := (k3.2 6 _ rfl).2
              have s7 := (k3.2 7 _ rfl).2
              have s8 := (k3.2 8 _ rfl).2
              have s9 := (k3.2 9 _ rfl).2
              have s10 := (k3.2 10 _ rfl).2
              go_wp2
              try simp only [Exit.inBlock, Exit.then]
              refine bodyPost_ret (retVE rfl rfl rfl (k3.st11 rfl _ _ _ _ _ _ _ _ _ _ _)) rfl ?_
              have hh1 := hol7
              have hh2 := ho7
              have hr1 : w.heap.size + 1 + 1 < w6.heap.size := by omega
              refine ⟨by have := hbw8; go_grown, ⟨v'.d, x.t + y.t, A7, c7, mrg (x.cs ++ y.cs), x.n + y.n, S, mn, mx⟩, by rw [hE0], fun _ => hfin.out _ ?_ ?_ (by omega)⟩
              · iterate 11 (refine own_setne ?_ (fun k hk => (hlb k hk).2) _)
                exact hh1
              · iterate 11 (refine own_set ?_ hr1 _)
                exact hh2
            · replace e2 := Lib.hid e2
              clear b10 u10
              rw [← e2.out] at k6
              have y0 := (k6.2 0 _ rfl).1
              have y1 := (k6.2 1 _ rfl).1
              have y2 := (k6.2 2 _ rfl).1
              have y3 := (k6.2 3 _ rfl).1
              have y4 := (k6.2 4 _ rfl).1
              have y5 := (k6.2 5 _ rfl).1
              have y6 := (k6.2 6 _ rfl).1
              have y7 := (k6.2 7 _ rfl).1
              have y8 := (k6.2 8 _ rfl).1
              have y9 := (k6.2 9 _ rfl).1
              have y10 := (k6.2 10 _ rfl).1
              have r0 := (k3.2 0 _ rfl).1
              have r1 := (k3.2 1 _ rfl).1
              have r2 := (k3.2 2 _ rfl).1
              have r3 := (k3.2 3 _ rfl).1
              have r4 := (k3.2 4 _ rfl).1
              have r5 := (k3.2 5 _ rfl).1
              have r6 := (k3.2 6 _ rfl).1
              have r7 := (k3.2 7 _ rfl).1
              have r8 := (k3.2 8 _ rfl).1
              have r9 := (k3.2 9 _ rfl).1
              have r10 := (k3.2 10 _ rfl).1
              have s0 := (k3.2 0 _ rfl).2
              have s1 := (k3.2 1 _ rfl).2
              have s2 := (k3.2 2 _ rfl).2
              have s3 := (k3.2 3 _ rfl).2
              have s4 := (k3.2 4 _ rfl).2
              have s5 := (k3.2 5 _ rfl).2
              have s6 := (k3.2 6 _ rfl).2
              have s7 := (k3.2 7 _ rfl).2
              have s8 := (k3.2 8 _ rfl).2
              have s9 := (k3.2 9 _ rfl).2
              have s10 := (k3.2 10 _ rfl).2
              go_wp2
              try simp only [Exit.inBlock, Exit.then]
              refine bodyPost_ret (retVE rfl rfl rfl (k3.st11 rfl _ _ _ _ _ _ _ _ _ _ _)) rfl ?_
              have hh1 := hol7
              have hh2 := ho7
              have hr1 : w.heap.size + 1 + 1 < w6.heap.size := by omega
              refine ⟨by have := hbw8; go_grown, ⟨v'.d, x.t + y.t, A7, c7, mrg (x.cs ++ y.cs), x.n + y.n, S, mn, mx⟩, by rw [hE0], fun _ => hfin.out _ ?_ ?_ (by omega)⟩
              · iterate 11 (refine own_setne ?_ (fun k hk => (hlb k hk).2) _)
                exact hh1
              · iterate 11 (refine own_set ?_ hr1 _)
                exact hh2
end Go.Proofs.YtpiegngjpnpohaaGreat.Sn
