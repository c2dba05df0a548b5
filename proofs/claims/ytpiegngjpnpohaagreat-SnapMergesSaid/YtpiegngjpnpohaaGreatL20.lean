/- Lemmas for the laws of this seat, laid together of SnA, SnB. -/
import Derived.Test.YtpiegngjpnpohaaGreatL19
import Derived.Laws.FloatArith

namespace Go.Proofs.YtpiegngjpnpohaaGreat.Sn
open Go.RowKit Go.Proofs.YtpiegngjpnpohaaGreat.La Go.Proofs.YtpiegngjpnpohaaGreat.Sl Go.Proofs.YtpiegngjpnpohaaGreat.Ck Go.Proofs.YtpiegngjpnpohaaGreat.Rc Go.Proofs.YtpiegngjpnpohaaGreat.Rk Go.Proofs.YtpiegngjpnpohaaGreat.Wi Go.Proofs.YtpiegngjpnpohaaGreat.Fb
set_option linter.unusedVariables false
theorem fz {w w' : World} {B g o : Nat} (hb : Below B w w') (hg : g < B) (h : w.frozen? ⟨g, o, none⟩ = false) : w'.frozen? ⟨g, o, none⟩ = false := by
  unfold World.frozen? at *
  rw [hb.block g hg]; exact h
def Blk (w : World) (g : Nat) (cs : List Value) : Prop := g < w.heap.size ∧ ∀ j u, cs[j]? = some u → w.cell? ⟨g, j, none⟩ = some u ∧ w.frozen? ⟨g, j, none⟩ = false
theorem Blk.below {w w' : World} {g B : Nat} {cs : List Value} (h : Blk w g cs) (hb : Below B w w') (hg : g < B) (hB : B ≤ w.heap.size) : Blk w' g cs :=
  ⟨Nat.lt_of_lt_of_le h.1 (by rcases Nat.lt_or_ge w'.heap.size w.heap.size with x | x
                              · exact absurd hb.size (by omega)
                              · exact x), fun j u hu => ⟨kc hb hg (h.2 j u hu).1, fz hb hg (h.2 j u hu).2⟩⟩
theorem Blk.later {w w' : World} {g : Nat} {cs : List Value} (h : Blk w g cs) (hb : Below w.heap.size w w') : Blk w' g cs := h.below hb h.1 (Nat.le_refl _)
theorem Blk.new (w : World) (cs : List Value) (T : TypeId) : Blk (w.alloc (.cells cs.toArray T)) w.heap.size cs :=
  ⟨by simp, fun j u hu => ⟨by rw [Mg.cell_new]; simpa using hu, World.frozen?_alloc_new _ _ _ _⟩⟩
theorem Blk.alloc {w : World} {g : Nat} {cs : List Value} (h : Blk w g cs) (o : Obj) : Blk (w.alloc o) g cs := h.later ((Below.refl _ _).alloc (Nat.le_refl _) o)
theorem Blk.pair {w w1 : World} {cs ds : List Value} {T U : TypeId} (h : w1 = (w.alloc (.cells cs.toArray T)).alloc (.cells ds.toArray U)) : Blk w1 w.heap.size cs ∧ Blk w1 (w.heap.size + 1) ds ∧ Below w.heap.size w w1 := by
  subst h
  have k2 := Blk.new (w.alloc (.cells cs.toArray T)) ds U
  rw [World.size_alloc] at k2
  exact ⟨(Blk.new w cs T).alloc _, k2, ((Below.refl _ _).alloc (Nat.le_refl _) _).alloc (by simp) _⟩
theorem Blk.set {w : World} {g : Nat} {cs : List Value} (h : Blk w g cs) (i : Nat) (x : Value) (hi : i < cs.length) : Blk (w.setCell ⟨g, i, none⟩ x) g (cs.set i x) := by
  refine ⟨by simpa using h.1, fun j u hu => ⟨?_, by simp [(h.2 j _ (List.getElem?_eq_getElem (by
    have := (List.getElem?_eq_some_iff.1 hu).1
    simpa using this))).2]⟩⟩
  have hj : j < cs.length := by have := (List.getElem?_eq_some_iff.1 hu).1; simpa using this
  by_cases e : j = i
  · subst e
    rw [List.getElem?_set_self hi] at hu
    cases hu
    have := (h.2 j _ (List.getElem?_eq_getElem hj)).1
    go_cell
  · rw [List.getElem?_set_ne (Ne.symm e)] at hu
    rw [World.cell?_setCell_other _ _ _ _ (fun e2 => e (by injection e2 with _ h2; exact h2.symm))]
    exact (h.2 j u hu).1
theorem Blk.other {w : World} {g b i : Nat} {cs : List Value} (h : Blk w g cs) (hb : b ≠ g) (x : Value) : Blk (w.setCell ⟨b, i, none⟩ x) g cs := by
  refine ⟨by simpa using h.1, fun j u hu => ⟨?_, by simp [(h.2 j u hu).2]⟩⟩
  rw [World.cell?_setCell_other _ _ _ _ (fun e => hb (congrArg Addr.block e))]
  exact (h.2 j u hu).1
theorem retD {fn : Func} {p : Tmp} {g : Nat} {x0 x1 x2 x3 : Value} {tmps : Array Value} {w : World} (h : fn.results = #[.cell p 43]) (hp : tmps[p]?.getD undef = .pointer (some ⟨g, 0, none⟩))
    (hb : Blk w g [x0, x1, x2, x3]) : (results fn tmps).run Tryz.prog w = .ok (.agg #[x0, x1, x2, x3]) w := by
  have h0 := (hb.2 0 _ rfl).1
  have h1 := (hb.2 1 _ rfl).1
  have h2 := (hb.2 2 _ rfl).1
  have h3 := (hb.2 3 _ rfl).1
  simp [results, h, hp, go_sem, h0, h1, h2, h3]
theorem retV {fn : Func} {p : Tmp} {g : Nat} {x0 x1 x2 x3 x4 x5 x6 x7 x8 x9 x10 : Value} {tmps : Array Value} {w : World} (h : fn.results = #[.cell p 49]) (hp : tmps[p]?.getD undef = .pointer (some ⟨g, 0, none⟩))
    (hb : Blk w g [x0, x1, x2, x3, x4, x5, x6, x7, x8, x9, x10]) : (results fn tmps).run Tryz.prog w = .ok (.agg #[x0, x1, x2, x3, x4, x5, x6, x7, x8, x9, x10]) w := by
  have h0 := (hb.2 0 _ rfl).1
  have h1 := (hb.2 1 _ rfl).1
  have h2 := (hb.2 2 _ rfl).1
  have h3 := (hb.2 3 _ rfl).1
  have h4 := (hb.2 4 _ rfl).1
  have h5 := (hb.2 5 _ rfl).1
  have h6 := (hb.2 6 _ rfl).1
  have h7 := (hb.2 7 _ rfl).1
  have h8 := (hb.2 8 _ rfl).1
  have h9 := (hb.2 9 _ rfl).1
  have h10 := (hb.2 10 _ rfl).1
  simp [results, h, hp, go_sem, h0, h1, h2, h3, h4, h5, h6, h7, h8, h9, h10]
structure NewD (w w' : World) (d d' : DD) : Prop where
  eq : d'.kind = d.kind ∧ d'.name = d.name ∧ d'.help = d.help ∧ d'.l = d.l ∧ d'.c = d.l.length
  own : ∃ c0, w'.ownsRow w.heap.size 103 2 (.slice d'.A d.l.length c0) d.l.length (labs d.l)
theorem NewD.at {w w' : World} {d d' : DD} {B : Nat} {w0 : World} (h : NewD w w' d d') (k : DAt d w0 B) : DAt d' w' w'.heap.size := by
  obtain ⟨⟨e1, e2, e3, e4, e5⟩, c0, ho⟩ := h
  have hr := Rd.of_own (B := w'.heap.size) ho (fun g hg => (ho.lt g.block (by rw [hg]; rfl)).2)
  refine ⟨by rw [e4]; exact hr, by rw [e4, e5]; exact Nat.le_refl _, by rw [e5]; exact Nat.le_trans k.len2 (by decide), by rw [e4]; exact k.len2, by rw [e2]; exact k.name, by rw [e3]; exact k.help, by rw [e4]; exact k.texts, by rw [e1]; exact k.kind⟩
theorem own_set {w : World} {base n s b o : Nat} {e : TypeId} {v : Value} {xs : List Value} (h : w.ownsRow base e s v n xs) (hb : b < base) (u : Value) : (w.setCell ⟨b, o, none⟩ u).ownsRow base e s v n xs :=
  own_only h (only_set (only_refl w _) o u) hb
set_option maxRecDepth 100000 in
set_option maxHeartbeats 1000000 in
theorem copyD_any (d : DD) (w : World) (h : DAt d w w.heap.size) (hl : d.l.length ≤ 4398046511104) :
    Calls Tryz.prog 109 #[d.v] w fun e w' => ∃ d' : DD, e = .returned d'.v ∧ NewD w w' d d' ∧ Below w.heap.size w w' := by
  obtain ⟨k0, n0, h0, A0, c0, l0⟩ := d
  have hrd := h.rd
  dsimp only at hrd hl
  have ccl := fun (W : World) (k : Below w.heap.size w W) => cloneL_any l0 A0 c0 w.heap.size W (hrd.below k) hl
  unfold DD.v
  dsimp only
  obtain ⟨ln, hln⟩ : ∃ ln, ln = l0.length := ⟨_, rfl⟩
  rw [← hln] at ccl ⊢
  generalize hxs : labs l0 = xs at *
  replace hxs := Lib.hid hxs
  replace hln := Lib.hid hln
  replace ccl := Lib.hid ccl
  clear h hrd hl
  go_enter Tryz.func109, Tryz.ntmps109
  go_upto_region 1 with fail
  have k1 := (Blk.new w [.int .i64 k0, .string n0, .string h0, .slice A0 ln c0] 43).alloc (.cells #[.int .i64 0, .string ⟨#[]⟩, .string ⟨#[]⟩, .slice none 0 0] 43)
  have k2 := Blk.new (w.alloc (.cells #[.int .i64 k0, .string n0, .string h0, .slice A0 ln c0] 43)) [.int .i64 0, .string ⟨#[]⟩, .string ⟨#[]⟩, .slice none 0 0] 43
  have hb1 : Below w.heap.size w ((w.alloc (.cells #[.int .i64 k0, .string n0, .string h0, .slice A0 ln c0] 43)).alloc (.cells #[.int .i64 0, .string ⟨#[]⟩, .string ⟨#[]⟩, .slice none 0 0] 43)) := ((Below.refl _ _).alloc (Nat.le_refl _) _).alloc (by simp) _
  obtain ⟨w1, hw1⟩ : ∃ w1, w1 = ((w.alloc (.cells #[.int .i64 k0, .string n0, .string h0, .slice A0 ln c0] 43)).alloc (.cells #[.int .i64 0, .string ⟨#[]⟩, .string ⟨#[]⟩, .slice none 0 0] 43)) := ⟨_, rfl⟩
  rw [World.size_alloc] at k2
  rw [show ([.int .i64 k0, .string n0, .string h0, .slice A0 ln c0] : List Value).toArray = #[.int .i64 k0, .string n0, .string h0, .slice A0 ln c0] from rfl] at k1
  rw [show ([.int .i64 0, .string ⟨#[]⟩, .string ⟨#[]⟩, .slice none 0 0] : List Value).toArray = #[.int .i64 0, .string ⟨#[]⟩, .string ⟨#[]⟩, .slice none 0 0] from rfl] at k2
  rw [← hw1] at k1 k2 hb1 ⊢
  clear hw1
  have y3 := (k1.2 3 _ rfl).1
  go_wp2_with fail
  refine (ccl.out _ hb1).mono ?_
  rintro e w2 ⟨A1, c1, rfl, ho, hb2⟩
  have hcl : ln ≤ c1 := by
    obtain ⟨A2, c2, e, h1, h2, _⟩ := own_form ho
    cases e; exact h1
  have ccp := clipL_any A1 ln c1 hcl
  clear y3
  go_wp2_with fail
  refine (ccp _).mono ?_
  rintro e w2b ⟨rfl, hw2b⟩
  rw [hw2b]
  clear hw2b w2b
  have j1 := k1.later hb2
  have j2 := k2.later hb2
  have y0 := (j1.2 0 _ rfl).1
  have y1 := (j1.2 1 _ rfl).1
  have y2 := (j1.2 2 _ rfl).1
  have y3 := (j1.2 3 _ rfl).1
  have f3 := (j1.2 3 _ rfl).2
  have r0 := (j2.2 0 _ rfl).1
  have r1 := (j2.2 1 _ rfl).1
  have r2 := (j2.2 2 _ rfl).1
  have r3 := (j2.2 3 _ rfl).1
  have s0 := (j2.2 0 _ rfl).2
  have s1 := (j2.2 1 _ rfl).2
  have s2 := (j2.2 2 _ rfl).2
  have s3 := (j2.2 3 _ rfl).2
  go_wp2
  try simp only [Exit.inBlock, Exit.then]
  have fin : Blk (((((w2.setCell ⟨w.heap.size, 3, none⟩ (.slice A1 ln ln)).setCell ⟨w.heap.size + 1, 0, none⟩ (.int .i64 k0)).setCell ⟨w.heap.size + 1, 1, none⟩ (.string n0)).setCell ⟨w.heap.size + 1, 2, none⟩ (.string h0)).setCell ⟨w.heap.size + 1, 3, none⟩ (.slice A1 ln ln)) (w.heap.size + 1) [.int .i64 k0, .string n0, .string h0, .slice A1 ln ln] :=
    ((((j2.other (by omega) _).set 0 _ (by simp)).set 1 _ (by simp)).set 2 _ (by simp)).set 3 _ (by simp)
  refine bodyPost_ret (retD rfl rfl fin) rfl ?_
  have hs1 : w.heap.size + 1 < w1.heap.size := k2.1
  refine ⟨⟨k0, n0, h0, A1, ln, l0⟩, by dsimp only; rw [← hln.out], ⟨⟨rfl, rfl, rfl, rfl, hln.out⟩, c1, ?_⟩, ?_⟩
  · dsimp only
    rw [← hln.out, hxs.out]
    have ho' : w2.ownsRow (w.heap.size + 2) 103 2 (.slice A1 ln c1) ln xs := own_base ho (by omega)
    exact own_base (own_set (own_set (own_set (own_set (own_set ho' (by omega) _) (by omega) _) (by omega) _) (by omega) _) (by omega) _) (by omega)
  · have hb := hb1.trans (hb2.mono hb1.size)
    go_grown
structure NewV (w w' : World) (v v' : Vv) : Prop where
  d : NewD w w' v.d v'.d
  eq : v'.t = v.t ∧ v'.cs = v.cs ∧ v'.cc = v.cs.length ∧ v'.n = v.n ∧ v'.sm = v.sm ∧ v'.mn = v.mn ∧ v'.mx = v.mx
  own : ∃ c0, w'.ownsRow w.heap.size 54 2 (.slice v'.CA v.cs.length c0) v.cs.length (flat v.cs)
theorem NewV.at {w w' w0 : World} {v v' : Vv} {B : Nat} (h : NewV w w' v v') (k : VAt v w0 B) : VAt v' w' w'.heap.size := by
  obtain ⟨hd, ⟨e1, e2, e3, e4, e5, e6, e7⟩, c0, ho⟩ := h
  refine ⟨hd.at k.d, by rw [e2]; exact Mg.cs_of_own ho k.cs.ok, by rw [e2, e3]; exact Nat.le_refl _, by rw [e3]; exact Nat.le_trans k.cs.len (by decide), by rw [e1]; exact k.tot, by rw [e4]; exact k.n, by rw [e5]; exact k.sm, by rw [e6]; exact k.mn, by rw [e7]; exact k.mx⟩
theorem NewD.set {w w' : World} {d d' : DD} (h : NewD w w' d d') {b o : Nat} {B : Nat} (hB : ∃ c0, w'.ownsRow B 103 2 (.slice d'.A d.l.length c0) d.l.length (labs d.l)) (hb : b < B) (hwB : w.heap.size ≤ B) (u : Value) :
    NewD w (w'.setCell ⟨b, o, none⟩ u) d d' := ⟨h.eq, by obtain ⟨c0, ho⟩ := hB; exact ⟨c0, own_base (own_set ho hb u) hwB⟩⟩
set_option maxRecDepth 100000 in
set_option maxHeartbeats 1000000 in
theorem copyV_any (v : Vv) (w : World) (h : VAt v w w.heap.size) (hl : v.d.l.length ≤ 4398046511104) (hlc : v.cs.length ≤ 8796093022208) :
    Calls Tryz.prog 58 #[v.v] w fun e w' => ∃ v' : Vv, e = .returned v'.v ∧ NewV w w' v v' ∧ Below w.heap.size w w' := by
  have ccd := fun (W : World) (k : Below w.heap.size w W) => copyD_any v.d W ((h.d.below k).mono k.size) hl
  have hcs := h.cs
  have ccl := fun (W : World) (k : Below w.heap.size w W) => cloneC_any v.cs v.CA v.cc w.heap.size W (Mg.rd_of_cs (hcs.below k)) hlc
  obtain ⟨⟨k0, n0, h0, A0, c0, l0⟩, tt, CA, cc, cs, n, sm, mn, mx⟩ := v
  unfold Vv.v
  unfold DD.v at ccd
  dsimp only at *
  obtain ⟨ln, hln⟩ : ∃ ln, ln = l0.length := ⟨_, rfl⟩
  obtain ⟨cn, hcn⟩ : ∃ cn, cn = cs.length := ⟨_, rfl⟩
  rw [← hln] at ccd ⊢
  rw [← hcn] at ccl ⊢
  generalize hxs : flat cs = xs at *
  generalize hhi : hiI tt = hi at *
  generalize hlo : loI tt = lo at *
  replace hhi := Lib.hid hhi
  replace hlo := Lib.hid hlo
  replace hxs := Lib.hid hxs
  replace hln := Lib.hid hln
  replace hcn := Lib.hid hcn
  replace ccl := Lib.hid ccl
  replace ccd := Lib.hid ccd
  clear h hcs hl hlc
  have hsf := fun (a : Addr) (x : Nat) (W : World) => run_store Tryz.prog W a (.float .f64 x) .plain rfl
  go_enter Tryz.func58, Tryz.ntmps58
  go_upto_region 1 with fail
  obtain ⟨w1, hw1⟩ : ∃ w1, w1 = ((w.alloc (.cells #[.int .i64 k0, .string n0, .string h0, .slice A0 ln c0, .int .i64 hi, .int .u64 lo, .slice CA cn cc, .int .u64 n, .float .f64 sm, .float .f64 mn, .float .f64 mx] 49)).alloc (.cells #[.int .i64 0, .string ⟨#[]⟩, .string ⟨#[]⟩, .slice none 0 0, .int .i64 0, .int .u64 0, .slice none 0 0, .int .u64 0, .float .f64 0, .float .f64 0, .float .f64 0] 49)) := ⟨_, rfl⟩
  obtain ⟨k1, k2, hb1⟩ := Blk.pair (cs := [.int .i64 k0, .string n0, .string h0, .slice A0 ln c0, .int .i64 hi, .int .u64 lo, .slice CA cn cc, .int .u64 n, .float .f64 sm, .float .f64 mn, .float .f64 mx]) (ds := [.int .i64 0, .string ⟨#[]⟩, .string ⟨#[]⟩, .slice none 0 0, .int .i64 0, .int .u64 0, .slice none 0 0, .int .u64 0, .float .f64 0, .float .f64 0, .float .f64 0]) hw1
  rw [← hw1]
  clear hw1
  have hs1 : w.heap.size + 1 < w1.heap.size := k2.1
  have y0 := (k1.2 0 _ rfl).1
  have y1 := (k1.2 1 _ rfl).1
  have y2 := (k1.2 2 _ rfl).1
  have y3 := (k1.2 3 _ rfl).1
  go_wp2_with fail
  refine (ccd.out _ hb1).mono ?_
  rintro e w2 ⟨d', rfl, hd', hb2⟩
  obtain ⟨k0', n0', h0', A', c', l'⟩ := d'
  obtain ⟨⟨e1, e2, e3, e4, e5⟩, c2, ho⟩ := hd'
  dsimp only at e1 e2 e3 e4 e5 ho
  subst e1
  subst e2
  subst e3
  subst e4
  subst e5
  clear y0 y1 y2 y3 ccd
  have j1 := k1.later hb2
  have j2 := k2.later hb2
  have f0 := (j1.2 0 _ rfl).2
  have f1 := (j1.2 1 _ rfl).2
  have f2 := (j1.2 2 _ rfl).2
  have f3 := (j1.2 3 _ rfl).2
  have y0 := (j1.2 0 _ rfl).1
  have y1 := (j1.2 1 _ rfl).1
  have y2 := (j1.2 2 _ rfl).1
  have y3 := (j1.2 3 _ rfl).1
  have y6 := (j1.2 6 _ rfl).1
  go_upto_region 2 with fail
  have j1b := (((j1.set 0 (.int .i64 k0') (by simp)).set 1 (.string n0') (by simp)).set 2 (.string h0') (by simp)).set 3 (.slice A' l'.length l'.length) (by simp)
  have j2b := (((j2.other (b := w.heap.size) (i := 0) (by omega) (.int .i64 k0')).other (b := w.heap.size) (i := 1) (by omega) (.string n0')).other (b := w.heap.size) (i := 2) (by omega) (.string h0')).other (b := w.heap.size) (i := 3) (by omega) (.slice A' l'.length l'.length)
  have hob := own_set (o := 3) (own_set (o := 2) (own_set (o := 1) (own_set (o := 0) ho (show w.heap.size < w1.heap.size by omega) (.int .i64 k0')) (show w.heap.size < w1.heap.size by omega) (.string n0')) (show w.heap.size < w1.heap.size by omega) (.string h0')) (show w.heap.size < w1.heap.size by omega) (.slice A' l'.length l'.length)
  have hbb := hb1.trans (hb2.mono hb1.size)
  have hbb3 : Below w.heap.size w ((((w2.setCell ⟨w.heap.size, 0, none⟩ (.int .i64 k0')).setCell ⟨w.heap.size, 1, none⟩ (.string n0')).setCell ⟨w.heap.size, 2, none⟩ (.string h0')).setCell ⟨w.heap.size, 3, none⟩ (.slice A' l'.length l'.length)) := by go_grown
  have hs3 : w1.heap.size ≤ ((((w2.setCell ⟨w.heap.size, 0, none⟩ (.int .i64 k0')).setCell ⟨w.heap.size, 1, none⟩ (.string n0')).setCell ⟨w.heap.size, 2, none⟩ (.string h0')).setCell ⟨w.heap.size, 3, none⟩ (.slice A' l'.length l'.length)).heap.size := by simpa using hb2.size
  obtain ⟨w3, hw3⟩ : ∃ w3, w3 = ((((w2.setCell ⟨w.heap.size, 0, none⟩ (.int .i64 k0')).setCell ⟨w.heap.size, 1, none⟩ (.string n0')).setCell ⟨w.heap.size, 2, none⟩ (.string h0')).setCell ⟨w.heap.size, 3, none⟩ (.slice A' l'.length l'.length)) := ⟨_, rfl⟩
  rw [← hw3] at j1b j2b hob hbb3 hs3 ⊢
  clear hw3 f0 f1 f2 f3 y0 y1 y2 y3 y6 j1 j2 ho hbb k1 k2
  simp only [List.set_cons_zero, List.set_cons_succ] at j1b
  have y6 := (j1b.2 6 _ rfl).1
  go_wp2_with fail
  refine (ccl.out _ hbb3).mono ?_
  rintro e w4 ⟨A4, c4, rfl, ho4, hb4⟩
  have hcl : cn ≤ c4 := by
    obtain ⟨A2, c2, e, h1, h2, _⟩ := own_form ho4
    cases e; exact h1
  have ccp := clipC_any A4 cn c4 hcl
  clear y6 ccl
  go_wp2_with fail
  refine (ccp _).mono ?_
  rintro e w2b ⟨rfl, hw2b⟩
  rw [hw2b]
  clear hw2b w2b ccp
  have m1 := j1b.later hb4
  have m2 := j2b.later hb4
  have hol := own_later hob hb4
  have hbw4 := hbb3.trans (hb4.mono hbb3.size)
  have f6 := (m1.2 6 _ rfl).2
  have y0 := (m1.2 0 _ rfl).1
  have y1 := (m1.2 1 _ rfl).1
  have y2 := (m1.2 2 _ rfl).1
  have y3 := (m1.2 3 _ rfl).1
  have y4 := (m1.2 4 _ rfl).1
  have y5 := (m1.2 5 _ rfl).1
  have y6 := (m1.2 6 _ rfl).1
  have y7 := (m1.2 7 _ rfl).1
  have y8 := (m1.2 8 _ rfl).1
  have y9 := (m1.2 9 _ rfl).1
  have y10 := (m1.2 10 _ rfl).1
  have r0 := (m2.2 0 _ rfl).1
  have r1 := (m2.2 1 _ rfl).1
  have r2 := (m2.2 2 _ rfl).1
  have r3 := (m2.2 3 _ rfl).1
  have r4 := (m2.2 4 _ rfl).1
  have r5 := (m2.2 5 _ rfl).1
  have r6 := (m2.2 6 _ rfl).1
  have r7 := (m2.2 7 _ rfl).1
  have r8 := (m2.2 8 _ rfl).1
  have r9 := (m2.2 9 _ rfl).1
  have r10 := (m2.2 10 _ rfl).1
  have s0 := (m2.2 0 _ rfl).2
  have s1 := (m2.2 1 _ rfl).2
  have s2 := (m2.2 2 _ rfl).2
  have s3 := (m2.2 3 _ rfl).2
  have s4 := (m2.2 4 _ rfl).2
  have s5 := (m2.2 5 _ rfl).2
  have s6 := (m2.2 6 _ rfl).2
  have s7 := (m2.2 7 _ rfl).2
  have s8 := (m2.2 8 _ rfl).2
  have s9 := (m2.2 9 _ rfl).2
  have s10 := (m2.2 10 _ rfl).2
  go_wp2
  try simp only [Exit.inBlock, Exit.then]
  have q := ((((((((((((m2.other (b := w.heap.size) (i := 6) (by omega) (.slice A4 cn cn)).set 0 (.int .i64 k0') (by simp)).set 1 (.string n0') (by simp)).set 2 (.string h0') (by simp)).set 3 (.slice A' l'.length l'.length) (by simp)).set 4 (.int .i64 hi) (by simp)).set 5 (.int .u64 lo) (by simp)).set 6 (.slice A4 cn cn) (by simp)).set 7 (.int .u64 n) (by simp)).set 8 (.float .f64 sm) (by simp)).set 9 (.float .f64 mn) (by simp)).set 10 (.float .f64 mx) (by simp))
  simp only [List.set_cons_zero, List.set_cons_succ] at q
  refine bodyPost_ret (retV rfl rfl q) rfl ?_
  have hg0 : w.heap.size < w1.heap.size := by omega
  refine ⟨⟨⟨k0', n0', h0', A', l'.length, l'⟩, tt, A4, cn, cs, n, sm, mn, mx⟩, ?_, ⟨⟨⟨rfl, rfl, rfl, rfl, rfl⟩, c2, ?_⟩, ⟨rfl, rfl, hcn.out, rfl, rfl, rfl, rfl⟩, c4, ?_⟩, ?_⟩
  · dsimp only
    rw [← hcn.out, hhi.out, hlo.out]
  · refine own_base (base := w1.heap.size) ?_ (Nat.le_of_lt hg0)
    iterate 12 (refine own_set ?_ (by first | exact hg0 | exact hs1) _)
    exact hol
  · dsimp only
    rw [← hcn.out, hxs.out]
    refine own_base (base := w1.heap.size) ?_ (Nat.le_of_lt hg0)
    have ho4' := own_base (base' := w1.heap.size) ho4 hs3
    iterate 12 (refine own_set ?_ (by first | exact hg0 | exact hs1) _)
    exact ho4'
  · go_grown
end Go.Proofs.YtpiegngjpnpohaaGreat.Sn

namespace Go.Proofs.YtpiegngjpnpohaaGreat.Sn
open Go.RowKit Go.Proofs.YtpiegngjpnpohaaGreat.La Go.Proofs.YtpiegngjpnpohaaGreat.Sl Go.Proofs.YtpiegngjpnpohaaGreat.Ck Go.Proofs.YtpiegngjpnpohaaGreat.Rc Go.Proofs.YtpiegngjpnpohaaGreat.Rk Go.Proofs.YtpiegngjpnpohaaGreat.Wi Go.Proofs.YtpiegngjpnpohaaGreat.Fb Go.Proofs.YtpiegngjpnpohaaGreat.Mg Go.Proofs.YtpiegngjpnpohaaGreat.St
set_option linter.unusedVariables false
structure Cv where
  kind : Int
  name : ByteArray
  help : ByteArray
  l : List Lab
  t : Int
  cs : List Cnt
  n : Int
  sm : Nat
  mn : Nat
  mx : Nat
def Vv.c (v : Vv) : Cv := ⟨v.d.kind, v.d.name, v.d.help, v.d.l, v.t, v.cs, v.n, v.sm, v.mn, v.mx⟩
structure OkV (v : Vv) : Prop where
  k : v.d.kind = 1 ∨ v.d.kind = 2 ∨ v.d.kind = 3
  t : 0 ≤ v.t
  n : 0 ≤ v.n ∧ v.n ≤ 9223372036854775807
  f : finF v.sm = true ∧ finF v.mn = true ∧ finF v.mx = true
  z : v.n = 0 ∨ v.d.kind ≠ 3 → v.sm = 0 ∧ v.mn = 0 ∧ v.mx = 0
  l : v.d.l.length ≤ 16
  c : v.cs.length ≤ 1048576
def flo (a b : Cv) : Nat × Nat × Nat :=
  if a.n = 0 then (b.sm, b.mn, b.mx) else if b.n = 0 then (a.sm, a.mn, a.mx)
  else (fadd a.sm b.sm, if cmpF b.mn a.mn < 0 then b.mn else a.mn, if 0 < cmpF b.mx a.mx then b.mx else a.mx)
noncomputable def twoC (a b : Cv) : Cv := ⟨a.kind, a.name, a.help, a.l, a.t + b.t, mrg (a.cs ++ b.cs), a.n + b.n, (flo a b).1, (flo a b).2.1, (flo a b).2.2⟩
def twoE (a b : Cv) : Int := if 170141183460469231731687303715884105727 < a.t + b.t ∨ 9223372036854775807 < a.n + b.n then 3 else if finF (flo a b).1 = false then 2 else 0
theorem zero_sum : fadd 0 0 = 0 := by decide
theorem flo_plain {x y : Vv} (hx : OkV x) (hy : OkV y) (h : x.d.kind ≠ 3 ∨ y.n = 0) (hk : x.d.kind = y.d.kind) : flo x.c y.c = (x.sm, x.mn, x.mx) := by
  unfold flo Vv.c
  dsimp only
  by_cases h1 : x.n = 0
  · rw [if_pos h1]
    obtain ⟨a1, a2, a3⟩ := hx.z (.inl h1)
    have : y.sm = 0 ∧ y.mn = 0 ∧ y.mx = 0 := hy.z (by rcases h with h | h; exact .inr (by rw [← hk]; exact h); exact .inl h)
    rw [a1, a2, a3, this.1, this.2.1, this.2.2]
  · rw [if_neg h1]
    by_cases h2 : y.n = 0
    · rw [if_pos h2]
    · rw [if_neg h2]
      have h3 : x.d.kind ≠ 3 := by rcases h with h | h; exact h; exact absurd h h2
      obtain ⟨a1, a2, a3⟩ := hx.z (.inr h3)
      obtain ⟨b1, b2, b3⟩ := hy.z (.inr (by rw [← hk]; exact h3))
      rw [a1, a2, a3, b1, b2, b3, zero_sum]
      simp [cmpF_self]
def w128 (s : Int) : Int := (s + 170141183460469231731687303715884105728) % 340282366920938463463374607431768211456 - 170141183460469231731687303715884105728
theorem w128_in (s : Int) : In (w128 s) := by unfold In w128; omega
theorem w128_I (s : Int) : hiI (w128 s) = hiI s ∧ loI (w128 s) = loI s := by unfold hiI loI w128; omega
theorem w128_neg {a b : Int} (ha : 0 ≤ a) (hb : 0 ≤ b) (ia : In a) (ib : In b) : (cmpI (w128 (a + b)) 0 < 0) = (170141183460469231731687303715884105727 < a + b) := by
  unfold In at ia ib
  have : w128 (a + b) = if 170141183460469231731687303715884105727 < a + b then a + b - 340282366920938463463374607431768211456 else a + b := by
    unfold w128; split <;> omega
  rw [this]
  unfold cmpI
  apply propext
  split <;> (repeat' split) <;> omega
theorem sign_w (s : Int) (w : World) :
    Calls Tryz.prog 89 #[.agg #[.int .i64 (hiI s), .int .u64 (loI s)]] w fun e w' => e = .returned (.int .i64 (cmpI (w128 s) 0)) ∧ Below w.heap.size w w' := by
  have := sign_any (w128_in s) w
  unfold I128 at this
  rwa [(w128_I s).1, (w128_I s).2] at this
theorem Blk.triple {w w1 : World} {cs ds es : List Value} {T U X : TypeId} (h : w1 = ((w.alloc (.cells cs.toArray T)).alloc (.cells ds.toArray U)).alloc (.cells es.toArray X)) : Blk w1 w.heap.size cs ∧ Blk w1 (w.heap.size + 1) ds ∧ Blk w1 (w.heap.size + 1 + 1) es ∧ Below w.heap.size w w1 := by
  obtain ⟨k1, k2, hb⟩ := Blk.pair (w := w) (w1 := (w.alloc (.cells cs.toArray T)).alloc (.cells ds.toArray U)) rfl
  subst h
  have k3 := Blk.new ((w.alloc (.cells cs.toArray T)).alloc (.cells ds.toArray U)) es X
  rw [World.size_alloc, World.size_alloc] at k3
  exact ⟨k1.alloc _, k2.alloc _, k3, hb.alloc (by simp; omega) _⟩
theorem retVE {fn : Func} {p q : Tmp} {g : Nat} {x0 x1 x2 x3 x4 x5 x6 x7 x8 x9 x10 : Value} {E : Int} {tmps : Array Value} {w : World} (h : fn.results = #[.cell p 49, .tmp q]) (hp : tmps[p]?.getD undef = .pointer (some ⟨g, 0, none⟩)) (hq : tmps[q]?.getD undef = .int .i64 E)
    (hb : Blk w g [x0, x1, x2, x3, x4, x5, x6, x7, x8, x9, x10]) : (results fn tmps).run Tryz.prog w = .ok (.tuple #[.agg #[x0, x1, x2, x3, x4, x5, x6, x7, x8, x9, x10], .int .i64 E]) w := by
  have h0 := (hb.2 0 _ rfl).1
  have h1 := (hb.2 1 _ rfl).1
  have h2 := (hb.2 2 _ rfl).1
  have h3 := (hb.2 3 _ rfl).1
  have h4 := (hb.2 4 _ rfl).1
  have h5 := (hb.2 5 _ rfl).1
  have h6 := (hb.2 6 _ rfl).1
  have h7 := (hb.2 7 _ rfl).1
  have h8 := (hb.2 8 _ rfl).1
  have h9 := (hb.2 9 _ rfl).1
  have h10 := (hb.2 10 _ rfl).1
  simp [results, h, hp, hq, go_sem, h0, h1, h2, h3, h4, h5, h6, h7, h8, h9, h10]
end Go.Proofs.YtpiegngjpnpohaaGreat.Sn
