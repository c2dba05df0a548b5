/- Lemmas for the laws of this seat, laid together of Sc1, Sc6. -/
import Derived.Test.YtpiegngjpnpohaaGreatL25
import Derived.Test.YtpiegngjpnpohaaGreatL27
import Derived.Test.YtpiegngjpnpohaaGreatL30

namespace Go.Proofs.YtpiegngjpnpohaaGreat.Sn
open Go.RowKit Go.Proofs.YtpiegngjpnpohaaGreat.La Go.Proofs.YtpiegngjpnpohaaGreat.Sl Go.Proofs.YtpiegngjpnpohaaGreat.Ck Go.Proofs.YtpiegngjpnpohaaGreat.Rc Go.Proofs.YtpiegngjpnpohaaGreat.Rk Go.Proofs.YtpiegngjpnpohaaGreat.Wi Go.Proofs.YtpiegngjpnpohaaGreat.Fb Go.Proofs.YtpiegngjpnpohaaGreat.Mg Go.Proofs.YtpiegngjpnpohaaGreat.St
set_option linter.unusedVariables false
def zs (v : Vv) : Vv := { v with sm := 0 }
def alikeL (xs ys : List Vv) : Bool := sameL (xs.map zs) (ys.map zs)
def alikeS (a b : Ss) : Bool := decide (a.p = b.p) && decide (a.r = b.r) && alikeL a.vs b.vs
theorem zs_c {x y : Vv} (h : x.c = y.c) : (zs x).c = (zs y).c := by
  simp only [Vv.c, Cv.mk.injEq, zs] at h ⊢
  obtain ⟨h1, h2, h3, h4, h5, h6, h7, h8, h9, h10⟩ := h
  exact ⟨h1, h2, h3, h4, h5, h6, h7, trivial, h9, h10⟩
theorem sameV_cc {x y x' y' : Vv} (h : x.c = x'.c) (k : y.c = y'.c) : sameV x y = sameV x' y' := by
  simp only [Vv.c, Cv.mk.injEq] at h k
  obtain ⟨h1, h2, h3, h4, h5, h6, h7, h8, h9, h10⟩ := h
  obtain ⟨k1, k2, k3, k4, k5, k6, k7, k8, k9, k10⟩ := k
  simp [sameV, sameD, sameFl, h1, h2, h3, h4, h5, h6, h7, h8, h9, h10, k1, k2, k3, k4, k5, k6, k7, k8, k9, k10]
theorem sameL_cc : ∀ {a b a' b' : List Vv}, a.map Vv.c = a'.map Vv.c → b.map Vv.c = b'.map Vv.c → sameL a b = sameL a' b'
  | [], [], [], [], _, _ => rfl
  | [], y :: b, [], y' :: b', _, _ => rfl
  | x :: a, [], x' :: a', [], _, _ => rfl
  | x :: a, y :: b, x' :: a', y' :: b', h, k => by
    simp only [List.map_cons, List.cons.injEq] at h k
    unfold sameL
    rw [sameV_cc h.1 k.1, sameL_cc h.2 k.2]
  | [], _, _ :: _, _, h, _ => by cases h
  | _ :: _, _, [], _, h, _ => by cases h
  | _, [], _, _ :: _, _, k => by cases k
  | _, _ :: _, _, [], _, k => by cases k
theorem zsm_c {a b : List Vv} (h : a.map Vv.c = b.map Vv.c) : (a.map zs).map Vv.c = (b.map zs).map Vv.c := by
  have hl : a.length = b.length := by simpa using congrArg List.length h
  apply List.ext_getElem
  · simp [hl]
  · intro i h1 h2
    have ha : i < a.length := by simpa using h1
    have hb : i < b.length := by simpa using h2
    have := congrArg (·[i]?) h
    simp only [List.getElem?_map, List.getElem?_eq_getElem ha, List.getElem?_eq_getElem hb, Option.map_some, Option.some.injEq] at this
    simpa using zs_c this
def zi (i : Nat) (vs : List Vv) : List Vv := (vs.take i).map zs ++ vs.drop i
theorem zi_zero (vs : List Vv) : zi 0 vs = vs := by simp [zi]
theorem zi_all (vs : List Vv) : zi vs.length vs = vs.map zs := by simp [zi]
theorem zi_len (i : Nat) (vs : List Vv) : (zi i vs).length = vs.length := by simp [zi]; omega
theorem zi_get {i : Nat} {vs : List Vv} (h : i < vs.length) : (zi i vs)[i]? = some vs[i] := by
  unfold zi
  rw [List.getElem?_append_right (by simp; omega)]
  simp [Nat.min_eq_left (Nat.le_of_lt h), List.getElem?_eq_getElem h]
theorem zi_set {i : Nat} {vs : List Vv} (h : i < vs.length) : (zi i vs).set i (zs vs[i]) = zi (i + 1) vs := by
  unfold zi
  rw [List.set_append_right _ _ (by simp; omega), List.take_succ_eq_append_getElem h, List.map_append, List.append_assoc]
  congr 1
  simp only [List.length_map, List.length_take, Nat.min_eq_left (Nat.le_of_lt h), Nat.sub_self]
  rw [List.drop_eq_getElem_cons h]
  rfl
theorem rows_set8 : ∀ (vs : List Vv) (i : Nat) (h : i < vs.length), (rows vs).set (i * 11 + 8) (.float .f64 0) = rows (vs.set i (zs vs[i]))
  | v :: vs, 0, h => by
    have e : ((0 : Nat) * 11 + 8) = 8 := rfl
    rw [e]
    rfl
  | v :: vs, i + 1, h => by
    have hi : i < vs.length := by simpa using h
    have ih := rows_set8 vs i hi
    simp only [List.set_cons_succ, List.getElem_cons_succ]
    have e1 : rows (v :: vs) = v.row ++ rows vs := rfl
    have e2 : rows (v :: vs.set i (zs vs[i])) = v.row ++ rows (vs.set i (zs vs[i])) := rfl
    rw [e1, e2, ← ih, List.set_append_right _ _ (by simp [Vv.row]; omega)]
    congr 2
    simp [Vv.row]; omega
theorem zs_plain {v : Vv} (h : PlainV v) : PlainV (zs v) := ⟨h.cap, h.len, h.len2, h.name, h.help, h.texts, h.kind, h.ok, h.ccap, h.clen, h.tot, h.n, (by show okF 0; unfold okF; decide), h.mn, h.mx⟩
theorem zs_own {v : Vv} {w : World} {B : Nat} (h : OwnV B w v) : OwnV B w (zs v) := h
structure ZSt (B : Nat) (A : Option Addr) (vs : List Vv) (i : Nat) (w : World) : Prop where
  row : ∃ c0, w.ownsRow B 49 11 (.slice A vs.length c0) vs.length (rows (zi i vs))
  own : ∀ v ∈ vs, OwnV B w v
theorem ZSt.later {B : Nat} {A : Option Addr} {vs : List Vv} {i : Nat} {w w' : World} (h : ZSt B A vs i w) (hb : Below w.heap.size w w') : ZSt B A vs i w' := by
  obtain ⟨⟨c0, ho⟩, hv⟩ := h
  exact ⟨⟨c0, own_later ho hb⟩, fun v hm => (hv v hm).later hb⟩
theorem ZSt.put {B : Nat} {A : Option Addr} {vs : List Vv} {i : Nat} {w : World} (h : ZSt B A vs i w) (hi : i < vs.length) :
    ∃ b, A = some ⟨b, 0, none⟩ ∧ B ≤ b ∧ b < w.heap.size ∧ (∃ x, w.cell? ⟨b, i * 11 + 8, none⟩ = some x) ∧ w.frozen? ⟨b, i * 11 + 8, none⟩ = false ∧ ZSt B A vs (i + 1) (w.setCell ⟨b, i * 11 + 8, none⟩ (.float .f64 0)) ∧
      w.grownBy (w.setCell ⟨b, i * 11 + 8, none⟩ (.float .f64 0)) (some b) ∧ ∃ n c xs, w.ownsRow B 49 11 (.slice (some ⟨b, 0, none⟩) n c) n xs := by
  obtain ⟨⟨c0, ho⟩, hv⟩ := h
  obtain ⟨A2, c2, e, f1, f2, f3⟩ := own_form ho
  cases e
  cases A with
  | none =>
    rcases ho.2 with ⟨_, h0⟩ | ⟨g, cap, cur, e, _⟩
    · omega
    · cases e
  | some a =>
    obtain ⟨g1, g2, g3⟩ := f3 a rfl
    rw [g3] at ho ⊢
    have s1 := ho.stored (i * 11 + 8) (.float .f64 0)
    have hlr : (rows (zi i vs)).length = vs.length * 11 := by rw [rows_len, zi_len]
    refine ⟨a.block, rfl, g1, g2, ⟨_, by rw [ho.cellAt _ (by omega)]; exact List.getElem?_eq_getElem (by rw [hlr]; omega)⟩, ho.frozenAt _, ⟨⟨c0, ?_⟩, fun v hm => ?_⟩, s1.2, _, _, _, ho⟩
    · have h1 := s1.1
      have hiz : i < (zi i vs).length := by rw [zi_len]; exact hi
      rw [rows_set8 _ _ hiz] at h1
      have e2 : (zi i vs)[i] = vs[i] := by
        have := zi_get hi
        rw [List.getElem?_eq_getElem hiz] at this
        exact Option.some.inj this
      rw [e2, zi_set hi] at h1
      exact h1
    · obtain ⟨⟨c1, h1⟩, c3, h2⟩ := hv v hm
      exact ⟨⟨c1, h1.kept s1.2 (own_apart h1 ho (by decide))⟩, c3, h2.kept s1.2 (own_apart h2 ho (by decide))⟩
theorem ZSt.keep {B B1 b n c : Nat} {A : Option Addr} {vs : List Vv} {i : Nat} {w w' : World} {xs : List Value} (h : ZSt B A vs i w) (ho : w.ownsRow B1 49 11 (.slice (some ⟨b, 0, none⟩) n c) n xs) (hg : w.grownBy w' (some b)) (hne : ∀ g, A = some g → g.block ≠ b) : ZSt B A vs i w' := by
  obtain ⟨⟨c0, h1⟩, hv⟩ := h
  refine ⟨⟨c0, h1.kept hg ?_⟩, fun v hm => ?_⟩
  · cases A with
    | none => exact .inl rfl
    | some a => exact .inr fun e => hne a rfl (by simpa [Value.ownBlock] using e)
  · obtain ⟨⟨c1, h2⟩, c3, h3⟩ := hv v hm
    exact ⟨⟨c1, h2.kept hg (own_apart h2 ho (by decide))⟩, c3, h3.kept hg (own_apart h3 ho (by decide))⟩
structure Cop (B : Nat) (s m : Ss) (w : World) : Prop where
  p : m.p = s.p
  r : m.r = s.r
  c : m.vs.map Vv.c = s.vs.map Vv.c
  pl : ∀ v ∈ m.vs, PlainV v
  own : OwnS B w m
  at_ : SAt m w w.heap.size
theorem Cop.len {B : Nat} {s m : Ss} {w : World} (h : Cop B s m w) : m.vs.length = s.vs.length := by simpa using congrArg List.length h.c
theorem OwnS.later {B : Nat} {w w' : World} {m : Ss} (h : OwnS B w m) (hb : Below w.heap.size w w') : OwnS B w' m := by
  obtain ⟨⟨c0, ho⟩, hv⟩ := h
  exact ⟨⟨c0, own_later ho hb⟩, fun v hm => (hv v hm).later hb⟩
theorem OwnS.set {B b o : Nat} {w : World} {m : Ss} (h : OwnS B w m) (hb : b < B) (u : Value) : OwnS B (w.setCell ⟨b, o, none⟩ u) m := by
  obtain ⟨⟨c0, ho⟩, hv⟩ := h
  exact ⟨⟨c0, own_set ho hb u⟩, fun v hm => (hv v hm).set hb u⟩
theorem Cop.later {B : Nat} {s m : Ss} {w w' : World} (h : Cop B s m w) (hb : Below w.heap.size w w') : Cop B s m w' := ⟨h.p, h.r, h.c, h.pl, h.own.later hb, (h.at_.below hb).mono hb.size⟩
theorem Cop.set {B b o : Nat} {s m : Ss} {w : World} (h : Cop B s m w) (hb : b < B) (u : Value) : Cop B s m (w.setCell ⟨b, o, none⟩ u) :=
  ⟨h.p, h.r, h.c, h.pl, h.own.set hb u, by
    have a := h.at_
    exact (h.own.set hb u).sat h.pl a.cap a.len a.len2 a.p a.r⟩
theorem Cop.base {B B' : Nat} {s m : Ss} {w : World} (h : Cop B s m w) (hb : B' ≤ B) : Cop B' s m w := ⟨h.p, h.r, h.c, h.pl, h.own.base hb, h.at_⟩
theorem rcopy_cop (s : Ss) (w : World) (h : SAt s w w.heap.size) (hn1 : s.vs.length ≤ 1048576) (hz : ∀ v ∈ s.vs, v.d.l.length ≤ 1048576 ∧ v.cs.length ≤ 1048576) :
    Calls Tryz.prog 21 #[.agg #[.int .i64 s.p, .slice s.A s.vs.length s.c, .int .u64 s.r]] w fun e w' => ∃ m : Ss, e = .returned (.agg #[.int .i64 s.p, .slice m.A s.vs.length m.c, .int .u64 s.r]) ∧ Cop w.heap.size s m w' ∧ Below w.heap.size w w' :=
  (rcopy_any s w h hn1 hz).mono fun e w' ⟨m, he, h1, h2, h3, h4, h5, h6, h7⟩ => ⟨m, by
    have hl : m.vs.length = s.vs.length := by simpa using congrArg List.length h3
    rw [he]; unfold Ss.v; rw [h1, h2, hl], ⟨h1, h2, h3, h4, h5, h6⟩, h7⟩
theorem Cop.apart {B1 : Nat} {a b m1 m2 : Ss} {W1 W2 : World} (h1 : Cop B1 a m1 W1) (h2 : Cop W1.heap.size b m2 W2) : ∀ g1 g2, m1.A = some g1 → m2.A = some g2 → g2.block ≠ g1.block := by
  intro g1 g2 e1 e2 e
  obtain ⟨c1, o1⟩ := h1.own.1
  obtain ⟨c2, o2⟩ := h2.own.1
  have q1 := (own_lt o1 g1.block (by rw [e1]; rfl)).2
  have q2 := (own_lt o2 g2.block (by rw [e2]; rfl)).1
  omega
theorem Cop.zst {B : Nat} {s m : Ss} {w : World} (h : Cop B s m w) : ZSt B m.A m.vs 0 w := by
  obtain ⟨⟨c0, ho⟩, hv⟩ := h.own
  exact ⟨⟨c0, by rw [zi_zero]; exact ho⟩, hv⟩
theorem ZSt.sat {B c : Nat} {A : Option Addr} {vs : List Vv} {w : World} {p r : Int} (h : ZSt B A vs vs.length w) (hpl : ∀ v ∈ vs, PlainV v) (hc : vs.length ≤ c) (hm : c ≤ 9223372036854775807) (hl : vs.length ≤ 140737488355328)
    (hp : -9223372036854775808 ≤ p ∧ p ≤ 9223372036854775807) (hr : 0 ≤ r ∧ r ≤ 18446744073709551615) : SAt ⟨p, A, c, vs.map zs, r⟩ w w.heap.size := by
  have hlm : (vs.map zs).length = vs.length := by simp
  refine OwnS.sat (B := B) (m := ⟨p, A, c, vs.map zs, r⟩) ⟨?_, fun v hv => ?_⟩ (fun v hv => ?_) (by show (vs.map zs).length ≤ c; rw [hlm]; exact hc) hm (by show (vs.map zs).length ≤ _; rw [hlm]; exact hl) hp hr
  · obtain ⟨c0, ho⟩ := h.row
    rw [zi_all] at ho
    exact ⟨c0, by show w.ownsRow B _ 11 (.slice A (vs.map zs).length c0) (vs.map zs).length (rows (vs.map zs)); rw [hlm]; exact ho⟩
  · obtain ⟨u, hu, rfl⟩ := List.mem_map.1 hv
    exact zs_own (h.own u hu)
  · obtain ⟨u, hu, rfl⟩ := List.mem_map.1 hv
    exact zs_plain (hpl u hu)
theorem alike_eq {a b m1 m2 : Ss} {A1 A2 : Option Addr} {c1 c2 : Nat} (h1 : m1.vs.map Vv.c = a.vs.map Vv.c) (h2 : m2.vs.map Vv.c = b.vs.map Vv.c) : sameS ⟨a.p, A1, c1, m1.vs.map zs, a.r⟩ ⟨b.p, A2, c2, m2.vs.map zs, b.r⟩ = alikeS a b := by
  unfold sameS alikeS alikeL
  dsimp only
  rw [sameL_cc (zsm_c h1) (zsm_c h2)]
structure ASt (w : World) (B g1 g2 : Nat) (a b m1 m2 : Ss) (na nb i k : Nat) (W : World) : Prop where
  z1 : ZSt B m1.A m1.vs i W
  z2 : ZSt B m2.A m2.vs k W
  k1 : Blk W g1 [.int .i64 a.p, .slice m1.A na m1.c, .int .u64 a.r]
  k2 : Blk W g2 [.int .i64 b.p, .slice m2.A nb m2.c, .int .u64 b.r]
  below : Below w.heap.size w W
theorem ASt.put1 {w W : World} {B g1 g2 : Nat} {a b m1 m2 : Ss} {na nb i k : Nat} (h : ASt w B g1 g2 a b m1 m2 na nb i k W) (hi : i < m1.vs.length) (hg1 : g1 < B) (hg2 : g2 < B) (hB : w.heap.size ≤ B) (hne : ∀ x y, m1.A = some x → m2.A = some y → x.block ≠ y.block) :
    ∃ q, m1.A = some ⟨q, 0, none⟩ ∧ q < W.heap.size ∧ (∃ x, W.cell? ⟨q, i * 11 + 8, none⟩ = some x) ∧ W.frozen? ⟨q, i * 11 + 8, none⟩ = false ∧ ASt w B g1 g2 a b m1 m2 na nb (i + 1) k (W.setCell ⟨q, i * 11 + 8, none⟩ (.float .f64 0)) := by
  obtain ⟨q, e, hBq, hq, hx, hf, hz, hg, n, c, xs, ho⟩ := h.z1.put hi
  refine ⟨q, e, hq, hx, hf, hz, h.z2.keep ho hg (fun g hg' e' => hne _ _ e hg' e'.symm), h.k1.other (by omega) _, h.k2.other (by omega) _, ?_⟩
  have := h.below
  go_grown
theorem ASt.put2 {w W : World} {B g1 g2 : Nat} {a b m1 m2 : Ss} {na nb i k : Nat} (h : ASt w B g1 g2 a b m1 m2 na nb i k W) (hi : k < m2.vs.length) (hg1 : g1 < B) (hg2 : g2 < B) (hB : w.heap.size ≤ B) (hne : ∀ x y, m1.A = some x → m2.A = some y → x.block ≠ y.block) :
    ∃ q, m2.A = some ⟨q, 0, none⟩ ∧ q < W.heap.size ∧ (∃ x, W.cell? ⟨q, k * 11 + 8, none⟩ = some x) ∧ W.frozen? ⟨q, k * 11 + 8, none⟩ = false ∧ ASt w B g1 g2 a b m1 m2 na nb i (k + 1) (W.setCell ⟨q, k * 11 + 8, none⟩ (.float .f64 0)) := by
  obtain ⟨q, e, hBq, hq, hx, hf, hz, hg, n, c, xs, ho⟩ := h.z2.put hi
  refine ⟨q, e, hq, hx, hf, h.z1.keep ho hg (fun g hg' e' => hne _ _ hg' e e'), hz, h.k1.other (by omega) _, h.k2.other (by omega) _, ?_⟩
  have := h.below
  go_grown
theorem two_st {W : World} {g1 g2 : Nat} {cs ds : List Value} (h1 : Blk W g1 cs) (h2 : Blk W g2 ds) (hne : g1 ≠ g2) (l1 : cs.length = 3) (l2 : ds.length = 3) (x0 x1 x2 y0 y1 y2 : Value) :
    Blk ((((((W.setCell ⟨g1, 0, none⟩ x0).setCell ⟨g1, 1, none⟩ x1).setCell ⟨g1, 2, none⟩ x2).setCell ⟨g2, 0, none⟩ y0).setCell ⟨g2, 1, none⟩ y1).setCell ⟨g2, 2, none⟩ y2) g1 [x0, x1, x2] ∧
    Blk ((((((W.setCell ⟨g1, 0, none⟩ x0).setCell ⟨g1, 1, none⟩ x1).setCell ⟨g1, 2, none⟩ x2).setCell ⟨g2, 0, none⟩ y0).setCell ⟨g2, 1, none⟩ y1).setCell ⟨g2, 2, none⟩ y2) g2 [y0, y1, y2] :=
  ⟨((((h1.st3 l1 x0 x1 x2).other (fun e => hne e.symm) y0).other (fun e => hne e.symm) y1).other (fun e => hne e.symm) y2), (((h2.other hne x0).other hne x1).other hne x2).st3 l2 y0 y1 y2⟩
theorem Cop.two {W : World} {B g1 g2 : Nat} {s m : Ss} (h : Cop B s m W) (h1 : g1 < B) (h2 : g2 < B) (x0 x1 x2 y0 y1 y2 : Value) :
    Cop B s m ((((((W.setCell ⟨g1, 0, none⟩ x0).setCell ⟨g1, 1, none⟩ x1).setCell ⟨g1, 2, none⟩ x2).setCell ⟨g2, 0, none⟩ y0).setCell ⟨g2, 1, none⟩ y1).setCell ⟨g2, 2, none⟩ y2) := (((((h.set h1 _).set h1 _).set h1 _).set h2 _).set h2 _).set h2 _
set_option maxRecDepth 100000 in
set_option maxHeartbeats 4000000 in
theorem lalike_any (a b : Ss) (w : World) (ha : SAt a w w.heap.size) (hb : SAt b w w.heap.size) (na1 : a.vs.length ≤ 1048576) (nb1 : b.vs.length ≤ 1048576) (hza : ∀ v ∈ a.vs, v.d.l.length ≤ 1048576 ∧ v.cs.length ≤ 1048576) (hzb : ∀ v ∈ b.vs, v.d.l.length ≤ 1048576 ∧ v.cs.length ≤ 1048576) :
    Calls Tryz.prog 20 #[a.v, b.v] w fun e w' => e = .returned (.bool (alikeS a b)) ∧ Below w.heap.size w w' := by
  have cA := fun (W : World) (k : Below w.heap.size w W) => rcopy_cop a W ((ha.below k).mono k.size) na1 hza
  have cB := fun (W : World) (k : Below w.heap.size w W) => rcopy_cop b W ((hb.below k).mono k.size) nb1 hzb
  have hp := fun (w1 : World) (e : w1 = _) => Blk.pair (w := w) (w1 := w1) (cs := [.int .i64 a.p, .slice a.A a.vs.length a.c, .int .u64 a.r]) (ds := [.int .i64 b.p, .slice b.A b.vs.length b.c, .int .u64 b.r]) (T := 25) (U := 25) e
  have hsf := fun (a : Addr) (x : Nat) (W : World) => run_store Tryz.prog W a (.float .f64 x) .plain rfl
  unfold Ss.v
  obtain ⟨R, hR⟩ : ∃ R, R = alikeS a b := ⟨_, rfl⟩
  rw [← hR]
  replace hR := Lib.hid hR
  obtain ⟨na, hna⟩ : ∃ n, n = a.vs.length := ⟨_, rfl⟩
  obtain ⟨nb, hnb⟩ : ∃ n, n = b.vs.length := ⟨_, rfl⟩
  rw [← hna] at cA hp na1 ⊢
  rw [← hnb] at cB hp nb1 ⊢
  have naI : (na : Int) ≤ 1048576 := by omega
  have nbI : (nb : Int) ≤ 1048576 := by omega
  replace hna := Lib.hid hna
  replace hnb := Lib.hid hnb
  replace cA := Lib.hid cA
  replace cB := Lib.hid cB
  replace hp := Lib.hid hp
  clear ha hb hza hzb
  go_enter Tryz.func20, Tryz.ntmps20
  go_upto_region 1 with fail
  obtain ⟨w1, hw1⟩ : ∃ w1, w1 = ((w.alloc (.cells #[.int .i64 a.p, .slice a.A na a.c, .int .u64 a.r] 25)).alloc (.cells #[.int .i64 b.p, .slice b.A nb b.c, .int .u64 b.r] 25)) := ⟨_, rfl⟩
  rw [← hw1]
  obtain ⟨k1, k2, hb1⟩ := hp.out w1 hw1
  clear hw1 hp
  have hs1 := k2.1
  have hd : Below w1.heap.size w1 w1.drew := below_drewN (Below.refl _ w1) 1
  have cA1 := fun (W : World) (k : Below w1.heap.size w1 W) => cA.out W (hb1.trans (k.mono hb1.size))
  have cB1 := fun (W : World) (k : Below w1.heap.size w1 W) => cB.out W (hb1.trans (k.mono hb1.size))
  have hS : ∀ Wx, Below w1.heap.size w1 Wx → (Wx.cell? ⟨w.heap.size, 0, none⟩ = some (.int .i64 a.p) ∧ Wx.cell? ⟨w.heap.size, 1, none⟩ = some (.slice a.A na a.c) ∧ Wx.cell? ⟨w.heap.size, 2, none⟩ = some (.int .u64 a.r) ∧
      Wx.cell? ⟨w.heap.size + 1, 0, none⟩ = some (.int .i64 b.p) ∧ Wx.cell? ⟨w.heap.size + 1, 1, none⟩ = some (.slice b.A nb b.c) ∧ Wx.cell? ⟨w.heap.size + 1, 2, none⟩ = some (.int .u64 b.r)) ∧
      (Wx.frozen? ⟨w.heap.size, 0, none⟩ = false ∧ Wx.frozen? ⟨w.heap.size, 1, none⟩ = false ∧ Wx.frozen? ⟨w.heap.size, 2, none⟩ = false ∧ Wx.frozen? ⟨w.heap.size + 1, 0, none⟩ = false ∧ Wx.frozen? ⟨w.heap.size + 1, 1, none⟩ = false ∧ Wx.frozen? ⟨w.heap.size + 1, 2, none⟩ = false) := fun Wx k =>
    have q1 := k1.later k
    have q2 := k2.later k
    ⟨⟨(q1.2 0 _ rfl).1, (q1.2 1 _ rfl).1, (q1.2 2 _ rfl).1, (q2.2 0 _ rfl).1, (q2.2 1 _ rfl).1, (q2.2 2 _ rfl).1⟩, (q1.2 0 _ rfl).2, (q1.2 1 _ rfl).2, (q1.2 2 _ rfl).2, (q2.2 0 _ rfl).2, (q2.2 1 _ rfl).2, (q2.2 2 _ rfl).2⟩
  obtain ⟨⟨x0, x1, x2, y0, y1, y2⟩, f0, f1, f2, f3, f4, f5⟩ := hS _ hd
  replace cA1 := Lib.hid cA1
  replace cB1 := Lib.hid cB1
  replace hS := Lib.hid hS
  replace k1 := Lib.hid k1
  replace k2 := Lib.hid k2
  clear cA cB
  go_cut [8, 10] (fun s8 s10 wx => ∃ m1 m2 : Ss, Hid ((∀ x y, m1.A = some x → m2.A = some y → x.block ≠ y.block) ∧ Cop w1.heap.size a m1 wx ∧ Cop w1.heap.size b m2 wx ∧ Blk wx w.heap.size [.int .i64 a.p, .slice m1.A na m1.c, .int .u64 a.r] ∧ Blk wx (w.heap.size + 1) [.int .i64 b.p, .slice m2.A nb m2.c, .int .u64 b.r] ∧ Below w.heap.size w wx))
  case first =>
    go_region_law (first
      | (go_simp; with_reducible refine (cA1.out _ hd).mono ?_; rintro e Wa ⟨m1, rfl, fa, hbA⟩; have hcA := hd.trans (hbA.mono (Nat.le_refl _)); obtain ⟨⟨xa0, xa1, xa2, ya0, ya1, ya2⟩, fa0, fa1, fa2, fa3, fa4, fa5⟩ := hS.out _ hcA)
      | (go_simp; with_reducible refine (cA1.out _ hcB).mono ?_; rintro e Wa ⟨m1, rfl, fa, hbA⟩; have hcA := hcB.trans (hbA.mono hcB.size); obtain ⟨⟨xa0, xa1, xa2, ya0, ya1, ya2⟩, fa0, fa1, fa2, fa3, fa4, fa5⟩ := hS.out _ hcA)
      | (go_simp; with_reducible refine (cB1.out _ hd).mono ?_; rintro e Wb ⟨m2, rfl, fb, hbB⟩; have hcB := hd.trans (hbB.mono (Nat.le_refl _)); obtain ⟨⟨xb0, xb1, xb2, yb0, yb1, yb2⟩, fb0, fb1, fb2, fb3, fb4, fb5⟩ := hS.out _ hcB)
      | (go_simp; with_reducible refine (cB1.out _ hcA).mono ?_; rintro e Wb ⟨m2, rfl, fb, hbB⟩; have hcB := hcA.trans (hbB.mono hcA.size); obtain ⟨⟨xb0, xb1, xb2, yb0, yb1, yb2⟩, fb0, fb1, fb2, fb3, fb4, fb5⟩ := hS.out _ hcB))
    all_goals
      have e1 : w.heap.size < w1.heap.size := by omega
      have e2 : w.heap.size ≠ w.heap.size + 1 := by omega
      go_wp2_with fail
      go_meet
      case rel =>
        first
          | exact ⟨m1, m2, Lib.hid ⟨fun x y h1 h2 e => fa.apart fb x y h1 h2 e.symm, ((fa.base (Nat.le_refl _)).later hbB).two e1 hs1 _ _ _ _ _ _, (fb.base hcA.size).two e1 hs1 _ _ _ _ _ _, (two_st (k1.out.later hcB) (k2.out.later hcB) e2 rfl rfl _ _ _ _ _ _).1, (two_st (k1.out.later hcB) (k2.out.later hcB) e2 rfl rfl _ _ _ _ _ _).2, by have := hb1.trans (hcB.mono hb1.size); go_grown⟩⟩
          | exact ⟨m1, m2, Lib.hid ⟨fun x y h1 h2 e => fb.apart fa y x h2 h1 e, (fa.base hcB.size).two e1 hs1 _ _ _ _ _ _, ((fb.base (Nat.le_refl _)).later hbA).two e1 hs1 _ _ _ _ _ _, (two_st (k1.out.later hcA) (k2.out.later hcA) e2 rfl rfl _ _ _ _ _ _).1, (two_st (k1.out.later hcA) (k2.out.later hcA) e2 rfl rfl _ _ _ _ _ _).2, by have := hb1.trans (hcA.mono hb1.size); go_grown⟩⟩
  case rest =>
    obtain ⟨m1, m2, hcut⟩ := hcut
    obtain ⟨hne, c1, c2, q1, q2, hbc⟩ := hcut.out
    have e1 : w.heap.size < w1.heap.size := by omega
    have hB1 : w.heap.size ≤ w1.heap.size := hb1.size
    have hst : ASt w w1.heap.size w.heap.size (w.heap.size + 1) a b m1 m2 na nb 0 0 wc := ⟨c1.zst, c2.zst, q1, q2, hbc⟩
    have l1 := c1.len
    have l2 := c2.len
    rw [← hna.out] at l1
    rw [← hnb.out] at l2
    have hfin : ∀ W, ASt w w1.heap.size w.heap.size (w.heap.size + 1) a b m1 m2 na nb na nb W → Calls Tryz.prog 17 #[.agg #[.int .i64 a.p, .slice m1.A na m1.c, .int .u64 a.r], .agg #[.int .i64 b.p, .slice m2.A nb m2.c, .int .u64 b.r]] W fun e w' => e = .returned (.bool R) ∧ Below W.heap.size W w' := fun W hW => by
      have s1 := hW.z1
      have s2 := hW.z2
      rw [← l1] at s1
      rw [← l2] at s2
      have t1 := s1.sat (p := a.p) (r := a.r) (c := m1.c) c1.pl c1.at_.cap c1.at_.len c1.at_.len2 (c1.p ▸ c1.at_.p) (c1.r ▸ c1.at_.r)
      have t2 := s2.sat (p := b.p) (r := b.r) (c := m2.c) c2.pl c2.at_.cap c2.at_.len c2.at_.len2 (c2.p ▸ c2.at_.p) (c2.r ▸ c2.at_.r)
      have := rsameS_any _ _ W t1 t2
      rw [alike_eq c1.c c2.c, ← hR.out] at this
      unfold Ss.v at this
      dsimp only at this
      rw [List.length_map, List.length_map, l1, l2] at this
      exact this
    replace hst := Lib.hid hst
    replace hfin := Lib.hid hfin
    replace hne := Lib.hid hne
    replace l1 := Lib.hid l1
    replace l2 := Lib.hid l2
    clear hcut c1 c2 q1 q2 hbc k1 k2 hS cA1 cB1 hd x0 x1 x2 y0 y1 y2 f0 f1 f2 f3 f4 f5
    go_wp2
    go_loopw [5] (fun v wr => ∃ i : Nat, v = .int .i64 (i : Int) ∧ i ≤ na ∧ Hid (ASt w w1.heap.size w.heap.size (w.heap.size + 1) a b m1 m2 na nb i 0 wr)) (fun v _ => na - (intOf v).toNat)
    case atStart => exact ⟨0, rfl, Nat.zero_le _, hst⟩
    case round =>
      clear hst
      obtain ⟨i, rfl, hi, hst⟩ := hrel
      have x1 := (hst.out.k1.2 1 _ rfl).1
      by_cases hlt : i < na
      · have gI : (i : Int) < (na : Int) := by omega
        have gI0 : (0 : Int) ≤ (i : Int) := by omega
        obtain ⟨q, eA, hq, ⟨cx, hx⟩, hf, hst2⟩ := hst.out.put1 (by rw [l1.out]; exact hlt) e1 hs1 hB1 hne.out
        rw [eA] at x1
        have hx' : wr.cell? ⟨q, 0 + i * 11 + 8, none⟩ = some cx := by rw [Nat.zero_add]; exact hx
        have hf' : wr.frozen? ⟨q, 0 + i * 11 + 8, none⟩ = false := by rw [Nat.zero_add]; exact hf
        replace hst2 := Lib.hid hst2
        clear hst
        go_wp2
        exact ⟨⟨i + 1, by go_num, hlt, by first | exact hst2 | simpa using hst2⟩, by simp [intOf]; omega⟩
      · obtain rfl : i = na := by omega
        clear hlt
        go_wp2
        clear x1
        go_loopw [6] (fun v wr => ∃ k : Nat, v = .int .i64 (k : Int) ∧ k ≤ nb ∧ Hid (ASt w w1.heap.size w.heap.size (w.heap.size + 1) a b m1 m2 i nb i k wr)) (fun v _ => nb - (intOf v).toNat)
        case atStart => exact ⟨0, rfl, Nat.zero_le _, hst⟩
        case round =>
          clear hst
          obtain ⟨k, rfl, hk, hst⟩ := hrel
          have y1 := (hst.out.k2.2 1 _ rfl).1
          by_cases hlt : k < nb
          · have gI : (k : Int) < (nb : Int) := by omega
            have gI0 : (0 : Int) ≤ (k : Int) := by omega
            obtain ⟨q, eA, hq, ⟨cx, hx⟩, hf, hst2⟩ := hst.out.put2 (by rw [l2.out]; exact hlt) e1 hs1 hB1 hne.out
            rw [eA] at y1
            replace hst2 := Lib.hid hst2
            clear hst
            go_wp2
            exact ⟨⟨k + 1, by go_num, hlt, by first | exact hst2 | simpa using hst2⟩, by simp [intOf]; omega⟩
          · obtain rfl : k = nb := by omega
            clear hlt
            have x0 := (hst.out.k1.2 0 _ rfl).1
            have x1 := (hst.out.k1.2 1 _ rfl).1
            have x2 := (hst.out.k1.2 2 _ rfl).1
            have y0 := (hst.out.k2.2 0 _ rfl).1
            have y2 := (hst.out.k2.2 2 _ rfl).1
            have cS := hfin.out _ hst.out
            have hbw := hst.out.below
            replace cS := Lib.hid cS
            clear hst hfin
            go_wp2_with fail
            refine cS.out.mono ?_
            rintro e w9 ⟨rfl, hb9⟩
            go_wp2
            go_ret
            exact ⟨rfl, hbw.trans (hb9.mono hbw.size)⟩
end Go.Proofs.YtpiegngjpnpohaaGreat.Sn

namespace Go.Proofs.YtpiegngjpnpohaaGreat.Sn
open Go.RowKit Go.Proofs.YtpiegngjpnpohaaGreat.La Go.Proofs.YtpiegngjpnpohaaGreat.Sl Go.Proofs.YtpiegngjpnpohaaGreat.Ck Go.Proofs.YtpiegngjpnpohaaGreat.Rc Go.Proofs.YtpiegngjpnpohaaGreat.Rk Go.Proofs.YtpiegngjpnpohaaGreat.Wi Go.Proofs.YtpiegngjpnpohaaGreat.Fb Go.Proofs.YtpiegngjpnpohaaGreat.Mg Go.Proofs.YtpiegngjpnpohaaGreat.St Go.Proofs.YtpiegngjpnpohaaGreat.Bk
set_option linter.unusedVariables false
theorem mz_swap (xs ys : List Vv) : mz ys xs = (mz xs ys).map fun q => (q.2, q.1) := by
  induction xs, ys using mz.induct with
  | case1 ys => rw [mz_nilL, mz_nilR, List.map_map]; rfl
  | case2 x xs => rw [mz_nilL, mz_nilR, List.map_map]; rfl
  | case3 x xs y ys h1 ih =>
    have h := cmpD_anti x.d y.d
    rw [mz_left (.inr ⟨y, ys, rfl, h1⟩), mz_right (.inr ⟨y, ys, rfl, by omega⟩), ih]; rfl
  | case4 x xs y ys h1 h2 ih =>
    have h := cmpD_anti x.d y.d
    rw [mz_right (.inr ⟨x, xs, rfl, h2⟩), mz_left (.inr ⟨x, xs, rfl, by omega⟩), ih]; rfl
  | case5 x xs y ys h1 h2 ih =>
    have h := cmpD_anti x.d y.d
    rw [mz_both (by omega), mz_both (by omega), ih]; rfl
theorem firstE_iff {L : List (Option Vv × Option Vv)} : firstE L = 0 ↔ ∀ q ∈ L, errP q = 0 := by
  refine ⟨fun h => firstE_zero h, fun h => ?_⟩
  induction L with
  | nil => rfl
  | cons p r ih =>
    have e : firstE (p :: r) = if errP p ≠ 0 then errP p else firstE r := rfl
    rw [e, if_neg (fun k => k (h p (by simp)))]
    exact ih fun q hq => h q (by simp [hq])
theorem unlike_swap {a b : List Vv} (h : unlikeB a b = false) : unlikeB b a = false := by
  unfold unlikeB
  rw [List.any_eq_false]
  intro x hx
  unfold badV
  rw [Bool.not_eq_true, List.any_eq_false]
  intro y hy
  have := unlike_no h hx hy
  unfold alD
  intro k
  simp only [Bool.and_eq_true, decide_eq_true_eq, Bool.not_eq_true', decide_eq_false_iff_not] at k
  have e := this k.1.symm
  exact k.2 ⟨e.1.symm, e.2.symm⟩
theorem Chk.okc {p : Int} {vs : List Vv} (c : Chk p vs) (pl : ∀ v ∈ vs, PlainV v) : ∀ v ∈ vs, OkC v.c := fun v hv => (okV_of (pl v hv) (c.each v hv).1 (c.each v hv).2).okc (pl v hv)
theorem errP_swap {a b : List Vv} (oa : ∀ v ∈ a, OkC v.c) (ob : ∀ v ∈ b, OkC v.c) {q : Option Vv × Option Vv} (hq : q ∈ mz a b) : errP (q.2, q.1) = errP q := by
  rcases mz_mem _ _ _ hq with ⟨x, hx, rfl⟩ | ⟨y, hy, rfl⟩ | ⟨x, hx, y, hy, rfl, h0⟩
  · rfl
  · rfl
  · exact twoE_comm (ob y hy) (oa x hx)
theorem mrgE_swap {a b : Ss} (pa : ∀ v ∈ a.vs, PlainV v) (pb : ∀ v ∈ b.vs, PlainV v) (ra : 0 ≤ a.r ∧ a.r ≤ 18446744073709551615) (rb : 0 ≤ b.r ∧ b.r ≤ 18446744073709551615) (e : mrgE a b = 0) : mrgE b a = 0 := by
  obtain ⟨g, hp, ca, cb, la, lb, hu, hl, hf, hr⟩ := mrgE_ok e
  have oka := ca.okc pa
  have okb := cb.okc pb
  have c1 : (chkS a.p a.vs).1 = 0 := (chkS_ok _ _).2 ⟨g, la, ca⟩
  have c2 : (chkS b.p b.vs).1 = 0 := (chkS_ok _ _).2 ⟨by rw [← hp]; exact g, lb, cb⟩
  have hl' : (mz b.vs a.vs).length ≤ 256 := by rw [mz_swap, List.length_map]; exact hl
  have hf' : firstE (mz b.vs a.vs) = 0 := by
    rw [mz_swap]
    refine firstE_iff.2 fun q hq => ?_
    obtain ⟨q', hq', rfl⟩ := List.mem_map.1 hq
    rw [errP_swap oka okb hq']
    exact firstE_zero hf q' hq'
  have hr' : ¬ IntKind.u64.wrap (b.r + a.r) < b.r := by
    rw [IntKind.wrap_u64] at hr ⊢; omega
  unfold mrgE
  rw [if_neg (fun k => k c2), if_neg (fun k => k c1), if_neg (by rintro (h | h); exact h hp.symm; rw [unlike_swap hu] at h; cases h), if_neg (by omega), if_neg (fun k => k hf'), if_neg hr']
theorem merged_comm {a b : Ss} (pa : ∀ v ∈ a.vs, PlainV v) (pb : ∀ v ∈ b.vs, PlainV v) (e : mrgE a b = 0) : (mz b.vs a.vs).map outP = (mz a.vs b.vs).map outP := by
  obtain ⟨g, hp, ca, cb, la, lb, hu, hl, hf, hr⟩ := mrgE_ok e
  have oka := ca.okc pa
  have okb := cb.okc pb
  rw [mz_swap, List.map_map]
  refine List.map_congr_left fun q hq => ?_
  rcases mz_mem _ _ _ hq with ⟨x, hx, rfl⟩ | ⟨y, hy, rfl⟩ | ⟨x, hx, y, hy, rfl, h0⟩
  · rfl
  · rfl
  · have z := (cmpD_zero _ _).1 h0
    have k := unlike_no hu hx hy z.1
    exact twoC_comm (okb y hy) (oka x hx) k.1.symm z.1.symm k.2.symm z.2.symm
theorem sameS_of {a b : Ss} (hp : a.p = b.p) (hr : a.r = b.r) (h : a.vs.map Vv.c = b.vs.map Vv.c) : sameS a b = true := by
  unfold sameS
  rw [sameL_cc h rfl, sameL_self]
  simp [hp, hr]
theorem alikeS_of {a b : Ss} (hp : a.p = b.p) (hr : a.r = b.r) (h : (a.vs.map Vv.c).map zc = (b.vs.map Vv.c).map zc) : alikeS a b = true := by
  have e : (a.vs.map zs).map Vv.c = (b.vs.map zs).map Vv.c := by
    rw [List.map_map, List.map_map] at h ⊢
    exact h
  unfold alikeS alikeL
  rw [sameL_cc e rfl, sameL_self]
  simp [hp, hr]
theorem firstE_left (xs : List Vv) : firstE (xs.map fun a => (some a, none)) = 0 := firstE_iff.2 fun q hq => by obtain ⟨x, _, rfl⟩ := List.mem_map.1 hq; rfl
theorem firstE_right (ys : List Vv) : firstE (ys.map fun a => (none, some a)) = 0 := firstE_iff.2 fun q hq => by obtain ⟨x, _, rfl⟩ := List.mem_map.1 hq; rfl
def emptyS (p : Int) : Ss := ⟨p, none, 0, [], 0⟩
theorem chkS_nil {p : Int} (g : good p) : (chkS p []).1 = 0 := (chkS_ok _ _).2 ⟨g, by decide, ⟨by simp, List.Pairwise.nil⟩⟩
theorem mrgE_emptyL {a : Ss} (c : (chkS a.p a.vs).1 = 0) (ra : 0 ≤ a.r ∧ a.r ≤ 18446744073709551615) : mrgE (emptyS a.p) a = 0 := by
  have h := (chkS_ok _ _).1 c
  have hl : (mz (emptyS a.p).vs a.vs).length ≤ 256 := by show (mz [] a.vs).length ≤ 256; rw [mz_nilL, List.length_map]; exact h.2.1
  have hf : firstE (mz (emptyS a.p).vs a.vs) = 0 := by show firstE (mz [] a.vs) = 0; rw [mz_nilL]; exact firstE_right _
  have hu : unlikeB (emptyS a.p).vs a.vs = false := by
    show unlikeB [] a.vs = false
    unfold unlikeB
    rw [List.any_eq_false]
    intro y hy; unfold badV; simp
  have hr : ¬ IntKind.u64.wrap ((emptyS a.p).r + a.r) < (emptyS a.p).r := by
    show ¬ IntKind.u64.wrap (0 + a.r) < 0
    rw [IntKind.wrap_u64]; omega
  unfold mrgE
  rw [if_neg (fun k => k (chkS_nil h.1)), if_neg (fun k => k c), if_neg (by rintro (h | h); exact h rfl; rw [hu] at h; cases h), if_neg (by omega), if_neg (fun k => k hf), if_neg hr]
theorem mrgE_emptyR {a : Ss} (c : (chkS a.p a.vs).1 = 0) (ra : 0 ≤ a.r ∧ a.r ≤ 18446744073709551615) : mrgE a (emptyS a.p) = 0 := by
  have h := (chkS_ok _ _).1 c
  have hl : (mz a.vs (emptyS a.p).vs).length ≤ 256 := by show (mz a.vs []).length ≤ 256; rw [mz_nilR, List.length_map]; exact h.2.1
  have hf : firstE (mz a.vs (emptyS a.p).vs) = 0 := by show firstE (mz a.vs []) = 0; rw [mz_nilR]; exact firstE_left _
  have hu : unlikeB a.vs (emptyS a.p).vs = false := rfl
  have hr : ¬ IntKind.u64.wrap (a.r + (emptyS a.p).r) < a.r := by
    show ¬ IntKind.u64.wrap (a.r + 0) < a.r
    rw [IntKind.wrap_u64]; omega
  unfold mrgE
  rw [if_neg (fun k => k c), if_neg (fun k => k (chkS_nil h.1)), if_neg (by rintro (h | h); exact h rfl; rw [hu] at h; cases h), if_neg (by omega), if_neg (fun k => k hf), if_neg hr]
theorem same_emptyL {a m : Ss} (c : (chkS a.p a.vs).1 = 0) (ra : 0 ≤ a.r ∧ a.r ≤ 18446744073709551615) (hm : MrgC (emptyS a.p) a m) : sameS m a = true := by
  obtain ⟨h1, h2, h3⟩ := hm.2 (mrgE_emptyL c ra)
  refine sameS_of h1 (h2.trans ?_) ?_
  · show IntKind.u64.wrap (0 + a.r) = a.r
    rw [IntKind.wrap_u64]; omega
  · rw [h3, mz_mgC]; show mgC [] _ = _; rw [mgC_nilL]
theorem same_emptyR {a m : Ss} (c : (chkS a.p a.vs).1 = 0) (ra : 0 ≤ a.r ∧ a.r ≤ 18446744073709551615) (hm : MrgC a (emptyS a.p) m) : sameS m a = true := by
  obtain ⟨h1, h2, h3⟩ := hm.2 (mrgE_emptyR c ra)
  refine sameS_of h1 (h2.trans ?_) ?_
  · show IntKind.u64.wrap (a.r + 0) = a.r
    rw [IntKind.wrap_u64]; omega
  · rw [h3, mz_mgC]; show mgC _ [] = _; rw [mgC_nilR]
theorem same_swap {a b m n : Ss} (pa : ∀ v ∈ a.vs, PlainV v) (pb : ∀ v ∈ b.vs, PlainV v) (ra : 0 ≤ a.r ∧ a.r ≤ 18446744073709551615) (rb : 0 ≤ b.r ∧ b.r ≤ 18446744073709551615) (hm : MrgC a b m) (hn : MrgC b a n) : sameS m n = true := by
  by_cases e : mrgE a b = 0
  · obtain ⟨h1, h2, h3⟩ := hm.2 e
    obtain ⟨k1, k2, k3⟩ := hn.2 (mrgE_swap pa pb ra rb e)
    have hp := (mrgE_ok e).2.1
    exact sameS_of (by rw [h1, k1, hp]) (by rw [h2, k2, Int.add_comm]) (by rw [h3, k3, merged_comm pa pb e])
  · have e' : mrgE b a ≠ 0 := fun k => e (mrgE_swap pb pa rb ra k)
    rw [hm.1 e, hn.1 e']
    exact sameS_self _
theorem fC_zc (L : List Cv) (nm : ByteArray) (l : List Lab) : fC (L.map zc) nm l = (fC L nm l).map zc := by
  induction L with
  | nil => rfl
  | cons c L ih =>
    rw [List.map_cons, fC_cons, fC_cons, ih]
    show (if c.name = nm ∧ c.l = l then _ else _) = _
    by_cases h : c.name = nm ∧ c.l = l
    · rw [if_pos h, if_pos h]; rfl
    · rw [if_neg h, if_neg h]
theorem SortC.zc {L : List Cv} (h : SortC L) : SortC (L.map zc) := by
  unfold SortC
  rw [List.pairwise_map]
  exact List.Pairwise.imp (fun {a b} k => by have e : cmpC (Sn.zc a) (Sn.zc b) = cmpC a b := cmpC_key rfl rfl rfl rfl; rw [e]; exact k) h
theorem comb_assoc {x y z : Option Cv} (hx : ∀ c, x = some c → OkC c) (hy : ∀ c, y = some c → OkC c) (hz : ∀ c, z = some c → OkC c) : (comb (comb x y) z).map zc = (comb x (comb y z)).map zc := by
  cases x with
  | none => rfl
  | some a =>
    cases y with
    | none => rfl
    | some b =>
      cases z with
      | none => rfl
      | some c => exact congrArg some (twoC_assoc (hx a rfl) (hy b rfl) (hz c rfl))
theorem mgC_assoc {X Y Z : List Cv} (sx : SortC X) (sy : SortC Y) (sz : SortC Z) (hx : ∀ c ∈ X, OkC c) (hy : ∀ c ∈ Y, OkC c) (hz : ∀ c ∈ Z, OkC c) : (mgC (mgC X Y) Z).map zc = (mgC X (mgC Y Z)).map zc := by
  refine fC_ext (mgC_sort (mgC_sort sx sy) sz).zc (mgC_sort sx (mgC_sort sy sz)).zc fun nm l => ?_
  rw [fC_zc, fC_zc, fC_mgC (mgC_sort sx sy) sz, fC_mgC sx sy, fC_mgC sx (mgC_sort sy sz), fC_mgC sy sz]
  exact comb_assoc (fun c h => hx c (fC_some h).1) (fun c h => hy c (fC_some h).1) (fun c h => hz c (fC_some h).1)
theorem wrap_assoc (x y z : Int) : IntKind.u64.wrap (IntKind.u64.wrap (x + y) + z) = IntKind.u64.wrap (x + IntKind.u64.wrap (y + z)) := by
  simp only [IntKind.wrap_u64]; omega
theorem alike_three {a b c m x bc y : Ss} (pa : ∀ v ∈ a.vs, PlainV v) (pb : ∀ v ∈ b.vs, PlainV v) (pc : ∀ v ∈ c.vs, PlainV v) (hm : MrgC a b m) (hx : MrgC m c x) (hbc : MrgC b c bc) (hy : MrgC a bc y)
    (e1 : mrgE a b = 0) (e2 : mrgE m c = 0) (e3 : mrgE b c = 0) (e4 : mrgE a bc = 0) : alikeS x y = true := by
  obtain ⟨m1, m2, m3⟩ := hm.2 e1
  obtain ⟨x1, x2, x3⟩ := hx.2 e2
  obtain ⟨b1, b2, b3⟩ := hbc.2 e3
  obtain ⟨y1, y2, y3⟩ := hy.2 e4
  obtain ⟨_, _, ca, cb, _⟩ := mrgE_ok e1
  obtain ⟨_, _, _, cc, _⟩ := mrgE_ok e3
  have M : ∀ {p : Int} {vs : List Vv}, Chk p vs → (∀ v ∈ vs, PlainV v) → ∀ k ∈ vs.map Vv.c, OkC k := fun c pl k hk => by
    obtain ⟨v, hv, rfl⟩ := List.mem_map.1 hk
    exact c.okc pl v hv
  refine alikeS_of (by rw [x1, m1, y1]) (by rw [x2, m2, y2, b2, wrap_assoc]) ?_
  rw [x3, y3, mz_mgC, mz_mgC, m3, b3, mz_mgC, mz_mgC]
  exact mgC_assoc ca.sort cb.sort cc.sort (M ca pa) (M cb pb) (M cc pc)
noncomputable def bothC (X Y : List Cv) (c : Cv) : Bool := (fC X c.name c.l).isSome && (fC Y c.name c.l).isSome
theorem fC_next {L : List Cv} {a c : Cv} (h : cmpC a c ≠ 0) : fC (a :: L) c.name c.l = fC L c.name c.l := by
  rw [fC_cons, if_neg (fun e => h ((cmpC_zero a c).2 e))]
theorem both_count {X Y : List Cv} (sx : SortC X) (sy : SortC Y) : (mgC X Y).length + (mgC X Y).countP (bothC X Y) = X.length + Y.length := by
  induction X, Y using mgC.induct with
  | case1 ys =>
    rw [mgC_nilL]
    have : ys.countP (bothC [] ys) = 0 := List.countP_eq_zero.2 fun c _ => by unfold bothC; rw [fC_nil]; simp
    rw [this]; simp
  | case2 x xs =>
    rw [mgC_nilR]
    have : (x :: xs).countP (bothC (x :: xs) []) = 0 := List.countP_eq_zero.2 fun c _ => by unfold bothC; rw [fC_nil]; simp
    rw [this]; simp
  | case3 x xs y ys h1 ih =>
    rw [mgC_cons, if_pos h1]
    have ih := ih sx.tail sy
    have hh : ∀ c ∈ mgC xs (y :: ys), cmpC x c < 0 := mgC_head sx.head (fun c hc => by
      rcases List.mem_cons.1 hc with rfl | hc
      · exact h1
      · exact cmpC_lt h1 (sy.head c hc))
    have e : (mgC xs (y :: ys)).countP (bothC (x :: xs) (y :: ys)) = (mgC xs (y :: ys)).countP (bothC xs (y :: ys)) := List.countP_congr fun c hc => by
      unfold bothC
      rw [fC_next (by have := hh c hc; omega)]
    have n : bothC (x :: xs) (y :: ys) x = false := by
      unfold bothC
      rw [fC_behind (L := y :: ys) (a := x) (fun c hc => by
        rcases List.mem_cons.1 hc with rfl | hc
        · exact h1
        · exact cmpC_lt h1 (sy.head c hc)) ⟨rfl, rfl⟩]
      simp
    rw [List.countP_cons_of_neg (by rw [n]; decide), e]
    simp only [List.length_cons] at ih ⊢
    omega
  | case4 x xs y ys h1 h2 ih =>
    rw [mgC_cons, if_neg h1, if_pos h2]
    have ih := ih sx sy.tail
    have h2' : cmpC y x < 0 := by have := cmpC_anti x y; omega
    have hh : ∀ c ∈ mgC (x :: xs) ys, cmpC y c < 0 := mgC_head (fun c hc => by
      rcases List.mem_cons.1 hc with rfl | hc
      · exact h2'
      · exact cmpC_lt h2' (sx.head c hc)) sy.head
    have e : (mgC (x :: xs) ys).countP (bothC (x :: xs) (y :: ys)) = (mgC (x :: xs) ys).countP (bothC (x :: xs) ys) := List.countP_congr fun c hc => by
      unfold bothC
      rw [fC_next (L := ys) (by have := hh c hc; omega)]
    have n : bothC (x :: xs) (y :: ys) y = false := by
      unfold bothC
      rw [fC_behind (L := x :: xs) (a := y) (fun c hc => by
        rcases List.mem_cons.1 hc with rfl | hc
        · exact h2'
        · exact cmpC_lt h2' (sx.head c hc)) ⟨rfl, rfl⟩]
      simp
    rw [List.countP_cons_of_neg (by rw [n]; decide), e]
    simp only [List.length_cons] at ih ⊢
    omega
  | case5 x xs y ys h1 h2 ih =>
    rw [mgC_cons, if_neg h1, if_neg h2]
    have ih := ih sx.tail sy.tail
    have h0 : cmpC x y = 0 := by omega
    have hy : ∀ c, cmpC y c = cmpC x c := fun c => by have z := (cmpC_zero x y).1 h0; exact cmpC_key z.1.symm z.2.symm rfl rfl
    have hh : ∀ c ∈ mgC xs ys, cmpC x c < 0 := mgC_head sx.head (fun c hc => by rw [← hy]; exact sy.head c hc)
    have e : (mgC xs ys).countP (bothC (x :: xs) (y :: ys)) = (mgC xs ys).countP (bothC xs ys) := List.countP_congr fun c hc => by
      unfold bothC
      have h := hh c hc
      rw [fC_next (a := x) (by omega), fC_next (a := y) (by rw [hy]; omega)]
    have n : bothC (x :: xs) (y :: ys) (twoC x y) = true := by
      have z := (cmpC_zero x y).1 h0
      unfold bothC
      rw [fC_cons, if_pos ⟨rfl, rfl⟩, fC_cons, if_pos ⟨z.1.symm, z.2.symm⟩]; rfl
    rw [List.countP_cons_of_pos n, e]
    simp only [List.length_cons] at ih ⊢
    omega
end Go.Proofs.YtpiegngjpnpohaaGreat.Sn
