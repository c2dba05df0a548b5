/- Lemmas for the laws of this seat, laid together of Ss, SnG, SnH, SnJ. -/
import Derived.Test.YtpiegngjpnpohaaGreatL03
import Derived.Test.YtpiegngjpnpohaaGreatL21
import Derived.Test.YtpiegngjpnpohaaGreatL22
import Derived.Test.YtpiegngjpnpohaaGreatL23

namespace Go.Proofs.YtpiegngjpnpohaaGreat.Sl
open Go.RowKit
set_option linter.unusedVariables false
section
variable {P : Program} {w : World}
theorem step_append_rd {ops : Array Oper} {o : Oper} {a : Act} {K : Act → World → Prop} {Q : Exit → Act → World → Prop} {E : Prop} (hgd : o.guard = none) (x y : Operand) (t : TypeId)
    (ho : o.op = .call { callee := .builtin .append, args := #[x, y], argTypes := #[t, t] })
    (base : Nat) (e : TypeId) {i : TypeInfo} {z : Value} {s bytes : Nat} (ht : P.underlying t = some (.slice e)) (hi : P.info? e = some i) (hz : i.zero = some z)
    (hs : i.size = s) (hby : i.bytes = bytes) (hzs : z.cells.size = s) (hsz : 0 < s) {v : Value} {n : Nat} {xs : List Value} (hx : a.eval x = v) (h : w.ownsRow base e s v n xs)
    {A : Option Addr} {m c : Nat} {ys : List Value} (hy : a.eval y = .slice A m c) (hr : ∃ B, Rd w B s A ys m) (h1 : ∀ u ∈ ys, u.oneCell' = true) (h63 : n + m ≤ maxLen) (hb : (n + m) * bytes ≤ 140737488355328) (hbase : base ≤ w.heap.size)
    (hk : ∀ A' c' w', w'.ownsRow base e s (.slice A' (n + m) c') (n + m) (xs ++ ys) → w.grownBy w' v.ownBlock → w.heap.size ≤ w'.heap.size → K (a.put o.dst (.slice A' (n + m) c')) w') :
    if Region.wanted o (yielded ops a.tmps) = true then Oper.wp P o a w K Q else E := by
  obtain ⟨B, hr⟩ := hr
  have hw : Region.wanted o (yielded ops a.tmps) = true := by simp [Region.wanted, hgd]
  rw [if_pos hw]
  obtain ⟨v', w', x1, x2, x3, x4⟩ := run_append_rd base t o.type e ht hi hz hs hby hzs hsz h c hr h1 h63 hb hbase
  obtain ⟨A', c', rfl, _⟩ := own_form x2
  unfold Oper.wp execOp
  simp only [ho, resolve, invoke, builtin, Sem.run_bind, Sem.run_pure, Result.andThen_ok, List.map_toArray, List.map_cons, List.map_nil, hx, hy, x1]
  exact hk A' c' w' x2 x3 x3.size
theorem wpList_append_rg {ops : Array Oper} {rest : List Oper} {o : Oper} {a : Act} {Q : Exit → Act → World → Prop} (hgd : o.guard = none) (x y : Operand) (t : TypeId)
    (ho : o.op = .call { callee := .builtin .append, args := #[x, y], argTypes := #[t, t] })
    (base : Nat) (e : TypeId) {i : TypeInfo} {z : Value} {s bytes : Nat} (ht : P.underlying t = some (.slice e)) (hi : P.info? e = some i) (hz : i.zero = some z)
    (hs : i.size = s) (hby : i.bytes = bytes) (hzs : z.cells.size = s) (hsz : 0 < s) {v : Value} {n : Nat} {xs : List Value} (hx : a.eval x = v) (h : w.ownsRow base e s v n xs)
    {B : Nat} {A : Option Addr} {m c : Nat} {ys : List Value} (hy : a.eval y = .slice A m c) (hr : Rd w B s A ys m) (h1 : ∀ u ∈ ys, u.oneCell' = true) (h63 : n + m ≤ maxLen) (hb : (n + m) * bytes ≤ 140737488355328) (hbase : base ≤ w.heap.size)
    (hk : ∀ A' c' w', w'.ownsRow base e s (.slice A' (n + m) c') (n + m) (xs ++ ys) → w.grownBy w' v.ownBlock → ((Value.slice A' (n + m) c').ownBlock = v.ownBlock ∨ (Value.slice A' (n + m) c').ownBlock = some w.heap.size) → wpList P ops Q rest (a.put o.dst (.slice A' (n + m) c')) w') : wpList P ops Q (o :: rest) a w := by
  refine wpList_plain hgd fun _ hK => ?_
  obtain ⟨v', w', x1, x2, x3, x4⟩ := run_append_rd base t o.type e ht hi hz hs hby hzs hsz h c hr h1 h63 hb hbase
  obtain ⟨A', c', rfl, _⟩ := own_form x2
  unfold Oper.wp execOp
  simp only [ho, resolve, invoke, builtin, Sem.run_bind, Sem.run_pure, Result.andThen_ok, List.map_toArray, List.map_cons, List.map_nil, hx, hy, x1]
  exact hK _ _ (hk A' c' w' x2 x3 x4)
end
end Go.Proofs.YtpiegngjpnpohaaGreat.Sl

namespace Go.Proofs.YtpiegngjpnpohaaGreat.Sn
open Go.RowKit Go.Proofs.YtpiegngjpnpohaaGreat.La Go.Proofs.YtpiegngjpnpohaaGreat.Sl Go.Proofs.YtpiegngjpnpohaaGreat.Ck Go.Proofs.YtpiegngjpnpohaaGreat.Rc Go.Proofs.YtpiegngjpnpohaaGreat.Rk Go.Proofs.YtpiegngjpnpohaaGreat.Wi Go.Proofs.YtpiegngjpnpohaaGreat.Fb Go.Proofs.YtpiegngjpnpohaaGreat.Mg Go.Proofs.YtpiegngjpnpohaaGreat.St
set_option linter.unusedVariables false
structure PlainV (v : Vv) : Prop where
  cap : v.d.l.length ≤ v.d.c
  len : v.d.c ≤ 9223372036854775807
  len2 : v.d.l.length ≤ 140737488355328
  name : v.d.name.size ≤ 9223372036854775807
  help : v.d.help.size ≤ 9223372036854775807
  texts : ∀ x ∈ v.d.l, x.1.size ≤ 9223372036854775807 ∧ x.2.size ≤ 9223372036854775807
  kind : -9223372036854775808 ≤ v.d.kind ∧ v.d.kind ≤ 9223372036854775807
  ok : ∀ c ∈ v.cs, okC c
  ccap : v.cs.length ≤ v.cc
  clen : v.cc ≤ 9223372036854775807
  tot : In v.t
  n : 0 ≤ v.n ∧ v.n ≤ 18446744073709551615
  sm : okF v.sm
  mn : okF v.mn
  mx : okF v.mx
theorem VAt.plain {v : Vv} {w : World} {B : Nat} (h : VAt v w B) : PlainV v :=
  ⟨h.d.cap, h.d.len, h.d.len2, h.d.name, h.d.help, h.d.texts, h.d.kind, h.cs.ok, h.cap, h.clen, h.tot, h.n, h.sm, h.mn, h.mx⟩
theorem OwnV.vat {v : Vv} {w : World} {B : Nat} (h : OwnV B w v) (p : PlainV v) : VAt v w w.heap.size := by
  obtain ⟨⟨c0, h1⟩, c1, h2⟩ := h
  exact ⟨⟨Rd.of_own h1 (fun g hg => (h1.lt g.block (by rw [hg]; rfl)).2), p.cap, p.len, p.len2, p.name, p.help, p.texts, p.kind⟩, Mg.cs_of_own h2 p.ok, p.ccap, p.clen, p.tot, p.n, p.sm, p.mn, p.mx⟩
theorem OwnV.base {v : Vv} {w : World} {B B' : Nat} (h : OwnV B w v) (k : B' ≤ B) : OwnV B' w v := by
  obtain ⟨⟨c0, h1⟩, c1, h2⟩ := h
  exact ⟨⟨c0, own_base h1 k⟩, c1, own_base h2 k⟩
theorem OwnV.later {v : Vv} {w w' : World} {B : Nat} (h : OwnV B w v) (k : Below w.heap.size w w') : OwnV B w' v := by
  obtain ⟨⟨c0, h1⟩, c1, h2⟩ := h
  exact ⟨⟨c0, own_later h1 k⟩, c1, own_later h2 k⟩
theorem OwnV.set {v : Vv} {w : World} {B b o : Nat} (h : OwnV B w v) (hb : b < B) (u : Value) : OwnV B (w.setCell ⟨b, o, none⟩ u) v := by
  obtain ⟨⟨c0, h1⟩, c1, h2⟩ := h
  exact ⟨⟨c0, own_set h1 hb u⟩, c1, own_set h2 hb u⟩
theorem own_apart {w : World} {b1 b2 n1 n2 s1 s2 : Nat} {e1 e2 : TypeId} {v1 v2 : Value} {x1 x2 : List Value} (h1 : w.ownsRow b1 e1 s1 v1 n1 x1) (h2 : w.ownsRow b2 e2 s2 v2 n2 x2) (hne : e1 ≠ e2) : v1.ownBlock = none ∨ v1.ownBlock ≠ v2.ownBlock := by
  rcases h1.2 with ⟨rfl, _⟩ | ⟨g, cap, cur, rfl, _, hg, _⟩
  · exact .inl rfl
  · refine .inr ?_
    rcases h2.2 with ⟨rfl, _⟩ | ⟨g', cap', cur', rfl, _, hg', _⟩
    · simp [Value.ownBlock]
    · intro e
      obtain rfl : g = g' := by simpa [Value.ownBlock] using e
      rw [hg] at hg'
      injection hg' with hg'
      injection hg' with _ h
      exact hne h
theorem OwnV.grown {v : Vv} {w w' : World} {B b n s : Nat} {u : Value} {xs : List Value} (h : OwnV B w v) (ho : w.ownsRow b 49 s u n xs) (hg : w.grownBy w' u.ownBlock) : OwnV B w' v := by
  obtain ⟨⟨c0, h1⟩, c1, h2⟩ := h
  exact ⟨⟨c0, h1.kept hg (own_apart h1 ho (by decide))⟩, c1, h2.kept hg (own_apart h2 ho (by decide))⟩
theorem NewV.own2 {w w' : World} {v v' : Vv} (h : NewV w w' v v') : OwnV w.heap.size w' v' := by
  obtain ⟨⟨⟨e1, e2, e3, e4, e5⟩, c0, h1⟩, ⟨f1, f2, f3, f4, f5, f6, f7⟩, c1, h2⟩ := h
  exact ⟨⟨c0, by rw [e4]; exact h1⟩, c1, by rw [f2]; exact h2⟩
theorem NewV.c {w w' : World} {v v' : Vv} (h : NewV w w' v v') : v'.c = v.c := by
  obtain ⟨⟨⟨e1, e2, e3, e4, e5⟩, _⟩, ⟨f1, f2, f3, f4, f5, f6, f7⟩, _⟩ := h
  unfold Vv.c
  rw [e1, e2, e3, e4, f1, f2, f4, f5, f6, f7]
structure MSt (w0 : World) (B0 g : Nat) (p r : Int) (L : List (Option Vv × Option Vv)) (k : Nat) (E : Int) (W : World) : Prop where
  below : Below B0 w0 W
  base : B0 ≤ g
  size : g + 1 < W.heap.size
  c0 : W.cell? ⟨g, 0, none⟩ = some (.int .i64 p)
  c2 : W.cell? ⟨g, 2, none⟩ = some (.int .u64 r)
  fro : W.frozen? ⟨g, 1, none⟩ = false
  wr : W.cell? ⟨g + 1, 0, none⟩ = some (.int .i64 E)
  frow : W.frozen? ⟨g + 1, 0, none⟩ = false
  out : ∃ A c us, W.cell? ⟨g, 1, none⟩ = some (.slice A k c) ∧ W.ownsRow (g + 2) 49 11 (.slice A k c) k (rows us) ∧ us.length = k ∧
    (E = 0 → ∀ i (h : i < us.length), PlainV us[i] ∧ OwnV (g + 2) W us[i] ∧ ∃ q, L[i]? = some q ∧ us[i].c = outP q)
theorem MSt.later {w0 W W' : World} {B0 g : Nat} {p r E : Int} {L : List (Option Vv × Option Vv)} {k : Nat} (h : MSt w0 B0 g p r L k E W) (hb : Below W.heap.size W W') : MSt w0 B0 g p r L k E W' := by
  have hB0 : B0 ≤ W.heap.size := by have := h.base; have := h.size; omega
  have hg : g < W.heap.size := by have := h.size; omega
  refine ⟨h.below.trans (hb.mono hB0), h.base, Nat.lt_of_lt_of_le h.size hb.size, kc hb hg h.c0, kc hb hg h.c2, fz hb hg h.fro, kc hb h.size h.wr, fz hb h.size h.frow, ?_⟩
  obtain ⟨A, c, us, h1, h2, h3, h4⟩ := h.out
  exact ⟨A, c, us, kc hb hg h1, own_later h2 hb, h3, fun e i hi => ⟨(h4 e i hi).1, (h4 e i hi).2.1.later hb, (h4 e i hi).2.2⟩⟩
theorem MSt.wrong {w0 W : World} {B0 g : Nat} {p r : Int} {L : List (Option Vv × Option Vv)} {k : Nat} (h : MSt w0 B0 g p r L k 0 W) (E : Int) : MSt w0 B0 g p r L k E (W.setCell ⟨g + 1, 0, none⟩ (.int .i64 E)) := by
  have hs := h.size
  have hn : ∀ o, (⟨g + 1, 0, none⟩ : Addr) ≠ ⟨g, o, none⟩ := fun o e => by injection e with e; omega
  refine ⟨?_, h.base, by simpa using hs, ?_, ?_, ?_, ?_, ?_, ?_⟩
  · have := h.below; have := h.base; go_grown
  · rw [World.cell?_setCell_other _ _ _ _ (hn _)]; exact h.c0
  · rw [World.cell?_setCell_other _ _ _ _ (hn _)]; exact h.c2
  · simp [h.fro]
  · have := h.wr; go_cell
  · simp [h.frow]
  · obtain ⟨A, c, us, h1, h2, h3, h4⟩ := h.out
    exact ⟨A, c, us, by rw [World.cell?_setCell_other _ _ _ _ (hn _)]; exact h1, own_set h2 (by omega) _, h3, fun e i hi => ⟨(h4 rfl i hi).1, (h4 rfl i hi).2.1.set (by omega) _, (h4 rfl i hi).2.2⟩⟩
theorem MSt.push {w0 W W1 : World} {B0 g : Nat} {p r E : Int} {L : List (Option Vv × Option Vv)} {k : Nat} {A A' : Option Addr} {c c' : Nat} {us : List Vv} (h : MSt w0 B0 g p r L k E W)
    (ho : W.ownsRow (g + 2) 49 11 (.slice A k c) k (rows us)) (hu : us.length = k)
    (hall : E = 0 → ∀ i (h : i < us.length), PlainV us[i] ∧ OwnV (g + 2) W us[i] ∧ ∃ q, L[i]? = some q ∧ us[i].c = outP q)
    {q : Option Vv × Option Vv} (hq : L[k]? = some q) {v : Vv} (hv : E = 0 → PlainV v ∧ OwnV (g + 2) W v ∧ v.c = outP q)
    (hg : W.grownBy W1 (Value.slice A k c).ownBlock) (ho1 : W1.ownsRow (g + 2) 49 11 (.slice A' (k + 1) c') (k + 1) (rows us ++ v.row)) :
    MSt w0 B0 g p r L (k + 1) E (W1.setCell ⟨g, 1, none⟩ (.slice A' (k + 1) c')) := by
  have hs := h.size
  have hB := h.base
  have hob : ∀ b, b < g + 2 → some b ≠ (Value.slice A k c).ownBlock := fun b hb e => by have := (ho.lt b e.symm).1; omega
  have hcell : ∀ {b o : Nat} {x : Value}, b < g + 2 → W.cell? ⟨b, o, none⟩ = some x → W1.cell? ⟨b, o, none⟩ = some x := fun hb hx => hg.cell hx (hob _ hb)
  have hfz : ∀ {b o : Nat}, b < g + 2 → W.frozen? ⟨b, o, none⟩ = false → W1.frozen? ⟨b, o, none⟩ = false := fun {b o} hb hx => by
    rcases Nat.lt_or_ge b W.heap.size with hl | hl
    · unfold World.frozen? at *
      rw [hg.block b hl (hob b hb)]; exact hx
    · omega
  have hn : ∀ o, o ≠ 1 → (⟨g, 1, none⟩ : Addr) ≠ ⟨g, o, none⟩ := fun o ho e => by injection e with _ e; omega
  have hn2 : (⟨g, 1, none⟩ : Addr) ≠ ⟨g + 1, 0, none⟩ := fun e => by injection e with e; omega
  have hsz := hg.size
  refine ⟨?_, hB, by simp; omega, ?_, ?_, ?_, ?_, ?_, ?_⟩
  · have h1 : Below B0 w0 W1 := h.below.grown hg (by omega) (fun j hj => by have := (ho.lt j hj).1; omega)
    go_grown
  · rw [World.cell?_setCell_other _ _ _ _ (hn 0 (by omega))]; exact hcell (by omega) h.c0
  · rw [World.cell?_setCell_other _ _ _ _ (hn 2 (by omega))]; exact hcell (by omega) h.c2
  · simp [hfz (b := g) (o := 1) (by omega) h.fro]
  · rw [World.cell?_setCell_other _ _ _ _ hn2]; exact hcell (by omega) h.wr
  · simp [hfz (b := g + 1) (o := 0) (by omega) h.frow]
  · obtain ⟨A2, c2, us2, h1, _⟩ := h.out
    have hc1 := hcell (b := g) (o := 1) (by omega) h1
    refine ⟨A', c', us ++ [v], by go_cell, own_set (by rw [rows_append]; simpa [rows] using ho1) (by omega) _, by simp [hu], fun e i hi => ?_⟩
    by_cases hik : i < us.length
    · obtain ⟨x1, x2, x3⟩ := hall e i hik
      rw [List.getElem_append_left hik]
      exact ⟨x1, (x2.grown ho hg).set (by omega) _, x3⟩
    · obtain rfl : i = k := by simp at hi; omega
      obtain ⟨x1, x2, x3⟩ := hv e
      have e2 : (us ++ [v])[i] = v := by rw [List.getElem_append_right (by omega)]; simp
      rw [e2]
      exact ⟨x1, (x2.grown ho hg).set (by omega) _, q, hq, x3⟩
end Go.Proofs.YtpiegngjpnpohaaGreat.Sn

namespace Go.Proofs.YtpiegngjpnpohaaGreat.Sn
open Go.RowKit Go.Proofs.YtpiegngjpnpohaaGreat.La Go.Proofs.YtpiegngjpnpohaaGreat.Sl Go.Proofs.YtpiegngjpnpohaaGreat.Ck Go.Proofs.YtpiegngjpnpohaaGreat.Rc Go.Proofs.YtpiegngjpnpohaaGreat.Rk Go.Proofs.YtpiegngjpnpohaaGreat.Wi Go.Proofs.YtpiegngjpnpohaaGreat.Fb Go.Proofs.YtpiegngjpnpohaaGreat.Mg Go.Proofs.YtpiegngjpnpohaaGreat.St
set_option linter.unusedVariables false
theorem row_one (v : Vv) : ∀ u ∈ v.row, u.oneCell' = true := by simp [Vv.row, Value.oneCell']
theorem OwnV.st11 {w : World} {v : Vv} {B b : Nat} (h : OwnV B w v) (hb : b < B) (x0 x1 x2 x3 x4 x5 x6 x7 x8 x9 x10 : Value) : OwnV B (((((((((((w.setCell ⟨b, 0, none⟩ x0).setCell ⟨b, 1, none⟩ x1).setCell ⟨b, 2, none⟩ x2).setCell ⟨b, 3, none⟩ x3).setCell ⟨b, 4, none⟩ x4).setCell ⟨b, 5, none⟩ x5).setCell ⟨b, 6, none⟩ x6).setCell ⟨b, 7, none⟩ x7).setCell ⟨b, 8, none⟩ x8).setCell ⟨b, 9, none⟩ x9).setCell ⟨b, 10, none⟩ x10) v :=
  (((((((((((h.set hb _).set hb _).set hb _).set hb _).set hb _).set hb _).set hb _).set hb _).set hb _).set hb _).set hb _)
theorem below_st11 {w0 w : World} {B b : Nat} (h : Below B w0 w) (hb : B ≤ b) (x0 x1 x2 x3 x4 x5 x6 x7 x8 x9 x10 : Value) : Below B w0 (((((((((((w.setCell ⟨b, 0, none⟩ x0).setCell ⟨b, 1, none⟩ x1).setCell ⟨b, 2, none⟩ x2).setCell ⟨b, 3, none⟩ x3).setCell ⟨b, 4, none⟩ x4).setCell ⟨b, 5, none⟩ x5).setCell ⟨b, 6, none⟩ x6).setCell ⟨b, 7, none⟩ x7).setCell ⟨b, 8, none⟩ x8).setCell ⟨b, 9, none⟩ x9).setCell ⟨b, 10, none⟩ x10) := by
  go_grown
theorem lay_end {w0 W W1 W4 : World} {B0 g : Nat} {p r E : Int} {L : List (Option Vv × Option Vv)} {k : Nat} {A A4 : Option Addr} {c c4 : Nat} {us : List Vv} {ob : Obj} (h : MSt w0 B0 g p r L k E W) (hb : Below W.heap.size W W1)
    (ho : W.ownsRow (g + 2) 49 11 (.slice A k c) k (rows us)) (hu : us.length = k)
    (hall : E = 0 → ∀ i (h : i < us.length), PlainV us[i] ∧ OwnV (g + 2) W us[i] ∧ ∃ q, L[i]? = some q ∧ us[i].c = outP q)
    {q : Option Vv × Option Vv} (hq : L[k]? = some q) {v : Vv} (hv : E = 0 → PlainV v ∧ OwnV (g + 2) W1 v ∧ v.c = outP q)
    (hg : (W1.alloc ob).grownBy W4 (Value.slice A k c).ownBlock) (ho4 : W4.ownsRow (g + 2) 49 11 (.slice A4 (k + 1) c4) (k + 1) (rows us ++ v.row)) :
    MSt w0 B0 g p r L (k + 1) E (W4.setCell ⟨g, 1, none⟩ (.slice A4 (k + 1) c4)) := by
  have h1 : Below W1.heap.size W1 (W1.alloc ob) := (Below.refl _ _).alloc (Nat.le_refl _) _
  have hb2 : Below W.heap.size W (W1.alloc ob) := hb.trans (h1.mono hb.size)
  exact (h.later hb2).push (own_later ho hb2) hu (fun e i hi => ⟨(hall e i hi).1, (hall e i hi).2.1.later hb2, (hall e i hi).2.2⟩) hq (fun e => ⟨(hv e).1, (hv e).2.1.later h1, (hv e).2.2⟩) hg ho4
set_option maxRecDepth 100000 in
set_option maxHeartbeats 2000000 in
theorem lay1_any (w0 : World) (B0 g : Nat) (p r E : Int) (L : List (Option Vv × Option Vv)) (k : Nat) (W : World) (px : Value) (v : Vv) (h : MSt w0 B0 g p r L k E W) (hpx : PAt w0 B0 px (some v)) (hq : L[k]? = some (some v, none)) (hk : k ≤ 1048576)
    (hl : v.d.l.length ≤ 4398046511104) (hlc : v.cs.length ≤ 8796093022208) :
    Calls Tryz.prog 57 #[px, .pointer none, .pointer (some ⟨g, 0, none⟩), .pointer (some ⟨g + 1, 0, none⟩)] W fun e w' => e = .returned (.tuple #[]) ∧ MSt w0 B0 g p r L (k + 1) E w' := by
  obtain ⟨hv, b, o, rfl, hbB, hcc⟩ := hpx
  obtain ⟨i0, hi, hz0, hz1, hz2⟩ := info_parts infoVal
  have hgW : g < W.heap.size := by have := h.size; omega
  have hB0 : B0 ≤ W.heap.size := by have := h.base; omega
  have hbW : b < W.heap.size := by omega
  have x0 := kc h.below hbB (hcc 0 _ rfl)
  have x1 := kc h.below hbB (hcc 1 _ rfl)
  have x2 := kc h.below hbB (hcc 2 _ rfl)
  have x3 := kc h.below hbB (hcc 3 _ rfl)
  have x4 := kc h.below hbB (hcc 4 _ rfl)
  have x5 := kc h.below hbB (hcc 5 _ rfl)
  have x6 := kc h.below hbB (hcc 6 _ rfl)
  have x7 := kc h.below hbB (hcc 7 _ rfl)
  have x8 := kc h.below hbB (hcc 8 _ rfl)
  have x9 := kc h.below hbB (hcc 9 _ rfl)
  have x10 := kc h.below hbB (hcc 10 _ rfl)
  rw [Nat.add_zero] at x0
  have vW : VAt v W W.heap.size := (hv.below h.below).mono hB0
  have ccv := fun W2 (kk : Below W.heap.size W W2) => copyV_any v W2 ((vW.below kk).mono kk.size) hl hlc
  unfold Vv.v at ccv
  obtain ⟨A, c, us, o1, o2, o3, o4⟩ := h.out
  obtain ⟨ln, hln⟩ : ∃ ln, ln = v.d.l.length := ⟨_, rfl⟩
  obtain ⟨cn, hcn⟩ : ∃ cn, cn = v.cs.length := ⟨_, rfl⟩
  rw [← hln] at x3 ccv
  rw [← hcn] at x6 ccv
  have hgb := h.base
  have hgs := h.size
  have hfz := h.fro
  replace h := Lib.hid h
  replace hv := Lib.hid hv
  replace vW := Lib.hid vW
  replace ccv := Lib.hid ccv
  replace hcc := Lib.hid hcc
  replace o4 := Lib.hid o4
  replace o3 := Lib.hid o3
  replace hq := Lib.hid hq
  replace hln := Lib.hid hln
  replace hcn := Lib.hid hcn
  go_enter Tryz.func57, Tryz.ntmps57
  go_upto_region 5 with fail
  have hr0 : Below W.heap.size W W.drew := below_drewN (Below.refl _ W) 1
  have happ : ∀ (W2 : World) (A4 : Option Addr) (c4 : Nat) (W4 : World), Below W.heap.size W W2 → W2.grownBy W4 (Value.slice A k c).ownBlock → W4.cell? ⟨g, 1, none⟩ = some (.slice A k c) ∧ W4.frozen? ⟨g, 1, none⟩ = false ∧ Below B0 W2 W4 := fun W2 A4 c4 W4 hb2 hg4 => by
    have hne : some g ≠ (Value.slice A k c).ownBlock := fun e => by have := (o2.lt g e.symm).1; omega
    have hs2 := hb2.size
    refine ⟨hg4.cell (a := ⟨g, 1, none⟩) (kc hb2 hgW o1) hne, ?_, (Below.refl _ _).grown hg4 (by omega) (fun j hj => by have := (o2.lt j hj).1; omega)⟩
    have hf2 := fz hb2 hgW hfz
    unfold World.frozen? at *
    rw [hg4.block g (by omega) hne]; exact hf2
  replace happ := Lib.hid happ
  go_region_law (first
    | (go_simp; go_at_call 58; refine (ccv.out _ hr0).mono ?_; rintro e W1 ⟨v', rfl, hnv, hb1⟩; have hbw1 := hr0.trans (hb1.mono (Nat.le_refl _)); have q1 := kc hbw1 hgW o1; have q1b := fun ob => (World.cell?_alloc_some W1 ⟨g, 1, none⟩ ob (by rw [q1]; rfl)).trans q1; have q2 := own_later o2 hbw1; have hs1 := hbw1.size; replace hnv := Lib.hid hnv)
    | (refine step_append_rd rfl (.tmp 31) (.tmp 36) _ rfl (g + 2) 49 Tryz.underlying22 hi hz0 hz1 hz2 rfl (by decide) rfl (q2.alloc _) rfl (ys := v'.row) ⟨_, Rd.new W1 v'.row 49 11 1 rfl⟩ (row_one v') (by unfold maxLen; omega) (by omega) (by simp; omega) ?_; intro A4 c4 W4 ho4 hg4 hs4; obtain ⟨q4, f4, hb4⟩ := happ.out _ A4 c4 W4 (hbw1.alloc (by omega) _) hg4))
  all_goals
    have hg5 : (W1.alloc _).grownBy W4 (Value.slice A k c).ownBlock := hg4
    have hfin := lay_end (E := E) h.out hbw1 o2 o3.out o4.out hq.out (v := v') (fun _ => ⟨(hnv.out.at vW.out).plain, hnv.out.own2.base (by simp; omega), hnv.out.c⟩) hg5 ho4
    clear hg4 hg5 hb4
    replace hfin := Lib.hid hfin
    go_wp2
    go_end0
    exact ⟨rfl, hfin.out⟩
set_option maxRecDepth 100000 in
set_option maxHeartbeats 2000000 in
theorem lay2_any (w0 : World) (B0 g : Nat) (p r E : Int) (L : List (Option Vv × Option Vv)) (k : Nat) (W : World) (px : Value) (v : Vv) (h : MSt w0 B0 g p r L k E W) (hpx : PAt w0 B0 px (some v)) (hq : L[k]? = some (none, some v)) (hk : k ≤ 1048576)
    (hl : v.d.l.length ≤ 4398046511104) (hlc : v.cs.length ≤ 8796093022208) :
    Calls Tryz.prog 57 #[.pointer none, px, .pointer (some ⟨g, 0, none⟩), .pointer (some ⟨g + 1, 0, none⟩)] W fun e w' => e = .returned (.tuple #[]) ∧ MSt w0 B0 g p r L (k + 1) E w' := by
  obtain ⟨hv, b, o, rfl, hbB, hcc⟩ := hpx
  obtain ⟨i0, hi, hz0, hz1, hz2⟩ := info_parts infoVal
  have hgW : g < W.heap.size := by have := h.size; omega
  have hB0 : B0 ≤ W.heap.size := by have := h.base; omega
  have hbW : b < W.heap.size := by omega
  have x0 := kc h.below hbB (hcc 0 _ rfl)
  have x1 := kc h.below hbB (hcc 1 _ rfl)
  have x2 := kc h.below hbB (hcc 2 _ rfl)
  have x3 := kc h.below hbB (hcc 3 _ rfl)
  have x4 := kc h.below hbB (hcc 4 _ rfl)
  have x5 := kc h.below hbB (hcc 5 _ rfl)
  have x6 := kc h.below hbB (hcc 6 _ rfl)
  have x7 := kc h.below hbB (hcc 7 _ rfl)
  have x8 := kc h.below hbB (hcc 8 _ rfl)
  have x9 := kc h.below hbB (hcc 9 _ rfl)
  have x10 := kc h.below hbB (hcc 10 _ rfl)
  rw [Nat.add_zero] at x0
  have vW : VAt v W W.heap.size := (hv.below h.below).mono hB0
  have ccv := fun W2 (kk : Below W.heap.size W W2) => copyV_any v W2 ((vW.below kk).mono kk.size) hl hlc
  unfold Vv.v at ccv
  obtain ⟨A, c, us, o1, o2, o3, o4⟩ := h.out
  obtain ⟨ln, hln⟩ : ∃ ln, ln = v.d.l.length := ⟨_, rfl⟩
  obtain ⟨cn, hcn⟩ : ∃ cn, cn = v.cs.length := ⟨_, rfl⟩
  rw [← hln] at x3 ccv
  rw [← hcn] at x6 ccv
  have hgb := h.base
  have hgs := h.size
  have hfz := h.fro
  replace h := Lib.hid h
  replace hv := Lib.hid hv
  replace vW := Lib.hid vW
  replace ccv := Lib.hid ccv
  replace hcc := Lib.hid hcc
  replace o4 := Lib.hid o4
  replace o3 := Lib.hid o3
  replace hq := Lib.hid hq
  replace hln := Lib.hid hln
  replace hcn := Lib.hid hcn
  go_enter Tryz.func57, Tryz.ntmps57
  go_upto_region 7 with fail
  have hr0 : Below W.heap.size W W.drew := below_drewN (Below.refl _ W) 1
  have happ : ∀ (W2 : World) (A4 : Option Addr) (c4 : Nat) (W4 : World), Below W.heap.size W W2 → W2.grownBy W4 (Value.slice A k c).ownBlock → W4.cell? ⟨g, 1, none⟩ = some (.slice A k c) ∧ W4.frozen? ⟨g, 1, none⟩ = false ∧ Below B0 W2 W4 := fun W2 A4 c4 W4 hb2 hg4 => by
    have hne : some g ≠ (Value.slice A k c).ownBlock := fun e => by have := (o2.lt g e.symm).1; omega
    have hs2 := hb2.size
    refine ⟨hg4.cell (a := ⟨g, 1, none⟩) (kc hb2 hgW o1) hne, ?_, (Below.refl _ _).grown hg4 (by omega) (fun j hj => by have := (o2.lt j hj).1; omega)⟩
    have hf2 := fz hb2 hgW hfz
    unfold World.frozen? at *
    rw [hg4.block g (by omega) hne]; exact hf2
  replace happ := Lib.hid happ
  go_region_law (first
    | (go_simp; go_at_call 58; refine (ccv.out _ hr0).mono ?_; rintro e W1 ⟨v', rfl, hnv, hb1⟩; have hbw1 := hr0.trans (hb1.mono (Nat.le_refl _)); have q1 := kc hbw1 hgW o1; have q1b := fun ob => (World.cell?_alloc_some W1 ⟨g, 1, none⟩ ob (by rw [q1]; rfl)).trans q1; have q2 := own_later o2 hbw1; have hs1 := hbw1.size; replace hnv := Lib.hid hnv)
    | (refine step_append_rd rfl (.tmp 43) (.tmp 48) _ rfl (g + 2) 49 Tryz.underlying22 hi hz0 hz1 hz2 rfl (by decide) rfl (q2.alloc _) rfl (ys := v'.row) ⟨_, Rd.new W1 v'.row 49 11 1 rfl⟩ (row_one v') (by unfold maxLen; omega) (by omega) (by simp; omega) ?_; intro A4 c4 W4 ho4 hg4 hs4; obtain ⟨q4, f4, hb4⟩ := happ.out _ A4 c4 W4 (hbw1.alloc (by omega) _) hg4))
  all_goals
    have hg5 : (W1.alloc _).grownBy W4 (Value.slice A k c).ownBlock := hg4
    have hfin := lay_end (E := E) h.out hbw1 o2 o3.out o4.out hq.out (v := v') (fun _ => ⟨(hnv.out.at vW.out).plain, hnv.out.own2.base (by simp; omega), hnv.out.c⟩) hg5 ho4
    clear hg4 hg5 hb4
    replace hfin := Lib.hid hfin
    go_wp2
    go_end0
    exact ⟨rfl, hfin.out⟩
end Go.Proofs.YtpiegngjpnpohaaGreat.Sn

namespace Go.Proofs.YtpiegngjpnpohaaGreat.Sn
open Go.RowKit Go.Proofs.YtpiegngjpnpohaaGreat.La Go.Proofs.YtpiegngjpnpohaaGreat.Sl Go.Proofs.YtpiegngjpnpohaaGreat.Ck Go.Proofs.YtpiegngjpnpohaaGreat.Rc Go.Proofs.YtpiegngjpnpohaaGreat.Rk Go.Proofs.YtpiegngjpnpohaaGreat.Wi Go.Proofs.YtpiegngjpnpohaaGreat.Fb Go.Proofs.YtpiegngjpnpohaaGreat.Mg Go.Proofs.YtpiegngjpnpohaaGreat.St
set_option linter.unusedVariables false
def sameFl (x y : Vv) : Bool := decide (rk x.sm = rk y.sm) && decide (rk x.mn = rk y.mn) && decide (rk x.mx = rk y.mx)
def sameV (x y : Vv) : Bool := sameD x.d y.d && decide (x.cs = y.cs) && sameFl x y && decide (x.t = y.t) && decide (x.n = y.n)
theorem beqI (a b : Int) : (a == b) = decide (a = b) := by
  by_cases h : a = b <;> simp [h]
set_option maxRecDepth 100000 in
set_option maxHeartbeats 2000000 in
theorem rsameV_any (x y : Vv) (w : World) (hx : VAt x w w.heap.size) (hy : VAt y w w.heap.size) :
    Calls Tryz.prog 26 #[x.v, y.v] w fun e w' => e = .returned (.bool (sameV x y)) ∧ Below w.heap.size w w' := by
  have cd := fun (W : World) (k : Below w.heap.size w W) => Rc.rsame_any (w := W) x.d y.d ((hx.d.rd.below k).mono k.size) ((hy.d.rd.below k).mono k.size) hx.d.len2 hy.d.len2
  have cc := fun (W : World) (k : Below w.heap.size w W) => Rk.same_any W w.heap.size x.CA y.CA x.cs y.cs x.cc y.cc (hx.cs.below k) (hy.cs.below k) k.size
  have f1 := Fb.rsame_any x.sm y.sm hx.sm hy.sm
  have f2 := Fb.rsame_any x.mn y.mn hx.mn hy.mn
  have f3 := Fb.rsame_any x.mx y.mx hx.mx hy.mx
  have et := eqI_fact (hiI x.t) (loI x.t) (hiI y.t) (loI y.t)
  rw [I128_inj hx.tot hy.tot] at et
  have en := beqI x.n y.n
  have h2 := fun (w1 : World) (e : w1 = (w.alloc (.cells x.row.toArray 49)).alloc (.cells y.row.toArray 49)) => Blk.pair (w := w) (w1 := w1) e
  have hs : sameV x y = (sameD x.d y.d && decide (x.cs = y.cs) && (decide (rk x.sm = rk y.sm) && decide (rk x.mn = rk y.mn) && decide (rk x.mx = rk y.mx)) && decide (x.t = y.t) && decide (x.n = y.n)) := rfl
  obtain ⟨R, hR⟩ : ∃ R, R = sameV x y := ⟨_, rfl⟩
  rw [← hR] at hs ⊢
  unfold Vv.row at h2
  unfold Vv.v
  unfold DD.v at cd
  clear hx hy hR
  obtain ⟨⟨k0, n0, h0, A0, c0, l0⟩, tt, CA, cq, cs0, n, sm, mn, mx⟩ := x
  obtain ⟨⟨k1, n1, h1, A1, c1, l1⟩, uu, DA, dq, ds0, m, sm', mn', mx'⟩ := y
  dsimp only at *
  obtain ⟨ln, hln⟩ : ∃ ln, ln = l0.length := ⟨_, rfl⟩
  obtain ⟨cn, hcn⟩ : ∃ cn, cn = cs0.length := ⟨_, rfl⟩
  obtain ⟨lm, hlm⟩ : ∃ lm, lm = l1.length := ⟨_, rfl⟩
  obtain ⟨cm, hcm⟩ : ∃ cm, cm = ds0.length := ⟨_, rfl⟩
  rw [← hln, ← hcn, ← hlm, ← hcm] at h2 ⊢
  rw [← hln, ← hlm] at cd
  rw [← hcn, ← hcm] at cc
  clear hln hcn hlm hcm
  generalize sameD _ _ = bd at *
  generalize decide (cs0 = ds0) = bc at *
  generalize decide (rk sm = rk sm') = b1 at *
  generalize decide (rk mn = rk mn') = b2 at *
  generalize decide (rk mx = rk mx') = b3 at *
  generalize decide (tt = uu) = bt at *
  generalize decide (n = m) = bn at *
  replace h2 := Lib.hid h2
  replace cd := Lib.hid cd
  replace cc := Lib.hid cc
  replace hs := Lib.hid hs
  go_enter Tryz.func26, Tryz.ntmps26
  go_upto_region 1 with fail
  obtain ⟨w1, hw1⟩ : ∃ w1, w1 = (w.alloc (.cells #[.int .i64 k0, .string n0, .string h0, .slice A0 ln c0, .int .i64 (hiI tt), .int .u64 (loI tt), .slice CA cn cq, .int .u64 n, .float .f64 sm, .float .f64 mn, .float .f64 mx] 49)).alloc (.cells #[.int .i64 k1, .string n1, .string h1, .slice A1 lm c1, .int .i64 (hiI uu), .int .u64 (loI uu), .slice DA cm dq, .int .u64 m, .float .f64 sm', .float .f64 mn', .float .f64 mx'] 49) := ⟨_, rfl⟩
  rw [← hw1]
  obtain ⟨k1, k2, hb1⟩ := h2.out w1 (by rw [hw1])
  clear hw1 h2
  have x0 := (k1.2 0 _ rfl).1
  have x1 := (k1.2 1 _ rfl).1
  have x2 := (k1.2 2 _ rfl).1
  have x3 := (k1.2 3 _ rfl).1
  have y0 := (k2.2 0 _ rfl).1
  have y1 := (k2.2 1 _ rfl).1
  have y2 := (k2.2 2 _ rfl).1
  have y3 := (k2.2 3 _ rfl).1
  go_upto_region 2 with (go_at_call 68; refine (cd.out _ hb1).mono ?_; rintro e w2 ⟨rfl, hb2⟩)
  clear x0 x1 x2 x3 y0 y1 y2 y3 cd
  replace k1 := k1.later hb2
  replace k2 := k2.later hb2
  have hbw2 := hb1.trans (hb2.mono hb1.size)
  have x6 := (k1.2 6 _ rfl).1
  have y6 := (k2.2 6 _ rfl).1
  go_upto_region 3 with (go_at_call 63; refine (cc.out _ hbw2).mono ?_; rintro e w3 ⟨rfl, hb3⟩)
  clear x6 y6 cc
  replace k1 := k1.later hb3
  replace k2 := k2.later hb3
  have hbw3 := hbw2.trans (hb3.mono hbw2.size)
  have x4 := (k1.2 4 _ rfl).1
  have x5 := (k1.2 5 _ rfl).1
  have x7 := (k1.2 7 _ rfl).1
  have y4 := (k2.2 4 _ rfl).1
  have y5 := (k2.2 5 _ rfl).1
  have y7 := (k2.2 7 _ rfl).1
  have x8 := (k1.2 8 _ rfl).1
  have x9 := (k1.2 9 _ rfl).1
  have x10 := (k1.2 10 _ rfl).1
  have y8 := (k2.2 8 _ rfl).1
  have y9 := (k2.2 9 _ rfl).1
  have y10 := (k2.2 10 _ rfl).1
  go_cut [7] (fun s7 wx => ∃ ff : Bool, s7 = .bool ff ∧ Hid (ff = (b1 && b2 && b3)) ∧ wx = w3)
  case first =>
    cases b1
    · go_wp2_with (go_at_call 69; (first | (with_reducible refine (f1 _).mono ?_) | (with_reducible refine (f2 _).mono ?_) | (with_reducible refine (f3 _).mono ?_)); rintro e w' ⟨rfl, rfl⟩)
      go_meet
      case rel => exact ⟨false, rfl, rfl, rfl⟩
    · cases b2
      · go_wp2_with (go_at_call 69; (first | (with_reducible refine (f1 _).mono ?_) | (with_reducible refine (f2 _).mono ?_) | (with_reducible refine (f3 _).mono ?_)); rintro e w' ⟨rfl, rfl⟩)
        go_meet
        case rel => exact ⟨false, rfl, rfl, rfl⟩
      · go_wp2_with (go_at_call 69; (first | (with_reducible refine (f1 _).mono ?_) | (with_reducible refine (f2 _).mono ?_) | (with_reducible refine (f3 _).mono ?_)); rintro e w' ⟨rfl, rfl⟩)
        go_meet
        case rel => exact ⟨b3, rfl, Lib.hid (by simp), rfl⟩
  case rest =>
    obtain ⟨ff, rfl, hff, hwc⟩ := hcut
    subst hwc
    rw [← hff.out] at hs
    clear f1 f2 f3 x8 x9 x10 y8 y9 y10 hff
    cases bd
    · obtain rfl : R = false := by rw [hs.out]; rfl
      go_wp2
      go_ret
      exact ⟨rfl, hbw3⟩
    · cases bc
      · obtain rfl : R = false := by rw [hs.out]; rfl
        go_wp2
        go_ret
        exact ⟨rfl, hbw3⟩
      · cases ff
        · obtain rfl : R = false := by rw [hs.out]; rfl
          go_wp2
          go_ret
          exact ⟨rfl, hbw3⟩
        · cases bt
          · obtain rfl : R = false := by rw [hs.out]; rfl
            go_wp2
            go_ret
            exact ⟨rfl, hbw3⟩
          · obtain rfl : R = bn := by rw [hs.out]; rfl
            go_wp2
            go_ret
            exact ⟨rfl, hbw3⟩
theorem neC_fact (a b c d : Int) (w : World) : (binOp .neq 54 (.agg #[.int .i64 a, .int .u64 b]) (.agg #[.int .i64 c, .int .u64 d])).run Tryz.prog w = .ok (.bool (!decide ((a, b) = (c, d)))) w := by
  have u3 := Tryz.underlying3
  have u39 := Tryz.underlying23
  have a3 := Tryz.isAgg3
  have a39 := Tryz.isAgg23
  have hS : Tryz.prog.underlying 54 = some (.struct (Tryz.prog.fieldsOf 54)) := by kernel_rfl
  have hp : Tryz.prog.stoodInHeld 54 = false := by kernel_rfl
  rw [run_neq_struct, run_equalIn_agg (d := 9999) (ht := hS) (hp := hp)]
  simp only [Program.fieldsOf, Tryz.underlying54]
  go_simp
  by_cases h1 : a = c <;> by_cases h2 : b = d <;> simp [h1, h2]
set_option maxRecDepth 100000 in
set_option maxHeartbeats 2000000 in
theorem equalC_any (A1 A2 : Option Addr) (c1 c2 : Nat) (l m : List Cnt) (w : World) (h1 : Cs w w.heap.size A1 l) (h2 : Cs w w.heap.size A2 m) :
    Calls Tryz.prog 127 #[.slice A1 l.length c1, .slice A2 m.length c2] w fun e w' => e = .returned (.bool (decide (l = m))) ∧ Below w.heap.size w w' := by
  obtain ⟨n, hn⟩ : ∃ n, n = l.length := ⟨_, rfl⟩
  obtain ⟨k, hk⟩ : ∃ k, k = m.length := ⟨_, rfl⟩
  obtain ⟨res, hres⟩ : ∃ res, res = decide (l = m) := ⟨_, rfl⟩
  have hnM := h1.len
  unfold maxLen at hnM
  have hnI : (n : Int) ≤ 9223372036854775807 := by rw [hn]; exact Int.ofNat_le.2 hnM
  clear hnM
  rw [← hn, ← hk, ← hres]
  replace h1 := Lib.hid h1
  replace h2 := Lib.hid h2
  by_cases hnk : n = k
  · obtain rfl := hnk
    replace hn := Lib.hid hn
    replace hk := Lib.hid hk
    replace hres := Lib.hid hres
    go_enter Tryz.func127, Tryz.ntmps127
    go_wp2
    go_loopw [13] (fun v wr => ∃ i : Nat, v = .int .i64 (i : Int) ∧ i ≤ n ∧ Hid (l.take i = m.take i) ∧ Below w.heap.size w wr) (fun v _ => n + 1 - natOf' v)
    case atStart => exact ⟨0, rfl, Nat.zero_le _, Lib.hid (by simp), Below.refl _ _⟩
    case round =>
      obtain ⟨i, rfl, hi, hpre, hw⟩ := hrel
      by_cases hlt : i < n
      · have hil : i < l.length := by rw [← hn.out]; exact hlt
        have him : i < m.length := by rw [← hk.out]; exact hlt
        obtain ⟨b1, o1, hA1, hb1, q1⟩ := (h1.out.below hw).cells (by omega)
        obtain ⟨b2, o2, hA2, hb2, q2⟩ := (h2.out.below hw).cells (by omega)
        subst hA1; subst hA2
        obtain ⟨x, hx⟩ : ∃ x, x = l[i] := ⟨_, rfl⟩
        obtain ⟨y, hy⟩ : ∃ y, y = m[i] := ⟨_, rfl⟩
        obtain ⟨z0, z1⟩ := q1 i l[i] (List.getElem?_eq_getElem hil)
        obtain ⟨z2, z3⟩ := q2 i m[i] (List.getElem?_eq_getElem him)
        rw [← hx] at z0 z1
        rw [← hy] at z2 z3
        have g0 : (0 : Int) ≤ (i : Int) := by omega
        have g1 : (i : Int) < (n : Int) := by omega
        have g2 : wrap64 (i : Int) = (i : Int) := by unfold wrap64; omega
        clear q1 q2
        obtain ⟨xa, xb⟩ := x
        obtain ⟨ya, yb⟩ := y
        dsimp only at z0 z1 z2 z3
        have hgd : ∀ w x y, (eqGuard .neq 54 x y (.agg #[.int .i64 xa, .int .u64 xb]) (.agg #[.int .i64 ya, .int .u64 yb])).run Tryz.prog w = .ok () w := fun w x y => run_eqGuard_agg (w := w) _ _ x y _ _ (by kernel_rfl)
        have hne := neC_fact xa xb ya yb
        by_cases hxy : (xa, xb) = (ya, yb)
        · have hst : l.take (i + 1) = m.take (i + 1) := by
            rw [List.take_add_one, List.take_add_one, hpre.out, List.getElem?_eq_getElem hil, List.getElem?_eq_getElem him, ← hx, ← hy, hxy]
          rw [decide_eq_true hxy] at hne
          replace hst := Lib.hid hst
          clear hxy hx hy hil him
          go_wp2
          go_quiet (fail)
          go_wp2
          exact ⟨⟨i + 1, by simp, hlt, hst, below_drewN hw _⟩, by simp [natOf']; omega⟩
        · have hr : res = false := by
            rw [hres.out]
            simp
            intro e
            subst e
            exact hxy (hx.trans hy.symm)
          rw [decide_eq_false hxy] at hne
          subst hr
          clear hxy hx hy hil him
          go_wp2
          go_quiet (fail)
          go_wp2
          go_ret
          exact ⟨rfl, below_drewN hw _⟩
      · obtain rfl : i = n := by omega
        have hr : res = true := by
          rw [hres.out]
          have := hpre.out
          rw [List.take_of_length_le (by rw [← hn.out]; exact Nat.le_refl _), List.take_of_length_le (by rw [← hk.out]; exact Nat.le_refl _)] at this
          simpa using this
        subst hr
        go_wp2
        go_ret
        exact ⟨rfl, hw⟩
  · have hr : res = false := by
      rw [hres]
      simp
      intro e
      exact hnk (by rw [hn, hk, e])
    subst hr
    have t1 : ((n : Int) != (k : Int)) = true := by simp; omega
    go_enter Tryz.func127, Tryz.ntmps127
    go_wp2
    go_ret
    exact ⟨rfl, Below.refl _ _⟩
set_option maxRecDepth 100000 in
set_option maxHeartbeats 2000000 in
theorem sameV_any (x y : Vv) (w : World) (hx : VAt x w w.heap.size) (hy : VAt y w w.heap.size) :
    Calls Tryz.prog 73 #[x.v, y.v] w fun e w' => e = .returned (.bool (sameV x y)) ∧ Below w.heap.size w w' := by
  have cd := fun (W : World) (k : Below w.heap.size w W) => Rc.lsame_any (w := W) x.d y.d ((hx.d.rd.below k).mono k.size) ((hy.d.rd.below k).mono k.size) hx.d.len2 hy.d.len2
  have cc := fun (W : World) (k : Below w.heap.size w W) => equalC_any x.CA y.CA x.cc y.cc x.cs y.cs W (cs_mono (hx.cs.below k) k.size) (cs_mono (hy.cs.below k) k.size)
  have f1 := Fb.real_same x.sm y.sm hx.sm hy.sm
  have f2 := Fb.real_same x.mn y.mn hx.mn hy.mn
  have f3 := Fb.real_same x.mx y.mx hx.mx hy.mx
  have et := eqI_fact (hiI x.t) (loI x.t) (hiI y.t) (loI y.t)
  rw [I128_inj hx.tot hy.tot] at et
  have en := beqI x.n y.n
  have h2 := fun (w1 : World) (e : w1 = (w.alloc (.cells x.row.toArray 49)).alloc (.cells y.row.toArray 49)) => Blk.pair (w := w) (w1 := w1) e
  have hs : sameV x y = (sameD x.d y.d && decide (x.cs = y.cs) && (decide (rk x.sm = rk y.sm) && decide (rk x.mn = rk y.mn) && decide (rk x.mx = rk y.mx)) && decide (x.t = y.t) && decide (x.n = y.n)) := rfl
  obtain ⟨R, hR⟩ : ∃ R, R = sameV x y := ⟨_, rfl⟩
  rw [← hR] at hs ⊢
  unfold Vv.row at h2
  unfold Vv.v
  unfold DD.v at cd
  clear hx hy hR
  obtain ⟨⟨k0, n0, h0, A0, c0, l0⟩, tt, CA, cq, cs0, n, sm, mn, mx⟩ := x
  obtain ⟨⟨k1, n1, h1, A1, c1, l1⟩, uu, DA, dq, ds0, m, sm', mn', mx'⟩ := y
  dsimp only at *
  obtain ⟨ln, hln⟩ : ∃ ln, ln = l0.length := ⟨_, rfl⟩
  obtain ⟨cn, hcn⟩ : ∃ cn, cn = cs0.length := ⟨_, rfl⟩
  obtain ⟨lm, hlm⟩ : ∃ lm, lm = l1.length := ⟨_, rfl⟩
  obtain ⟨cm, hcm⟩ : ∃ cm, cm = ds0.length := ⟨_, rfl⟩
  rw [← hln, ← hcn, ← hlm, ← hcm] at h2 ⊢
  rw [← hln, ← hlm] at cd
  rw [← hcn, ← hcm] at cc
  clear hln hcn hlm hcm
  generalize sameD _ _ = bd at *
  generalize decide (cs0 = ds0) = bc at *
  generalize decide (rk sm = rk sm') = b1 at *
  generalize decide (rk mn = rk mn') = b2 at *
  generalize decide (rk mx = rk mx') = b3 at *
  generalize decide (tt = uu) = bt at *
  generalize decide (n = m) = bn at *
  replace h2 := Lib.hid h2
  replace cd := Lib.hid cd
  replace cc := Lib.hid cc
  replace hs := Lib.hid hs
  go_enter Tryz.func73, Tryz.ntmps73
  go_upto_region 1 with fail
  obtain ⟨w1, hw1⟩ : ∃ w1, w1 = (w.alloc (.cells #[.int .i64 k0, .string n0, .string h0, .slice A0 ln c0, .int .i64 (hiI tt), .int .u64 (loI tt), .slice CA cn cq, .int .u64 n, .float .f64 sm, .float .f64 mn, .float .f64 mx] 49)).alloc (.cells #[.int .i64 k1, .string n1, .string h1, .slice A1 lm c1, .int .i64 (hiI uu), .int .u64 (loI uu), .slice DA cm dq, .int .u64 m, .float .f64 sm', .float .f64 mn', .float .f64 mx'] 49) := ⟨_, rfl⟩
  rw [← hw1]
  obtain ⟨k1, k2, hb1⟩ := h2.out w1 (by rw [hw1])
  clear hw1 h2
  have x0 := (k1.2 0 _ rfl).1
  have x1 := (k1.2 1 _ rfl).1
  have x2 := (k1.2 2 _ rfl).1
  have x3 := (k1.2 3 _ rfl).1
  have y0 := (k2.2 0 _ rfl).1
  have y1 := (k2.2 1 _ rfl).1
  have y2 := (k2.2 2 _ rfl).1
  have y3 := (k2.2 3 _ rfl).1
  go_wp2_with fail
  refine (cd.out _ hb1).mono ?_
  rintro e w2 ⟨rfl, hb2⟩
  clear x0 x1 x2 x3 y0 y1 y2 y3 cd
  replace k1 := k1.later hb2
  replace k2 := k2.later hb2
  have hbw2 := hb1.trans (hb2.mono hb1.size)
  cases bd
  · obtain rfl : R = false := by rw [hs.out]; rfl
    go_wp2
    go_ret
    exact ⟨rfl, hbw2⟩
  have x4 := (k1.2 4 _ rfl).1
  have x5 := (k1.2 5 _ rfl).1
  have y4 := (k2.2 4 _ rfl).1
  have y5 := (k2.2 5 _ rfl).1
  cases bt
  · obtain rfl : R = false := by rw [hs.out]; simp
    go_wp2
    go_ret
    exact ⟨rfl, hbw2⟩
  have x6 := (k1.2 6 _ rfl).1
  have y6 := (k2.2 6 _ rfl).1
  go_wp2_with fail
  refine (cc.out _ hbw2).mono ?_
  rintro e w3 ⟨rfl, hb3⟩
  clear x4 x5 y4 y5 x6 y6 cc
  replace k1 := k1.later hb3
  replace k2 := k2.later hb3
  have hbw3 := hbw2.trans (hb3.mono hbw2.size)
  cases bc
  · obtain rfl : R = false := by rw [hs.out]; rfl
    go_wp2
    go_ret
    exact ⟨rfl, hbw3⟩
  have x7 := (k1.2 7 _ rfl).1
  have y7 := (k2.2 7 _ rfl).1
  cases bn
  · obtain rfl : R = false := by rw [hs.out]; simp
    go_wp2
    go_ret
    exact ⟨rfl, hbw3⟩
  have x8 := (k1.2 8 _ rfl).1
  have y8 := (k2.2 8 _ rfl).1
  go_wp2_with fail
  refine (f1 _).mono ?_
  rintro e w4 ⟨rfl, n4, rfl⟩
  cases b1
  · obtain rfl : R = false := by rw [hs.out]; rfl
    go_wp2
    go_ret
    exact ⟨rfl, below_drewN hbw3 _⟩
  have x9 := (k1.2 9 _ rfl).1
  have y9 := (k2.2 9 _ rfl).1
  go_wp2_with fail
  refine (f2 _).mono ?_
  rintro e w5 ⟨rfl, n5, rfl⟩
  cases b2
  · obtain rfl : R = false := by rw [hs.out]; rfl
    go_wp2
    go_ret
    exact ⟨rfl, below_drewN hbw3 _⟩
  have x10 := (k1.2 10 _ rfl).1
  have y10 := (k2.2 10 _ rfl).1
  go_wp2_with fail
  refine (f3 _).mono ?_
  rintro e w6 ⟨rfl, n6, rfl⟩
  obtain rfl : R = b3 := by rw [hs.out]; simp
  go_wp2
  go_ret
  exact ⟨rfl, below_drewN hbw3 _⟩
def sameL : List Vv → List Vv → Bool
  | [], [] => true
  | x :: xs, y :: ys => sameV x y && sameL xs ys
  | _, _ => false
def sameS (a b : Ss) : Bool := decide (a.p = b.p) && decide (a.r = b.r) && sameL a.vs b.vs
theorem sameL_len : ∀ {a b : List Vv}, a.length ≠ b.length → sameL a b = false
  | [], [], h => absurd rfl h
  | [], y :: ys, _ => rfl
  | x :: xs, [], _ => rfl
  | x :: xs, y :: ys, h => by
    unfold sameL
    rw [sameL_len (a := xs) (b := ys) (by simpa using h), Bool.and_false]
theorem sameL_iff : ∀ {a b : List Vv}, a.length = b.length → (sameL a b = true ↔ ∀ (i : Nat) (x y : Vv), a[i]? = some x → b[i]? = some y → sameV x y = true)
  | [], [], _ => by simp [sameL]
  | x :: xs, y :: ys, h => by
    have ih := sameL_iff (a := xs) (b := ys) (by simpa using h)
    unfold sameL
    rw [Bool.and_eq_true, ih]
    constructor
    · rintro ⟨h1, h2⟩ i u v hu hv
      cases i with
      | zero => cases hu; cases hv; exact h1
      | succ i => exact h2 i u v (by simpa using hu) (by simpa using hv)
    · intro h
      exact ⟨h 0 x y rfl rfl, fun i u v hu hv => h (i + 1) u v (by simpa using hu) (by simpa using hv)⟩
theorem enter_sameValue (a : Array Value) (w : World) : (callFunc 73 a).run Tryz.prog w = .ok (.enter 73 a) w :=
  call_enter Tryz.func73 (by kernel_rfl) (by kernel_rfl) a w
end Go.Proofs.YtpiegngjpnpohaaGreat.Sn
