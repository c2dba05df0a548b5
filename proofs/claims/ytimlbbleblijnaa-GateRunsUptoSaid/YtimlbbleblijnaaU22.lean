/- Lemmas for the laws of this seat, laid together of PGef, PGeh, PIh, PIi, PIj, PIl. -/
import Derived.Test.YtimlbbleblijnaaU17
import Derived.Test.YtimlbbleblijnaaU18
import Derived.Test.YtimlbbleblijnaaU20
import Derived.Test.YtimlbbleblijnaaU21
import Derived.Laws.OwnMore
import Derived.ArgAppend
import Derived.Deep.AppendLies
import Derived.Deep.RegionHeld3

set_option linter.unusedVariables false
set_option linter.unusedSimpArgs false
namespace Go.Proofs.Ytimlbbleblijnaa.Co
open Go Go.Conc Go.RowKit
open Go.ConcN (sumTo upd sumTo_upd upd_ne upd_same sumTo_congr le_sumTo)
theorem ownO_op {l : List Op3} {j : Nat} {o : Op3} (h : l[j]? = some o) : (ownO l)[j * 3]? = some (.int .i64 o.1) ∧ (ownO l)[j * 3 + 1]? = some (.int .i64 o.2.1) ∧ (ownO l)[j * 3 + 2]? = some (.int .i64 o.2.2) := by
  have hj := (List.getElem?_eq_some_iff.1 h).1
  have e : ∀ k, k < 3 → (ownO l)[j * 3 + k]? = (opV o)[k]? := fun k hk => by
    unfold ownO
    rw [List.getElem?_append_left (by rw [opsV_len]; omega)]
    exact opsV_get h hk
  exact ⟨e 0 (by decide), e 1 (by decide), e 2 (by decide)⟩
theorem rowO_get {LB : Nat → Nat} {ts : List (List Op3)} {n i : Nat} (hi : i < n) : (rowO LB ts n)[i]? = some (.slice (some ⟨LB i, 0, none⟩) (lenOf ts i) (lenOf ts i + 2)) := by
  unfold rowO
  rw [List.getElem?_map, List.getElem?_range hi]
  rfl
theorem owns_cells {x : World} {B e n : Nat} {v : Value} {xs : List Value} (h : x.ownsRow B e 1 v n xs) : ∃ (A : Option Addr) (g cap : Nat), v = .slice A n cap ∧ (0 < n → A = some ⟨g, 0, none⟩) ∧ (0 < n → v.ownBlock = some g) ∧ ∀ i u, xs[i]? = some u → x.cell? ⟨g, i, none⟩ = some u := by
  obtain ⟨h1, h2⟩ := h
  rcases h2 with ⟨rfl, h0⟩ | ⟨g, cap, cur, rfl, hb, hg, _, _, _, ht⟩
  · have : xs = [] := List.eq_nil_of_length_eq_zero (by rw [h1, h0])
    subst this
    exact ⟨none, 0, 0, by rw [h0], fun h => by omega, fun h => by omega, fun i u hu => by simp at hu⟩
  · refine ⟨_, g, cap, rfl, fun _ => rfl, fun _ => rfl, fun i u hu => ?_⟩
    rw [← ht] at hu
    refine obj_cell hg ?_
    rw [← Array.getElem?_toList]
    rw [List.getElem?_take] at hu
    split at hu
    · exact hu
    · cases hu
structure Grn (x wr : World) (av bv : Value) : Prop where
  size : x.heap.size ≤ wr.heap.size
  old : ∀ b, b < x.heap.size → av.ownBlock ≠ some b → bv.ownBlock ≠ some b → wr.heap[b]? = x.heap[b]?
def IntsM (wr : World) (g n : Nat) (k : Int) : Prop := ∀ j, j < n → wr.cell? ⟨g, j * 4, none⟩ = some (.int .i64 k)
theorem ints_of_owns {w : World} {v : Value} {g n : Nat} {m : Mk} (h : w.ownsRow 0 37 4 v n (mksV (List.replicate n m))) (hg : v.ownBlock = some g) : IntsM w g n m.1 := by
  intro j hj
  have h' : w.ownsRow 0 37 4 v (List.replicate n m).length (mksV (List.replicate n m)) := by rw [List.length_replicate]; exact h
  obtain ⟨A, g', cap, rfl, e1, e2⟩ := MksAt.of_owns h'
  obtain rfl := e1 (by rw [List.length_replicate]; omega)
  cases hg
  exact (MksAt.mark e2 (i := j) (m := m) (by rw [List.getElem?_replicate, if_pos hj])).1
theorem IntsM.same {w w' : World} {g n : Nat} {k : Int} (h : IntsM w g n k) (e : w'.heap[g]? = w.heap[g]?) : IntsM w' g n k := fun j hj => (World.cell?_of_block (a := ⟨g, j * 4, none⟩) e).trans (h j hj)
structure Gr3 (x : World) (av bv : Value) (n n' : Nat) (p q : Mk) (wr : World) (xv yv : Value) (i j : Nat) : Prop where
  rx : wr.ownsRow 0 37 4 xv (n + i) (mksV (List.replicate (n + i) p))
  ry : wr.ownsRow 0 37 4 yv (n' + j) (mksV (List.replicate (n' + j) q))
  ca : ∀ g, av.ownBlock = some g → g < wr.heap.size ∧ IntsM wr g n p.1
  cb : ∀ g, bv.ownBlock = some g → g < wr.heap.size ∧ IntsM wr g n' q.1
  xy : ∀ g, xv.ownBlock = some g → yv.ownBlock ≠ some g
  xb : ∀ g, xv.ownBlock = some g → bv.ownBlock ≠ some g
  ya : ∀ g, yv.ownBlock = some g → av.ownBlock ≠ some g
  fx : ∀ g, xv.ownBlock = some g → av.ownBlock = some g ∨ x.heap.size ≤ g
  fy : ∀ g, yv.ownBlock = some g → bv.ownBlock = some g ∨ x.heap.size ≤ g
  G : Grn x wr av bv
theorem Gr3.alloc {x : World} {av bv : Value} {n n' : Nat} {p q : Mk} {wr : World} {xv yv : Value} {i j : Nat} (h : Gr3 x av bv n n' p q wr xv yv i j) (o : Obj) : Gr3 x av bv n n' p q (wr.alloc o) xv yv i j :=
  ⟨h.rx.alloc _, h.ry.alloc _, fun g hg => ⟨by rw [alloc_size]; have := (h.ca g hg).1; omega, (h.ca g hg).2.same (alloc_old (h.ca g hg).1)⟩, fun g hg => ⟨by rw [alloc_size]; have := (h.cb g hg).1; omega, (h.cb g hg).2.same (alloc_old (h.cb g hg).1)⟩, h.xy, h.xb, h.ya, h.fx, h.fy,
    ⟨by rw [alloc_size]; have := h.G.size; omega, fun b h1 h2 h3 => (alloc_old (by have := h.G.size; omega)).trans (h.G.old b h1 h2 h3)⟩⟩
theorem Gr3.app {x : World} {av bv : Value} {n n' : Nat} {p q : Mk} {w w' : World} {xv yv v' : Value} {i j : Nat} (h : Gr3 x av bv n n' p q w xv yv i j) (hr : w'.ownsRow 0 37 4 v' (n + i + 1) (mksV (List.replicate (n + i) p ++ [p])))
    (hc : (v'.ownBlock = xv.ownBlock ∧ w.grownBy w' xv.ownBlock) ∨ ((∀ g, v'.ownBlock = some g → w.heap.size ≤ g) ∧ w.grownBy w' none)) : Gr3 x av bv n n' p q w' v' yv (i + 1) j := by
  rw [← List.replicate_succ'] at hr
  have hr' : w'.ownsRow 0 37 4 v' (n + (i + 1)) (mksV (List.replicate (n + (i + 1)) p)) := hr
  have hsz : w.heap.size ≤ w'.heap.size := by rcases hc with ⟨_, g⟩ | ⟨_, g⟩ <;> exact g.size
  have hold : ∀ b, b < w.heap.size → xv.ownBlock ≠ some b → w'.heap[b]? = w.heap[b]? := fun b h1 h2 => by
    rcases hc with ⟨_, g⟩ | ⟨_, g⟩
    · exact g.block b h1 (Ne.symm h2)
    · exact g.block b h1 (by intro e; cases e)
  have hgs := h.G.size
  refine ⟨hr', ownsRow_same h.ry fun g hg => hold g (h.ry.lt g hg).2 (fun e => h.xy g e hg), fun g hg => ⟨Nat.lt_of_lt_of_le (h.ca g hg).1 hsz, ?_⟩, fun g hg => ⟨Nat.lt_of_lt_of_le (h.cb g hg).1 hsz, (h.cb g hg).2.same (hold g (h.cb g hg).1 (fun e => h.xb g e hg))⟩, fun g hg => ?_, fun g hg => ?_, h.ya, fun g hg => ?_, h.fy, ⟨Nat.le_trans h.G.size hsz, fun b h1 h2 h3 => ?_⟩⟩
  · rcases hc with ⟨e, gr⟩ | ⟨_, gr⟩
    · by_cases hx : xv.ownBlock = some g
      · have := ints_of_owns hr' (e.trans hx)
        exact fun k hk => this k (by omega)
      · exact (h.ca g hg).2.same (gr.block g (h.ca g hg).1 (Ne.symm hx))
    · exact (h.ca g hg).2.same (gr.block g (h.ca g hg).1 (by intro e; cases e))
  · rcases hc with ⟨e, gr⟩ | ⟨e, gr⟩
    · exact h.xy g (by rw [← e]; exact hg)
    · intro hy
      have := e g hg
      have := (h.ry.lt g hy).2
      omega
  · rcases hc with ⟨e, gr⟩ | ⟨e, gr⟩
    · exact h.xb g (by rw [← e]; exact hg)
    · intro hy
      have := e g hg
      have := (h.cb g hy).1
      omega
  · rcases hc with ⟨e, gr⟩ | ⟨e, gr⟩
    · exact h.fx g (by rw [← e]; exact hg)
    · have := e g hg
      exact .inr (by omega)
  · rw [hold b (by omega) (fun e => by
      rcases h.fx b e with k | k
      · exact h2 k
      · omega)]
    exact h.G.old b h1 h2 h3
def onF (ops : List Int) (t : Nat) (k : Int) : Nat → Nat → Tl3 → List Tld → Nat × Tl3 × List Tld
  | 0, i, tl, L => (i, tl, L)
  | m + 1, i, tl, L => match ops[i]? with
    | none => (i, tl, L)
    | some c => if c = 1 then (i, tl, L) else onF ops t k m (i + 1) (actT c k tl) (actL c t k tl L)
theorem onF_stop {ops : List Int} {t : Nat} {k : Int} {m i : Nat} {tl : Tl3} {L : List Tld} (h : ops.length ≤ i) : onF ops t k m i tl L = (i, tl, L) := by
  cases m with
  | zero => rfl
  | succ m => rw [onF, List.getElem?_eq_none h]
theorem onF_step {ops : List Int} {t : Nat} {k : Int} {m i : Nat} {tl : Tl3} {L : List Tld} (h : ops[i]? = some 1) : onF ops t k m i tl L = (i, tl, L) := by
  cases m with
  | zero => rfl
  | succ m => rw [onF, h]; simp
theorem onF_act {ops : List Int} {t : Nat} {k : Int} {m i : Nat} {tl : Tl3} {L : List Tld} {c : Int} (h : ops[i]? = some c) (hc : c ≠ 1) : onF ops t k (m + 1) i tl L = onF ops t k m (i + 1) (actT c k tl) (actL c t k tl L) := by
  rw [onF, h]
  simp only [if_neg hc]
theorem onF_le {ops : List Int} {t : Nat} {k : Int} : ∀ (m i : Nat) (tl : Tl3) (L : List Tld), i ≤ ops.length → i ≤ (onF ops t k m i tl L).1 ∧ (onF ops t k m i tl L).1 ≤ ops.length ∧ (onF ops t k m i tl L).2.2.length ≤ L.length + ((onF ops t k m i tl L).1 - i)
  | 0, i, tl, L, h => ⟨Nat.le_refl _, h, by simp [onF]⟩
  | m + 1, i, tl, L, h => by
    by_cases hi : i < ops.length
    · obtain ⟨c, hc⟩ : ∃ c, ops[i]? = some c := ⟨_, List.getElem?_eq_getElem hi⟩
      by_cases h1 : c = 1
      · subst h1
        rw [onF_step hc]
        exact ⟨Nat.le_refl _, h, by simp⟩
      · rw [onF_act hc h1]
        obtain ⟨q1, q2, q3⟩ := onF_le m (i + 1) (actT c k tl) (actL c t k tl L) hi
        have hl : (actL c t k tl L).length ≤ L.length + 1 := by
          unfold actL
          split <;> simp
        exact ⟨by omega, q2, by omega⟩
    · rw [onF_stop (by omega)]
      exact ⟨Nat.le_refl _, h, by simp⟩
structure OnSt (B lb lo : Nat) (x0 : World) (c0 : Array Value) (ov0 : Value) (a s p q : Int) (L : List Tld) (ov : Value) (wr : World) : Prop where
  blk : ∃ c, wr.heap[lb]? = some (.cells c 114) ∧ c.size = c0.size ∧ c[lo]? = some (.int .i64 a) ∧ c[lo + 1]? = some (.int .i64 s) ∧ c[lo + 2]? = some (.int .i64 p) ∧ c[lo + 3]? = some (.int .i64 q) ∧ ∀ j, (j < lo ∨ lo + 4 ≤ j) → c[j]? = c0[j]?
  row : wr.ownsRow B 117 5 ov L.length (tldsV L)
  old : ∀ b, b < x0.heap.size → b ≠ lb → ov0.ownBlock ≠ some b → wr.heap[b]? = x0.heap[b]?
  own : ∀ g, ov.ownBlock = some g → ov0.ownBlock = some g ∨ x0.heap.size ≤ g
  size : x0.heap.size ≤ wr.heap.size
  nlb : ov.ownBlock ≠ some lb
section
variable {B lb lo : Nat} {x0 wr : World} {c0 : Array Value} {ov0 ov : Value} {a s p q : Int} {L : List Tld}
theorem OnSt.cells (h : OnSt B lb lo x0 c0 ov0 a s p q L ov wr) : wr.cell? ⟨lb, lo, none⟩ = some (.int .i64 a) ∧ wr.cell? ⟨lb, lo + 1, none⟩ = some (.int .i64 s) ∧ wr.cell? ⟨lb, lo + 2, none⟩ = some (.int .i64 p) ∧ wr.cell? ⟨lb, lo + 3, none⟩ = some (.int .i64 q) ∧ ∀ o, wr.frozen? ⟨lb, o, none⟩ = false := by
  obtain ⟨c, h1, _, h3, h4, h5, h6, _⟩ := h.blk
  exact ⟨obj_cell h1 h3, obj_cell h1 h4, obj_cell h1 h5, obj_cell h1 h6, fun o => obj_thaw h1 o⟩
theorem OnSt.set (h : OnSt B lb lo x0 c0 ov0 a s p q L ov wr) (o : Nat) (v : Int) (ho : o < 4) : OnSt B lb lo x0 c0 ov0 (if o = 0 then v else a) (if o = 1 then v else s) (if o = 2 then v else p) (if o = 3 then v else q) L ov (wr.setCell ⟨lb, lo + o, none⟩ (.int .i64 v)) := by
  obtain ⟨c, h1, h2, h3, h4, h5, h6, h7⟩ := h.blk
  have l3 : lo + 3 < c.size := (Array.getElem?_eq_some_iff.1 h6).1
  have hg : ∀ j, (c.setIfInBounds (lo + o) (.int .i64 v))[j]? = if lo + o = j then some (.int .i64 v) else c[j]? := fun j => by
    rw [Array.getElem?_setIfInBounds]
    by_cases e : lo + o = j
    · subst e
      rw [if_pos rfl, if_pos rfl, if_pos (by omega)]
    · rw [if_neg e, if_neg e]
  refine ⟨⟨_, heap_set (a := ⟨lb, lo + o, none⟩) (w := wr) rfl h1, by simp [h2], ?_, ?_, ?_, ?_, fun j hj => ?_⟩, ?_, fun b hb h1 h2 => ?_, h.own, ?_, h.nlb⟩
  · rw [hg]; by_cases e : o = 0
    · rw [if_pos (by omega), if_pos e]
    · rw [if_neg (by omega), if_neg e]; exact h3
  · rw [hg]; by_cases e : o = 1
    · rw [if_pos (by omega), if_pos e]
    · rw [if_neg (by omega), if_neg e]; exact h4
  · rw [hg]; by_cases e : o = 2
    · rw [if_pos (by omega), if_pos e]
    · rw [if_neg (by omega), if_neg e]; exact h5
  · rw [hg]; by_cases e : o = 3
    · rw [if_pos (by omega), if_pos e]
    · rw [if_neg (by omega), if_neg e]; exact h6
  · rw [hg, if_neg (by omega)]; exact h7 j hj
  · refine ownsRow_setCell_other h.row (fun e => h.nlb e) _
  · rw [heap_setCell_ne (a := ⟨lb, lo + o, none⟩) (Ne.symm h1)]; exact h.old b hb h1 h2
  · have := h.size
    simp [World.setCell]; omega
theorem OnSt.same {wr' : World} (h : OnSt B lb lo x0 c0 ov0 a s p q L ov wr) (hh : wr'.heap = wr.heap) : OnSt B lb lo x0 c0 ov0 a s p q L ov wr' := by
  obtain ⟨h1, h2, h3, h4, h5, h6⟩ := h
  exact ⟨by rw [hh]; exact h1, ownsRow_same h2 (fun g _ => by rw [hh]), fun b x y z => by rw [hh]; exact h3 b x y z, h4, by rw [hh]; exact h5, h6⟩
end
theorem OnSt.tell {B lb lo : Nat} {x0 wr w1 w4 : World} {c0 : Array Value} {ov0 ov : Value} {a s p q : Int} {L : List Tld} {m : Tld} {gg cp : Nat} {o : Obj} (h : OnSt B lb lo x0 c0 ov0 a s p q L ov wr) (hw1 : w1.heap = (wr.alloc o).heap)
    (ho4 : w4.ownsRow B 117 5 (.slice (some ⟨gg, 0, none⟩) (L.length + 1) cp) (L.length + 1) (tldsV L ++ tldV m)) (hgrow : w1.grownBy w4 ov.ownBlock) (hat : ov.ownBlock = some gg ∨ gg = w1.heap.size) : OnSt B lb lo x0 c0 ov0 a s p q (L ++ [m]) (.slice (some ⟨gg, 0, none⟩) (L.length + 1) cp) w4 := by
  obtain ⟨c, h1, h2⟩ := h.blk
  have hl := (Array.getElem?_eq_some_iff.1 h1).1
  have s1 : w1.heap.size = wr.heap.size + 1 := by rw [hw1, alloc_size]
  have s4 := hgrow.size
  have s0 := h.size
  have e1 : (L ++ [m]).length = L.length + 1 := by simp
  have hk : ∀ b, b < wr.heap.size → ov.ownBlock ≠ some b → w4.heap[b]? = wr.heap[b]? := fun b hb hne => by
    rw [hgrow.block b (by omega) (fun e => hne e.symm), hw1]
    exact alloc_old hb
  refine ⟨⟨c, (hk lb hl h.nlb).trans h1, h2⟩, by rw [e1, tldsV_snoc]; exact ho4, fun b hb hn1 hn2 => ?_, fun g hg => ?_, by omega, fun e => ?_⟩
  · by_cases hbo : ov.ownBlock = some b
    · rcases h.own b hbo with z | z
      · exact absurd z hn2
      · omega
    · rw [hk b (by omega) hbo]; exact h.old b hb hn1 hn2
  · have hg2 : gg = g := by simpa [Value.ownBlock] using hg
    subst hg2
    rcases hat with z | z
    · exact h.own _ z
    · exact .inr (by omega)
  · have hg2 : gg = lb := by simpa [Value.ownBlock] using e
    subst hg2
    rcases hat with z | z
    · exact h.nlb z
    · omega
set_option maxRecDepth 100000 in
set_option maxHeartbeats 4000000 in
theorem on_any {x : World} {B lb lo pb po t cap : Nat} {k : Int} {pa : Option Addr} {ps : List Int} {c0 : Array Value} {ov0 : Value} {a0 : Nat} {tl0 : Tl3} {L0 : List Tld} (h0 : OnSt B lb lo x c0 ov0 (a0 : Int) tl0.1 tl0.2.1 tl0.2.2 L0 ov0 x) (hpa : ps ≠ [] → pa = some ⟨pb, po, none⟩) (hps : ∀ (i : Nat) p, ps[i]? = some p → x.cell? ⟨pb, po + i, none⟩ = some (.int .i64 p)) (hpl : ps.length ≤ 100000000000) (hL : L0.length ≤ 1000000000000 - 100000000000) (ha : a0 ≤ ps.length)
    (hBx : B ≤ x.heap.size) (hpb : ps ≠ [] → pb ≠ lb ∧ ov0.ownBlock ≠ some pb) :
    Calls Try.prog 77 #[.pointer (some ⟨lb, lo, none⟩), .int .i64 (t : Int), .slice pa ps.length cap, .int .i64 k, ov0] x fun e x' => ∃ ov, e = .returned ov ∧ OnSt B lb lo x c0 ov0 ((onF ps t k (ps.length - a0) a0 tl0 L0).1 : Int) (onF ps t k (ps.length - a0) a0 tl0 L0).2.1.1 (onF ps t k (ps.length - a0) a0 tl0 L0).2.1.2.1 (onF ps t k (ps.length - a0) a0 tl0 L0).2.1.2.2 (onF ps t k (ps.length - a0) a0 tl0 L0).2.2 ov x' := by
  obtain ⟨i0, hinf, hz0, hz1, hz2⟩ := info117
  obtain ⟨R, hR⟩ : ∃ R, R = onF ps t k (ps.length - a0) a0 tl0 L0 := ⟨_, rfl⟩
  have hbd := onF_le (t := t) (k := k) (ps.length - a0) a0 tl0 L0 ha
  rw [← hR] at hbd ⊢
  replace h0 := Lib.hid h0
  replace hpa := Lib.hid hpa
  replace hps := Lib.hid hps
  replace hR := Lib.hid hR
  replace hpb := Lib.hid hpb
  replace hbd := Lib.hid hbd
  go_enter Try.func77, Try.ntmps77
  go_wp2_with fail
  go_loopw [4] (fun ov wr => ∃ (i : Nat) (tl : Tl3) (L : List Tld), i ≤ ps.length ∧ L.length ≤ L0.length + (i - a0) ∧ a0 ≤ i ∧ Hid (onF ps t k (ps.length - i) i tl L = R) ∧ Hid (OnSt B lb lo x c0 ov0 (i : Int) tl.1 tl.2.1 tl.2.2 L ov wr)) (fun _ wr => ps.length + 1 - natOfV ((wr.cell? ⟨lb, lo, none⟩).getD undef))
  case atStart => exact ⟨a0, tl0, L0, ha, by omega, Nat.le_refl _, Lib.hid hR.out.symm, h0⟩
  case round =>
    obtain ⟨i, tl, L, hi, hLi, hai, hF, hSt⟩ := hrel
    obtain ⟨ts, tp, tq⟩ := tl
    obtain ⟨c1, c2, c3, c4, hfz⟩ := hSt.out.cells
    dsimp only at c2 c3 c4
    have f0 := hfz lo
    have f1 := hfz (lo + 1)
    have f2 := hfz (lo + 2)
    have f3 := hfz (lo + 3)
    have hm0 : natOfV ((wr.cell? ⟨lb, lo, none⟩).getD undef) = i := by rw [c1]; simp [natOfV]
    have hiw : IntKind.i64.wrap ((i : Int) + 1) = ((i + 1 : Nat) : Int) := by rw [IntKind.wrap_i64]; omega
    have hdone : (i : Nat) = R.1 → (ts, tp, tq) = R.2.1 → L = R.2.2 → OnSt B lb lo x c0 ov0 (R.1 : Int) R.2.1.1 R.2.1.2.1 R.2.1.2.2 R.2.2 u4 wr := fun e1 e2 e3 => by
      have := hSt.out
      rw [← e1, ← e2, ← e3]; exact this
    by_cases hlt : i < ps.length
    · obtain ⟨c, hop⟩ : ∃ c, ps[i]? = some c := ⟨_, List.getElem?_eq_getElem hlt⟩
      have hne : ps ≠ [] := fun e => by rw [e] at hlt; simp at hlt
      have hpa' := hpa.out hne
      subst hpa'
      obtain ⟨hp1, hp2⟩ := hpb.out hne
      have hcell : wr.cell? ⟨pb, po + i, none⟩ = some (.int .i64 c) := by
        have h1 := hps.out i c hop
        have hl := World.block_lt_of_cell? x _ h1
        exact (World.cell?_of_block (hSt.out.old pb hl hp1 hp2)).trans h1
      have g1 : (i : Int) < (ps.length : Int) := by omega
      have g0 : (0 : Int) ≤ (i : Int) := by omega
      by_cases hc1 : c = 1
      · subst hc1
        have e : (i, (ts, tp, tq), L) = R := by rw [← hF.out]; exact (onF_step hop).symm
        have hfin := hdone (by rw [← e]) (by rw [← e]) (by rw [← e])
        replace hfin := Lib.hid hfin
        clear hdone hSt hF hm0
        go_wp2_with fail
        go_ret
        exact ⟨_, rfl, hfin.out⟩
      · have b1 : (c == 1) = false := beq_eq_false_iff_ne.2 hc1
        have b1' : (c != 1) = true := by rw [bne, b1]; rfl
        have hF2 : onF ps t k (ps.length - (i + 1)) (i + 1) (actT c k (ts, tp, tq)) (actL c t k (ts, tp, tq) L) = R := by
          have e : ps.length - i = (ps.length - (i + 1)) + 1 := by omega
          have h1 := hF.out
          rw [e, onF_act hop hc1] at h1
          exact h1
        replace hF2 := Lib.hid hF2
        clear hdone
        by_cases hc2 : c = 2
        · subst hc2
          have S1 := hSt.out.set 1 0 (by decide)
          have S2 := S1.set 2 0 (by decide)
          have S3 := S2.set 3 0 (by decide)
          have S4 := S3.set 0 ((i + 1 : Nat) : Int) (by decide)
          have SF : OnSt B lb lo x c0 ov0 ((i + 1 : Nat) : Int) ((0 : Int), (0 : Int), (0 : Int)).1 ((0 : Int), (0 : Int), (0 : Int)).2.1 ((0 : Int), (0 : Int), (0 : Int)).2.2 (L) u4 (((((((((wr).setCell ⟨lb, lo + 1, none⟩ (.int .i64 0))).setCell ⟨lb, lo + 2, none⟩ (.int .i64 0))).setCell ⟨lb, lo + 3, none⟩ (.int .i64 0))).setCell ⟨lb, lo, none⟩ (.int .i64 ((i + 1 : Nat) : Int)))) := by simpa using S4
          obtain ⟨wF, hwF⟩ : ∃ wF, wF = ((((((((wr).setCell ⟨lb, lo + 1, none⟩ (.int .i64 0))).setCell ⟨lb, lo + 2, none⟩ (.int .i64 0))).setCell ⟨lb, lo + 3, none⟩ (.int .i64 0))).setCell ⟨lb, lo, none⟩ (.int .i64 ((i + 1 : Nat) : Int))) := ⟨_, rfl⟩
          rw [← hwF] at SF
          have hmF : natOfV ((wF.cell? ⟨lb, lo, none⟩).getD undef) = i + 1 := by rw [SF.cells.1]; simp [natOfV]
          have hG : ∃ (i' : Nat) (tl : Tl3) (L' : List Tld), i' ≤ ps.length ∧ L'.length ≤ L0.length + (i' - a0) ∧ a0 ≤ i' ∧ Hid (onF ps t k (ps.length - i') i' tl L' = R) ∧ Hid (OnSt B lb lo x c0 ov0 (i' : Int) tl.1 tl.2.1 tl.2.2 L' u4 wF) := ⟨i + 1, ((0 : Int), (0 : Int), (0 : Int)), L, by omega, by omega, by omega, hF2, Lib.hid SF⟩
          replace hG := Lib.hid hG
          replace hmF := Lib.hid hmF
          replace hwF := Lib.hid hwF
          clear S1 S2 S3
          replace hm0 := Lib.hid hm0
          replace hSt := Lib.hid hSt
          clear SF S4
          go_wp2_with fail
          try simp only [hiw]
          try simp only [← w64]
          try rw [show ((i : Int) + 1) = ((i + 1 : Nat) : Int) from rfl]
          rw [← hwF.out]
          have hM : ps.length + 1 - natOfV ((wF.cell? ⟨lb, lo, none⟩).getD undef) < ps.length + 1 - natOfV ((wr.cell? ⟨lb, lo, none⟩).getD undef) := by rw [hmF.out, hm0.out]; omega
          exact ⟨hG.out, hM⟩
        · have b2 : (c == 2) = false := beq_eq_false_iff_ne.2 hc2
          by_cases hc3 : c = 3
          · subst hc3
            have S1 := hSt.out.set 2 (IntKind.i64.wrap (tp + 1)) (by decide)
            have S4 := S1.set 0 ((i + 1 : Nat) : Int) (by decide)
            have SF : OnSt B lb lo x c0 ov0 ((i + 1 : Nat) : Int) (ts, IntKind.i64.wrap (tp + 1), tq).1 (ts, IntKind.i64.wrap (tp + 1), tq).2.1 (ts, IntKind.i64.wrap (tp + 1), tq).2.2 (L) u4 (((((wr).setCell ⟨lb, lo + 2, none⟩ (.int .i64 (IntKind.i64.wrap (tp + 1))))).setCell ⟨lb, lo, none⟩ (.int .i64 ((i + 1 : Nat) : Int)))) := by simpa using S4
            obtain ⟨wF, hwF⟩ : ∃ wF, wF = ((((wr).setCell ⟨lb, lo + 2, none⟩ (.int .i64 (IntKind.i64.wrap (tp + 1))))).setCell ⟨lb, lo, none⟩ (.int .i64 ((i + 1 : Nat) : Int))) := ⟨_, rfl⟩
            rw [← hwF] at SF
            have hmF : natOfV ((wF.cell? ⟨lb, lo, none⟩).getD undef) = i + 1 := by rw [SF.cells.1]; simp [natOfV]
            have hG : ∃ (i' : Nat) (tl : Tl3) (L' : List Tld), i' ≤ ps.length ∧ L'.length ≤ L0.length + (i' - a0) ∧ a0 ≤ i' ∧ Hid (onF ps t k (ps.length - i') i' tl L' = R) ∧ Hid (OnSt B lb lo x c0 ov0 (i' : Int) tl.1 tl.2.1 tl.2.2 L' u4 wF) := ⟨i + 1, (ts, IntKind.i64.wrap (tp + 1), tq), L, by omega, by omega, by omega, hF2, Lib.hid SF⟩
            replace hG := Lib.hid hG
            replace hmF := Lib.hid hmF
            replace hwF := Lib.hid hwF
            clear S1
            replace hm0 := Lib.hid hm0
            replace hSt := Lib.hid hSt
            clear SF S4
            go_wp2_with fail
            try simp only [hiw]
            try simp only [← w64]
            try rw [show ((i : Int) + 1) = ((i + 1 : Nat) : Int) from rfl]
            rw [← hwF.out]
            have hM : ps.length + 1 - natOfV ((wF.cell? ⟨lb, lo, none⟩).getD undef) < ps.length + 1 - natOfV ((wr.cell? ⟨lb, lo, none⟩).getD undef) := by rw [hmF.out, hm0.out]; omega
            exact ⟨hG.out, hM⟩
          · have b3 : (c == 3) = false := beq_eq_false_iff_ne.2 hc3
            by_cases hc4 : c = 4
            · subst hc4
              have S1 := hSt.out.set 3 k (by decide)
              have S4 := S1.set 0 ((i + 1 : Nat) : Int) (by decide)
              have SF : OnSt B lb lo x c0 ov0 ((i + 1 : Nat) : Int) (ts, tp, k).1 (ts, tp, k).2.1 (ts, tp, k).2.2 (L) u4 (((((wr).setCell ⟨lb, lo + 3, none⟩ (.int .i64 k))).setCell ⟨lb, lo, none⟩ (.int .i64 ((i + 1 : Nat) : Int)))) := by simpa using S4
              obtain ⟨wF, hwF⟩ : ∃ wF, wF = ((((wr).setCell ⟨lb, lo + 3, none⟩ (.int .i64 k))).setCell ⟨lb, lo, none⟩ (.int .i64 ((i + 1 : Nat) : Int))) := ⟨_, rfl⟩
              rw [← hwF] at SF
              have hmF : natOfV ((wF.cell? ⟨lb, lo, none⟩).getD undef) = i + 1 := by rw [SF.cells.1]; simp [natOfV]
              have hG : ∃ (i' : Nat) (tl : Tl3) (L' : List Tld), i' ≤ ps.length ∧ L'.length ≤ L0.length + (i' - a0) ∧ a0 ≤ i' ∧ Hid (onF ps t k (ps.length - i') i' tl L' = R) ∧ Hid (OnSt B lb lo x c0 ov0 (i' : Int) tl.1 tl.2.1 tl.2.2 L' u4 wF) := ⟨i + 1, (ts, tp, k), L, by omega, by omega, by omega, hF2, Lib.hid SF⟩
              replace hG := Lib.hid hG
              replace hmF := Lib.hid hmF
              replace hwF := Lib.hid hwF
              clear S1
              replace hm0 := Lib.hid hm0
              replace hSt := Lib.hid hSt
              clear SF S4
              go_wp2_with fail
              try simp only [hiw]
              try simp only [← w64]
              try rw [show ((i : Int) + 1) = ((i + 1 : Nat) : Int) from rfl]
              rw [← hwF.out]
              have hM : ps.length + 1 - natOfV ((wF.cell? ⟨lb, lo, none⟩).getD undef) < ps.length + 1 - natOfV ((wr.cell? ⟨lb, lo, none⟩).getD undef) := by rw [hmF.out, hm0.out]; omega
              exact ⟨hG.out, hM⟩
            · have b4 : (c == 4) = false := beq_eq_false_iff_ne.2 hc4
              by_cases hc5 : c = 5
              · subst hc5
                have ho := hSt.out.row
                have nlb := hSt.out.nlb
                have hbs : B ≤ wr.heap.size := by have := hSt.out.size; omega
                have hLl : L.length ≤ 1000000000000 := by omega
                have hlbl : lb < wr.heap.size := World.block_lt_of_cell? wr _ c1
                have wn : lb ≠ wr.heap.size := Nat.ne_of_lt (World.block_lt_of_cell? wr _ c1)
                have hF3 : onF ps t k (ps.length - (i + 1)) (i + 1) (ts, tp, tq) (L ++ [((t : Int), k, ts, tp, tq)]) = R := by
                  have h1 := hF2.out
                  have eT : actT 5 k (ts, tp, tq) = (ts, tp, tq) := by unfold actT; rw [if_neg hc2, if_neg hc3, if_neg hc4]
                  rw [eT] at h1
                  exact h1
                replace hF3 := Lib.hid hF3
                replace hm0 := Lib.hid hm0
                replace hfz := Lib.hid hfz
                clear hF2 hF
                go_wp2_with fail
                go_region_held3 (fun w' => w'.cell? ⟨lb, lo + 1, none⟩ = some (.int .i64 ts) ∧ w'.cell? ⟨lb, lo + 2, none⟩ = some (.int .i64 tp) ∧ w'.cell? ⟨lb, lo + 3, none⟩ = some (.int .i64 tq)) (first | go_keep | (go_split_ands; refine ⟨?_, ?_, ?_⟩ <;> first | (rw [hgrow.cell_far _ (by simp; omega) (Ne.symm nlb)]; assumption)))
                  ((refine step_append_lies _ (by rfl) _ _ _ (by rfl) B 117 i0 _ 5 40 Try.underlying58 hinf hz0 hz1 hz2 rfl (by decide) u4 L.length (tldsV L) (by rfl) ((ho.alloc _).drew) ⟨wr.heap.size, 0, none⟩ 1 1 (tldV ((t : Int), k, ts, tp, tq)) (by rfl) (by rfl) (World.news_of_block (cs := #[.int .i64 (t : Int), .int .i64 k, .int .i64 ts, .int .i64 tp, .int .i64 tq]) (t := 117) (fr := (0, 0)) (heap_alloc_new _ _)) (by simp [tldV, Value.oneCell']) (by omega) (by unfold maxLen; omega) (by omega) (by simp; omega) _ rfl ?_; intro gg cp w1 hown1 hgrow hat hlt1))
                rename_i hHeld
                have St := hSt.out.tell (w1 := (wr.alloc (.cells #[.int .i64 (t : Int), .int .i64 k, .int .i64 ts, .int .i64 tp, .int .i64 tq] 117)).drew) rfl hown1 hgrow hat
                obtain ⟨d1, d2, d3, d4, dz⟩ := St.cells
                have y0 := dz lo
                have S4 := St.set 0 ((i + 1 : Nat) : Int) (by decide)
                clear hHeld hgrow hown1 hat hlt1 c2 c3 c4 f0 f1 f2 f3 dz
                replace St := Lib.hid St
                have SF : OnSt B lb lo x c0 ov0 ((i + 1 : Nat) : Int) ts tp tq (L ++ [((t : Int), k, ts, tp, tq)]) (.slice (some ⟨gg, 0, none⟩) (L.length + 1) cp) (w1.setCell ⟨lb, lo, none⟩ (.int .i64 ((i + 1 : Nat) : Int))) := by simpa using S4
                obtain ⟨wF, hwF⟩ : ∃ wF, wF = w1.setCell ⟨lb, lo, none⟩ (.int .i64 ((i + 1 : Nat) : Int)) := ⟨_, rfl⟩
                rw [← hwF] at SF
                have hmF : natOfV ((wF.cell? ⟨lb, lo, none⟩).getD undef) = i + 1 := by rw [SF.cells.1]; simp [natOfV]
                have hG : ∃ (i' : Nat) (tl : Tl3) (L' : List Tld), i' ≤ ps.length ∧ L'.length ≤ L0.length + (i' - a0) ∧ a0 ≤ i' ∧ Hid (onF ps t k (ps.length - i') i' tl L' = R) ∧ Hid (OnSt B lb lo x c0 ov0 (i' : Int) tl.1 tl.2.1 tl.2.2 L' (.slice (some ⟨gg, 0, none⟩) (L.length + 1) cp) wF) := ⟨i + 1, (ts, tp, tq), L ++ [((t : Int), k, ts, tp, tq)], by omega, by simp; omega, by omega, hF3, Lib.hid SF⟩
                replace hG := Lib.hid hG
                replace hmF := Lib.hid hmF
                replace hwF := Lib.hid hwF
                replace hSt := Lib.hid hSt
                clear SF S4
                go_wp2_with fail
                try simp only [hiw]
                try rw [show ((i : Int) + 1) = ((i + 1 : Nat) : Int) from rfl]
                rw [← hwF.out]
                have hM : ps.length + 1 - natOfV ((wF.cell? ⟨lb, lo, none⟩).getD undef) < ps.length + 1 - natOfV ((wr.cell? ⟨lb, lo, none⟩).getD undef) := by rw [hmF.out, hm0.out]; omega
                exact ⟨hG.out, hM⟩
              · have b5 : (c == 5) = false := beq_eq_false_iff_ne.2 hc5
                have eT : actT c k (ts, tp, tq) = (ts, tp, tq) := by unfold actT; rw [if_neg hc2, if_neg hc3, if_neg hc4]
                have eL : actL c t k (ts, tp, tq) L = L := by unfold actL; rw [if_neg hc5]
                have hF2 : onF ps t k (ps.length - (i + 1)) (i + 1) (ts, tp, tq) L = R := by
                  have h1 := hF2.out
                  rw [eT, eL] at h1
                  exact h1
                replace hF2 := Lib.hid hF2
                clear eT eL
                have S4 := hSt.out.set 0 ((i + 1 : Nat) : Int) (by decide)
                have SF : OnSt B lb lo x c0 ov0 ((i + 1 : Nat) : Int) (ts, tp, tq).1 (ts, tp, tq).2.1 (ts, tp, tq).2.2 (L) u4 (((wr).setCell ⟨lb, lo, none⟩ (.int .i64 ((i + 1 : Nat) : Int)))) := by simpa using S4
                obtain ⟨wF, hwF⟩ : ∃ wF, wF = ((wr).setCell ⟨lb, lo, none⟩ (.int .i64 ((i + 1 : Nat) : Int))) := ⟨_, rfl⟩
                rw [← hwF] at SF
                have hmF : natOfV ((wF.cell? ⟨lb, lo, none⟩).getD undef) = i + 1 := by rw [SF.cells.1]; simp [natOfV]
                have hG : ∃ (i' : Nat) (tl : Tl3) (L' : List Tld), i' ≤ ps.length ∧ L'.length ≤ L0.length + (i' - a0) ∧ a0 ≤ i' ∧ Hid (onF ps t k (ps.length - i') i' tl L' = R) ∧ Hid (OnSt B lb lo x c0 ov0 (i' : Int) tl.1 tl.2.1 tl.2.2 L' u4 wF) := ⟨i + 1, (ts, tp, tq), L, by omega, by omega, by omega, hF2, Lib.hid SF⟩
                replace hG := Lib.hid hG
                replace hmF := Lib.hid hmF
                replace hwF := Lib.hid hwF
                replace hm0 := Lib.hid hm0
                replace hSt := Lib.hid hSt
                clear SF S4
                go_wp2_with fail
                try simp only [hiw]
                try simp only [← w64]
                try rw [show ((i : Int) + 1) = ((i + 1 : Nat) : Int) from rfl]
                rw [← hwF.out]
                have hM : ps.length + 1 - natOfV ((wF.cell? ⟨lb, lo, none⟩).getD undef) < ps.length + 1 - natOfV ((wr.cell? ⟨lb, lo, none⟩).getD undef) := by rw [hmF.out, hm0.out]; omega
                exact ⟨hG.out, hM⟩
    · have e : (i, (ts, tp, tq), L) = R := by rw [← hF.out]; exact (onF_stop (by omega)).symm
      have hfin := hdone (by rw [← e]) (by rw [← e]) (by rw [← e])
      have g1 : ¬ (i : Int) < (ps.length : Int) := by omega
      have g2 : decide ((i : Int) < (ps.length : Int)) = false := decide_eq_false g1
      replace hfin := Lib.hid hfin
      clear hdone hSt hF hm0
      go_wp2_with fail
      go_ret
      exact ⟨_, rfl, hfin.out⟩
theorem gpicks_k {A : Type} {G : Game A} : ∀ (l : List Int) (a : A × Int), (G.picks a l).2 = a.2 + l.length
  | [], a => by simp [Game.picks]
  | p :: l, a => by
    have e : G.picks a (p :: l) = G.picks (G.pk a (pickIx p G.n)) l := by
      unfold Game.picks
      rw [List.foldl_cons]
    rw [e, gpicks_k l]
    show a.2 + 1 + _ = _
    rw [List.length_cons]
    push_cast
    omega
theorem gdrn_k {A : Type} {G : Game A} {a z : A × Int} {x : Nat} (h : G.Drn a x z) : a.2 ≤ z.2 := by
  induction h with
  | stop _ => exact Int.le_refl _
  | go _ _ ih => dsimp only at ih; omega
def RFg {A : Type} (G : Game A) (picks : List Int) (drain : Bool) (a : A) (K nxt : Nat) (z : A × Int) : Prop :=
  (0 < G.n ∧ ((K ≤ picks.length ∧ nxt = 0 ∧ (if drain then G.Drn (G.picks (a, (K : Int)) (picks.drop K)) 0 z else z = G.picks (a, (K : Int)) (picks.drop K))) ∨ (picks.length ≤ K ∧ drain = true ∧ nxt < G.n ∧ G.Drn (a, (K : Int)) nxt z))) ∨ (G.n = 0 ∧ z = (a, (K : Int)))
theorem rfg_start {A : Type} {G : Game A} {a0 : A} {picks : List Int} {drain : Bool} {z : A × Int} (h : G.Run picks drain a0 z) : RFg G picks drain a0 0 0 z := by
  unfold Game.Run at h
  by_cases hn : G.n = 0
  · rw [if_pos hn] at h
    exact .inr ⟨hn, h⟩
  · rw [if_neg hn] at h
    exact .inl ⟨Nat.pos_of_ne_zero hn, .inl ⟨Nat.zero_le _, rfl, by simpa using h⟩⟩
theorem rfg_next {A : Type} {G : Game A} {picks : List Int} {drain : Bool} {a : A} {K nxt : Nat} {z : A × Int} (h : RFg G picks drain a K nxt z) {r : Int} {K' nxt' : Nat} (hr : (r, K', nxt') = nextF picks drain G.n (G.alive a) K nxt) :
    (r = -2 ∧ z = (a, (K : Int)) ∧ K' = K) ∨ (r = -1 ∧ K' = K + 1 ∧ K < picks.length ∧ RFg G picks drain a K' nxt' z) ∨ (∃ t : Nat, r = (t : Int) ∧ t < G.n ∧ G.alive a t = true ∧ K' = K + 1 ∧ RFg G picks drain (G.pick a t ((K : Int) + 1)) K' nxt' z) := by
  unfold nextF at hr
  rcases h with ⟨hn, h⟩ | ⟨hn, rfl⟩
  · rw [if_neg (by omega)] at hr
    rcases h with ⟨h1, h2, h3⟩ | ⟨h1, h2, h3, h4⟩
    · subst h2
      cases hp : picks[K]? with
      | some p =>
        rw [hp] at hr
        have hlt := (List.getElem?_eq_some_iff.1 hp).1
        have hdrop : picks.drop K = p :: picks.drop (K + 1) := by
          rw [List.drop_eq_getElem_cons hlt]
          obtain ⟨_, e⟩ := List.getElem?_eq_some_iff.1 hp
          rw [e]
        have hpk : G.picks (a, (K : Int)) (picks.drop K) = G.picks ((if G.alive a (pickIx p G.n) = true then G.pick a (pickIx p G.n) ((K : Int) + 1) else a), ((K + 1 : Nat) : Int)) (picks.drop (K + 1)) := by
          rw [hdrop]
          unfold Game.picks
          rw [List.foldl_cons]
          rfl
        rw [hpk] at h3
        dsimp only at hr
        by_cases ha : G.alive a (pickIx p G.n) = true
        · rw [if_pos ha] at hr h3
          simp only [Prod.mk.injEq] at hr
          obtain ⟨rfl, rfl, rfl⟩ := hr
          exact .inr (.inr ⟨_, rfl, pickIx_lt p hn, ha, rfl, .inl ⟨hn, .inl ⟨by omega, rfl, h3⟩⟩⟩)
        · rw [if_neg ha] at hr h3
          simp only [Prod.mk.injEq] at hr
          obtain ⟨rfl, rfl, rfl⟩ := hr
          exact .inr (.inl ⟨rfl, rfl, hlt, .inl ⟨hn, .inl ⟨by omega, rfl, h3⟩⟩⟩)
      | none =>
        rw [hp] at hr
        have hle := List.getElem?_eq_none_iff.1 hp
        have hdrop : picks.drop K = [] := List.drop_eq_nil_of_le hle
        rw [hdrop] at h3
        have hz : G.picks (a, (K : Int)) [] = (a, (K : Int)) := rfl
        rw [hz] at h3
        dsimp only at hr
        cases drain with
        | false =>
          simp only [Bool.false_eq_true, if_false] at hr h3
          simp only [Prod.mk.injEq] at hr
          obtain ⟨rfl, rfl, rfl⟩ := hr
          exact .inl ⟨rfl, h3, rfl⟩
        | true =>
          simp only [if_true] at hr h3
          cases h3 with
          | stop h =>
            have h' : nx (G.alive a) G.n G.n 0 = none := h
            rw [h'] at hr
            simp only [Prod.mk.injEq] at hr
            obtain ⟨rfl, rfl, rfl⟩ := hr
            exact .inl ⟨rfl, rfl, rfl⟩
          | @go _ _ t _ h d =>
            have h' : nx (G.alive a) G.n G.n 0 = some t := h
            obtain ⟨b1, b2⟩ := nx_some hn h'
            rw [h'] at hr
            simp only [Prod.mk.injEq] at hr
            obtain ⟨rfl, rfl, rfl⟩ := hr
            exact .inr (.inr ⟨t, rfl, b1, b2, rfl, .inl ⟨hn, .inr ⟨by omega, rfl, Nat.mod_lt _ hn, d⟩⟩⟩)
    · subst h2
      rw [List.getElem?_eq_none h1] at hr
      simp only [if_true] at hr
      cases h4 with
      | stop h =>
        have h' : nx (G.alive a) G.n G.n nxt = none := h
        rw [h'] at hr
        simp only [Prod.mk.injEq] at hr
        obtain ⟨rfl, rfl, rfl⟩ := hr
        exact .inl ⟨rfl, rfl, rfl⟩
      | @go _ _ t _ h d =>
        have h' : nx (G.alive a) G.n G.n nxt = some t := h
        obtain ⟨b1, b2⟩ := nx_some h3 h'
        rw [h'] at hr
        simp only [Prod.mk.injEq] at hr
        obtain ⟨rfl, rfl, rfl⟩ := hr
        exact .inr (.inr ⟨t, rfl, b1, b2, rfl, .inl ⟨hn, .inr ⟨by omega, rfl, Nat.mod_lt _ hn, d⟩⟩⟩)
  · rw [if_pos hn] at hr
    simp only [Prod.mk.injEq] at hr
    obtain ⟨rfl, rfl, rfl⟩ := hr
    exact .inl ⟨rfl, rfl, rfl⟩
theorem rfg_nxt {A : Type} {G : Game A} {picks : List Int} {drain : Bool} {a : A} {K nxt : Nat} {z : A × Int} (h : RFg G picks drain a K nxt z) (hn : 0 < G.n) : nxt < G.n := by
  rcases h with ⟨_, ⟨_, rfl, _⟩ | ⟨_, _, h, _⟩⟩ | ⟨h, _⟩
  · exact hn
  · exact h
  · omega
theorem rfg_le {A : Type} {G : Game A} {picks : List Int} {drain : Bool} {a : A} {K nxt : Nat} {z : A × Int} (h : RFg G picks drain a K nxt z) : (K : Int) ≤ z.2 := by
  rcases h with ⟨_, ⟨_, _, h⟩ | ⟨_, _, _, h⟩⟩ | ⟨_, rfl⟩
  · have h1 := gpicks_k (G := G) (picks.drop K) (a, (K : Int))
    dsimp only at h1
    cases drain with
    | true =>
      simp only [if_true] at h
      have := gdrn_k h
      omega
    | false =>
      simp only [Bool.false_eq_true, if_false] at h
      rw [h]
      omega
  · exact gdrn_k h
  · exact Int.le_refl _
def NxtG {A : Type} (G : Game A) (picks : List Int) (drain : Bool) (a : A) (r : Int) (K nxt : Nat) (z : A × Int) : Prop :=
  (r = -2 ∧ z = (a, (K : Int))) ∨ (r = -1 ∧ RFg G picks drain a K nxt z) ∨ ∃ t : Nat, r = (t : Int) ∧ t < G.n ∧ G.alive a t = true ∧ RFg G picks drain (G.pick a t (K : Int)) K nxt z
def opsOf (ts : List (List Int)) (t : Nat) : List Int := (ts[t]?).getD []
structure RA where
  told : List Tld
  at_ : Nat → Nat
  tl : Nat → Tl3
def goesRA (ts : List (List Int)) (a : RA) (t : Nat) (k : Int) (i : Nat) (tl : Tl3) : RA := ⟨(onF (opsOf ts t) t k ((opsOf ts t).length - i) i tl a.told).2.2, upd a.at_ t (onF (opsOf ts t) t k ((opsOf ts t).length - i) i tl a.told).1, upd a.tl t (onF (opsOf ts t) t k ((opsOf ts t).length - i) i tl a.told).2.1⟩
def startRA (ts : List (List Int)) (a : RA) (t : Nat) : RA := goesRA ts a t 0 0 (0, 0, 0)
def pickRA (ts : List (List Int)) (a : RA) (t : Nat) (k : Int) : RA := goesRA ts a t k (a.at_ t + 1) (IntKind.i64.wrap ((a.tl t).1 + 1), (a.tl t).2.1, (a.tl t).2.2)
def ra00 : RA := ⟨[], fun _ => 0, fun _ => (0, 0, 0)⟩
def ra0 (ts : List (List Int)) (n : Nat) : RA := (List.range n).foldl (startRA ts) ra00
theorem ra0_succ (ts : List (List Int)) (n : Nat) : ra0 ts (n + 1) = startRA ts (ra0 ts n) n := by
  unfold ra0
  rw [List.range_succ, List.foldl_append]
  rfl
def runG (ts : List (List Int)) : Game RA where
  n := ts.length
  alive a t := decide (a.at_ t < (opsOf ts t).length)
  pick := pickRA ts
def runW (ts : List (List Int)) (a : RA) : Nat := sumTo ts.length (fun t => (opsOf ts t).length - a.at_ t)
theorem runW_pick {ts : List (List Int)} (a : RA) (t : Nat) (k : Int) (ht : t < (runG ts).n) (ha : (runG ts).alive a t = true) : runW ts ((runG ts).pick a t k) < runW ts a := by
  have ha' : a.at_ t < (opsOf ts t).length := of_decide_eq_true ha
  obtain ⟨q1, q2, _⟩ := onF_le (t := t) (k := k) ((opsOf ts t).length - (a.at_ t + 1)) (a.at_ t + 1) (IntKind.i64.wrap ((a.tl t).1 + 1), (a.tl t).2.1, (a.tl t).2.2) a.told (show a.at_ t + 1 ≤ (opsOf ts t).length from ha')
  obtain ⟨r, hr⟩ : ∃ r, r = (onF (opsOf ts t) t k ((opsOf ts t).length - (a.at_ t + 1)) (a.at_ t + 1) (IntKind.i64.wrap ((a.tl t).1 + 1), (a.tl t).2.1, (a.tl t).2.2) a.told).1 := ⟨_, rfl⟩
  rw [← hr] at q1 q2
  have h1 := sumTo_upd (fun t => (opsOf ts t).length - a.at_ t) ((opsOf ts t).length - r) (fun x => x) (j := ts.length) (i := t) ht
  have e : (fun t' => (opsOf ts t').length - upd a.at_ t r t') = upd (fun t => (opsOf ts t).length - a.at_ t) t ((opsOf ts t).length - r) := by
    funext t'
    by_cases e : t' = t
    · subst e
      rw [upd_same, upd_same]
    · rw [upd_ne _ _ e, upd_ne _ _ e]
  show sumTo ts.length (fun t' => (opsOf ts t').length - upd a.at_ t _ t') < sumTo ts.length (fun t => (opsOf ts t).length - a.at_ t)
  rw [← hr, e]
  have h2 : sumTo ts.length (fun a_1 => upd (fun t => (opsOf ts t).length - a.at_ t) t ((opsOf ts t).length - r) a_1) = sumTo ts.length (upd (fun t => (opsOf ts t).length - a.at_ t) t ((opsOf ts t).length - r)) := rfl
  have h3 : sumTo ts.length (fun a_1 => (fun t => (opsOf ts t).length - a.at_ t) a_1) = sumTo ts.length (fun t => (opsOf ts t).length - a.at_ t) := rfl
  omega
theorem run_ex (ts : List (List Int)) (picks : List Int) (drain : Bool) (a : RA) : ∃ z, (runG ts).Run picks drain a z := Game.Run.ex (runW ts) (fun a t k h1 h2 => runW_pick a t k h1 h2) picks drain a
def BndR (ts : List (List Int)) (a : RA) : Prop := (∀ t, a.at_ t ≤ (opsOf ts t).length) ∧ a.told.length ≤ sumTo ts.length a.at_
theorem bnd_goes {ts : List (List Int)} {a : RA} {t : Nat} {k : Int} {i : Nat} {tl : Tl3} (h : BndR ts a) (ht : t < ts.length) (h1 : a.at_ t ≤ i) (h2 : i ≤ (opsOf ts t).length) : BndR ts (goesRA ts a t k i tl) := by
  obtain ⟨q1, q2, q3⟩ := onF_le (t := t) (k := k) ((opsOf ts t).length - i) i tl a.told h2
  refine ⟨fun t' => ?_, ?_⟩
  · show upd a.at_ t _ t' ≤ _
    by_cases e : t' = t
    · subst e; rw [upd_same]; exact q2
    · rw [upd_ne _ _ e]; exact h.1 t'
  · have e1 := sumTo_upd a.at_ (onF (opsOf ts t) t k ((opsOf ts t).length - i) i tl a.told).1 (fun x => x) (j := ts.length) (i := t) ht
    have e2 : sumTo ts.length (fun b => upd a.at_ t (onF (opsOf ts t) t k ((opsOf ts t).length - i) i tl a.told).1 b) = sumTo ts.length (upd a.at_ t (onF (opsOf ts t) t k ((opsOf ts t).length - i) i tl a.told).1) := rfl
    have e3 : sumTo ts.length (fun b => a.at_ b) = sumTo ts.length a.at_ := rfl
    have := h.2
    show (onF (opsOf ts t) t k ((opsOf ts t).length - i) i tl a.told).2.2.length ≤ sumTo ts.length (upd a.at_ t _)
    omega
theorem bnd_pick {ts : List (List Int)} {a : RA} {t : Nat} {k : Int} (h : BndR ts a) (ht : t < ts.length) (ha : (runG ts).alive a t = true) : BndR ts (pickRA ts a t k) := bnd_goes h ht (by omega) (of_decide_eq_true ha)
theorem bnd_start {ts : List (List Int)} : ∀ n, n ≤ ts.length → BndR ts (ra0 ts n) ∧ ∀ t, n ≤ t → (ra0 ts n).at_ t = 0
  | 0, _ => ⟨⟨fun t => Nat.zero_le _, Nat.zero_le _⟩, fun _ _ => rfl⟩
  | n + 1, h => by
    obtain ⟨h1, h2⟩ := bnd_start (ts := ts) n (by omega)
    rw [ra0_succ]
    refine ⟨bnd_goes h1 (by omega) (by rw [h2 n (Nat.le_refl _)]; exact Nat.zero_le _) (Nat.zero_le _), fun t ht => ?_⟩
    show upd (ra0 ts n).at_ n _ t = 0
    rw [upd_ne _ _ (by omega)]
    exact h2 t (by omega)
structure RB (B : Nat) (pv : Value) (drain : Bool) (n : Nat) (at_ : Nat → Nat) (tl : Nat → Tl3) (told : List Tld) (al : Nat → Bool) (K nxt : Nat) (ov : Value) (x : World) : Prop where
  run : x.heap[B]? = some (runCells pv drain K nxt)
  bod : ∃ c, x.heap[B + 1]? = some (.cells c 114) ∧ c.size = n * 4 ∧ ∀ t, t < n → c[t * 4]? = some (.int .i64 (at_ t : Int)) ∧ c[t * 4 + 1]? = some (.int .i64 (tl t).1) ∧ c[t * 4 + 2]? = some (.int .i64 (tl t).2.1) ∧ c[t * 4 + 3]? = some (.int .i64 (tl t).2.2)
  en : x.heap[B + 2]? = some (.cells ((List.range n).map fun t => .bool (al t)).toArray 4)
  out : x.ownsRow (B + 3) 117 5 ov told.length (tldsV told)
section
variable {B n K nxt : Nat} {pv ov : Value} {drain : Bool} {at_ : Nat → Nat} {tl : Nat → Tl3} {told : List Tld} {al : Nat → Bool} {x x' : World}
theorem RB.nb (h : RB B pv drain n at_ tl told al K nxt ov x) (b : Nat) (hb : b < B + 3) : ov.ownBlock ≠ some b := fun e => by have := (h.out.lt _ e).1; omega
theorem RB.same (h : RB B pv drain n at_ tl told al K nxt ov x) (hh : x'.heap = x.heap) : RB B pv drain n at_ tl told al K nxt ov x' := by
  obtain ⟨h1, h2, h3, h4⟩ := h
  exact ⟨by rw [hh]; exact h1, by rw [hh]; exact h2, by rw [hh]; exact h3, ownsRow_same h4 (fun g _ => by rw [hh])⟩
theorem RB.toOn (h : RB B pv drain n at_ tl told al K nxt ov x) {t : Nat} (ht : t < n) : ∃ c, x.heap[B + 1]? = some (.cells c 114) ∧ c.size = n * 4 ∧ OnSt (B + 3) (B + 1) (t * 4) x c ov (at_ t : Int) (tl t).1 (tl t).2.1 (tl t).2.2 told ov x := by
  obtain ⟨c, h1, h2, h3⟩ := h.bod
  obtain ⟨a1, a2, a3, a4⟩ := h3 t ht
  exact ⟨c, h1, h2, ⟨c, h1, rfl, a1, a2, a3, a4, fun _ _ => rfl⟩, h.out, fun _ _ _ _ => rfl, fun g hg => .inl hg, Nat.le_refl _, h.nb (B + 1) (by omega)⟩
theorem RB.ofOn (h : RB B pv drain n at_ tl told al K nxt ov x) {t : Nat} (ht : t < n) {c : Array Value} {a' : Nat} {s p q : Int} {told' : List Tld} {ov' : Value} (hc : x.heap[B + 1]? = some (.cells c 114)) (o : OnSt (B + 3) (B + 1) (t * 4) x c ov (a' : Int) s p q told' ov' x') :
    RB B pv drain n (upd at_ t a') (upd tl t (s, p, q)) told' al K nxt ov' x' ∧ (∀ b, b < B → x'.heap[b]? = x.heap[b]?) ∧ x.heap.size ≤ x'.heap.size := by
  obtain ⟨c', h1, h2, a1, a2, a3, a4, h7⟩ := o.blk
  obtain ⟨c2, e1, e2, e3⟩ := h.bod
  rw [hc] at e1
  simp only [Option.some.injEq, Obj.cells.injEq] at e1
  obtain ⟨rfl, _, _⟩ := e1
  have hl1 := (Array.getElem?_eq_some_iff.1 h.run).1
  have hl2 := (Array.getElem?_eq_some_iff.1 h.en).1
  refine ⟨⟨(o.old B hl1 (by omega) (h.nb B (by omega))).trans h.run, ⟨c', h1, h2.trans e2, fun t' ht' => ?_⟩, (o.old (B + 2) hl2 (by omega) (h.nb (B + 2) (by omega))).trans h.en, o.row⟩, fun b hb => o.old b (by omega) (by omega) (h.nb b (by omega)), o.size⟩
  by_cases e : t' = t
  · subst e
    rw [upd_same, upd_same]
    exact ⟨a1, a2, a3, a4⟩
  · rw [upd_ne _ _ e, upd_ne _ _ e]
    obtain ⟨b1, b2, b3, b4⟩ := e3 t' ht'
    rw [h7 _ (by omega), h7 _ (by omega), h7 _ (by omega), h7 _ (by omega)]
    exact ⟨b1, b2, b3, b4⟩
theorem RB.ended (h : RB B pv drain n at_ tl told al K nxt ov x) {t : Nat} (ht : t < n) (b : Bool) : RB B pv drain n at_ tl told (upd al t b) K nxt ov (x.setCell ⟨B + 2, t, none⟩ (.bool b)) ∧ ∀ c, c < B → (x.setCell ⟨B + 2, t, none⟩ (.bool b)).heap[c]? = x.heap[c]? := by
  have ho : ∀ c, c ≠ B + 2 → (x.setCell ⟨B + 2, t, none⟩ (.bool b)).heap[c]? = x.heap[c]? := fun c hc => heap_setCell_ne (a := ⟨B + 2, t, none⟩) (fun e => hc e.symm)
  refine ⟨⟨(ho B (by omega)).trans h.run, by rw [ho (B + 1) (by omega)]; exact h.bod, row_set h.en ht (by rw [upd_same]) (fun s hs => by rw [upd_ne _ _ hs]), ownsRow_same h.out (fun g hg => ho g (fun e => h.nb (B + 2) (by omega) (by rw [← e]; exact hg)))⟩, fun c hc => ho c (by omega)⟩
theorem RB.kOf (h : RB B pv drain n at_ tl told al K nxt ov x) : Co.kOf B x = K := by
  unfold Co.kOf
  rw [obj_cell h.run (o := 2) rfl]
  simp [natOfV]
theorem RB.atCell (h : RB B pv drain n at_ tl told al K nxt ov x) {t : Nat} (ht : t < n) : x.cell? ⟨B + 1, t * 4, none⟩ = some (.int .i64 (at_ t : Int)) ∧ x.cell? ⟨B + 1, t * 4 + 1, none⟩ = some (.int .i64 (tl t).1) ∧ ∀ o, x.frozen? ⟨B + 1, o, none⟩ = false := by
  obtain ⟨c, h1, _, h3⟩ := h.bod
  exact ⟨obj_cell h1 (h3 t ht).1, obj_cell h1 (h3 t ht).2.1, fun o => obj_thaw h1 o⟩
theorem RB.next {pcap pb po : Nat} {pa : Option Addr} {A : Type} {G : Game A} {picks : List Int} {a : A} {z : A × Int} (h : RB B (.slice pa picks.length pcap) drain n at_ tl told al K nxt ov x) (hG : G.n = n) (hal : ∀ t, t < n → al t = !G.alive a t) (hf : RFg G picks drain a K nxt z) (hz2 : z.2 ≤ 100000000000000) (hn : n ≤ 8) (hnp : picks.length ≤ 100000000000) (hp64 : ∀ p ∈ picks, -9223372036854775808 ≤ p ∧ p ≤ 9223372036854775807)
    (hpa : picks ≠ [] → pa = some ⟨pb, po, none⟩) (hps : ∀ i p, picks[i]? = some p → x.cell? ⟨pb, po + i, none⟩ = some (.int .i64 p)) :
    Calls Try.prog 66 #[.pointer (some ⟨B, 0, none⟩), .slice (some ⟨B + 2, 0, none⟩) n n] x fun e x' => ∃ r K' nxt', e = .returned (.int .i64 r) ∧ RB B (.slice pa picks.length pcap) drain n at_ tl told al K' nxt' ov x' ∧ NxtG G picks drain a r K' nxt' z ∧ (r ≠ -2 → K' = K + 1) ∧ K ≤ K' ∧ (∀ b, b < B → x'.heap[b]? = x.heap[b]?) ∧ x'.heap.size = x.heap.size := by
  subst hG
  have hle := rfg_le hf
  refine (next_any (alive := G.alive a) hn (by omega) (by omega) hp64 (rfg_nxt hf) h.run hpa hps (fun t ht => by rw [← hal t ht]; exact row_cell h.en ht) (by omega)).mono ?_
  rintro e y' ⟨rfl, hr⟩
  obtain ⟨r, K', nxt', hres⟩ : ∃ r K' nxt', (r, K', nxt') = nextF picks drain G.n (G.alive a) K nxt := ⟨_, _, _, rfl⟩
  rw [← hres] at hr ⊢
  have hs := rfg_next hf hres
  refine ⟨r, K', nxt', rfl, ⟨hr.run, by rw [hr.old (B + 1) (by omega)]; exact h.bod, (hr.old (B + 2) (by omega)).trans h.en, ownsRow_same h.out (fun g hg => hr.old g (fun e => h.nb B (by omega) (by rw [← e]; exact hg)))⟩, ?_, fun hne => ?_, ?_, fun b hb => hr.old b (by omega), hr.size⟩
  · rcases hs with ⟨e1, e2, e3⟩ | ⟨e1, _, _, e2⟩ | ⟨t, e1, e2, e3, e4, e5⟩
    · exact .inl ⟨e1, by rw [e2, e3]⟩
    · exact .inr (.inl ⟨e1, e2⟩)
    · refine .inr (.inr ⟨t, e1, e2, e3, ?_⟩)
      rw [e4] at e5 ⊢
      push_cast
      exact e5
  · rcases hs with ⟨e1, _⟩ | ⟨_, e2, _⟩ | ⟨t, _, _, _, e4, _⟩
    · exact absurd e1 hne
    · exact e2
    · exact e4
  · rcases hs with ⟨_, _, e3⟩ | ⟨_, e2, _⟩ | ⟨t, _, _, _, e4, _⟩ <;> omega
end
end Go.Proofs.Ytimlbbleblijnaa.Co
