/- Lemmas for the laws of this seat, laid together of Sn0, Ao, So, Sn1. -/
import Derived.Test.YtpiegngjpnpohaaGreatL02
import Derived.Test.YtpiegngjpnpohaaGreatL04
import Derived.Test.YtpiegngjpnpohaaGreatL06
import Derived.Test.YtpiegngjpnpohaaGreatL08
import Derived.Test.YtpiegngjpnpohaaGreatL09
import Derived.Test.YtpiegngjpnpohaaGreatL14
import Derived.Deep.RegionHeld3
import Derived.Deep.DeepCutAuto
import Derived.Test.YtpiegngjpnpohaaGreatRows
import Derived.ProofKit
import Derived.SizedLaws
import Derived.ChangeArms
import Derived.ChangeSame
import Derived.Lib.SmallJoins
import Derived.OpenShut

namespace Go.Proofs.YtpiegngjpnpohaaGreat.Sn
open Go.RowKit Go.Proofs.YtpiegngjpnpohaaGreat.La Go.Proofs.YtpiegngjpnpohaaGreat.Sl Go.Proofs.YtpiegngjpnpohaaGreat.Ck Go.Proofs.YtpiegngjpnpohaaGreat.Rc Go.Proofs.YtpiegngjpnpohaaGreat.Rk Go.Proofs.YtpiegngjpnpohaaGreat.Wi Go.Proofs.YtpiegngjpnpohaaGreat.Fb
set_option linter.unusedVariables false
abbrev Cnt := Int × Int
structure Vv where
  d : DD
  t : Int
  CA : Option Addr
  cc : Nat
  cs : List Cnt
  n : Int
  sm : Nat
  mn : Nat
  mx : Nat
def Vv.row (v : Vv) : List Value :=
  [.int .i64 v.d.kind, .string v.d.name, .string v.d.help, .slice v.d.A v.d.l.length v.d.c, .int .i64 (hiI v.t), .int .u64 (loI v.t), .slice v.CA v.cs.length v.cc, .int .u64 v.n, .float .f64 v.sm, .float .f64 v.mn, .float .f64 v.mx]
def Vv.v (v : Vv) : Value :=
  .agg #[.int .i64 v.d.kind, .string v.d.name, .string v.d.help, .slice v.d.A v.d.l.length v.d.c, .int .i64 (hiI v.t), .int .u64 (loI v.t), .slice v.CA v.cs.length v.cc, .int .u64 v.n, .float .f64 v.sm, .float .f64 v.mn, .float .f64 v.mx]
theorem kc {w w' : World} {B g o : Nat} {v : Value} (hb : Below B w w') (hg : g < B) (h : w.cell? ⟨g, o, none⟩ = some v) : w'.cell? ⟨g, o, none⟩ = some v := (hb.cell (p := ⟨g, o, none⟩) hg).trans h
structure DAt (d : DD) (w : World) (B : Nat) : Prop where
  rd : Rd w B 2 d.A (labs d.l) d.l.length
  cap : d.l.length ≤ d.c
  len : d.c ≤ 9223372036854775807
  len2 : d.l.length ≤ 140737488355328
  name : d.name.size ≤ 9223372036854775807
  help : d.help.size ≤ 9223372036854775807
  texts : ∀ x ∈ d.l, x.1.size ≤ 9223372036854775807 ∧ x.2.size ≤ 9223372036854775807
  kind : -9223372036854775808 ≤ d.kind ∧ d.kind ≤ 9223372036854775807
theorem DAt.below {d : DD} {w w' : World} {B : Nat} (h : DAt d w B) (k : Below B w w') : DAt d w' B := ⟨h.rd.below k, h.cap, h.len, h.len2, h.name, h.help, h.texts, h.kind⟩
theorem DAt.mono {d : DD} {w : World} {B B' : Nat} (h : DAt d w B) (k : B ≤ B') : DAt d w B' := ⟨h.rd.mono k, h.cap, h.len, h.len2, h.name, h.help, h.texts, h.kind⟩
theorem cs_mono {w : World} {B B' : Nat} {A : Option Addr} {l : List Cnt} (h : Cs w B A l) (k : B ≤ B') : Cs w B' A l :=
  ⟨h.len, h.ok, fun hl => by obtain ⟨b, off, e, hb, hc⟩ := h.cells hl; exact ⟨b, off, e, by omega, hc⟩⟩
structure VAt (v : Vv) (w : World) (B : Nat) : Prop where
  d : DAt v.d w B
  cs : Cs w B v.CA v.cs
  cap : v.cs.length ≤ v.cc
  clen : v.cc ≤ 9223372036854775807
  tot : In v.t
  n : 0 ≤ v.n ∧ v.n ≤ 18446744073709551615
  sm : okF v.sm
  mn : okF v.mn
  mx : okF v.mx
theorem VAt.below {v : Vv} {w w' : World} {B : Nat} (h : VAt v w B) (k : Below B w w') : VAt v w' B := ⟨h.d.below k, h.cs.below k, h.cap, h.clen, h.tot, h.n, h.sm, h.mn, h.mx⟩
theorem VAt.mono {v : Vv} {w : World} {B B' : Nat} (h : VAt v w B) (k : B ≤ B') : VAt v w B' := ⟨h.d.mono k, cs_mono h.cs k, h.cap, h.clen, h.tot, h.n, h.sm, h.mn, h.mx⟩
def rows (vs : List Vv) : List Value := vs.flatMap Vv.row
theorem rows_len (vs : List Vv) : (rows vs).length = vs.length * 11 := by
  induction vs with
  | nil => rfl
  | cons v vs ih => simp only [rows, List.flatMap_cons, List.length_append, List.length_cons] at ih ⊢; rw [ih]; simp [Vv.row]; omega
theorem rows_get : ∀ (vs : List Vv) (i j : Nat) (h : i < vs.length), j < 11 → (rows vs)[i * 11 + j]? = (Vv.row vs[i])[j]?
  | [], i, j, h, _ => absurd h (by simp)
  | v :: vs, 0, j, h, hj => by
    simp only [rows, List.flatMap_cons, Nat.zero_mul, Nat.zero_add, List.getElem_cons_zero]
    rw [List.getElem?_append_left (by simpa [Vv.row] using hj)]
  | v :: vs, i + 1, j, h, hj => by
    have ih := rows_get vs i j (by simpa using h) hj
    simp only [rows, List.flatMap_cons, List.getElem_cons_succ] at ih ⊢
    rw [List.getElem?_append_right (by simp [Vv.row]; omega), ← ih]
    congr 1
    simp [Vv.row]; omega
theorem rows_append (a b : List Vv) : rows (a ++ b) = rows a ++ rows b := by simp [rows]
structure VsAt (vs : List Vv) (A : Option Addr) (w : World) (B : Nat) : Prop where
  rd : Rd w B 11 A (rows vs) vs.length
  all : ∀ v ∈ vs, VAt v w B
theorem VsAt.below {vs : List Vv} {A : Option Addr} {w w' : World} {B : Nat} (h : VsAt vs A w B) (k : Below B w w') : VsAt vs A w' B := ⟨h.rd.below k, fun v hv => (h.all v hv).below k⟩
theorem VsAt.mono {vs : List Vv} {A : Option Addr} {w : World} {B B' : Nat} (h : VsAt vs A w B) (k : B ≤ B') : VsAt vs A w B' := ⟨h.rd.mono k, fun v hv => (h.all v hv).mono k⟩
theorem VsAt.get {vs : List Vv} {A : Option Addr} {w : World} {B : Nat} (h : VsAt vs A w B) (i : Nat) (hi : i < vs.length) :
    ∃ b off, A = some ⟨b, off, none⟩ ∧ b < B ∧ ∀ j u, (Vv.row vs[i])[j]? = some u → w.cell? ⟨b, off + i * 11 + j, none⟩ = some u := by
  obtain ⟨b, off, e, hb, hc⟩ := h.rd.cells (by omega)
  refine ⟨b, off, e, hb, fun j u hu => ?_⟩
  have hj : j < 11 := by
    rcases Nat.lt_or_ge j 11 with g | g
    · exact g
    · rw [List.getElem?_eq_none (by simpa [Vv.row] using g)] at hu; cases hu
  have := hc (i * 11 + j) u (by rw [rows_get vs i j hi hj]; exact hu)
  rw [← Nat.add_assoc] at this
  exact this
theorem VsAt.cells {vs : List Vv} {A : Option Addr} {w : World} {B : Nat} (h : VsAt vs A w B) (i : Nat) (hi : i < vs.length) :
    ∃ b off, A = some ⟨b, off, none⟩ ∧ b < B ∧ w.cell? ⟨b, off + i * 11, none⟩ = some (.int .i64 vs[i].d.kind) ∧ w.cell? ⟨b, off + i * 11 + 1, none⟩ = some (.string vs[i].d.name) ∧ w.cell? ⟨b, off + i * 11 + 2, none⟩ = some (.string vs[i].d.help) ∧
      w.cell? ⟨b, off + i * 11 + 3, none⟩ = some (.slice vs[i].d.A vs[i].d.l.length vs[i].d.c) ∧ w.cell? ⟨b, off + i * 11 + 4, none⟩ = some (.int .i64 (hiI vs[i].t)) ∧ w.cell? ⟨b, off + i * 11 + 5, none⟩ = some (.int .u64 (loI vs[i].t)) ∧
      w.cell? ⟨b, off + i * 11 + 6, none⟩ = some (.slice vs[i].CA vs[i].cs.length vs[i].cc) ∧ w.cell? ⟨b, off + i * 11 + 7, none⟩ = some (.int .u64 vs[i].n) ∧ w.cell? ⟨b, off + i * 11 + 8, none⟩ = some (.float .f64 vs[i].sm) ∧
      w.cell? ⟨b, off + i * 11 + 9, none⟩ = some (.float .f64 vs[i].mn) ∧ w.cell? ⟨b, off + i * 11 + 10, none⟩ = some (.float .f64 vs[i].mx) := by
  obtain ⟨b, off, e, hb, hc⟩ := h.get i hi
  exact ⟨b, off, e, hb, hc 0 _ rfl, hc 1 _ rfl, hc 2 _ rfl, hc 3 _ rfl, hc 4 _ rfl, hc 5 _ rfl, hc 6 _ rfl, hc 7 _ rfl, hc 8 _ rfl, hc 9 _ rfl, hc 10 _ rfl⟩
structure Ss where
  p : Int
  A : Option Addr
  c : Nat
  vs : List Vv
  r : Int
def Ss.v (s : Ss) : Value := .agg #[.int .i64 s.p, .slice s.A s.vs.length s.c, .int .u64 s.r]
structure SAt (s : Ss) (w : World) (B : Nat) : Prop where
  vs : VsAt s.vs s.A w B
  p : -9223372036854775808 ≤ s.p ∧ s.p ≤ 9223372036854775807
  cap : s.vs.length ≤ s.c
  len : s.c ≤ 9223372036854775807
  len2 : s.vs.length ≤ 140737488355328
  r : 0 ≤ s.r ∧ s.r ≤ 18446744073709551615
theorem SAt.below {s : Ss} {w w' : World} {B : Nat} (h : SAt s w B) (k : Below B w w') : SAt s w' B := ⟨h.vs.below k, h.p, h.cap, h.len, h.len2, h.r⟩
theorem SAt.mono {s : Ss} {w : World} {B B' : Nat} (h : SAt s w B) (k : B ≤ B') : SAt s w B' := ⟨h.vs.mono k, h.p, h.cap, h.len, h.len2, h.r⟩
end Go.Proofs.YtpiegngjpnpohaaGreat.Sn

namespace Go.Proofs.YtpiegngjpnpohaaGreat.Ao
open Go.RowKit Go.ChangeShapes Go.WideShapes Go.Deep Go.Proofs.YtpiegngjpnpohaaGreat.Rk
set_option linter.unusedVariables false
set_option maxRecDepth 100000
section
variable {H : Type} {enc : TypeId × Value → H} {W : World} {base : Nat} {spare : Nat → Bool} {held : Bool}
theorem pick_all {α : Type} {p : Nat → α → Prop} : ∀ n, (∀ i, i < n → ∃ x, p i x) → ∃ l : List α, l.length = n ∧ ∀ i (h : i < l.length), p i l[i]
  | 0, _ => ⟨[], rfl, fun i h => absurd h (by simp)⟩
  | n + 1, hp => by
    obtain ⟨l, hl, h⟩ := pick_all n (fun i hi => hp i (by omega))
    obtain ⟨x, hx⟩ := hp n (by omega)
    refine ⟨l ++ [x], by simp [hl], fun i hi => ?_⟩
    by_cases hi' : i < l.length
    · rw [List.getElem_append_left hi']; exact h i hi'
    · have hi2 : i = l.length := by simp at hi; omega
      subst hi2
      simp [hl, hx]
theorem add_plain (b o k : Nat) : (⟨b, o, none⟩ : Addr).add k = ⟨b, o + k, none⟩ := by
  unfold Addr.add
  by_cases h : k = 0
  · simp [h]
  · simp [h]
def cntD {H : Type} (x : Int × Int) : DataW H := .agg [.lit (.int .i64 x.1), .lit (.int .u64 x.2)]
theorem one_cnt {m : Nat} {cs : List Value} {y : DataW H × List MemPlace} (h : DataW.trod enc Tryz.prog W base spare held m 54 cs = some y) :
    ∃ x : Int × Int, cs = [.int .i64 x.1, .int .u64 x.2] ∧ okC x ∧ y.1 = cntD x := by
  obtain ⟨y0, y1, n, hy, hl, h0, h1⟩ := trod_struct2 Tryz.underlying54 h
  have hl2 : cs.length = 2 := hl.trans (by kernel_rfl)
  match cs, hl2 with
  | [c0, c1], _ =>
    obtain ⟨a, e0, z0, b0⟩ := DataW.trod_int (k := .i64) (by kernel_rfl) (show DataW.trod enc Tryz.prog W base spare held n _ [c0] = some y0 from h0)
    obtain ⟨b, e1, z1, b1⟩ := DataW.trod_int (k := .u64) (by kernel_rfl) (show DataW.trod enc Tryz.prog W base spare held n _ [c1] = some y1 from h1)
    obtain rfl : c0 = .int .i64 a := by simpa using e0
    obtain rfl : c1 = .int .u64 b := by simpa using e1
    have := bounds_i64 b0
    have := bounds_u64 b1
    exact ⟨(a, b), rfl, by unfold okC; simp only; omega, by rw [hy, z0, z1]; rfl⟩
theorem cnts_open {m : Nat} {c : Value} {y : DataW H × List MemPlace} (h : DataW.trod enc Tryz.prog W base spare held m 46 [c] = some y) :
    ∃ (A : Option Addr) (cap : Nat) (l : List (Int × Int)), c = .slice A l.length cap ∧ Cs W W.heap.size A l ∧ l.length ≤ cap ∧ cap ≤ maxLen ∧ ((y.1 = .nil ∧ l = []) ∨ ∃ rest, y.1 = .slice (l.map cntD) rest) := by
  rcases DataW.trod_slice Tryz.underlying46 h with ⟨hc, hy⟩ | ⟨a, len, cap, elems, rest, n, _, hc, hy, hb, hl, hm, hlen, hel, _, _⟩
  · obtain rfl : c = .slice none 0 0 := by simpa using hc
    exact ⟨none, 0, [], rfl, ⟨by decide, fun x hx => by simp at hx, fun h => absurd h (by simp)⟩, Nat.le_refl _, by decide, .inl ⟨by rw [hy], rfl⟩⟩
  · obtain rfl : c = .slice (some a) len cap := by simpa using hc
    have hC : Tryz.prog.cellsOf 54 = 2 := by kernel_rfl
    rw [hC] at hel
    have key : ∀ i, i < len → ∃ x : Int × Int, (W.cell? (a.add (i * 2)) = some (.int .i64 x.1) ∧ W.cell? ((a.add (i * 2)).add 1) = some (.int .u64 x.2)) ∧ okC x ∧ (elems.map (·.1))[i]? = some (cntD x) := by
      intro i hi
      have he := hel i hi
      rw [List.getElem?_eq_getElem (by omega)] at he
      simp only [Option.bind_eq_some_iff] at he
      obtain ⟨cs, hcs, ht⟩ := he
      obtain ⟨x, rfl, z01, hd⟩ := one_cnt ht
      have hcc := (World.cells?_some hcs).2.2
      refine ⟨x, ⟨?_, hcc 1 (by omega)⟩, z01, by rw [List.getElem?_map, List.getElem?_eq_getElem (by omega), Option.map_some, hd]⟩
      have := hcc 0 (by omega)
      simpa [Addr.add] using this
    obtain ⟨l, hll, hp⟩ := pick_all len key
    refine ⟨some a, cap, l, by rw [hll], ⟨by omega, fun x hx => ?_, fun hn => ?_⟩, by omega, hm, .inr ⟨rest.map (·.1), ?_⟩⟩
    · obtain ⟨i, hi, rfl⟩ := List.mem_iff_getElem.1 hx
      exact (hp i hi).2.1
    · have h0 := (hp 0 hn).1.1
      have ha : a.add (0 * 2) = a := by simp [Addr.add]
      rw [ha] at h0
      have hsp := World.cell?_spot h0
      have hlt := World.block_lt_of_cell? W _ h0
      obtain ⟨ab, ao, at0⟩ := a
      simp only at hsp hlt
      subst hsp
      refine ⟨ab, ao, rfl, hlt, fun i x hx => ?_⟩
      obtain ⟨hi, rfl⟩ := List.getElem?_eq_some_iff.1 hx
      obtain ⟨w1, w2⟩ := (hp i hi).1
      rw [add_plain] at w1 w2
      rw [add_plain] at w2
      exact ⟨w1, w2⟩
    · have hE : elems.map (·.1) = l.map cntD := by
        apply List.ext_getElem?
        intro i
        by_cases hi : i < l.length
        · rw [(hp i hi).2.2, List.getElem?_map, List.getElem?_eq_getElem hi]; rfl
        · rw [List.getElem?_eq_none (by simp; omega), List.getElem?_eq_none (by simp; omega)]
      rw [hy]
      show DataW.slice (elems.map (·.1)) _ = _
      rw [hE]
end
end Go.Proofs.YtpiegngjpnpohaaGreat.Ao

namespace Go.Proofs.YtpiegngjpnpohaaGreat.So
open Go.RowKit Go.ChangeShapes Go.WideShapes Go.Deep Go.Proofs.YtpiegngjpnpohaaGreat.La Go.Proofs.YtpiegngjpnpohaaGreat.Sl Go.Proofs.YtpiegngjpnpohaaGreat.Rk Go.Proofs.YtpiegngjpnpohaaGreat.Wi Go.Proofs.YtpiegngjpnpohaaGreat.Fb Go.Proofs.YtpiegngjpnpohaaGreat.Sn
set_option linter.unusedVariables false
set_option maxRecDepth 100000
section
variable {H : Type} {enc : TypeId × Value → H} {W : World} {base : Nat} {spare : Nat → Bool} {held : Bool}
theorem trod_f64 {P : Program} {fuel : Nat} {t : TypeId} {cs : List Value} {x : DataW H × List MemPlace} (ht : P.underlying t = some (.float .f64)) (h : DataW.trod enc P W base spare held fuel t cs = some x) :
    ∃ b, cs = [.float .f64 b] ∧ x = (.lit (.float .f64 b), []) ∧ (Lit.float .f64 b).wf = true := by
  cases fuel with
  | zero => simp [DataW.trod] at h
  | succ n =>
    unfold DataW.trod at h
    rw [ht] at h
    split at h <;> simp_all
theorem okF_wf {b : Nat} (h : (Lit.float .f64 b).wf = true) : okF b := by
  have := of_decide_eq_true (show decide (b < 2 ^ 64) = true from h)
  unfold okF
  omega
theorem all_mem {P : Program} {e : TypeId} : ∀ {l : List (DataW H)} {d : DataW H}, d ∈ l → ∀ n ∈ d.weights P e, n ∈ DataW.weightsAll P e l
  | x :: l, d, hd, n, hn => by
    rw [DataW.weightsAll, List.mem_append]
    rcases List.mem_cons.1 hd with rfl | hd
    · exact .inl hn
    · exact .inr (all_mem hd n hn)
theorem one_i128 {m : Nat} {cs : List Value} {y : DataW H × List MemPlace} (h : DataW.trod enc Tryz.prog W base spare held m 45 cs = some y) :
    ∃ t : Int, cs = [.int .i64 (hiI t), .int .u64 (loI t)] ∧ In t := by
  obtain ⟨y0, y1, n, hy, hl, h0, h1⟩ := trod_struct2 Tryz.underlying45 h
  have hl2 : cs.length = 2 := hl.trans (by kernel_rfl)
  match cs, hl2 with
  | [c0, c1], _ =>
    obtain ⟨a, e0, z0, b0⟩ := DataW.trod_int (k := .i64) (by kernel_rfl) (show DataW.trod enc Tryz.prog W base spare held n _ [c0] = some y0 from h0)
    obtain ⟨b, e1, z1, b1⟩ := DataW.trod_int (k := .u64) (by kernel_rfl) (show DataW.trod enc Tryz.prog W base spare held n _ [c1] = some y1 from h1)
    obtain rfl : c0 = .int .i64 a := by simpa using e0
    obtain rfl : c1 = .int .u64 b := by simpa using e1
    have q0 := bounds_i64 b0
    have q1 := bounds_u64 b1
    have hi : hiI (a * 18446744073709551616 + b) = a := by unfold hiI; omega
    have lo : loI (a * 18446744073709551616 + b) = b := by unfold loI; omega
    exact ⟨a * 18446744073709551616 + b, by rw [hi, lo], by unfold In; omega⟩
structure DSz (d : DD) : Prop where
  name : d.name.size ≤ reachBytes
  help : d.help.size ≤ reachBytes
  l : d.l.length * 32 ≤ reachBytes
  texts : ∀ y ∈ d.l, y.1.size ≤ reachBytes ∧ y.2.size ≤ reachBytes
theorem one_desc {m : Nat} {cs : List Value} {y : DataW H × List MemPlace} (h : DataW.trod enc Tryz.prog W base spare held m 43 cs = some y) (hw : ∀ n ∈ y.1.weights Tryz.prog 43, n ≤ reachBytes) :
    ∃ d : DD, cs = [.int .i64 d.kind, .string d.name, .string d.help, .slice d.A d.l.length d.c] ∧ DAt d W W.heap.size ∧ DSz d := by
  obtain ⟨y0, y1, y2, y3, n, hy, hl, h0, h1, h2, h3⟩ := Joins.trod_struct4 Tryz.underlying43 h
  have hl2 : cs.length = 4 := hl.trans (by kernel_rfl)
  match cs, hl2 with
  | [c0, c1, c2, c3], _ =>
    obtain ⟨k, e0, _, b0⟩ := DataW.trod_int (k := .i64) (by kernel_rfl) (show DataW.trod enc Tryz.prog W base spare held n _ [c0] = some y0 from h0)
    obtain rfl : c0 = .int .i64 k := by simpa using e0
    obtain ⟨s1, rfl, z1, f1⟩ := str_sizes (by kernel_rfl) (show DataW.trod enc Tryz.prog W base spare held n _ [c1] = some y1 from h1)
    obtain ⟨s2, rfl, z2, f2⟩ := str_sizes (by kernel_rfl) (show DataW.trod enc Tryz.prog W base spare held n _ [c2] = some y2 from h2)
    obtain ⟨A, cap, l, rfl, hr, hl, hm, hz, hd3⟩ := labs_open (show DataW.trod enc Tryz.prog W base spare held n _ [c3] = some y3 from h3)
    have hM : maxLen ≤ 9223372036854775807 := by decide
    have hB : reachBytes ≤ 140737488355328 := by decide
    have hu : Tryz.prog.underlying 43 = some (.struct _) := Tryz.underlying43
    rw [hy, DataW.weights, hu] at hw
    simp only [List.map_cons, List.map_nil] at hw
    have w1 := hw s1.data.toList.length (DataW.weights_mem_each (j := 1) (d := y1.1) rfl rfl _ (by rw [f1]; simp [DataW.weights]))
    have w2 := hw s2.data.toList.length (DataW.weights_mem_each (j := 2) (d := y2.1) rfl rfl _ (by rw [f2]; simp [DataW.weights]))
    obtain ⟨q1, q2⟩ := labs_sized hd3 (fun n hn => hw n (DataW.weights_mem_each (j := 3) (d := y3.1) rfl rfl n hn))
    have q0 := bounds_i64 b0
    exact ⟨⟨k, s1, s2, A, cap, l⟩, rfl, ⟨hr, hl, Nat.le_trans hm hM, (by show l.length ≤ _; omega), Nat.le_trans z1 hM, Nat.le_trans z2 hM, fun x hx => ⟨Nat.le_trans (hz x hx).1 hM, Nat.le_trans (hz x hx).2 hM⟩, q0⟩, ⟨by simpa using w1, by simpa using w2, q1, q2⟩⟩
theorem cnts_sized {d : DataW H} {l : List Cnt} (hd : (d = .nil ∧ l = []) ∨ ∃ rest, d = .slice (l.map Ao.cntD) rest) (hw : ∀ n ∈ d.weights Tryz.prog 46, n ≤ reachBytes) : l.length * 16 ≤ reachBytes := by
  rcases hd with ⟨_, rfl⟩ | ⟨rest, rfl⟩
  · simp
  · have hu : Tryz.prog.underlying 46 = some (.slice 54) := Tryz.underlying46
    rw [DataW.weights, hu] at hw
    have hB : Tryz.prog.bytesOf 54 = 16 := by kernel_rfl
    simp only [hB] at hw
    have := hw _ (List.mem_cons_self ..)
    simp only [List.length_map] at this
    have h2 := Nat.mul_le_mul_right 16 (Nat.le_add_right l.length rest.length)
    omega
structure VSz (v : Vv) : Prop where
  d : DSz v.d
  cs : v.cs.length * 16 ≤ reachBytes
theorem one_val {m : Nat} {cs : List Value} {y : DataW H × List MemPlace} (h : DataW.trod enc Tryz.prog W base spare held m 49 cs = some y) (hw : ∀ n ∈ y.1.weights Tryz.prog 49, n ≤ reachBytes) :
    ∃ v : Vv, cs = v.row ∧ VAt v W W.heap.size ∧ VSz v := by
  obtain ⟨xs, n, _, hy, hl, hlen, hf⟩ := DataW.trod_struct Tryz.underlying49 h
  have hl2 : cs.length = 11 := hl.trans (by kernel_rfl)
  have hlen2 : xs.length = 7 := hlen
  match cs, hl2, xs, hlen2 with
  | [c0, c1, c2, c3, c4, c5, c6, c7, c8, c9, c10], _, [x0, x1, x2, x3, x4, x5, x6], _ =>
    have hu : Tryz.prog.underlying 49 = some (.struct _) := Tryz.underlying49
    rw [hy, DataW.weights, hu] at hw
    simp only [List.map_cons, List.map_nil] at hw
    obtain ⟨d, ed, hd, zd⟩ := one_desc (show DataW.trod enc Tryz.prog W base spare held n _ [c0, c1, c2, c3] = some x0 from hf 0 _ rfl) (fun k hk => hw k (DataW.weights_mem_each (j := 0) (d := x0.1) rfl rfl k hk))
    obtain ⟨t, et, ht⟩ := one_i128 (show DataW.trod enc Tryz.prog W base spare held n _ [c4, c5] = some x1 from hf 1 _ rfl)
    obtain ⟨CA, cc, l, e6, hcs, hcl, hcm, d6⟩ := Ao.cnts_open (show DataW.trod enc Tryz.prog W base spare held n _ [c6] = some x2 from hf 2 _ rfl)
    obtain ⟨nn, e7, _, b7⟩ := DataW.trod_int (k := .u64) (by kernel_rfl) (show DataW.trod enc Tryz.prog W base spare held n _ [c7] = some x3 from hf 3 _ rfl)
    obtain ⟨f8, e8, _, b8⟩ := trod_f64 (by kernel_rfl) (show DataW.trod enc Tryz.prog W base spare held n _ [c8] = some x4 from hf 4 _ rfl)
    obtain ⟨f9, e9, _, b9⟩ := trod_f64 (by kernel_rfl) (show DataW.trod enc Tryz.prog W base spare held n _ [c9] = some x5 from hf 5 _ rfl)
    obtain ⟨fa, ea, _, ba⟩ := trod_f64 (by kernel_rfl) (show DataW.trod enc Tryz.prog W base spare held n _ [c10] = some x6 from hf 6 _ rfl)
    have z6 := cnts_sized d6 (fun k hk => hw k (DataW.weights_mem_each (j := 2) (d := x2.1) rfl rfl k hk))
    simp only [List.cons.injEq, and_true] at ed et e7 e8 e9 ea
    obtain ⟨rfl, rfl, rfl, rfl⟩ := ed
    obtain ⟨rfl, rfl⟩ := et
    subst e6 e7 e8 e9 ea
    have q7 := bounds_u64 b7
    have hM : maxLen ≤ 9223372036854775807 := by decide
    exact ⟨⟨d, t, CA, cc, l, nn, f8, f9, fa⟩, rfl, ⟨hd, hcs, hcl, Nat.le_trans hcm hM, ht, q7, okF_wf b8, okF_wf b9, okF_wf ba⟩, ⟨zd, z6⟩⟩
theorem vals_open {m : Nat} {c : Value} {y : DataW H × List MemPlace} (h : DataW.trod enc Tryz.prog W base spare held m 22 [c] = some y) (hw : ∀ n ∈ y.1.weights Tryz.prog 22, n ≤ reachBytes) :
    ∃ (A : Option Addr) (cap : Nat) (vs : List Vv), c = .slice A vs.length cap ∧ VsAt vs A W W.heap.size ∧ vs.length ≤ cap ∧ cap ≤ maxLen ∧ vs.length * 136 ≤ reachBytes ∧ ∀ v ∈ vs, VSz v := by
  rcases DataW.trod_slice Tryz.underlying22 h with ⟨hc, hy⟩ | ⟨a, len, cap, elems, rest, n, _, hc, hy, hb, hl, hm, hlen, hel, _, _⟩
  · obtain rfl : c = .slice none 0 0 := by simpa using hc
    exact ⟨none, 0, [], rfl, ⟨⟨rfl, fun h => absurd h (by simp)⟩, fun x hx => by simp at hx⟩, Nat.le_refl _, by decide, by simp, fun x hx => by simp at hx⟩
  · obtain rfl : c = .slice (some a) len cap := by simpa using hc
    have hC : Tryz.prog.cellsOf 49 = 11 := by kernel_rfl
    have hBy : Tryz.prog.bytesOf 49 = 136 := by kernel_rfl
    have hu : Tryz.prog.underlying 22 = some (.slice 49) := Tryz.underlying22
    rw [hC] at hel
    rw [hy, DataW.weights, hu] at hw
    simp only [hBy] at hw
    have hsz := hw _ (List.mem_cons_self ..)
    have key : ∀ i, i < len → ∃ v : Vv, (∀ j u, v.row[j]? = some u → W.cell? ((a.add (i * 11)).add j) = some u) ∧ VAt v W W.heap.size ∧ VSz v := by
      intro i hi
      have he := hel i hi
      rw [List.getElem?_eq_getElem (by omega)] at he
      simp only [Option.bind_eq_some_iff] at he
      obtain ⟨cs, hcs, ht⟩ := he
      have hmem : (elems[i]'(by omega)).1 ∈ elems.map (·.1) := List.mem_map_of_mem (List.getElem_mem ..)
      obtain ⟨v, rfl, hv, hz⟩ := one_val ht (fun k hk => hw k (List.mem_cons_of_mem _ (List.mem_append_left _ (all_mem hmem k hk))))
      have hcc := (World.cells?_some hcs).2.2
      refine ⟨v, fun j u hu => ?_, hv, hz⟩
      have hj : j < 11 := by
        rcases Nat.lt_or_ge j 11 with g | g
        · exact g
        · rw [List.getElem?_eq_none (by simpa [Vv.row] using g)] at hu; cases hu
      exact (hcc j hj).trans hu
    obtain ⟨vs, hll, hp⟩ := Ao.pick_all len key
    refine ⟨some a, cap, vs, by rw [hll], ⟨⟨rows_len vs, fun hn => ?_⟩, fun x hx => ?_⟩, by omega, hm, ?_, fun x hx => ?_⟩
    · have h0 := (hp 0 hn).1 0 _ rfl
      have ha : (a.add (0 * 11)).add 0 = a := by simp [Addr.add]
      rw [ha] at h0
      have hsp := World.cell?_spot h0
      have hlt := World.block_lt_of_cell? W _ h0
      obtain ⟨ab, ao, at0⟩ := a
      simp only at hsp hlt
      subst hsp
      refine ⟨ab, ao, rfl, hlt, fun j u hu => ?_⟩
      have hj : j < (rows vs).length := by
        rcases Nat.lt_or_ge j (rows vs).length with hj | hj
        · exact hj
        · rw [List.getElem?_eq_none hj] at hu; cases hu
      rw [rows_len] at hj
      have hq : j / 11 < vs.length := by omega
      have hg := rows_get vs (j / 11) (j % 11) hq (by omega)
      have hj2 : j / 11 * 11 + j % 11 = j := by omega
      rw [hj2, hu] at hg
      have hwc := (hp (j / 11) hq).1 (j % 11) u hg.symm
      rw [Ao.add_plain, Ao.add_plain, Nat.add_assoc, hj2] at hwc
      exact hwc
    · obtain ⟨i, hi, rfl⟩ := List.mem_iff_getElem.1 hx
      exact (hp i hi).2.1
    · simp only [List.length_map] at hsz
      have := Nat.mul_le_mul_right 136 (Nat.le_add_right elems.length rest.length)
      rw [hll, ← hlen]
      omega
    · obtain ⟨i, hi, rfl⟩ := List.mem_iff_getElem.1 hx
      exact (hp i hi).2.2
def srow (s : Ss) : List Value := [.int .i64 s.p, .slice s.A s.vs.length s.c, .int .u64 s.r]
structure SSz (s : Ss) : Prop where
  n : s.vs.length * 136 ≤ reachBytes
  all : ∀ v ∈ s.vs, VSz v
theorem one_snap {m : Nat} {cs : List Value} {y : DataW H × List MemPlace} (h : DataW.trod enc Tryz.prog W base spare held m 25 cs = some y) (hw : ∀ n ∈ y.1.weights Tryz.prog 25, n ≤ reachBytes) :
    ∃ s : Ss, cs = srow s ∧ SAt s W W.heap.size ∧ SSz s := by
  obtain ⟨xs, n, _, hy, hl, hlen, hf⟩ := DataW.trod_struct Tryz.underlying25 h
  have hl2 : cs.length = 3 := hl.trans (by kernel_rfl)
  have hlen2 : xs.length = 3 := hlen
  match cs, hl2, xs, hlen2 with
  | [c0, c1, c2], _, [x0, x1, x2], _ =>
    have hu : Tryz.prog.underlying 25 = some (.struct _) := Tryz.underlying25
    rw [hy, DataW.weights, hu] at hw
    simp only [List.map_cons, List.map_nil] at hw
    obtain ⟨p, e0, _, b0⟩ := DataW.trod_int (k := .i64) (by kernel_rfl) (show DataW.trod enc Tryz.prog W base spare held n _ [c0] = some x0 from hf 0 _ rfl)
    obtain ⟨A, c, vs, e1, hv, hvc, hcm, hz, hd⟩ := vals_open (show DataW.trod enc Tryz.prog W base spare held n _ [c1] = some x1 from hf 1 _ rfl) (fun k hk => hw k (DataW.weights_mem_each (j := 1) (d := x1.1) rfl rfl k hk))
    obtain ⟨r, e2, _, b2⟩ := DataW.trod_int (k := .u64) (by kernel_rfl) (show DataW.trod enc Tryz.prog W base spare held n _ [c2] = some x2 from hf 2 _ rfl)
    simp only [List.cons.injEq, and_true] at e0 e2
    subst e0 e1 e2
    have q0 := bounds_i64 b0
    have q2 := bounds_u64 b2
    have hM : maxLen ≤ 9223372036854775807 := by decide
    have hB : reachBytes ≤ 140737488355328 := by decide
    exact ⟨⟨p, A, c, vs, r⟩, rfl, ⟨hv, q0, hvc, Nat.le_trans hcm hM, (by show vs.length ≤ _; omega), q2⟩, ⟨hz, hd⟩⟩
theorem snap_open {b0 : Nat} {r : Reach} {v : Value} {d : DataW H} {p : List MemPlace} (hv : Value.okWide Tryz.prog W r b0 25 v) (h : DataW.Trod enc Tryz.prog W base spare held 25 v d p)
    (hw : ∀ n ∈ d.weights Tryz.prog 25, n ≤ reachBytes) : ∃ s : Ss, v = s.v ∧ SAt s W W.heap.size ∧ SSz s := by
  obtain ⟨⟨cs⟩, rfl, hsz⟩ := okWide_struct Tryz.underlying25 hv
  obtain ⟨fuel, hf⟩ := h
  obtain ⟨s, hs, h1, h2⟩ := one_snap (show DataW.trod enc Tryz.prog W base spare held fuel _ cs = some (d, p) from hf) hw
  subst hs
  exact ⟨s, rfl, h1, h2⟩
end
end Go.Proofs.YtpiegngjpnpohaaGreat.So

namespace Go.Proofs.YtpiegngjpnpohaaGreat.Sn
open Go.RowKit Go.Proofs.YtpiegngjpnpohaaGreat.La Go.Proofs.YtpiegngjpnpohaaGreat.Sl Go.Proofs.YtpiegngjpnpohaaGreat.Ck Go.Proofs.YtpiegngjpnpohaaGreat.Rc Go.Proofs.YtpiegngjpnpohaaGreat.Rk Go.Proofs.YtpiegngjpnpohaaGreat.Wi Go.Proofs.YtpiegngjpnpohaaGreat.Fb
set_option linter.unusedVariables false
theorem zeros1_any (x : Nat) (h : okF x) (w : World) :
    Calls Tryz.prog 143 #[.float .f64 x] w fun e w' => e = .returned (.bool (!zeroF x)) ∧ Below w.heap.size w w' := by
  have b1 := bits_run x
  have f2 : ((x : Int) != 0) = !zeroF x := by unfold zeroF; rw [Bool.eq_iff_iff]; simp
  generalize (!zeroF x) = r at *
  go_enter Tryz.func143, Tryz.ntmps143
  go_wp2
  go_ret
  exact ⟨rfl, Below.refl _ _⟩
theorem finite1_any (x : Nat) (h : okF x) (w : World) :
    Calls Tryz.prog 147 #[.float .f64 x] w fun e w' => e = .returned (.bool (!finF x)) ∧ Below w.heap.size w w' := by
  have c1 := isNaN_any x h
  have c2 := isInf_any x h
  have e : (!finF x) = (nanF x || infF x) := by
    unfold finF nanF infF
    rw [Bool.eq_iff_iff]; simp; omega
  rw [e]
  clear e
  generalize infF x = q at *
  cases hn : nanF x
  · rw [hn] at c1
    rw [Bool.false_or]
    go_enter Tryz.func147, Tryz.ntmps147
    go_wp2_with (first
      | (go_at_call 148; with_reducible refine (c1 _).mono ?_; rintro e w' ⟨rfl, rfl⟩)
      | (go_at_call 149; with_reducible refine (c2 _).mono ?_; rintro e w' ⟨rfl, rfl⟩))
    go_ret
    exact ⟨rfl, Below.refl _ _⟩
  · rw [hn] at c1
    rw [Bool.true_or]
    go_enter Tryz.func147, Tryz.ntmps147
    go_wp2_with (first
      | (go_at_call 148; with_reducible refine (c1 _).mono ?_; rintro e w' ⟨rfl, rfl⟩)
      | (go_at_call 149; with_reducible refine (c2 _).mono ?_; rintro e w' ⟨rfl, rfl⟩))
    go_ret
    exact ⟨rfl, Below.refl _ _⟩
def flF (x : Nat) : Value := .float .f64 x
theorem flF_get (l : List Nat) (i : Nat) (hi : i < l.length) : (l.map flF)[i]? = some (.float .f64 l[i]) := by
  rw [List.getElem?_map, List.getElem?_eq_getElem hi]; rfl
def idxP {α : Type} (p : α → Bool) (l : List α) : Int := match l.findIdx? p with
  | some i => i
  | none => -1
set_option maxRecDepth 100000 in
theorem indexF_any (F : FuncId) (hE : ∀ a w, (callFunc F a).run Tryz.prog w = .ok (.enter F a) w) (p : Nat → Bool) (hF : ∀ x w, okF x → Calls Tryz.prog F #[.float .f64 x] w fun e w' => e = .returned (.bool (p x)) ∧ Below w.heap.size w w')
    (l : List Nat) (A : Option Addr) (c : Nat) (w : World) (h : Rd w w.heap.size 1 A (l.map flF) l.length) (ho : ∀ x ∈ l, okF x) (hl : l.length ≤ 140737488355328) :
    Calls Tryz.prog 188 #[.slice A l.length c, .func (.func F) #[] #[]] w fun e w' => e = .returned (.int .i64 (idxP p l)) ∧ Below w.heap.size w w' := by
  obtain ⟨n, hn⟩ : ∃ n, n = l.length := ⟨_, rfl⟩
  obtain ⟨res, hres⟩ : ∃ res, res = idxP p l := ⟨_, rfl⟩
  have hnI : (n : Int) ≤ 140737488355328 := by omega
  rw [← hn, ← hres]
  rw [← hn] at h
  replace h := Lib.hid h
  replace hn := Lib.hid hn
  replace hres := Lib.hid hres
  replace ho := Lib.hid ho
  replace hF := Lib.hid hF
  clear hl
  go_enter Tryz.func188, Tryz.ntmps188
  go_wp2
  go_loopw [8] (fun v wr => ∃ i : Nat, v = .int .i64 (i : Int) ∧ i ≤ n ∧ Hid (∀ j, j < i → ∀ x, l[j]? = some x → p x = false) ∧ Below w.heap.size w wr) (fun v _ => n + 1 - natOf' v)
  case atStart => exact ⟨0, rfl, Nat.zero_le _, Lib.hid (fun j hj => absurd hj (by omega)), Below.refl _ _⟩
  case round =>
    obtain ⟨i, rfl, hi, hpre, hw⟩ := hrel
    by_cases hlt : i < n
    · have hil : i < l.length := by rw [← hn.out]; exact hlt
      obtain ⟨b, o, hA, hb, hc⟩ := (h.out.below hw).cells (by omega)
      have z0 := hc i _ (flF_get l i hil)
      subst hA
      have cx := hF.out l[i] wr (ho.out _ (List.getElem_mem hil))
      obtain ⟨x, hx⟩ : ∃ x, x = l[i] := ⟨_, rfl⟩
      rw [← hx] at z0 cx
      have g1 : (i : Int) < (n : Int) := by omega
      clear hc
      cases hp : p x
      · rw [hp] at cx
        have hst : ∀ j, j < i + 1 → ∀ y, l[j]? = some y → p y = false := fun j hj y hy => by
          by_cases e : j = i
          · subst e
            rw [List.getElem?_eq_getElem hil, ← hx] at hy
            cases hy; exact hp
          · exact hpre.out j (by omega) y hy
        replace hst := Lib.hid hst
        clear hx hp
        go_wp2_with (refine cx.mono ?_; rintro e w' ⟨rfl, hb'⟩)
        exact ⟨⟨i + 1, by simp, hlt, hst, hw.trans (hb'.mono hw.size)⟩, by simp [natOf']; omega⟩
      · rw [hp] at cx
        have hr : res = i := by
          rw [hres.out]
          unfold idxP
          have : l.findIdx? p = some i := by
            rw [List.findIdx?_eq_some_iff_getElem]
            refine ⟨hil, by rw [← hx]; exact hp, fun j hj => ?_⟩
            have := hpre.out j hj _ (List.getElem?_eq_getElem (by omega))
            simp [this]
          rw [this]
        clear hx hp
        subst hr
        go_wp2_with (refine cx.mono ?_; rintro e w' ⟨rfl, hb'⟩)
        go_ret
        exact ⟨rfl, hw.trans (hb'.mono hw.size)⟩
    · obtain rfl : i = n := by omega
      have hr : res = -1 := by
        rw [hres.out]
        unfold idxP
        have : l.findIdx? p = none := by
          rw [List.findIdx?_eq_none_iff]
          intro x hx
          obtain ⟨j, hj, rfl⟩ := List.mem_iff_getElem.1 hx
          exact hpre.out j (by rw [hn.out]; exact hj) _ (List.getElem?_eq_getElem hj)
        rw [this]
      subst hr
      go_wp2
      go_ret
      exact ⟨rfl, hw⟩
theorem idxP_any {α : Type} (p : α → Bool) (l : List α) : decide (0 ≤ idxP p l) = l.any p := by
  unfold idxP
  cases h : l.findIdx? p with
  | none =>
    rw [List.findIdx?_eq_none_iff] at h
    have : l.any p = false := by rw [List.any_eq_false]; intro x hx; simp [h x hx]
    rw [this]; rfl
  | some i =>
    rw [List.findIdx?_eq_some_iff_getElem] at h
    obtain ⟨hi, hp, _⟩ := h
    have : l.any p = true := List.any_eq_true.2 ⟨_, List.getElem_mem hi, hp⟩
    rw [this]; simp
theorem containsF_any (F : FuncId) (hE : ∀ a w, (callFunc F a).run Tryz.prog w = .ok (.enter F a) w) (p : Nat → Bool) (hF : ∀ x w, okF x → Calls Tryz.prog F #[.float .f64 x] w fun e w' => e = .returned (.bool (p x)) ∧ Below w.heap.size w w')
    (l : List Nat) (A : Option Addr) (c : Nat) (w : World) (h : Rd w w.heap.size 1 A (l.map flF) l.length) (ho : ∀ x ∈ l, okF x) (hl : l.length ≤ 140737488355328) :
    Calls Tryz.prog 142 #[.slice A l.length c, .func (.func F) #[] #[]] w fun e w' => e = .returned (.bool (l.any p)) ∧ Below w.heap.size w w' := by
  have c1 := indexF_any F hE p hF l A c w h ho hl
  rw [← idxP_any]
  generalize idxP p l = r at *
  generalize l.length = n at *
  clear h ho hl
  go_enter Tryz.func142, Tryz.ntmps142
  go_wp2_with (go_at_call 188; refine c1.mono ?_; rintro e w' ⟨rfl, hb'⟩)
  go_ret
  exact ⟨rfl, hb'⟩
theorem call_enter {P : Program} {f : FuncId} {fn : Func} (hf : P.funcs[f]? = some fn) (hn : (fn.name == "runtime.NumGoroutine") = false) (hb : fn.body.isSome = true) (a : Array Value) (w : World) :
    (callFunc f a).run P w = .ok (.enter f a) w := by
  have h1 : fn.name ≠ "runtime.NumGoroutine" := by simpa using hn
  obtain ⟨c, hc⟩ := Option.isSome_iff_exists.1 hb
  simp [callFunc, hf, h1, hc]
theorem enter_zeros (a : Array Value) (w : World) : (callFunc 143 a).run Tryz.prog w = .ok (.enter 143 a) w :=
  call_enter Tryz.func143 (by kernel_rfl) (by kernel_rfl) a w
theorem enter_finite (a : Array Value) (w : World) : (callFunc 147 a).run Tryz.prog w = .ok (.enter 147 a) w :=
  call_enter Tryz.func147 (by kernel_rfl) (by kernel_rfl) a w
theorem zeros_any (l : List Nat) (A : Option Addr) (c : Nat) (w : World) (h : Rd w w.heap.size 1 A (l.map flF) l.length) (ho : ∀ x ∈ l, okF x) (hl : l.length ≤ 140737488355328) :
    Calls Tryz.prog 88 #[.slice A l.length c] w fun e w' => e = .returned (.bool (l.all zeroF)) ∧ Below w.heap.size w w' := by
  have c1 := containsF_any 143 enter_zeros (fun x => !zeroF x) (fun x w h => zeros1_any x h w) l A c w h ho hl
  have e : l.all zeroF = !l.any (fun x => !zeroF x) := by rw [List.not_any_eq_all_not]; simp
  rw [e]
  generalize l.any (fun x => !zeroF x) = r at *
  generalize l.length = n at *
  clear h ho hl e
  go_enter Tryz.func88, Tryz.ntmps88
  go_wp2_with (go_at_call 142; refine c1.mono ?_; rintro e w' ⟨rfl, hb'⟩)
  go_ret
  exact ⟨rfl, hb'⟩
theorem finite_l (l : List Nat) (A : Option Addr) (c : Nat) (w : World) (h : Rd w w.heap.size 1 A (l.map flF) l.length) (ho : ∀ x ∈ l, okF x) (hl : l.length ≤ 140737488355328) :
    Calls Tryz.prog 91 #[.slice A l.length c] w fun e w' => e = .returned (.bool (l.all finF)) ∧ Below w.heap.size w w' := by
  have c1 := containsF_any 147 enter_finite (fun x => !finF x) (fun x w h => finite1_any x h w) l A c w h ho hl
  have e : l.all finF = !l.any (fun x => !finF x) := by rw [List.not_any_eq_all_not]; simp
  rw [e]
  generalize l.any (fun x => !finF x) = r at *
  generalize l.length = n at *
  clear h ho hl e
  go_enter Tryz.func91, Tryz.ntmps91
  go_wp2_with (go_at_call 142; refine c1.mono ?_; rintro e w' ⟨rfl, hb'⟩)
  go_ret
  exact ⟨rfl, hb'⟩
end Go.Proofs.YtpiegngjpnpohaaGreat.Sn
