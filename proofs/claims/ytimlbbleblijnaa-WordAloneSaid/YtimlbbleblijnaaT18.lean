/- Lemmas for the laws of this seat, laid together of PGcb, PGcc, PGce, PGcf, PGch, PGcj. -/
import Derived.Test.YtimlbbleblijnaaT17
import Derived.Deep.AppendLies
import Derived.WalkKit
import Derived.Below
import Derived.WalkSmall
import Derived.Handy
import Derived.Conc.LeavingOf
import Derived.JoinedCond

namespace Go.Proofs.Ytimlbbleblijnaa.Co
open Go Go.Conc Go.RowKit
set_option linter.unusedVariables false
set_option linter.unusedSimpArgs false
noncomputable def qBody : Code := Try.f21.body.getD .skip
noncomputable def q0 : Code := match qBody with | .seq x _ => x | _ => .skip
noncomputable def q1 : Code := match qBody with | .seq _ (.seq x _) => x | _ => .skip
noncomputable def q2 : Code := match qBody with | .seq _ (.seq _ (.seq x _)) => x | _ => .skip
noncomputable def q3 : Code := match qBody with | .seq _ (.seq _ (.seq _ (.seq x _))) => x | _ => .skip
noncomputable def q4 : Code := match qBody with | .seq _ (.seq _ (.seq _ (.seq _ x))) => x | _ => .skip
def clo (LB TB : Nat → Nat) (mb i : Nat) : Value := .func (.func 67) #[] #[.pointer (some ⟨LB i, 0, none⟩), .pointer (some ⟨mb, 0, none⟩), .pointer (some ⟨TB i, 0, none⟩)]
def natOfV : Value → Nat
  | .int _ i => i.toNat
  | _ => 0
end Go.Proofs.Ytimlbbleblijnaa.Co

namespace Go.Proofs.Ytimlbbleblijnaa.Co
open Go Go.Conc
set_option linter.unusedVariables false
set_option linter.unusedSimpArgs false
theorem arrfv {n : Nat} (T : Array Value) (h : T.size = n) : ∃ f : Nat → Value, T = (List.map f (List.range n)).toArray ∧ ∀ j v, T[j]? = some v → f j = v := by
  obtain ⟨f, hf⟩ := arrf T h
  refine ⟨f, hf, fun j v e => ?_⟩
  have hj : j < n := by rw [← h]; exact (Array.getElem?_eq_some_iff.1 e).1
  rw [hf, arrf_get f hj] at e
  exact Option.some.inj e
section
variable {P : Program} {h : Nat} {F : Machine → Trace → Prop} {E : Env} {w : World} {Fs : FuncId → Bool}
theorem HG.quietS (S : Nat → Prop) (hS : ∀ b, S b → E.H b = none) (hC : Closed P Fs) {fr : Frame} {a : Act} {k : List Item} {cs : List Frame} {c : Code} {Q : Act → World → World → Prop} (hq : quietCode P Fs c = true) (hk : fr.kind = .normal) (ha : a.defers = [])
    (hwp : ∀ x : World, x.heap.size = w.heap.size → (∀ b, E.H b = none → x.heap[b]? = w.heap[b]?) → c.wp P (fun e a' x' => e = .normal ∧ a'.defers = [] ∧ (∀ b, b < x.heap.size → ¬ S b → x'.heap[b]? = x.heap[b]?) ∧ Q a' x x') a x)
    (hg : ∀ (E1 : Env) (w' : World) (a' : Act) (x x' : World), E.Eq h E1 → a'.defers = [] → x.heap.size = w.heap.size → (∀ b, E.H b = none → x.heap[b]? = w.heap[b]?) → x'.heap.size = w'.heap.size → (∀ b, E.H b = none → w'.heap[b]? = x'.heap[b]?) → Kept h none E w E1 w' → (∀ b, w.heap.size ≤ b → E.H b = none) → (∀ b, b < x.heap.size → ¬ S b → x'.heap[b]? = x.heap[b]?) → Q a' x x' → HG P h F E1 (G (fr.at a' k) cs) w') : HG P h F E (G (fr.at a (.code c :: k)) cs) w := by
  refine HG.withH fun hWH _ => ?_
  have hWn : ∀ b, E.H b = none → E.W b = false := fun b hb => by
    cases e : E.W b with
    | false => rfl
    | true => have := hWH b e; rw [hb] at this; cases this
  have pre : ∀ E1 w1, AtE h E w E1 w1 → ∀ τ, (rt (vw E1.H w1) τ 0).heap.size = w.heap.size ∧ ∀ b, E.H b = none → (rt (vw E1.H w1) τ 0).heap[b]? = w.heap[b]? := fun E1 w1 hA τ => by
    refine ⟨by show (vw E1.H w1).heap.size = _; simp [hA.2.size], fun b hb => ?_⟩
    show (vw E1.H w1).heap[b]? = _
    rw [vw_get_none (by rw [hA.1.H']; exact hb), hA.2.heap b (hWn b hb)]
  refine HG.quietF hC (Q := fun a' w' E1 w1 => ∃ x x' : World, (x.heap.size = w.heap.size ∧ ∀ b, E.H b = none → x.heap[b]? = w.heap[b]?) ∧ x.heap = (vw E1.H w1).heap ∧ x'.heap = (vw E1.H w').heap ∧ Far E1.H E1.W w1 w' ∧ Fit E1.H E1.W w1 ∧ (∀ b, b < x.heap.size → ¬ S b → x'.heap[b]? = x.heap[b]?) ∧ Q a' x x') hq hk ha (fun E1 w1 hA hf τ => ?_) (fun E1 w1 hA a' w' h1 h2 h3 hqq => ?_)
  · obtain ⟨p1, p2⟩ := pre E1 w1 hA τ
    refine Code.wp_mono (fun e a' x' ⟨q1, q2, q3, q4⟩ => ⟨q1, q2, fun w' τ' d he hF hf' => ⟨_, x', ⟨p1, p2⟩, rfl, by rw [he]; rfl, hF, hf, q3, q4⟩⟩) (hwp _ p1 p2)
  · obtain ⟨x, x', ⟨p1, p2⟩, e1, e2, hF, hf, q3, q4⟩ := hqq
    have hH : E1.H = E.H := hA.1.H'
    have hold : ∀ c, c < w1.heap.size → ¬ S c → (vw E1.H w').heap[c]? = (vw E1.H w1).heap[c]? := fun c hc hn => by
      rw [← e2, ← e1]
      exact q3 c (by rw [e1]; simpa using hc) hn
    have hk2 := quiet_kept (j := h) (gb := none) hF hf (S := S) (fun c hc => by rw [hH]; exact hS c hc) hold
    refine hg E1 w' a' x x' hA.1 h1 p1 p2 (by rw [e2]; simp) (fun b hb => by rw [e2, vw_get_none (by rw [hH]; exact hb)]) ((Kept.of_at hA).trans hk2.1) (fun b hb => ?_) q3 q4
    rw [← hH]
    exact hf.bound b (by rw [hA.2.size]; exact hb)
end
#print axioms HG.quietS
end Go.Proofs.Ytimlbbleblijnaa.Co

namespace Go.Proofs.Ytimlbbleblijnaa.Co
open Go Go.Conc Go.RowKit
set_option linter.unusedVariables false
set_option linter.unusedSimpArgs false
noncomputable def nBody : Code := Try.f29.body.getD .skip
noncomputable def n0 : Code := match nBody with | .seq x _ => x | _ => .skip
noncomputable def n1 : Code := match nBody with | .seq _ (.seq x _) => x | _ => .skip
noncomputable def n2 : Code := match nBody with | .seq _ (.seq _ x) => x | _ => .skip
noncomputable def y0 : Code := n0
noncomputable def y1 : Code := n1
section
variable {h : Nat} {F : Machine → Trace → Prop} {E : Env} {w : World} {b₀ : Frame} {a₀ : Act} {ops₀ : Array Oper} {i₀ : Nat} {rest₀ : List Nat} {k₀ : List Item} {cl : List Frame}
noncomputable def q5 : Code := match q4 with | .seq _ x => x | _ => .skip
noncomputable def q6 : Code := match q5 with | .seq x _ => x | _ => .skip
end
end Go.Proofs.Ytimlbbleblijnaa.Co

namespace Go.Proofs.Ytimlbbleblijnaa.Co
open Go Go.Conc Go.RowKit
open Go.ConcN (sumTo upd sumTo_upd upd_ne upd_same sumTo_congr le_sumTo)
set_option linter.unusedVariables false
set_option linter.unusedSimpArgs false
abbrev Op3 := Int × Int × Int
structure OpsAt (E : Env) (w : World) (tv : Value) (ts : List (List Op3)) : Prop where
  at_ : ∃ (ta : Option Addr) (ba bo cap : Nat) (LA : Nat → Option Addr) (LC : Nat → Nat), tv = .slice ta ts.length cap ∧ (0 < ts.length → ta = some ⟨ba, bo, none⟩) ∧ ∀ i l, ts[i]? = some l →
    (w.cell? ⟨ba, bo + i, none⟩ = some (.slice (LA i) l.length (LC i)) ∧ E.H ba = none) ∧ (l ≠ [] → ∃ la lo, LA i = some ⟨la, lo, none⟩ ∧ E.H la = none ∧ ∀ j op, l[j]? = some op →
      w.cell? ⟨la, lo + j * 3, none⟩ = some (.int .i64 op.1) ∧ w.cell? ⟨la, lo + j * 3 + 1, none⟩ = some (.int .i64 op.2.1) ∧ w.cell? ⟨la, lo + j * 3 + 2, none⟩ = some (.int .i64 op.2.2))
structure IntsAt (E : Env) (w : World) (pv : Value) (ps : List Int) : Prop where
  at_ : ∃ (pa : Option Addr) (pb po cap : Nat), pv = .slice pa ps.length cap ∧ (ps ≠ [] → pa = some ⟨pb, po, none⟩) ∧ ∀ i p, ps[i]? = some p → w.cell? ⟨pb, po + i, none⟩ = some (.int .i64 p) ∧ E.H pb = none
def Stands (E : Env) (w : World) (E' : Env) (w' : World) : Prop := ∀ b o, E.H b = none → w.heap[b]? = some o → E'.H b = none ∧ w'.heap[b]? = some o
theorem Stands.cell {E E' : Env} {w w' : World} (S : Stands E w E' w') {a : Addr} {v : Value} (h : w.cell? a = some v) (hH : E.H a.block = none) : w'.cell? a = some v ∧ E'.H a.block = none := by
  have hl := World.block_lt_of_cell? w _ h
  obtain ⟨s1, s2⟩ := S a.block _ hH (Array.getElem?_eq_getElem hl)
  exact ⟨(World.cell?_of_block (by rw [s2, Array.getElem?_eq_getElem hl])).trans h, s1⟩
theorem Stands.trans {E E' E2 : Env} {w w' w2 : World} (S : Stands E w E' w') (S2 : Stands E' w' E2 w2) : Stands E w E2 w2 := fun b o h1 h2 => by
  obtain ⟨a1, a2⟩ := S b o h1 h2
  exact S2 b o a1 a2
theorem OpsAt.stands {E E' : Env} {w w' : World} {tv : Value} {ts : List (List Op3)} (h : OpsAt E w tv ts) (S : Stands E w E' w') : OpsAt E' w' tv ts := by
  obtain ⟨ta, ba, bo, cap, LA, LC, h1, h2, h3⟩ := h.at_
  refine ⟨ta, ba, bo, cap, LA, LC, h1, h2, fun i l hi => ?_⟩
  obtain ⟨⟨q1, q2⟩, q3⟩ := h3 i l hi
  refine ⟨S.cell q1 q2, fun hne => ?_⟩
  obtain ⟨la, lo, e1, e2, e3⟩ := q3 hne
  by_cases hE : E'.H la = none
  · exact ⟨la, lo, e1, hE, fun j op hj => ⟨(S.cell (e3 j op hj).1 e2).1, (S.cell (e3 j op hj).2.1 e2).1, (S.cell (e3 j op hj).2.2 e2).1⟩⟩
  · cases l with
    | nil => exact absurd rfl hne
    | cons op l => exact absurd (S.cell (e3 0 op rfl).1 e2).2 hE
theorem IntsAt.stands {E E' : Env} {w w' : World} {pv : Value} {ps : List Int} (h : IntsAt E w pv ps) (S : Stands E w E' w') : IntsAt E' w' pv ps := by
  obtain ⟨pa, pb, po, cap, h1, h2, h3⟩ := h.at_
  exact ⟨pa, pb, po, cap, h1, h2, fun i p hi => S.cell (h3 i p hi).1 (h3 i p hi).2⟩
structure PA where
  ms : List Mk
  cnt : Nat → Nat
def nOf (ts : List (List Op3)) (t i : Nat) : Int := (((ts[t]?).bind (·[i]?)).map (·.2.2)).getD 0
def lenOf (ts : List (List Op3)) (t : Nat) : Nat := ((ts[t]?).map (·.length)).getD 0
def playG (ts : List (List Op3)) : Game PA where
  n := ts.length
  alive a t := decide (a.cnt t < lenOf ts t)
  pick a t k := ⟨a.ms ++ [((t : Int), k, (a.cnt t : Int), nOf ts t (a.cnt t))], upd a.cnt t (a.cnt t + 1)⟩
end Go.Proofs.Ytimlbbleblijnaa.Co

namespace Go.Proofs.Ytimlbbleblijnaa.Co
open Go Go.Conc Go.RowKit
open Go.ConcN (sumTo upd sumTo_upd upd_ne upd_same sumTo_congr le_sumTo)
set_option linter.unusedVariables false
set_option linter.unusedSimpArgs false
section
variable {P : Program} {h : Nat} {F : Machine → Trace → Prop} {E : Env} {w : World} {n : Nat} {fr : Frame} {a : Act} {k : List Item} {cs : List Frame} {ops : Array Oper} {i : Nat} {rest : List Nat} {o : Oper}
theorem HGn.mkV {c : Array Value} {t : TypeId} (val : Nat → Value) (hrole : E.role h = .gone) (ho : ops[i]? = some o) (hw : Region.wanted o (yielded ops a.tmps) = true) (hk : fr.kind ≠ .early)
    (hr : ∀ w₁ : World, (execOp a.eval o).run P w₁ = .ok (.value (val w₁.heap.size)) (w₁.alloc (.cells c t)) ∧ (execOp a.eval o).events P w₁ #[] = #[]) (hg : (∀ b, w.heap.size ≤ b → E.H b = none) → E.W w.heap.size = false → HGn P h F E (w.alloc (.cells c t)) n (G (fr.at (a.put o.dst (val w.heap.size)) (.inRegion ops rest :: k)) cs)) :
    HGn P h F E w (n + 1) (G (fr.at a (.inRegion ops (i :: rest) :: k)) cs) := by
  refine HG.withB fun hB _ _ => HG.withH fun hWH _ => ?_
  have hWn : E.W w.heap.size = false := by
    cases e : E.W w.heap.size with
    | false => rfl
    | true => have := hWH _ e; rw [hB _ (Nat.le_refl _)] at this; cases this
  replace hg := hg hB hWn
  refine HG.open fun E1 w1 hA ⟨gs, T, q, C, _⟩ => ?_
  have hAw := hA.2
  have hW1 : E1.W = E.W := hA.1.W'
  refine (HG.clo P h F E1).own rfl fun w₂ h2 => ?_
  obtain ⟨e1, e2⟩ := hr w₂
  have hsz : w₂.heap.size = w.heap.size := h2.size.trans hAw.size
  have hget : ∀ b, b < w₂.heap.size → (w₂.alloc (.cells c t)).heap[b]? = w₂.heap[b]? := fun b hb => alloc_old hb
  refine ⟨G (fr.at (a.put o.dst (val w.heap.size)) (.inRegion ops rest :: k)) cs, w₂.alloc (.cells c t), #[], ?_, ⟨by rw [alloc_size]; omega, fun a' ⟨i, hi⟩ => ?_, fun c' ⟨i, home, hi⟩ => ?_, fun b hb x st sm e' hx => ?_, fit_alloc, fun ev he => by simp at he, ⟨rfl, rfl⟩⟩, ?_⟩
  · rw [stepG_value ho hw hk e1]
    unfold listed
    rw [e2, seen_none, hsz]
  · have hl : a'.block < w₂.heap.size := by rw [h2.size]; exact C.S_lt hi
    unfold World.cell?
    rw [hget _ hl]
  · have hih : i ≠ h := fun z => by
      subst z
      have := hA.1.roleH
      rw [hi, hrole] at this
      cases this
    obtain ⟨k', hk'⟩ := C.chans i c' home hih (C.seat_lt hi) hi
    exact hget _ (by rw [h2.size]; exact (Array.getElem?_eq_some_iff.1 hk').1)
  · exact ⟨x, by rw [hget _ (Array.getElem?_eq_some_iff.1 hx).1]; exact hx⟩
  · have hA2 : Aw E.W (w.alloc (.cells c t)) (w₂.alloc (.cells c t)) := aw_alloc (hAw.trans _ _ _ (by rw [← hW1]; exact h2)) hWn
    exact (show HG P h F E _ _ from hg).at ⟨hA.1, hA2⟩
end
section
variable {h : Nat} {F : Machine → Trace → Prop} {E : Env} {w : World} {b₀ : Frame} {a₀ : Act} {ops₀ : Array Oper} {i₀ : Nat} {rest₀ : List Nat} {k₀ : List Item} {cl : List Frame}
end
end Go.Proofs.Ytimlbbleblijnaa.Co

namespace Go.Proofs.Ytimlbbleblijnaa.Co
open Go Go.Conc Go.RowKit
set_option linter.unusedVariables false
set_option linter.unusedSimpArgs false
theorem stepG_done {P : Program} {b : Frame} {a : Act} {fn : Func} {todo : List Item} {w : World} {t : Tmp} (hn : b.kind = .normal) (hd : a.defers = []) (hf : P.funcs[b.fn]? = some fn) (hr : fn.results = #[.tmp t]) (hin : P.inits.idxOf? b.fn = none) :
    stepG P true (G { b.at a todo with mode := .returning } []) w = .ended (.done (a.tmps.getD t undef)) w #[] := by
  have h1 := results_tmp (fn := fn) hr a.tmps P w
  have h2 := fun es => events_results_tmp (fn := fn) (P := P) (w := w) hr a.tmps es
  simp [G, stepG, unwind, doReturn, Frame.at, hn, hd, hf, h1, h2, hin, seen, GStep.after]
def FinF (P : Program) (Post : Value → World → Prop) (m : Machine) (T : Trace) : Prop :=
  ∃ N last o w' t', runNT P (N + 1) m T = (.ended o w', t') ∧ runN P N m = .next last ∧ step P last = .ended o w' ∧ Go.Conc.Good P Post last o w' t'
section
variable {P : Program} {E : Env} {w : World} {Post : Value → World → Prop}
theorem HG.done {b : Frame} {a : Act} {fn : Func} {todo : List Item} {t : Tmp} {v : Value} (hn : b.kind = .normal) (hd : a.defers = []) (hf : P.funcs[b.fn]? = some fn) (hr : fn.results = #[.tmp t]) (hin : P.inits.idxOf? b.fn = none) (hv : a.tmps[t]? = some v) (hgone : ∀ i, 0 < i → E.role i = .gone)
    (hpost : ∀ w', SameIo E.io w' → Aw E.W w w' → Post v w') : HG P 0 (FinF P Post) E (G { b.at a todo with mode := .returning } []) w := by
  intro E' w' gs T q sl hA C ha
  have hret : AtRet P Post E' (G { b.at a todo with mode := .returning } []) w' := by
    refine ⟨rfl, fun i hi => hA.1.gone i (hgone i hi), fun w2 h2 => ⟨_, _, stepG_done hn hd hf hr hin, fun e he => by simp at he, ?_⟩⟩
    rw [show a.tmps.getD t undef = v by simp [Array.getD_eq_getD_getElem?, hv]]
    have hW : E'.W = E.W := hA.1.W'
    rw [hW] at h2
    refine hpost w2 ?_ (hA.2.trans _ _ _ h2)
    have h3 := C.io
    rw [hA.1.io] at h3
    exact h3.trans ⟨h2.os, h2.output⟩
  obtain ⟨N, last, o, w2, t2, h1, h2, h3, h4⟩ := C.ends ha hret (sl := sl)
  exact ⟨0, _, _, rfl, N, last, o, w2, t2, h1, h2, h3, h4⟩
theorem hg_run {g : Goroutine} {W : World} (hg : HG P 0 (FinF P Post) (Env.zero W) g W) : ∃ M last o w' t', runNT P (M + 1) (solo g W) #[] = (.ended o w', t') ∧ runN P M (solo g W) = .next last ∧ step P last = .ended o w' ∧ Go.Conc.Good P Post last o w' t' := by
  obtain ⟨N, m', T', h1, N2, last, o, w', t', k1, k2, k3, k4⟩ := hg (Env.zero W) W #[g] #[] (fun _ => 0) none ⟨.refl 0 _, Aw.refl _ _⟩ (Co.start P g W) rfl
  refine ⟨N + N2, last, o, w', t', ?_, ?_, k3, k4⟩
  · have := runNT_add P N (N2 + 1) (crowd #[g] W none) #[]
    rw [h1] at this
    show runNT P (N + (N2 + 1)) (crowd #[g] W none) #[] = _
    rw [this]
    exact k1
  · have h5 : runN P N (crowd #[g] W none) = .next m' := by rw [← runNT_fst _ _ _ #[], h1]
    show runN P (N + N2) (crowd #[g] W none) = _
    rw [runN_add, h5]
    exact k2
theorem below_end {W w' w2 : World} {E' : Env} (hk : Kept 0 none (Env.zero W) W E' w') (hs : Stands (Env.zero W) W E' w') (hio : SameIo E'.io w2) (hA : Aw E'.W w' w2) : Below W.heap.size W { w2 with tape := W.tape } := by
  have h1 : E'.io = W := hk.le.io
  rw [h1] at hio
  have hWn : ∀ b, b < W.heap.size → E'.W b = false := fun b hb => by
    cases e : E'.W b with
    | false => rfl
    | true =>
      rcases hk.WN b e with z | z
      · cases z
      · omega
  refine ⟨hio.1, rfl, hio.2, ?_, fun b hb => ?_⟩
  · show W.heap.size ≤ w2.heap.size
    rw [hA.size]; exact hk.size
  · show w2.heap[b]? = _
    rw [hA.heap b (hWn b hb)]
    cases e : (Env.zero W).H b with
    | some n => exact hk.heap b n e rfl (by simp) hb
    | none => rw [(hs b _ e (Array.getElem?_eq_getElem hb)).2, Array.getElem?_eq_getElem hb]
theorem law_good {f : FuncId} {fn : Func} {t : Tmp} {args : Array Value} {W : World} {v : Value} (hf : P.funcs[f]? = some fn) (hb : fn.body.isSome = true) (hr : fn.results = #[.tmp t]) (hin : P.inits.idxOf? f = none)
    (hg : ∀ F, (∀ E' w' T todo, Kept 0 none (Env.zero W) W E' w' → Stands (Env.zero W) W E' w' → T[t]? = some v → HG P 0 F E' (G { (base f).at ⟨T, []⟩ todo with mode := .returning } []) w') → HG P 0 F (Env.zero W) (entry f fn args []) W)
    (hpost : ∀ w2, Below W.heap.size W { w2 with tape := W.tape } → Post v w2) :
    ∃ M last o w' t', runNT P (M + 1) (solo (G (Frame.enter P f args .normal) []) W) #[] = (.ended o w', t') ∧ runN P M (solo (G (Frame.enter P f args .normal) []) W) = .next last ∧ step P last = .ended o w' ∧ Go.Conc.Good P Post last o w' t' := by
  cases hb' : fn.body with
  | none => rw [hb'] at hb; cases hb
  | some c =>
    rw [enter_at args hf hb']
    refine hg_run ?_
    have := hg (FinF P Post) (fun E' w' T todo hk hs hv => HG.done (b := base f) (a := ⟨T, []⟩) rfl rfl hf hr hin hv (fun i hi => hk.le.gone i rfl) (fun w2 h1 h2 => hpost w2 (below_end hk hs h1 h2)))
    unfold entry at this
    rw [hb'] at this
    exact this
end
section
variable {H : Type} {enc : TypeId × Value → H}
theorem post_tape {P : Program} {f : Func} {s : ChangeSpec} {apart fresh handsOn : Bool} {W W' : World} {args : Array Value} {v : Value} (tp : Tape)
    (h : s.post enc P f apart fresh handsOn false W args v { W' with tape := tp }) : s.post enc P f apart fresh handsOn false W args v W' := by
  obtain ⟨ds, gs, before, pr, pa, pv, h1, h2, h3, h4, h5, h6⟩ := h
  exact ⟨ds, gs, before, pr, pa, pv, h1, h2.of_heap (by rfl), h3.of_heap (by rfl), h4.of_heap (by rfl), h5, fun ha => (by cases ha)⟩
end
#print axioms law_good
end Go.Proofs.Ytimlbbleblijnaa.Co
