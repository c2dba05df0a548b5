/- Lemmas for the laws of this seat, laid together of PGbq, PGbr, PGbs, PGbu, PGbv, PGca. -/
import Derived.Test.YtimlbbleblijnaaT16

namespace Go.Proofs.Ytimlbbleblijnaa.Co
open Go Go.Conc
set_option linter.unusedVariables false
set_option linter.unusedSimpArgs false
theorem kept_set {j gb o : Nat} {E : Env} {w : World} {v : Value} (gW : E.W gb = false) : Kept j (some gb) E w E (w.setCell ⟨gb, o, none⟩ v) :=
  ⟨.refl j E, by simp [World.setCell], fun b n _ _ hg _ => heap_setCell_ne (a := ⟨gb, o, none⟩) (fun e => hg (congrArg some e)), fun b hW x st sm e hx => ⟨st, sm, by rw [heap_setCell_ne (a := ⟨gb, o, none⟩) (fun z => by have z' : gb = b := z; rw [z', hW] at gW; cases gW)]; exact hx⟩, fun _ _ h => .inl h, fun _ h => .inl h⟩
theorem kept_alloc {j : Nat} {gb : Option Nat} {E : Env} {w : World} {o : Obj} : Kept j gb E w E (w.alloc o) :=
  ⟨.refl j E, by rw [alloc_size]; omega, fun b n _ _ _ hl => alloc_old hl, fun b hW x st sm e hx => ⟨st, sm, by rw [alloc_old (Array.getElem?_eq_some_iff.1 hx).1]; exact hx⟩, fun _ _ h => .inl h, fun _ h => .inl h⟩
section
variable {σ Λ : Type} {D : Prot σ Λ} {h rb : Nat} {home : Goroutine → Prop} {k : Int} {th : Th} {F : Machine → Trace → Prop} {E E1 : Env} {w w1 : World} {s : σ} {o : Option Λ} {r : Role}
theorem Prot.at (m : D.M s E w) {j : Nat} (hWH : ∀ b, E.W b = true → E.H b = some 1) (a : AtE j E w E1 w1) : D.M s E1 w1 :=
  D.closed _ _ _ _ _ m fun b _ hn => ⟨by rw [a.1.H']; exact hn, a.2.heap b (by
    cases e : E.W b with
    | false => rfl
    | true => rw [hWH b e] at hn; cases hn)⟩
theorem Prot.set (m : D.M s E w) {gb x n : Nat} {v : Value} (gH : E.H gb = some n) : D.M s E (w.setCell ⟨gb, x, none⟩ v) :=
  D.closed _ _ _ _ _ m fun b _ hn => ⟨hn, heap_setCell_ne (a := ⟨gb, x, none⟩) (fun e => by have e' : gb = b := e; rw [e', hn] at gH; cases gH)⟩
theorem Prot.alloc (m : D.M s E w) {x : Obj} : D.M s E (w.alloc x) := D.closed _ _ _ _ _ m fun b hb hn => ⟨hn, alloc_old hb⟩
theorem TKn.gct (T : TKn h rb home k th E w) : th.gb ≠ th.ct := fun e => by have h1 := T.gH; rw [e, T.ctH] at h1; cases h1
theorem Back.kept (B : Back D h rb home th F E w s o r) (a : Kept th.j (some th.gb) E w E1 w1) : Back D h rb home th F E1 w1 s o r :=
  fun E2 w2 kk g₂ hk hm hg hc hh => B E2 w2 kk g₂ (a.trans hk) hm hg hc hh
theorem GA.at {j : Nat} {en fr : Bool} {tl : Int × Int × Int} (g : GA w rb th en fr tl) (gW : E.W th.gb = false) (a : AtE j E w E1 w1) : GA w1 rb th en fr tl := by
  unfold GA at g ⊢
  rw [a.2.heap _ gW]; exact g
def OffAt (gb box rb : Nat) (b₀ : Frame) (a₀ : Act) (ops₀ : Array Oper) (i₀ : Nat) (rest₀ : List Nat) (k₀ : List Item) (cl : List Frame) : Prop :=
  ∀ {j hr ct cs : Nat} {en fr : Bool} {s p q : Int} {ty : TypeId} {E : Env} {w : World} {F : Machine → Trace → Prop} {home : Goroutine → Prop}, w.heap[gb]? = some (gateObj rb ct cs en fr s p q ty) → E.W gb = false → w.cell? ⟨box, 0, none⟩ = some (.pointer (some ⟨gb, 0, none⟩)) → E.W box = false → E.role hr = .seat cs home → hr ≠ j → 0 < j → E.wg j = some rb →
    E.role j = .gone → E.W w.heap.size = false →
    (∀ E1 w1 k g₂, AtE j E (w.alloc (.cells #[] 111)) E1 w1 → w1.heap[cs]? = some (.chan 0 #[] false k k false) → home g₂ → HG Try.prog hr F (E1.setRole j (.ender rb)) (Go.Conc.served g₂ (.bool false)) (w1.setChan cs 0 #[] false (k + 1) (k + 1) false)) →
    HG Try.prog j F E (G { b₀.at a₀ (.inRegion ops₀ (i₀ :: rest₀) :: k₀) with mode := .panicking [{ v := letGoV, recovered := false }] } cl) w
variable {b₀ : Frame} {a₀ : Act} {ops₀ : Array Oper} {i₀ : Nat} {rest₀ : List Nat} {k₀ : List Item} {cl : List Frame}
theorem LiveRet.offAt {gb box : Nat} (L : LiveRet gb box rb b₀ a₀ ops₀ i₀ rest₀ k₀ cl) : OffAt gb box rb b₀ a₀ ops₀ i₀ rest₀ k₀ cl := L.off
theorem OffAt.up {gb box f : Nat} {fn : Func} {a : Act} {ops : Array Oper} {i : Nat} {rest : List Nat} {k : List Item} (O : OffAt gb box rb b₀ a₀ ops₀ i₀ rest₀ k₀ cl) (hf : Try.prog.funcs[f]? = some fn) (ha : a.defers = []) :
    OffAt gb box rb (base f) a ops i rest k (b₀.at a₀ (.inRegion ops₀ (i₀ :: rest₀) :: k₀) :: cl) := by
  intro j hr ct cs en fr s p q ty E w F home h1 h2 h3 h4 h5 h6 h7 h8 h9 h10 h11
  refine Idl.unwindNone (n := 1) (idl_hg Try.prog j F E w) ha hf rfl ?_
  exact O h1 h2 h3 h4 h5 h6 h7 h8 h9 h10 h11
theorem offAt_end {fr : Bool} {tl : Int × Int × Int} (O : OffAt th.gb th.box rb b₀ a₀ ops₀ i₀ rest₀ k₀ cl) (T : TKn h rb home k th E w) (g : GA w rb th false fr tl) (m : D.M s E w) (B : Back D h rb home th F E w s none (.ender rb)) :
    HG Try.prog th.j F E (G { b₀.at a₀ (.inRegion ops₀ (i₀ :: rest₀) :: k₀) with mode := .panicking [{ v := letGoV, recovered := false }] } cl) w := by
  refine HG.open fun E1 w1 hA ⟨gs, T', q, C, _⟩ => ?_
  have hWH : ∀ b, E1.W b = true → E1.H b = some 1 := C.fit.sub
  have hWH0 : ∀ b, E.W b = true → E.H b = some 1 := fun b hb => by rw [← hA.1.H']; exact hWH b (by rw [hA.1.W']; exact hb)
  have T1 := T.kept (Kept.of_at hA) T.gct
  have g1 := GA.at g T.gW hA
  have hn : E1.W w1.heap.size = false := by
    cases e : E1.W w1.heap.size with
    | false => rfl
    | true => have := hWH _ e; rw [C.fit.bound _ (Nat.le_refl _)] at this; cases this
  refine O g1 T1.gW (C.keep th.j _ _ T1.stB) T1.bW T1.run T1.hj T1.j0 T1.wg T1.role hn (fun E2 w2 kk g₂ hA2 hcs hh => ?_)
  have m2 := Prot.at (D := D) (Prot.alloc (Prot.at m hWH0 hA) (x := .cells #[] 111)) hWH hA2
  refine B E2 w2 kk g₂ ((Kept.of_at hA).trans (kept_alloc.trans (Kept.of_at hA2))) m2 ⟨fr, tl, GA.at ?_ T1.gW hA2⟩ hcs hh
  unfold GA at g1 ⊢
  rw [alloc_old T1.gL]; exact g1
theorem body_ret {fr : Bool} {tl : Int × Int × Int} (L : LiveRet th.gb th.box rb b₀ a₀ ops₀ i₀ rest₀ k₀ cl) (T : TKn h rb home k th E w) (g : GA w rb th false fr tl) (m : D.M s E w) (B : Back D h rb home th F E w s none (.ender rb)) :
    HG Try.prog th.j F E (G (b₀.at (a₀.put ((ops₀[i₀]?).bind (·.dst)) (.tuple #[])) (.inRegion ops₀ rest₀ :: k₀)) cl) w := by
  refine HG.open fun E1 w1 hA ⟨gs, T', q, C, _⟩ => ?_
  have hWH : ∀ b, E1.W b = true → E1.H b = some 1 := C.fit.sub
  have hWH0 : ∀ b, E.W b = true → E.H b = some 1 := fun b hb => by rw [← hA.1.H']; exact hWH b (by rw [hA.1.W']; exact hb)
  have T1 := T.kept (Kept.of_at hA) T.gct
  have g1 := GA.at g T.gW hA
  refine L.ret g1 T1.gW (C.keep th.j _ _ T1.stB) T1.bW T1.run T1.hj T1.j0 T1.wg (fun E2 w2 kk g₂ hA2 hcs hh => ?_)
  exact B E2 w2 kk g₂ (Kept.of_at (hA.trans hA2)) (Prot.at m hWH0 (hA.trans hA2)) ⟨fr, tl, GA.at g T.gW (hA.trans hA2)⟩ hcs hh
theorem body_step {n : Nat} {ℓ : Λ} (T : TKn h rb home k th E w) (g : GA w rb th false false (D.tal ℓ)) (m : D.M s E w) (O : OffAt th.gb th.box rb b₀ a₀ ops₀ i₀ rest₀ k₀ cl)
    (B : Back D h rb home th F E w s (some ℓ) (.seat th.ct (Srv D rb th (n + 1) ℓ)))
    (hgo : ∀ (h' : Nat) (home' : Goroutine → Prop) (k' : Int) (F' : Machine → Trace → Prop) (E' : Env) (w' : World) (s' : σ), TKn h' rb home' k' th E' w' → GA w' rb th false false (IntKind.i64.wrap ((D.tal ℓ).1 + 1), (D.tal ℓ).2.1, (D.tal ℓ).2.2) → D.M s' E' w' → D.fits ℓ s' →
      (∀ s'' o, D.next ℓ k' s' (s'', o) → Back D h' rb home' th F' E' w' s'' o (roleOf (Srv D rb th n) rb th o)) → HG Try.prog th.j F' E' (G (b₀.at (a₀.put ((ops₀[i₀]?).bind (·.dst)) (.tuple #[])) (.inRegion ops₀ rest₀ :: k₀)) cl) w') :
    HGn Try.prog th.j F E w 100 (entry 33 Try.f33 #[.pointer (some ⟨th.gb, 0, none⟩)] (b₀.at a₀ (.inRegion ops₀ (i₀ :: rest₀) :: k₀) :: cl)) := by
  refine HG.withH fun hWH _ => ?_
  obtain ⟨k0, hct⟩ := T.ctC
  refine step_in (home' := Srv D rb th (n + 1) ℓ) g T.gW T.run T.hj T.stT hct T.ctH T.noT (fun g₂ A => ?_) (fun E1 w1 kk g₂ hA hcs hh => ?_)
  · intro h' home' k' F' E' w' s' T' g' m' f'
    refine ⟨fun hb => A.go g' T'.gW T'.role T'.noSt ?_, fun hb => A.off g' T'.gW T'.role T'.noSt ?_⟩
    · have hk := kept_set (j := th.j) (o := 5) (w := w') (v := .int .i64 (IntKind.i64.wrap ((D.tal ℓ).1 + 1))) T'.gW
      refine hgo h' home' k' F' E' _ s' (T'.kept hk T'.gct) ?_ (Prot.set m' T'.gH) f' (fun s'' o hn => (hb s'' o hn).kept hk)
      exact heap_set (a := ⟨th.gb, 5, none⟩) (w := w') rfl g'
    · have hk := kept_set (j := th.j) (o := 4) (w := w') (v := .bool true) T'.gW
      refine offAt_end (fr := true) (tl := D.tal ℓ) O (T'.kept hk T'.gct) ?_ (Prot.set m' T'.gH) (hb.kept hk)
      exact heap_set (a := ⟨th.gb, 4, none⟩) (w := w') rfl g'
  · exact B E1 w1 kk g₂ (Kept.of_at hA) (Prot.at m hWH hA) (GA.at g T.gW hA) hcs hh
#print axioms body_step
end
end Go.Proofs.Ytimlbbleblijnaa.Co

namespace Go.Proofs.Ytimlbbleblijnaa.Co
open Go Go.Conc
open Go.ConcN (sumTo upd sumTo_upd upd_ne upd_same sumTo_congr le_sumTo)
set_option linter.unusedVariables false
set_option linter.unusedSimpArgs false
structure PT where
  tb : Nat
  lb : Nat
  la : Nat
  lo : Nat
  cap : Nat
  ops : List (Int × Int × Int)
structure PS where
  ms : List Mk
  obs : List (Nat × Int)
  cnt : Nat → Nat
def opN (L : List PT) (t i : Nat) : Option Int := (L[t]?).bind fun p => (p.ops[i]?).map (·.2.2)
def opLen (L : List PT) (t : Nat) : Nat := ((L[t]?).map (·.ops.length)).getD 0
def KC (K : Nat → Obj → Prop) (a : Addr) (v : Value) : Prop := ∃ o, K a.block o ∧ ∀ w : World, w.heap[a.block]? = some o → w.cell? a = some v
structure PlayM (mb : Nat) (K : Nat → Obj → Prop) (L : List PT) (s : PS) (E : Env) (w : World) : Prop where
  mbH : E.H mb = none
  kobj : ∀ b o, K b o → w.heap[b]? = some o ∧ E.H b = none ∧ b ≠ mb
  row : ∃ mv, w.heap[mb]? = some (.cells #[mv] 27) ∧ w.ownsRow (mb + 1) 37 4 mv s.ms.length (mksV s.ms) ∧ ∀ g, mv.ownBlock = some g → E.H g = none ∧ (∀ ob ∈ s.obs, ob.1 ≠ g) ∧ ∀ b o, K b o → b ≠ g
  obs : ∀ ob ∈ s.obs, ob.1 ≠ mb ∧ E.H ob.1 = none ∧ w.cell? ⟨ob.1, 2, none⟩ = some (.int .i64 ob.2)
  len : s.ms.length = sumTo L.length s.cnt
  cnt : ∀ t, s.cnt t ≤ opLen L t
theorem PlayM.konst {mb : Nat} {K : Nat → Obj → Prop} {L : List PT} {s : PS} {E : Env} {w : World} (m : PlayM mb K L s E w) (a : Addr) (v : Value) (h : KC K a v) : w.cell? a = some v ∧ E.H a.block = none ∧ a.block ≠ mb := by
  obtain ⟨o, h1, h2⟩ := h
  obtain ⟨k1, k2, k3⟩ := m.kobj _ _ h1
  exact ⟨h2 w k1, k2, k3⟩
def mark (s : PS) (t i : Nat) (k n : Int) : PS := { s with ms := s.ms ++ [((t : Int), k, (i : Int), n)], cnt := upd s.cnt t (i + 1) }
end Go.Proofs.Ytimlbbleblijnaa.Co

namespace Go.Proofs.Ytimlbbleblijnaa.Co
open Go Go.Conc
open Go.ConcN (sumTo upd sumTo_upd upd_ne upd_same sumTo_congr le_sumTo)
set_option linter.unusedVariables false
set_option linter.unusedSimpArgs false
theorem quiet_kept {E : Env} {w w' : World} {j : Nat} {gb : Option Nat} (hF : Far E.H E.W w w') (hfit : Fit E.H E.W w) {S : Nat → Prop} (hS : ∀ c, S c → E.H c = none) (hold : ∀ c, c < w.heap.size → ¬ S c → (vw E.H w').heap[c]? = (vw E.H w).heap[c]?) :
    Kept j gb E w E w' ∧ ∀ c, c < w.heap.size → ¬ S c → E.W c = false → w'.heap[c]? = w.heap[c]? := by
  obtain ⟨q1, q2⟩ := quiet_heap hF hfit
  refine ⟨⟨.refl j E, hF.size, fun b n hb hw _ hl => q1 b hl hw (hold b hl (fun z => by rw [hS b z] at hb; cases hb)), fun b hW x st sm e hx => q2 b hW (hold b (Array.getElem?_eq_some_iff.1 hx).1 (fun z => by have := hfit.sub b hW; rw [hS b z] at this; cases this)) x st sm e hx, fun _ _ h => .inl h, fun _ h => .inl h⟩, fun c hl hn hW => q1 c hl hW (hold c hl hn)⟩
structure RegsP (T : Array Value) (gb : Nat) (p : PT) (mb i : Nat) : Prop where
  sz : T.size = 27
  t0 : T[0]? = some (.pointer (some ⟨gb, 0, none⟩))
  t2 : T[2]? = some (.pointer (some ⟨mb, 0, none⟩))
  t3 : T[3]? = some (.pointer (some ⟨p.tb, 0, none⟩))
  t7 : T[7]? = some (.slice (some ⟨p.la, p.lo, none⟩) p.ops.length p.cap) ∨ p.ops = []
  t8 : T[8]? = some (.int .i64 (p.ops.length : Int))
  t9 : T[9]? = some (.int .i64 (i : Int))
section
variable {h rb mb t i b : Nat} {home : Goroutine → Prop} {k n : Int} {th : Th} {F : Machine → Trace → Prop} {E : Env} {w : World} {s : PS} {K : Nat → Obj → Prop} {L : List PT} {p : PT} {T : Array Value} {c : Frame} {cl : List Frame}
end
end Go.Proofs.Ytimlbbleblijnaa.Co

namespace Go.Proofs.Ytimlbbleblijnaa.Co
open Go Go.Conc
open Go.ConcN (sumTo upd sumTo_upd upd_ne upd_same sumTo_congr le_sumTo)
set_option linter.unusedVariables false
set_option linter.unusedSimpArgs false
structure PTok (K : Nat → Obj → Prop) (L : List PT) (t : Nat) (p : PT) : Prop where
  pt : L[t]? = some p
  kt : KC K ⟨p.tb, 0, none⟩ (.int .i64 (t : Int))
  kl : ∃ aa, KC K ⟨p.lb, 0, none⟩ (.slice aa p.ops.length p.cap) ∧ (p.ops ≠ [] → aa = some ⟨p.la, p.lo, none⟩)
  ops : ∀ i op, p.ops[i]? = some op → KC K ⟨p.la, p.lo + i * 3, none⟩ (.int .i64 op.1) ∧ KC K ⟨p.la, p.lo + i * 3 + 1, none⟩ (.int .i64 op.2.1) ∧ KC K ⟨p.la, p.lo + i * 3 + 2, none⟩ (.int .i64 op.2.2)
  len : p.ops.length ≤ 1000000000000
theorem PTok.n {K : Nat → Obj → Prop} {L : List PT} {t : Nat} {p : PT} (P : PTok K L t p) {i : Nat} {op : Int × Int × Int} (h : p.ops[i]? = some op) : opN L t i = some op.2.2 := by unfold opN; rw [P.pt]; simp [h]
section
variable {h rb mb t i b : Nat} {home : Goroutine → Prop} {k n : Int} {th : Th} {F : Machine → Trace → Prop} {E : Env} {w : World} {s : PS} {K : Nat → Obj → Prop} {L : List PT} {p : PT} {Tr : Array Value} {c : Frame} {cl : List Frame}
end
end Go.Proofs.Ytimlbbleblijnaa.Co

namespace Go.Proofs.Ytimlbbleblijnaa.Co
open Go Go.Conc
open Go.ConcN (sumTo upd sumTo_upd upd_ne upd_same sumTo_congr le_sumTo)
set_option linter.unusedVariables false
set_option linter.unusedSimpArgs false
section
variable {h rb mb t i b : Nat} {home : Goroutine → Prop} {k n : Int} {th : Th} {F : Machine → Trace → Prop} {E : Env} {w : World} {s : PS} {K : Nat → Obj → Prop} {L : List PT} {p : PT} {Tr : Array Value}
variable {b₀ : Frame} {a₀ : Act} {ops₀ : Array Oper} {i₀ : Nat} {rest₀ : List Nat} {k₀ : List Item} {cl : List Frame}
theorem RegsP.up {T' : Array Value} (R : RegsP Tr th.gb p mb i) (hs : T'.size = 27) (h : ∀ j, j < 14 → T'[j]? = Tr[j]?) : RegsP T' th.gb p mb i :=
  ⟨hs, (h 0 (by decide)).trans R.t0, (h 2 (by decide)).trans R.t2, (h 3 (by decide)).trans R.t3, R.t7.imp (fun z => (h 7 (by decide)).trans z) id, (h 8 (by decide)).trans R.t8, (h 9 (by decide)).trans R.t9⟩
end
end Go.Proofs.Ytimlbbleblijnaa.Co

namespace Go.Proofs.Ytimlbbleblijnaa.Co
open Go Go.Conc
set_option linter.unusedVariables false
set_option linter.unusedSimpArgs false
def nx (alive : Nat → Bool) (n : Nat) : Nat → Nat → Option Nat
  | 0, _ => none
  | m + 1, x => if alive x then some x else nx alive n m ((x + 1) % n)
theorem nx_snoc (alive : Nat → Bool) (n : Nat) : ∀ m x, x < n → nx alive n (m + 1) x = match nx alive n m x with
    | some t => some t
    | none => if alive ((x + m) % n) then some ((x + m) % n) else none
  | 0, x, hx => by simp [nx, Nat.mod_eq_of_lt hx]
  | m + 1, x, hx => by
    have hn : 0 < n := by omega
    rw [nx]
    cases ha : alive x with
    | true => simp [nx, ha]
    | false =>
      have ih := nx_snoc alive n m ((x + 1) % n) (Nat.mod_lt _ hn)
      simp only [Bool.false_eq_true, if_false]
      rw [ih]
      have e : ((x + 1) % n + m) % n = (x + (m + 1)) % n := by rw [Nat.mod_add_mod]; congr 1; omega
      rw [e]
      have e2 : nx alive n (m + 1) x = nx alive n m ((x + 1) % n) := by rw [nx, ha]; simp
      rw [e2]
theorem nx_skip {alive : Nat → Bool} {n x : Nat} (hx : x < n) (ha : alive x = false) : nx alive n n x = nx alive n n ((x + 1) % n) := by
  obtain ⟨m, rfl⟩ : ∃ m, n = m + 1 := ⟨n - 1, by omega⟩
  rw [nx_snoc alive (m + 1) m ((x + 1) % (m + 1)) (Nat.mod_lt _ (by omega))]
  have e : ((x + 1) % (m + 1) + m) % (m + 1) = x := by
    rw [Nat.mod_add_mod, show x + 1 + m = x + (m + 1) by omega, Nat.add_mod_right, Nat.mod_eq_of_lt hx]
  rw [e, ha, nx, ha]
  simp only [Bool.false_eq_true, if_false]
  cases nx alive (m + 1) m ((x + 1) % (m + 1)) <;> rfl
theorem nx_none {alive : Nat → Bool} {n : Nat} : ∀ {m x : Nat}, x < n → (∀ t, t < n → alive t = false) → nx alive n m x = none
  | 0, _, _, _ => rfl
  | m + 1, x, hx, h => by
    rw [nx, h x hx]
    simp only [Bool.false_eq_true, if_false]
    exact nx_none (Nat.mod_lt _ (by omega)) h
theorem nx_some {alive : Nat → Bool} {n t : Nat} : ∀ {m x : Nat}, x < n → nx alive n m x = some t → t < n ∧ alive t = true
  | 0, _, _, h => by cases h
  | m + 1, x, hx, h => by
    rw [nx] at h
    by_cases ha : alive x = true
    · rw [if_pos ha] at h
      cases h
      exact ⟨hx, ha⟩
    · rw [if_neg ha] at h
      exact nx_some (Nat.mod_lt _ (by omega)) h
structure Game (A : Type) where
  n : Nat
  alive : A → Nat → Bool
  pick : A → Nat → Int → A
section
variable {A : Type} (G : Game A)
def Game.pk (a : A × Int) (t : Nat) : A × Int := (if G.alive a.1 t then G.pick a.1 t (a.2 + 1) else a.1, a.2 + 1)
def Game.picks (a : A × Int) (l : List Int) : A × Int := l.foldl (fun a p => G.pk a (pickIx p G.n)) a
inductive Game.Drn : A × Int → Nat → A × Int → Prop
  | stop {a x} (h : nx (G.alive a.1) G.n G.n x = none) : Drn a x a
  | go {a x t z} (h : nx (G.alive a.1) G.n G.n x = some t) (d : Drn (G.pick a.1 t (a.2 + 1), a.2 + 1) ((t + 1) % G.n) z) : Drn a x z
def Game.Run (picks : List Int) (drain : Bool) (a : A) (z : A × Int) : Prop :=
  if G.n = 0 then z = (a, 0) else if drain then G.Drn (G.picks (a, 0) picks) 0 z else z = G.picks (a, 0) picks
variable {G}
theorem Game.Drn.ex (wt : A → Nat) (hw : ∀ a t k, t < G.n → G.alive a t = true → wt (G.pick a t k) < wt a) : ∀ (f : Nat) (a : A × Int) (x : Nat), x < G.n → wt a.1 < f → ∃ z, G.Drn a x z
  | 0, a, x, _, h => absurd h (by omega)
  | f + 1, a, x, hx, h => by
    cases e : nx (G.alive a.1) G.n G.n x with
    | none => exact ⟨a, .stop e⟩
    | some t =>
      obtain ⟨h1, h2⟩ := nx_some hx e
      have h3 := hw a.1 t (a.2 + 1) h1 h2
      obtain ⟨z, hz⟩ := Game.Drn.ex wt hw f (G.pick a.1 t (a.2 + 1), a.2 + 1) ((t + 1) % G.n) (Nat.mod_lt _ (by omega)) (by dsimp only; omega)
      exact ⟨z, .go e hz⟩
theorem Game.Run.ex (wt : A → Nat) (hw : ∀ a t k, t < G.n → G.alive a t = true → wt (G.pick a t k) < wt a) (picks : List Int) (drain : Bool) (a : A) : ∃ z, G.Run picks drain a z := by
  unfold Game.Run
  by_cases hn : G.n = 0
  · exact ⟨_, by rw [if_pos hn]⟩
  · simp only [if_neg hn]
    cases drain with
    | true =>
      simp only [if_true]
      exact Game.Drn.ex wt hw _ _ 0 (by omega) (Nat.lt_succ_self _)
    | false => exact ⟨G.picks (a, 0) picks, by simp⟩
theorem Game.Drn.skip {a z : A × Int} {x : Nat} (hx : x < G.n) (ha : G.alive a.1 x = false) (h : G.Drn a ((x + 1) % G.n) z) : G.Drn a x z := by
  have e := nx_skip hx ha
  cases h with
  | stop h => exact .stop (by rw [e]; exact h)
  | go h d => exact .go (by rw [e]; exact h) d
theorem Game.Drn.take {a z : A × Int} {x : Nat} (hx : x < G.n) (ha : G.alive a.1 x = true) (h : G.Drn (G.pick a.1 x (a.2 + 1), a.2 + 1) ((x + 1) % G.n) z) : G.Drn a x z := by
  refine .go ?_ h
  obtain ⟨m, e⟩ : ∃ m, G.n = m + 1 := ⟨G.n - 1, by omega⟩
  rw [e, nx, if_pos ha]
end
section
variable {σ Λ A : Type}
structure Sim (D : Prot σ Λ) (G : Game A) (R : RS σ Λ → A → Prop) : Prop where
  len : ∀ x a, R x a → x.1.length = G.n
  alive : ∀ x a, R x a → ∀ t, t < G.n → aliveB x.1[t]? = G.alive a t
  pick : ∀ x a x' t, R x a → t < G.n → aliveB x.1[t]? = true → PickR D t x x' → R x' (G.pick a t (x.2.2 + 1))
  idle : ∀ x a, R x a → R (x.1, x.2.1, x.2.2 + 1) a
variable {D : Prot σ Λ} {G : Game A} {R : RS σ Λ → A → Prop}
theorem pickR_dead {t : Nat} {x x' : RS σ Λ} (h : PickR D t x x') (ha : aliveB x.1[t]? = false) : x' = (x.1, x.2.1, x.2.2 + 1) := by
  unfold PickR at h
  cases e : x.1[t]? with
  | none => simpa [e] using h
  | some o =>
    cases o with
    | none => simpa [e] using h
    | some y => rw [e] at ha; cases ha
theorem pickR_other {t t' : Nat} {x x' : RS σ Λ} (h : PickR D t x x') (hne : t ≠ t') : x'.1[t']? = x.1[t']? := by
  unfold PickR at h
  split at h
  · obtain ⟨n, s', o, _, _, rfl⟩ := h
    simp [List.getElem?_set_ne hne]
  · rw [h]
theorem Sim.pk (S : Sim D G R) {x x' : RS σ Λ} {a : A} {t : Nat} (hr : R x a) (ht : t < G.n) (h : PickR D t x x') : R x' (G.pk (a, x.2.2) t).1 ∧ x'.2.2 = (G.pk (a, x.2.2) t).2 := by
  refine ⟨?_, pickR_k h⟩
  unfold Game.pk
  dsimp only
  cases e : aliveB x.1[t]? with
  | true =>
    rw [if_pos (by rw [← S.alive x a hr t ht]; exact e)]
    exact S.pick x a x' t hr ht e h
  | false =>
    rw [if_neg (by rw [← S.alive x a hr t ht, e]; simp), pickR_dead h e]
    exact S.idle x a hr
theorem Sim.picks (S : Sim D G R) {n : Nat} (hn : n = G.n) (hN : 0 < n) {l : List Int} {x x' : RS σ Λ} (h : PicksR D n l x x') : ∀ a, R x a → R x' (G.picks (a, x.2.2) l).1 ∧ x'.2.2 = (G.picks (a, x.2.2) l).2 := by
  induction h with
  | nil x => exact fun a hr => ⟨hr, rfl⟩
  | @cons p l x x' x'' h t ih =>
    intro a hr
    obtain ⟨h1, h2⟩ := S.pk hr (by rw [← hn]; exact pickIx_lt p hN) h
    obtain ⟨h3, h4⟩ := ih _ h1
    rw [h2] at h3 h4
    have e : G.picks (a, x.2.2) (p :: l) = G.picks ((G.pk (a, x.2.2) (pickIx p n)).1, (G.pk (a, x.2.2) (pickIx p n)).2) l := by
      unfold Game.picks
      rw [List.foldl_cons, ← hn]
    rw [e]
    exact ⟨h3, h4⟩
theorem Sim.turns (S : Sim D G R) {m : Nat} : ∀ {i : Nat} {y y' : RS σ Λ × Bool}, i + m = G.n → TurnsR D (List.range' i m) y y' → ∀ a, R y.1 a → (y.2 = false → ∀ t, t < i → aliveB y.1.1[t]? = false) →
    ∃ a', R y'.1 a' ∧ (y'.2 = false → ∀ t, t < G.n → aliveB y'.1.1[t]? = false) ∧ ∀ z, G.Drn (a', y'.1.2.2) 0 z → G.Drn (a, y.1.2.2) (i % G.n) z := by
  induction m with
  | zero =>
    intro i y y' hi h a hr hd
    cases h
    refine ⟨a, hr, fun e t ht => hd e t (by omega), fun z hz => ?_⟩
    have : i % G.n = 0 := by rw [show i = G.n by omega]; exact Nat.mod_self _
    rw [this]; exact hz
  | succ m ih =>
    intro i y y' hi h a hr hd
    rw [List.range'_succ] at h
    cases h with
    | @cons _ _ _ y1 _ h t =>
      have hin : i < G.n := by omega
      have hm : i % G.n = i := Nat.mod_eq_of_lt hin
      rcases h with ⟨ha, hp, hb⟩ | ⟨ha, rfl⟩
      · have hr1 := S.pick _ _ _ _ hr hin ha hp
        obtain ⟨a', r1, r2, r3⟩ := ih (by omega) t _ hr1 (fun e t' ht => by
          rw [hb, Bool.or_eq_false_iff] at e
          rcases Nat.lt_or_ge t' i with z | z
          · rw [pickR_other hp (by omega)]; exact hd e.1 t' z
          · rw [show t' = i by omega]; exact e.2)
        refine ⟨a', r1, r2, fun z hz => ?_⟩
        rw [hm]
        refine .take hin (by rw [← S.alive _ _ hr i hin]; exact ha) ?_
        have := r3 z hz
        rw [pickR_k hp] at this
        exact this
      · obtain ⟨a', r1, r2, r3⟩ := ih (by omega) t _ hr (fun e t' ht => by
          rcases Nat.lt_or_ge t' i with z | z
          · exact hd e t' z
          · rw [show t' = i by omega]; exact ha)
        refine ⟨a', r1, r2, fun z hz => ?_⟩
        rw [hm]
        exact .skip hin (by rw [← S.alive _ _ hr i hin]; exact ha) (r3 z hz)
theorem Sim.drain (S : Sim D G R) {n : Nat} (hn : n = G.n) (hN : 0 < n) {x x' : RS σ Λ} (h : DrainR D n x x') : ∀ a, R x a → ∃ a', R x' a' ∧ G.Drn (a, x.2.2) 0 (a', x'.2.2) := by
  subst hn
  have e0 : List.range G.n = List.range' 0 G.n := List.range_eq_range'
  induction h with
  | @last x y h e =>
    intro a hr
    unfold RoundR at h
    rw [e0] at h
    obtain ⟨a', r1, r2, r3⟩ := S.turns (by omega) h a hr (fun _ t ht => absurd ht (by omega))
    refine ⟨a', r1, ?_⟩
    have := r3 (a', y.1.2.2) (.stop (nx_none hN fun t ht => by rw [← S.alive _ _ r1 t ht]; exact r2 e t ht))
    rw [Nat.zero_mod] at this
    exact this
  | @more x y z h e t ih =>
    intro a hr
    unfold RoundR at h
    rw [e0] at h
    obtain ⟨a', r1, r2, r3⟩ := S.turns (by omega) h a hr (fun _ t ht => absurd ht (by omega))
    obtain ⟨a2, q1, q2⟩ := ih a' r1
    refine ⟨a2, q1, ?_⟩
    have := r3 _ q2
    rw [Nat.zero_mod] at this
    exact this
theorem Sim.run (S : Sim D G R) {bs : List (Body σ Λ)} {picks : List Int} {drain : Bool} {s : σ} {z : σ × Int} (hz : RunR D bs picks drain s z) (hn : bs.length = G.n) (a : A) (hst : ∀ x0, StartR bs ([], s) x0 → R (x0.1, x0.2, 0) a) (h0 : bs.length = 0 → R ([], s, 0) a) :
    ∃ a' st, R (st, z.1, z.2) a' ∧ G.Run picks drain a (a', z.2) := by
  unfold RunR at hz
  by_cases hb : bs.length = 0
  · rw [if_pos hb] at hz
    subst hz
    refine ⟨a, [], h0 hb, ?_⟩
    unfold Game.Run
    rw [if_pos (by omega)]
  · rw [if_neg hb] at hz
    obtain ⟨x0, x1, x2, z0, z1, z2, rfl⟩ := hz
    obtain ⟨p1, p2⟩ := S.picks hn (by omega) z1 a (hst x0 z0)
    have hn0 : ¬ G.n = 0 := by omega
    unfold Game.Run
    simp only [if_neg hn0]
    unfold DrainB at z2
    cases drain with
    | true =>
      simp only [if_true] at z2 ⊢
      obtain ⟨a', q1, q2⟩ := S.drain hn (by omega) z2 _ p1
      refine ⟨a', x2.1, q1, ?_⟩
      rw [p2] at q2
      exact q2
    | false =>
      simp only [Bool.false_eq_true, if_false] at z2 ⊢
      subst z2
      exact ⟨(G.picks (a, 0) picks).1, x2.1, p1, by rw [p2]⟩
#print axioms Sim.run
end
end Go.Proofs.Ytimlbbleblijnaa.Co
