/- Lemmas for the laws of this seat, laid together of PG9, PGa, PGb, PGc, PGd. -/
import Derived.Test.YtimlbbleblijnaaU01
import Derived.Conc.Own
import Derived.Calls
import Derived.Conc.Company

set_option linter.unusedVariables false
set_option linter.unusedSimpArgs false
namespace Go.Proofs.Ytimlbbleblijnaa.Co
open Go.Conc
def quietCode (P : Program) (F : FuncId → Bool) : Code → Bool
  | .skip | .ret | .exit _ | .label _ => true
  | .region _ ops _ => ops.toList.all fun o => quietOp P F o.op
  | .seq a b => quietCode P F a && quietCode P F b
  | .cond _ a b => quietCode P F a && quietCode P F b
  | .block _ c | .loop c | .scope c => quietCode P F c
  | _ => false
def quietItem (P : Program) (F : FuncId → Bool) : Item → Bool
  | .code c | .inLoop c | .inScope c => quietCode P F c
  | .inBlock _ => true
  | .inRegion ops _ => ops.toList.all fun o => quietOp P F o.op
  | _ => false
structure Closed (P : Program) (F : FuncId → Bool) : Prop where
  good : ∀ f, F f = true → GoodF P f
  body : ∀ f fn c, F f = true → P.funcs[f]? = some fn → fn.body = some c → quietCode P F c = true
structure QF (P : Program) (F : FuncId → Bool) (fr : Frame) : Prop where
  defers : fr.defers = []
  kind : fr.kind = .normal
  round : fr.roundOf = none
  todo : ∀ it ∈ fr.todo, quietItem P F it = true
structure QC (P : Program) (F : FuncId → Bool) (fr : Frame) : Prop extends QF P F fr where
  mode : fr.mode = .run
  busy : fr.todo ≠ []
def extFr (k : List Item) (fr : Frame) : Frame := { fr with todo := fr.todo ++ k }
def extFs (k : List Item) (base : List Frame) : List Frame → List Frame
  | [] => base
  | [b] => extFr k b :: base
  | f :: g :: fs => f :: extFs k base (g :: fs)
def Gx (k : List Item) (base : List Frame) (f : Frame) : List Frame → Goroutine
  | [] => G (extFr k f) base
  | g :: fs => G f (extFs k base (g :: fs))
def EvN (D : Nat → Option Nat) (n : Nat) (e : Event) : Prop := EvV D n e ∧ ∀ f, e.loc ≠ .mark (.extern f)
theorem EvN.mono {D : Nat → Option Nat} {n n' : Nat} {e : Event} (h : EvN D n e) (hn : n ≤ n') : EvN D n' e := ⟨h.1.mono hn, h.2⟩
theorem seen_ev {P : Program} {D : Nat → Option Nat} {n : Nat} {fn : FuncId} {es : Array Event} (h : ∀ e ∈ es, EvV D n e) : ∀ e ∈ seen P fn es, EvN D n e := by
  have key : ∀ (l : List Event) (q : Bool) (kept : Array Event), (∀ e ∈ l, EvV D n e) → (∀ e ∈ kept, EvN D n e) →
      ∀ e ∈ (l.foldl (fun (x : Bool × Array Event) e => match e.loc with
        | .mark (.extern f) => ((P.funcs[f]?).any (·.norace), x.2)
        | _ => (x.1, if x.1 && !e.sync then x.2 else x.2.push e)) (q, kept)).2, EvN D n e := by
    intro l
    induction l with
    | nil => intro q kept _ hk e he; exact hk e he
    | cons a l ih =>
      intro q kept hl hk
      simp only [List.foldl_cons]
      have ha := hl a (List.mem_cons_self ..)
      have hl' := fun e he => hl e (List.mem_cons_of_mem _ he)
      by_cases hx : ∃ f, a.loc = .mark (.extern f)
      · obtain ⟨f, hf⟩ := hx
        rw [hf]
        exact ih _ _ hl' hk
      · have hstep : (match a.loc with
            | .mark (.extern f) => ((P.funcs[f]?).any (·.norace), kept)
            | _ => (q, if q && !a.sync then kept else kept.push a)) = (q, if q && !a.sync then kept else kept.push a) := by
          split
          · rename_i f hf; exact absurd ⟨f, hf⟩ hx
          · rfl
        rw [hstep]
        refine ih _ _ hl' ?_
        split
        · exact hk
        · intro e he
          rcases Array.mem_push.1 he with he | rfl
          · exact hk e he
          · exact ⟨ha, fun f hf => hx ⟨f, hf⟩⟩
  intro e he
  dsimp only [seen] at he
  rw [← Array.foldl_toList] at he
  exact key es.toList _ _ (fun e he => h e (Array.mem_toList_iff.1 he)) (fun e he => by simp at he) e he
def StepR (P : Program) (F : FuncId → Bool) (D : Nat → Option Nat) (w : World) (f : Frame) (fs : List Frame) (s : GStep) : Prop :=
  match s with
  | .go g' v' _ => ∃ f' fs', g' = G f' fs' ∧ QF P F f' ∧ (∀ c ∈ fs', QC P F c) ∧ (∃ w', v' = vw D w' ∧ Keeps D w w' ∧ Fair (vw D w') ∧
      ∃ es', (∀ e ∈ es', EvN D w'.heap.size e) ∧ ∀ (k : List Item) (base : List Frame) (main : Bool), stepG P main (Gx k base f fs) w = .go (Gx k base f' fs') w' es') ∧
      v'.tape = w.tape ∧ w.drawn ≤ v'.drawn ∧ ∀ τ d, Agree (vw D w) v' τ d → ∃ es, stepG P true (G f fs) (rt (vw D w) τ d) = .go (G f' fs') (rt v' τ (d + (v'.drawn - w.drawn))) es
  | .ended .. => ∃ v' : World, w.drawn ≤ v'.drawn ∧ ∀ τ d, Agree (vw D w) v' τ d → ∃ o x es, stepG P true (G f fs) (rt (vw D w) τ d) = .ended o x es
  | _ => False
section
variable {P : Program} {F : FuncId → Bool} {D : Nat → Option Nat} {w : World}
theorem StepR.ctl {f f' : Frame} {fs : List Frame} (hf' : QF P F f') (hfs : ∀ c ∈ fs, QC P F c) (hfair : Fair (vw D w)) (h : ∀ main cs x, stepG P main (G f cs) x = .go (G f' cs) x)
    (hx : ∀ (k : List Item) main cs, stepG P main (G (extFr k f) cs) w = .go (G (extFr k f') cs) w) : StepR P F D w f fs (stepG P true (G f fs) (vw D w)) := by
  rw [h]
  refine ⟨f', fs, rfl, hf', hfs, ⟨w, rfl, Keeps.refl _ _, hfair, #[], fun e he => by simp at he, fun k base main => ?_⟩, rfl, Nat.le_refl _, fun τ d _ => ⟨#[], ?_⟩⟩
  · cases fs with
    | nil => exact hx k main base
    | cons g fs => exact h main _ w
  · rw [h]
    simp
theorem StepR.ends {f : Frame} {fs : List Frame} (h : ∀ x, ∃ a b c, stepG P true (G f fs) x = .ended a b c) : StepR P F D w f fs (stepG P true (G f fs) (vw D w)) := by
  obtain ⟨a, b, c, e⟩ := h (vw D w)
  rw [e]
  exact ⟨vw D w, Nat.le_refl _, fun τ d _ => h _⟩
theorem QF.step {f : Frame} {t : List Item} (h : QF P F f) (ht : ∀ it ∈ t, quietItem P F it = true) : QF P F { f with todo := t } := ⟨h.defers, h.kind, h.round, ht⟩
theorem exitTo_app {id : Nat} : ∀ {t t' k : List Item}, exitTo id t = some t' → exitTo id (t ++ k) = some (t' ++ k)
  | [], _, _, h => by cases h
  | .inBlock id' :: t, t', k, h => by
    simp only [exitTo, List.cons_append] at h ⊢
    split at h
    · rename_i e; rw [if_pos e]; cases h; rfl
    · rename_i e; rw [if_neg e]; exact exitTo_app h
  | .code c :: t, t', k, h => by simp only [exitTo, List.cons_append] at h ⊢; exact exitTo_app h
  | .inLoop c :: t, t', k, h => by simp only [exitTo, List.cons_append] at h ⊢; exact exitTo_app h
  | .inScope c :: t, t', k, h => by simp only [exitTo, List.cons_append] at h ⊢; exact exitTo_app h
  | .inRegion o l :: t, t', k, h => by simp only [exitTo, List.cons_append] at h ⊢; exact exitTo_app h
  | .inRangeFunc o :: t, t', k, h => by simp only [exitTo, List.cons_append] at h ⊢; exact exitTo_app h
  | .endRangeFunc o :: t, t', k, h => by simp only [exitTo, List.cons_append] at h ⊢; exact exitTo_app h
  | .beginRound :: t, t', k, h => by simp only [exitTo, List.cons_append] at h ⊢; exact exitTo_app h
  | .call a b c d :: t, t', k, h => by simp only [exitTo, List.cons_append] at h ⊢; exact exitTo_app h
  | .extern a b :: t, t', k, h => by simp only [exitTo, List.cons_append] at h ⊢; exact exitTo_app h
theorem exitTo_mem {id : Nat} : ∀ {t t' : List Item}, exitTo id t = some t' → ∀ it ∈ t', it ∈ t
  | [], _, h => by cases h
  | .inBlock id' :: t, t', h => by
    simp only [exitTo] at h
    split at h
    · cases h; exact fun it hi => List.mem_cons_of_mem _ hi
    · exact fun it hi => List.mem_cons_of_mem _ (exitTo_mem h it hi)
  | .code c :: t, t', h => by simp only [exitTo] at h; exact fun it hi => List.mem_cons_of_mem _ (exitTo_mem h it hi)
  | .inLoop c :: t, t', h => by simp only [exitTo] at h; exact fun it hi => List.mem_cons_of_mem _ (exitTo_mem h it hi)
  | .inScope c :: t, t', h => by simp only [exitTo] at h; exact fun it hi => List.mem_cons_of_mem _ (exitTo_mem h it hi)
  | .inRegion o l :: t, t', h => by simp only [exitTo] at h; exact fun it hi => List.mem_cons_of_mem _ (exitTo_mem h it hi)
  | .inRangeFunc o :: t, t', h => by simp only [exitTo] at h; exact fun it hi => List.mem_cons_of_mem _ (exitTo_mem h it hi)
  | .endRangeFunc o :: t, t', h => by simp only [exitTo] at h; exact fun it hi => List.mem_cons_of_mem _ (exitTo_mem h it hi)
  | .beginRound :: t, t', h => by simp only [exitTo] at h; exact fun it hi => List.mem_cons_of_mem _ (exitTo_mem h it hi)
  | .call a b c d :: t, t', h => by simp only [exitTo] at h; exact fun it hi => List.mem_cons_of_mem _ (exitTo_mem h it hi)
  | .extern a b :: t, t', h => by simp only [exitTo] at h; exact fun it hi => List.mem_cons_of_mem _ (exitTo_mem h it hi)
theorem stepG_run {fr : Frame} {cs : List Frame} (hm : fr.mode = .run) (main : Bool) (x : World) : stepG P main (G fr cs) x = stepG.exec P main true fr cs none x := by
  unfold stepG G
  simp only [hm]
end
section
variable {P : Program} {F : FuncId → Bool} {D : Nat → Option Nat} {w : World}
theorem StepR.to {f : Frame} {fs : List Frame} {it : Item} {t t' : List Item} (hm : f.mode = .run) (ht : f.todo = it :: t) (hf : QF P F f) (hfs : ∀ c ∈ fs, QC P F c) (hfair : Fair (vw D w)) (hq : ∀ i ∈ t', quietItem P F i = true)
    (h : ∀ (fr : Frame) (k : List Item) main cs x, fr.tmps = f.tmps → fr.todo = it :: (t ++ k) → fr.roundOf = none → stepG.exec P main true fr cs none x = .go { frame := { fr with todo := t' ++ k }, callers := cs, status := .running, dying := none } x) :
    StepR P F D w f fs (stepG P true (G f fs) (vw D w)) := by
  have hg : ∀ k main cs x, stepG P main (G (extFr k f) cs) x = .go (G (extFr k { f with todo := t' }) cs) x := fun k main cs x => by
    rw [stepG_run (fr := extFr k f) hm]
    exact h _ k main cs x rfl (by simp [extFr, ht]) hf.round
  have hg0 : ∀ main cs x, stepG P main (G f cs) x = .go (G { f with todo := t' } cs) x := fun main cs x => by
    have e : extFr [] f = f := by unfold extFr; rw [List.append_nil]
    have e2 : extFr [] { f with todo := t' } = { f with todo := t' } := by simp [extFr]
    have := hg [] main cs x
    rwa [e, e2] at this
  exact StepR.ctl (hf.step hq) hfs hfair hg0 (fun k main cs => hg k main cs _)
theorem quiet_tail {f : Frame} {it : Item} {t : List Item} (hf : QF P F f) (ht : f.todo = it :: t) : ∀ i ∈ t, quietItem P F i = true := fun i hi => hf.todo i (by rw [ht]; exact List.mem_cons_of_mem _ hi)
theorem eval_same {f fr : Frame} (h : fr.tmps = f.tmps) : fr.eval = f.eval := by
  funext x
  cases x <;> simp [Frame.eval, h]
theorem quiet_code {f : Frame} {fs : List Frame} {c : Code} {t : List Item} (hm : f.mode = .run) (ht : f.todo = .code c :: t) (hf : QF P F f) (hfs : ∀ c ∈ fs, QC P F c) (hfair : Fair (vw D w)) (hb : Bounded D w) (hH : Hides D w) :
    StepR P F D w f fs (stepG P true (G f fs) (vw D w)) := by
  have hc : quietCode P F c = true := hf.todo (.code c) (by rw [ht]; exact List.mem_cons_self ..)
  have htl := quiet_tail hf ht
  have hcons : ∀ {i : Item} {l : List Item}, quietItem P F i = true → (∀ j ∈ l, quietItem P F j = true) → ∀ j ∈ i :: l, quietItem P F j = true := fun h1 h2 j hj => (List.mem_cons.1 hj).elim (fun e => e ▸ h1) (h2 j)
  cases c with
  | skip => exact StepR.to hm ht hf hfs hfair (t' := t) htl (fun fr k main cs x h1 h2 h3 => by simp [stepG.exec, h2])
  | label l => exact StepR.to hm ht hf hfs hfair (t' := t) htl (fun fr k main cs x h1 h2 h3 => by simp [stepG.exec, h2])
  | seq a b =>
    simp only [quietCode, Bool.and_eq_true] at hc
    exact StepR.to hm ht hf hfs hfair (t' := .code a :: .code b :: t) (hcons hc.1 (hcons hc.2 htl)) (fun fr k main cs x h1 h2 h3 => by simp [stepG.exec, h2])
  | cond o a b =>
    simp only [quietCode, Bool.and_eq_true] at hc
    by_cases hv : ∃ bb, f.eval o = .bool bb
    · obtain ⟨bb, hv⟩ := hv
      refine StepR.to hm ht hf hfs hfair (t' := .code (if bb then a else b) :: t) (hcons (by cases bb; exact hc.2; exact hc.1) htl) (fun fr k main cs x h1 h2 h3 => ?_)
      have hv' : fr.eval o = .bool bb := by rw [eval_same h1]; exact hv
      simp [stepG.exec, h2, hv']
    · refine StepR.ends fun x => ?_
      rw [stepG_run hm]
      simp only [stepG.exec, ht]
      split
      · rename_i bb h; exact absurd ⟨bb, h⟩ hv
      · exact ⟨_, _, _, rfl⟩
  | block id c => exact StepR.to hm ht hf hfs hfair (t' := .code c :: .inBlock id :: t) (hcons hc (hcons rfl htl)) (fun fr k main cs x h1 h2 h3 => by simp [stepG.exec, h2])
  | loop c => exact StepR.to hm ht hf hfs hfair (t' := .code c :: .inLoop c :: t) (hcons hc (hcons hc htl)) (fun fr k main cs x h1 h2 h3 => by simp [stepG.exec, h2])
  | scope c => exact StepR.to hm ht hf hfs hfair (t' := .code c :: .inScope c :: t) (hcons hc (hcons hc htl)) (fun fr k main cs x h1 h2 h3 => by simp [stepG.exec, h2])
  | exit id =>
    cases he : exitTo id t with
    | some t' => exact StepR.to hm ht hf hfs hfair (t' := t') (fun i hi => htl i (exitTo_mem he i hi)) (fun fr k main cs x h1 h2 h3 => by simp [stepG.exec, h2, exitTo_app (k := k) he])
    | none =>
      refine StepR.ends fun x => ?_
      rw [stepG_run hm]
      simp only [stepG.exec, ht, he, Option.elim_none, hf.round]
      exact ⟨_, _, _, rfl⟩
  | ret =>
    have hg : ∀ (fr : Frame) main cs x, fr.mode = .run → (∃ l, fr.todo = .code .ret :: l) → fr.roundOf = none → stepG P main (G fr cs) x = .go (G { fr with mode := .returning } cs) x := fun fr main cs x h1 ⟨l, h2⟩ h3 => by
      rw [stepG_run h1]
      simp [stepG.exec, h2, h3, G]
    refine StepR.ctl (f' := { f with mode := .returning }) ⟨hf.defers, hf.kind, hf.round, hf.todo⟩ hfs hfair (fun main cs x => hg f main cs x hm ⟨t, ht⟩ hf.round) (fun k main cs => hg (extFr k f) main cs _ hm ⟨t ++ k, by simp [extFr, ht]⟩ hf.round)
  | region id ops draw =>
    cases draw with
    | false => exact StepR.to hm ht hf hfs hfair (t' := .inRegion ops (List.range ops.size) :: t) (hcons hc htl) (fun fr k main cs x h1 h2 h3 => by simp [stepG.exec, h2])
    | true =>
      have hg : ∀ (fr : Frame) (l : List Item) main cs x, fr.mode = .run → fr.fn = f.fn → fr.todo = .code (.region id ops true) :: l →
          stepG P main (G fr cs) x = .go (G { fr with todo := .inRegion ops (Region.schedule (P.follows .mixedOrders) ops (x.tape x.drawn (.order f.fn id))) :: l } cs) { x with drawn := x.drawn + 1 } := fun fr l main cs x h1 hfn h2 => by
        rw [stepG_run h1]
        simp [stepG.exec, h2, choose, Sem.run, Question.forced, Question.cut, G, hfn]
      rw [hg f t true fs (vw D w) hm rfl ht]
      refine ⟨_, fs, rfl, hf.step (hcons hc htl), hfs, ⟨{ w with drawn := w.drawn + 1 }, rfl, Keeps.drawn _, hfair, #[], fun e he => by simp at he, fun k base main => ?_⟩, rfl, Nat.le_succ _, fun τ d ha => ⟨#[], ?_⟩⟩
      · cases fs with
        | nil => exact hg (extFr k f) (t ++ k) main base w hm rfl (by simp [extFr, ht])
        | cons g fs => exact hg f t main _ w hm rfl ht
      · have h0 : τ d = w.tape w.drawn := by have := ha 0 (by show w.drawn + 0 < w.drawn + 1; omega); simpa using this
        rw [hg f t true fs (rt (vw D w) τ d) hm rfl ht]
        have e1 : d + ((w.drawn + 1) - w.drawn) = d + 1 := by omega
        simp only [rt_tape, rt_drawn, h0, vw_tape, vw_drawn, e1]
        rfl
  | rangeFunc a b c d => cases hc
  | goto l => cases hc
  | refuse s => cases hc
end
section
variable {P : Program} {F : FuncId → Bool} {D : Nat → Option Nat} {w : World}
theorem extFr_finish {fr : Frame} {k : List Item} (v : Value) (h : fr.todo ≠ []) : (extFr k fr).finish v = extFr k (fr.finish v) := by
  obtain ⟨fn, tmps, todo, defers, mode, kind, ro⟩ := fr
  cases todo with
  | nil => exact absurd rfl h
  | cons it t =>
    cases it with
    | inRegion ops l => cases l <;> rfl
    | _ => rfl
theorem QF.finish {fr : Frame} (h : QF P F fr) (v : Value) : QF P F (fr.finish v) := by
  obtain ⟨fn, tmps, todo, defers, mode, kind, ro⟩ := fr
  cases todo with
  | nil => exact h
  | cons it t =>
    cases it with
    | inRegion ops l =>
      cases l with
      | nil => exact h
      | cons i l => exact ⟨h.defers, h.kind, h.round, fun x hx => by
          rcases List.mem_cons.1 hx with rfl | hx
          · exact h.todo (.inRegion ops (i :: l)) (List.mem_cons_self ..)
          · exact h.todo x (List.mem_cons_of_mem _ hx)⟩
    | inBlock => exact h
    | code => exact h
    | inLoop => exact h
    | inScope => exact h
    | inRangeFunc l => have := h.todo _ (List.mem_cons_self ..); cases this
    | endRangeFunc l => have := h.todo _ (List.mem_cons_self ..); cases this
    | beginRound => have := h.todo _ (List.mem_cons_self ..); cases this
    | call => have := h.todo _ (List.mem_cons_self ..); cases this
    | extern => have := h.todo _ (List.mem_cons_self ..); cases this
theorem QF.raise {fr : Frame} (h : QF P F fr) (l : List PanicEntry) : QF P F (fr.raise l) := by
  unfold Frame.raise
  split <;> exact ⟨h.defers, h.kind, h.round, h.todo⟩
theorem extFr_raise {fr : Frame} {k : List Item} (l : List PanicEntry) : (extFr k fr).raise l = extFr k (fr.raise l) := by
  obtain ⟨fn, tmps, todo, defers, mode, kind, ro⟩ := fr
  cases mode <;> rfl
theorem QC.of {fr : Frame} (h : QC P F fr) : QF P F fr := h.toQF
section apply
variable {fr : Frame} {cs : List Frame} {s : Sem Next} {x x' : World} {es : Array Event}
theorem apply_value {v : Value} (h : s.runT P x #[] = (.ok (.value v) x', es)) (hk : fr.kind = .normal) : stepG.apply P true fr cs none s x = .go (G (fr.finish v) cs) x' (seen P fr.fn es) := by
  unfold stepG.apply
  simp only [h, if_true, hk]
  simp [GStep.after, G]
theorem apply_skip (h : s.runT P x #[] = (.ok .skip x', es)) (hk : fr.kind = .normal) : stepG.apply P true fr cs none s x = .go (G (fr.finish undef) cs) x' (seen P fr.fn es) := by
  unfold stepG.apply
  simp only [h, if_true, hk]
  simp [GStep.after, G]
theorem apply_enter {f : FuncId} {args : Array Value} (h : s.runT P x #[] = (.ok (.enter f args) x', es)) (hk : fr.kind = .normal) (ht : ∀ d b r s t, fr.todo ≠ .call d b r s :: t) : stepG.apply P true fr cs none s x = .go (G (Frame.enter P f args .normal) (fr :: cs)) x' (seen P fr.fn es) := by
  unfold stepG.apply
  simp only [h, if_true, hk]
  simp [GStep.after, G]
  split
  · rename_i h; exact absurd h (ht _ _ _ _ _)
  · rfl
theorem apply_panic {v : Value} (h : s.runT P x #[] = (.halt (.panic v) x', es)) (hk : fr.kind = .normal) : stepG.apply P true fr cs none s x = .go (G (fr.raise [{ v, recovered := false }]) cs) x' (seen P fr.fn es) := by
  unfold stepG.apply
  simp only [h, if_true, hk]
  simp [GStep.after, G]
theorem apply_final {y : Halt} (h : s.runT P x #[] = (.halt y x', es)) (hf : y.final = true) (hk : fr.kind = .normal) : ∃ a b c, stepG.apply P true fr cs none s x = .ended a b c := by
  unfold stepG.apply
  simp only [h, if_true, hk]
  cases y with
  | unsupported u =>
    cases u with
    | initOrder g => cases hf
    | _ => simp [GStep.after]
  | stuck => simp [GStep.after]
  | _ => cases hf
end apply
theorem at_self {fr : Frame} {it : List Item} (h1 : fr.mode = .run) (h2 : fr.todo = it) (h3 : fr.roundOf = none) : fr = fr.at ⟨fr.tmps, fr.defers⟩ it := by
  obtain ⟨fn, tmps, todo, defers, mode, kind, ro⟩ := fr
  simp only at h1 h2 h3
  subst h1 h2 h3
  rfl
theorem step_wanted {fr : Frame} {ops : Array Oper} {i : Nat} {l : List Nat} {t : List Item} {o : Oper} (h1 : fr.mode = .run) (h2 : fr.todo = .inRegion ops (i :: l) :: t) (h3 : fr.roundOf = none) (ho : ops[i]? = some o) (hw : Region.wanted o (yielded ops fr.tmps) = true) (main : Bool) (cs : List Frame) (x : World) :
    stepG P main (G fr cs) x = stepG.apply P true fr cs none (execOp fr.eval o) x := by
  have e := at_self h1 h2 h3
  have := stepG_oper (P := P) (main := main) (b := fr) (a := ⟨fr.tmps, fr.defers⟩) (k := t) (cs := cs) (w := x) (rest := l) ho hw
  rw [← e] at this
  rw [this]
  congr 2
theorem step_unwanted {fr : Frame} {ops : Array Oper} {i : Nat} {l : List Nat} {t : List Item} (h1 : fr.mode = .run) (h2 : fr.todo = .inRegion ops (i :: l) :: t) (hw : ((ops[i]?).map (Region.wanted · (yielded ops fr.tmps))).getD false = false) (main : Bool) (cs : List Frame) (x : World) :
    stepG P main (G fr cs) x = .go (G (fr.finish undef) cs) x := by
  rw [stepG_run h1]
  simp [stepG.exec, h2, hw, G]
theorem closed_enter (hC : Closed P F) {f : FuncId} {args : Array Value} (hF : F f = true) (hb : ∃ fn, P.funcs[f]? = some fn ∧ fn.body.isSome = true) : QF P F (Frame.enter P f args .normal) := by
  obtain ⟨fn, hf, hb⟩ := hb
  refine ⟨rfl, rfl, rfl, fun it hi => ?_⟩
  simp only [Frame.enter, hf, Option.bind_some, List.mem_singleton] at hi
  subst hi
  cases hc : fn.body with
  | none => rw [hc] at hb; cases hb
  | some c => exact hC.body f fn c hF hf hc
theorem quiet_oper (hC : Closed P F) {f : Frame} {fs : List Frame} {ops : Array Oper} {i : Nat} {l : List Nat} {t : List Item} (hm : f.mode = .run) (ht : f.todo = .inRegion ops (i :: l) :: t) (hf : QF P F f) (hfs : ∀ c ∈ fs, QC P F c) (hfair : Fair (vw D w)) (hb : Bounded D w) (hH : Hides D w) :
    StepR P F D w f fs (stepG P true (G f fs) (vw D w)) := by
  have hops : (ops.toList.all fun o => quietOp P F o.op) = true := hf.todo (.inRegion ops (i :: l)) (by rw [ht]; exact List.mem_cons_self ..)
  have hne : f.todo ≠ [] := by rw [ht]; simp
  cases hw : ((ops[i]?).map (Region.wanted · (yielded ops f.tmps))).getD false with
  | true =>
    obtain ⟨o, ho⟩ : ∃ o, ops[i]? = some o := by
      cases h : ops[i]? with
      | none => rw [h] at hw; cases hw
      | some o => exact ⟨o, rfl⟩
    have hw' : Region.wanted o (yielded ops f.tmps) = true := by simpa [ho] using hw
    have hq : quietOp P F o.op = true := by
      simp only [List.all_eq_true] at hops
      exact hops o (Array.mem_toList_iff.2 (Array.mem_of_getElem? ho))
    have hQ := qt_execOp (P := P) (F := F) (o := o) hq hC.good f.eval (fun f => rfl) (fun v => rfl)
    have hS := run_vw (D := D) (execOp f.eval o) [] w #[] #[] (hQ.1 []) (fun r hr => by cases hr) hfair hb hH
    have hv := step_wanted (P := P) hm ht hf.round ho hw' true fs (vw D w)
    have hx : ∀ (k : List Item) (main : Bool) (cs : List Frame), stepG P main (G (extFr k f) cs) w = stepG.apply P true (extFr k f) cs none (execOp f.eval o) w := fun k main cs => by
      have := step_wanted (P := P) (fr := extFr k f) (l := l) (t := t ++ k) hm (by simp [extFr, ht]) hf.round ho hw' main cs w
      rw [this, eval_same (fr := extFr k f) (f := f) rfl]
    have hx0 : ∀ (main : Bool) (cs : List Frame), stepG P main (G f cs) w = stepG.apply P true f cs none (execOp f.eval o) w := fun main cs => step_wanted (P := P) hm ht hf.round ho hw' main cs w
    obtain ⟨t1, t2, t3⟩ := runT_rt (P := P) (execOp f.eval o) [] (vw D w) #[] (hQ.1 []) hfair
    have hrt : ∀ τ d, stepG P true (G f fs) (rt (vw D w) τ d) = stepG.apply P true f fs none (execOp f.eval o) (rt (vw D w) τ d) := fun τ d => step_wanted (P := P) hm ht hf.round ho hw' true fs _
    rw [hv]
    cases hr : (execOp f.eval o).runT P (vw D w) #[] with
    | mk r esv =>
      rw [hr] at hS t1 t2 t3
      cases r with
      | ok n v' =>
        obtain ⟨w', new, e1, e2, hK, hF', hev⟩ := hS
        rw [Array.empty_append] at e1
        have hn := hQ.2.run _ e1
        have hseen := seen_ev (P := P) (fn := f.fn) hev
        cases n with
        | value v =>
          rw [apply_value hr hf.kind]
          refine ⟨_, fs, rfl, hf.finish v, hfs, ⟨w', e2, hK, hF', _, hseen, fun k base main => ?_⟩, t1, t2, fun τ d ha => ?_⟩
          · cases fs with
            | nil => show stepG P main (G (extFr k f) base) w = _; rw [hx, apply_value (fr := extFr k f) e1 hf.kind, extFr_finish v hne]; rfl
            | cons g fs => show stepG P main (G f _) w = _; rw [hx0, apply_value e1 hf.kind]; rfl
          · rw [hrt, apply_value (t3 τ d ha) hf.kind]
            exact ⟨_, rfl⟩
        | skip =>
          rw [apply_skip hr hf.kind]
          refine ⟨_, fs, rfl, hf.finish undef, hfs, ⟨w', e2, hK, hF', _, hseen, fun k base main => ?_⟩, t1, t2, fun τ d ha => ?_⟩
          · cases fs with
            | nil => show stepG P main (G (extFr k f) base) w = _; rw [hx, apply_skip (fr := extFr k f) e1 hf.kind, extFr_finish undef hne]; rfl
            | cons g fs => show stepG P main (G f _) w = _; rw [hx0, apply_skip e1 hf.kind]; rfl
          · rw [hrt, apply_skip (t3 τ d ha) hf.kind]
            exact ⟨_, rfl⟩
        | enter g args =>
          have hcall : ∀ (k : List Item) d b r s t', (extFr k f).todo ≠ .call d b r s :: t' := fun k d b r s t' e => by simp [extFr, ht] at e
          have hcall0 : ∀ d b r s t', f.todo ≠ .call d b r s :: t' := fun d b r s t' e => by rw [ht] at e; cases e
          rw [apply_enter hr hf.kind hcall0]
          refine ⟨_, f :: fs, rfl, closed_enter hC hn.1 hn.2, fun c hc => (List.mem_cons.1 hc).elim (fun e => e ▸ ⟨hf, hm, hne⟩) (hfs c), ⟨w', e2, hK, hF', _, hseen, fun k base main => ?_⟩, t1, t2, fun τ d ha => ?_⟩
          · cases fs with
            | nil => show stepG P main (G (extFr k f) base) w = _; rw [hx, apply_enter (fr := extFr k f) e1 hf.kind (hcall k)]; rfl
            | cons g fs => show stepG P main (G f _) w = _; rw [hx0, apply_enter e1 hf.kind hcall0]; rfl
          · rw [hrt, apply_enter (t3 τ d ha) hf.kind hcall0]
            exact ⟨_, rfl⟩
        | _ => exact hn.elim
      | halt y v' =>
        by_cases hy : y.final = true
        · obtain ⟨a, b, c, e⟩ := apply_final (fr := f) (cs := fs) hr hy hf.kind
          rw [e]
          refine ⟨v', t2, fun τ d ha => ?_⟩
          rw [hrt]
          rcases t3 τ d ha with ⟨_, y', x', hy1, hy2⟩ | hy1
          · cases hq : (execOp f.eval o).runT P (rt (vw D w) τ d) #[] with
            | mk r2 es2 =>
              rw [hq] at hy1
              simp only at hy1
              subst hy1
              exact apply_final hq hy2 hf.kind
          · exact apply_final hy1 hy hf.kind
        · obtain ⟨hfairY, hS⟩ := hS
          obtain ⟨w', new, e1, e2, hK, hF', hev⟩ := hS (by simpa using hy)
          rw [Array.empty_append] at e1
          have hseen := seen_ev (P := P) (fn := f.fn) hev
          cases y with
          | panic v =>
            rw [apply_panic hr hf.kind]
            refine ⟨_, fs, rfl, hf.raise _, hfs, ⟨w', e2, hK, hF', _, hseen, fun k base main => ?_⟩, t1, t2, fun τ d ha => ?_⟩
            · cases fs with
              | nil => show stepG P main (G (extFr k f) base) w = _; rw [hx, apply_panic (fr := extFr k f) e1 hf.kind, extFr_raise]; rfl
              | cons g fs => show stepG P main (G f _) w = _; rw [hx0, apply_panic e1 hf.kind]; rfl
            · rcases t3 τ d ha with ⟨hx1, _⟩ | hy1
              · cases hx1
              · rw [hrt, apply_panic hy1 hf.kind]
                exact ⟨_, rfl⟩
          | _ => exact absurd hfairY (by first | exact hy | (intro h; cases h))
  | false =>
    have hg := fun main cs x => step_unwanted (P := P) hm ht hw main cs x
    exact StepR.ctl (hf.finish undef) hfs hfair hg (fun k main cs => by
      rw [step_unwanted (P := P) (fr := extFr k f) (l := l) (t := t ++ k) hm (by simp [extFr, ht]) hw, extFr_finish undef hne])
end
section
variable {P : Program} {F : FuncId → Bool} {D : Nat → Option Nat} {w : World}
theorem ca_results (fn : Func) (tmps : Array Value) : CalmA P (results fn tmps) := by
  unfold results
  refine ca_bind (ca_mapM _ (fun r => ?_) _) fun _ => ca_pure _
  cases r with
  | tmp t => exact ca_pure _
  | cell a t => exact ca_bind (ca_asAddr _) fun _ => ca_loadVar _ _
theorem stepG_unwind {fr : Frame} {cs : List Frame} (hm : fr.mode ≠ .run) (main : Bool) (x : World) : stepG P main (G fr cs) x = unwind P main fr cs none x := by
  unfold stepG G
  obtain ⟨fn, tmps, todo, defers, mode, kind, ro⟩ := fr
  cases mode with
  | run => exact absurd rfl hm
  | _ => rfl
theorem Gx_finish {k : List Item} {base : List Frame} {c : Frame} {fs : List Frame} (v : Value) (hc : c.todo ≠ []) (main : Bool) :
    ∀ f : Frame, ∃ top rest, Gx k base f (c :: fs) = G f (top :: rest) ∧ Gx k base (c.finish v) fs = G (top.finish v) rest ∧ (∀ l, Gx k base (c.raise l) fs = G (top.raise l) rest) := by
  intro f
  cases fs with
  | nil => exact ⟨extFr k c, base, rfl, by show G (extFr k (c.finish v)) base = _; rw [extFr_finish v hc], fun l => by show G (extFr k (c.raise l)) base = _; rw [extFr_raise]⟩
  | cons g fs => exact ⟨c, extFs k base (g :: fs), rfl, rfl, fun l => rfl⟩
theorem doReturn_go (main : Bool) (fr c : Frame) (rest : List Frame) (v : Value) (x : World) (hk : fr.kind = .normal) : doReturn P main fr (c :: rest) none v x = .go (G (c.finish v) rest) x := by
  unfold doReturn
  simp only [hk]
  rfl
theorem quiet_return {f c : Frame} {fs : List Frame} (hm : f.mode = .returning) (hf : QF P F f) (hc : QC P F c) (hfs : ∀ c ∈ fs, QC P F c) (hfair : Fair (vw D w)) (hb : Bounded D w) (hH : Hides D w) :
    StepR P F D w f (c :: fs) (stepG P true (G f (c :: fs)) (vw D w)) := by
  have hnr : f.mode ≠ .run := by rw [hm]; simp
  rw [stepG_unwind hnr]
  cases hfn : P.funcs[f.fn]? with
  | none =>
    have hu : ∀ main cs x, unwind P main f cs none x = doReturn P main f cs none (f.tmps.getD 0 undef) x := fun main cs x => by
      unfold unwind; simp only [hf.defers, hm, hfn]
    rw [hu, doReturn_go _ _ _ _ _ _ hf.kind]
    refine ⟨_, fs, rfl, hc.toQF.finish _, hfs, ⟨w, rfl, Keeps.refl _ _, hfair, #[], fun e he => by simp at he, fun k base main => ?_⟩, rfl, Nat.le_refl _, fun τ d _ => ⟨#[], ?_⟩⟩
    · obtain ⟨top, rest, e1, e2, _⟩ := Gx_finish (k := k) (base := base) (fs := fs) (f.tmps.getD 0 undef) hc.busy main f
      rw [e1, e2, stepG_unwind hnr, hu, doReturn_go _ _ _ _ _ _ hf.kind]
    · rw [stepG_unwind hnr, hu, doReturn_go _ _ _ _ _ _ hf.kind]
      simp
  | some fn =>
    have hS := run_vw (P := P) (D := D) (results fn f.tmps) [] w #[] #[] (ca_results fn f.tmps []) (fun r hr => by cases hr) hfair hb hH
    have hu : ∀ main cs x, unwind P main f cs none x = GStep.after (seen P f.fn ((results fn f.tmps).runT P x #[]).2) (match ((results fn f.tmps).runT P x #[]).1 with
        | .ok v w => doReturn P main f cs none v w
        | .halt (.stuck s) w => .ended (.stuck s (f.pos P)) w
        | .halt _ w => .ended (.stuck "return: the result variables cannot be read" (f.pos P)) w) := fun main cs x => by
      unfold unwind
      simp only [hf.defers, hm, hfn]
      generalize (results fn f.tmps).runT P x #[] = q
      obtain ⟨r, es⟩ := q
      cases r with
      | ok v x' => rfl
      | halt y x' => cases y <;> rfl
    obtain ⟨t1, t2, t3⟩ := runT_rt (P := P) (results fn f.tmps) [] (vw D w) #[] (ca_results fn f.tmps []) hfair
    have hrt : ∀ τ d, stepG P true (G f (c :: fs)) (rt (vw D w) τ d) = unwind P true f (c :: fs) none (rt (vw D w) τ d) := fun τ d => stepG_unwind hnr true _
    rw [hu]
    cases hr : (results fn f.tmps).runT P (vw D w) #[] with
    | mk r esv =>
      rw [hr] at hS t1 t2 t3
      cases r with
      | ok v v' =>
        obtain ⟨w', new, e1, e2, hK, hF', hev⟩ := hS
        rw [Array.empty_append] at e1
        simp only
        rw [doReturn_go _ _ _ _ _ _ hf.kind]
        refine ⟨c.finish v, fs, rfl, hc.toQF.finish _, hfs, ⟨w', e2, hK, hF', seen P f.fn new, seen_ev hev, fun k base main => ?_⟩, t1, t2, fun τ d ha => ?_⟩
        · obtain ⟨top, rest, x1, x2, _⟩ := Gx_finish (k := k) (base := base) (fs := fs) v hc.busy main f
          rw [x1, x2, stepG_unwind hnr, hu, e1]
          simp only
          rw [doReturn_go _ _ _ _ _ _ hf.kind]
          simp [GStep.after]
        · have h3 : (results fn f.tmps).runT P (rt (vw D w) τ d) #[] = _ := t3 τ d ha
          rw [hrt, hu, h3]
          simp only
          rw [doReturn_go _ _ _ _ _ _ hf.kind]
          exact ⟨_, rfl⟩
      | halt y v' =>
        have hend : ∀ (y : Halt) (x : World) (es : Array Event), ∃ o z q, GStep.after es (match (Result.halt y x : Result Value) with
            | .ok v w => doReturn P true f (c :: fs) none v w
            | .halt (.stuck s) w => .ended (.stuck s (f.pos P)) w
            | .halt _ w => .ended (.stuck "return: the result variables cannot be read" (f.pos P)) w) = .ended o z q := fun y x es => by
          cases y <;> exact ⟨_, _, _, rfl⟩
        obtain ⟨a, b, cc, e⟩ := hend y v' (seen P f.fn esv)
        refine (congrArg (StepR P F D w f (c :: fs)) e).mpr ?_
        refine ⟨v', t2, fun τ d ha => ?_⟩
        rw [hrt, hu]
        rcases t3 τ d ha with ⟨_, y', x', hy1, hy2⟩ | hy1
        · rw [hy1]; exact hend _ _ _
        · rw [hy1]; exact hend _ _ _
theorem catches_not {f : Frame} (hf : QF P F f) : f.catches P = false := by
  unfold Frame.catches
  split
  · rename_i h1 h2
    have := hf.todo _ (by rw [h2]; exact List.mem_cons_self ..)
    cases this
  · rfl
theorem quiet_panic {f c : Frame} {fs : List Frame} {chain : List PanicEntry} (hm : f.mode = .panicking chain) (hf : QF P F f) (hc : QC P F c) (hfs : ∀ c ∈ fs, QC P F c) (hfair : Fair (vw D w)) :
    StepR P F D w f (c :: fs) (stepG P true (G f (c :: fs)) (vw D w)) := by
  have hnr : f.mode ≠ .run := by rw [hm]; simp
  have hu : ∀ main c rest x, unwind P main f (c :: rest) none x = .go (G (c.raise chain) rest) x := fun main c rest x => by
    unfold unwind
    simp only [hf.defers, hm, catches_not hf]
    rfl
  rw [stepG_unwind hnr, hu]
  refine ⟨_, fs, rfl, hc.toQF.raise _, hfs, ⟨w, rfl, Keeps.refl _ _, hfair, #[], fun e he => by simp at he, fun k base main => ?_⟩, rfl, Nat.le_refl _, fun τ d _ => ⟨#[], ?_⟩⟩
  · obtain ⟨top, rest, e1, e2, e3⟩ := Gx_finish (k := k) (base := base) (fs := fs) undef hc.busy main f
    rw [e1, e3, stepG_unwind hnr, hu]
  · rw [stepG_unwind hnr, hu]
    simp
theorem quiet_step (hC : Closed P F) {f : Frame} {fs : List Frame} (hf : QF P F f) (hfs : ∀ c ∈ fs, QC P F c) (hgo : fs = [] → f.mode = .run ∧ f.todo ≠ []) (hfair : Fair (vw D w)) (hb : Bounded D w) (hH : Hides D w) :
    StepR P F D w f fs (stepG P true (G f fs) (vw D w)) := by
  have hcons : ∀ {i : Item} {l : List Item}, quietItem P F i = true → (∀ j ∈ l, quietItem P F j = true) → ∀ j ∈ i :: l, quietItem P F j = true := fun h1 h2 j hj => (List.mem_cons.1 hj).elim (fun e => e ▸ h1) (h2 j)
  cases hm : f.mode with
  | returning =>
    cases fs with
    | nil => rw [(hgo rfl).1] at hm; cases hm
    | cons c fs => exact quiet_return hm hf (hfs c (List.mem_cons_self ..)) (fun x hx => hfs x (List.mem_cons_of_mem _ hx)) hfair hb hH
  | panicking chain =>
    cases fs with
    | nil => rw [(hgo rfl).1] at hm; cases hm
    | cons c fs => exact quiet_panic hm hf (hfs c (List.mem_cons_self ..)) (fun x hx => hfs x (List.mem_cons_of_mem _ hx)) hfair
  | run =>
    cases ht : f.todo with
    | nil =>
      cases fs with
      | nil => exact absurd ht (hgo rfl).2
      | cons c fs =>
        have hg : ∀ main cs x, stepG P main (G f cs) x = .go (G { f with mode := .returning } cs) x := fun main cs x => by
          rw [stepG_run hm]
          simp [stepG.exec, ht, hf.round, G]
        rw [hg]
        exact ⟨_, c :: fs, rfl, ⟨hf.defers, hf.kind, hf.round, hf.todo⟩, hfs, ⟨w, rfl, Keeps.refl _ _, hfair, #[], fun e he => by simp at he, fun k base main => hg main _ w⟩, rfl, Nat.le_refl _, fun τ d _ => ⟨#[], by rw [hg]; simp⟩⟩
    | cons it t =>
      have hit : quietItem P F it = true := hf.todo it (by rw [ht]; exact List.mem_cons_self ..)
      have htl := quiet_tail hf ht
      cases it with
      | code c => exact quiet_code hm ht hf hfs hfair hb hH
      | inBlock id => exact StepR.to hm ht hf hfs hfair (t' := t) htl (fun fr k main cs x h1 h2 h3 => by simp [stepG.exec, h2])
      | inScope c => exact StepR.to hm ht hf hfs hfair (t' := t) htl (fun fr k main cs x h1 h2 h3 => by simp [stepG.exec, h2])
      | inLoop c => exact StepR.to hm ht hf hfs hfair (t' := .code c :: .inLoop c :: t) (hcons hit (hcons hit htl)) (fun fr k main cs x h1 h2 h3 => by simp [stepG.exec, h2])
      | inRegion ops l =>
        cases l with
        | nil => exact StepR.to hm ht hf hfs hfair (t' := t) htl (fun fr k main cs x h1 h2 h3 => by simp [stepG.exec, h2])
        | cons i l => exact quiet_oper hC hm ht hf hfs hfair hb hH
      | inRangeFunc l => cases hit
      | endRangeFunc l => cases hit
      | beginRound => cases hit
      | call => cases hit
      | extern => cases hit
end
inductive GoesW (P : Program) (main : Bool) (R : World → World → Prop) (D : World → World → Array Event → Prop) (Stop : Goroutine → World → Prop) : Goroutine → World → Prop
  | stop {g : Goroutine} {w : World} (h : ∀ w₁, R w w₁ → Stop g w₁) : GoesW P main R D Stop g w
  | step {g : Goroutine} {w : World} (hs : g.status = .running) (ng : World → Goroutine) (nw : World → World) (ne : World → Array Event)
      (h : ∀ w₁, R w w₁ → stepG P main g w₁ = .go (ng w₁) (nw w₁) (ne w₁) ∧ D w₁ (nw w₁) (ne w₁)) (ih : ∀ w₁, R w w₁ → GoesW P main R D Stop (ng w₁) (nw w₁)) : GoesW P main R D Stop g w
section
variable {P : Program} {main : Bool} {R : World → World → Prop} {D : World → World → Array Event → Prop} {Stop : Goroutine → World → Prop}
theorem GoesW.step' {g : Goroutine} {w : World} (hs : g.status = .running) (h : ∀ w₁, R w w₁ → ∃ g' w' es, stepG P main g w₁ = .go g' w' es ∧ D w₁ w' es ∧ GoesW P main R D Stop g' w') : GoesW P main R D Stop g w := by
  classical
  refine .step hs (fun w₁ => if h1 : R w w₁ then (h w₁ h1).choose else g) (fun w₁ => if h1 : R w w₁ then (h w₁ h1).choose_spec.choose else w₁) (fun w₁ => if h1 : R w w₁ then (h w₁ h1).choose_spec.choose_spec.choose else #[]) (fun w₁ h1 => ?_) (fun w₁ h1 => ?_)
  · simp only [h1, dite_true]
    have := (h w₁ h1).choose_spec.choose_spec.choose_spec
    exact ⟨this.1, this.2.1⟩
  · simp only [h1, dite_true]
    exact (h w₁ h1).choose_spec.choose_spec.choose_spec.2.2
theorem GoesW.rely (trans : ∀ a b c, R a b → R b c → R a c) {g : Goroutine} {w w₁ : World} (h : GoesW P main R D Stop g w) (hr : R w w₁) : GoesW P main R D Stop g w₁ := by
  cases h with
  | stop h => exact .stop fun w₂ h2 => h w₂ (trans _ _ _ hr h2)
  | step hs ng nw ne h ih => exact .step hs ng nw ne (fun w₂ h2 => h w₂ (trans _ _ _ hr h2)) (fun w₂ h2 => ih w₂ (trans _ _ _ hr h2))
theorem GoesW.bind {Stop' : Goroutine → World → Prop} (refl : ∀ a, R a a) {g : Goroutine} {w : World} (h : GoesW P main R D Stop g w) (hb : ∀ g w, (∀ w₁, R w w₁ → Stop g w₁) → GoesW P main R D Stop' g w) : GoesW P main R D Stop' g w := by
  induction h with
  | stop h => exact hb _ _ h
  | step hs ng nw ne h ih ih' => exact .step hs ng nw ne h ih'
theorem GoesW.mono {Stop' : Goroutine → World → Prop} {g : Goroutine} {w : World} (h : GoesW P main R D Stop g w) (hb : ∀ g w, Stop g w → Stop' g w) : GoesW P main R D Stop' g w := by
  induction h with
  | stop h => exact .stop fun w₁ h1 => hb _ _ (h w₁ h1)
  | step hs ng nw ne h ih ih' => exact .step hs ng nw ne h ih'
theorem GoesW.of_goes : ∀ {n : Nat} {g : Goroutine} {w : World}, Goes P main R D Stop n g w → GoesW P main R D Stop g w
  | 0, g, w, h => .stop h
  | n + 1, g, w, h => by
    rcases h with h | ⟨hs, h⟩
    · exact .stop h
    · refine .step' hs fun w₁ h1 => ?_
      have := h w₁ h1
      cases hg : stepG P main g w₁ with
      | go g' w' es => rw [hg, goes_go] at this; exact ⟨g', w', es, rfl, this.1, GoesW.of_goes this.2⟩
      | _ => rw [hg] at this; exact this.elim
end
def runObj (x : Value) (st sm : Int) (e : TypeId) : Obj := .cells #[x, .int .u64 st, .int .u32 sm] e
structure Aw (W : Nat → Bool) (w w₁ : World) : Prop where
  tape : w₁.tape = w.tape
  os : w₁.os = w.os
  output : w₁.output = w.output
  size : w₁.heap.size = w.heap.size
  heap : ∀ b, W b = false → w₁.heap[b]? = w.heap[b]?
  run : ∀ b, W b = true → ∀ x st sm e, w.heap[b]? = some (runObj x st sm e) → ∃ st' sm', w₁.heap[b]? = some (runObj x st' sm' e)
def RunOk (W : Nat → Bool) (w : World) : Prop := ∀ b, W b = true → ∃ x st sm e, w.heap[b]? = some (runObj x st sm e)
theorem Aw.refl (W : Nat → Bool) (w : World) : Aw W w w := ⟨rfl, rfl, rfl, rfl, fun _ _ => rfl, fun _ _ _ st sm _ h => ⟨st, sm, h⟩⟩
theorem Aw.trans {W : Nat → Bool} (a b c : World) (h : Aw W a b) (k : Aw W b c) : Aw W a c :=
  ⟨k.tape.trans h.tape, k.os.trans h.os, k.output.trans h.output, k.size.trans h.size, fun b hb => (k.heap b hb).trans (h.heap b hb), fun b hb x st sm e he => by
    obtain ⟨st', sm', h1⟩ := h.run b hb x st sm e he
    exact k.run b hb x st' sm' e h1⟩
theorem Aw.ok {W : Nat → Bool} {w w₁ : World} (h : Aw W w w₁) (k : RunOk W w) : RunOk W w₁ := fun b hb => by
  obtain ⟨x, st, sm, e, h1⟩ := k b hb
  obtain ⟨st', sm', h2⟩ := h.run b hb x st sm e h1
  exact ⟨x, st', sm', e, h2⟩
theorem Aw.draw (W : Nat → Bool) (w : World) (d : Nat) : Aw W w (w.at d) := ⟨rfl, rfl, rfl, rfl, fun _ _ => rfl, fun _ _ _ st sm _ h => ⟨st, sm, h⟩⟩
def HidSame (n : Nat) (o o' : Option Obj) : Prop := (∃ c c' e f, o = some (.cells c e f) ∧ o' = some (.cells c' e f) ∧ c'.size = c.size ∧ ∀ i, n ≤ i → c'[i]? = c[i]?) ∨ o' = o
theorem HidSame.trans {n : Nat} {o o' o'' : Option Obj} (h : HidSame n o o') (k : HidSame n o' o'') : HidSame n o o'' := by
  rcases h with ⟨c, c', e, f, h1, h2, h3, h4⟩ | h1
  · rcases k with ⟨c1, c2, e1, f1, k1, k2, k3, k4⟩ | k1
    · rw [h2] at k1
      simp only [Option.some.injEq, Obj.cells.injEq] at k1
      obtain ⟨rfl, rfl, rfl⟩ := k1
      exact .inl ⟨c, c2, e, f, h1, k2, k3.trans h3, fun i hi => (k4 i hi).trans (h4 i hi)⟩
    · exact .inl ⟨c, c', e, f, h1, k1.trans h2, h3, h4⟩
  · rw [h1] at k; exact k
theorem HidSame.zero {o o' : Option Obj} (h : HidSame 0 o o') : o' = o := by
  rcases h with ⟨c, c', e, f, h1, h2, h3, h4⟩ | h1
  · rw [h1, h2, Array.ext_getElem? fun i => h4 i (Nat.zero_le _)]
  · exact h1
structure Far (H : Nat → Option Nat) (W : Nat → Bool) (w w' : World) : Prop where
  tape : w'.tape = w.tape
  os : w'.os = w.os
  output : w'.output = w.output
  size : w.heap.size ≤ w'.heap.size
  hid : ∀ b n, H b = some n → W b = false → b < w.heap.size → HidSame n w.heap[b]? w'.heap[b]?
  run : ∀ b, W b = true → ∀ x st sm e, w.heap[b]? = some (runObj x st sm e) → ∃ x' st' sm', w'.heap[b]? = some (runObj x' st' sm' e)
theorem Far.refl (H : Nat → Option Nat) (W : Nat → Bool) (w : World) : Far H W w w := ⟨rfl, rfl, rfl, Nat.le_refl _, fun _ _ _ _ _ => .inr rfl, fun _ _ x st sm _ h => ⟨x, st, sm, h⟩⟩
theorem Far.trans {H : Nat → Option Nat} {W : Nat → Bool} {a b c : World} (h : Far H W a b) (k : Far H W b c) : Far H W a c :=
  ⟨k.tape.trans h.tape, k.os.trans h.os, k.output.trans h.output, Nat.le_trans h.size k.size, fun b n hb hw hl => (h.hid b n hb hw hl).trans (k.hid b n hb hw (Nat.lt_of_lt_of_le hl h.size)), fun b hb x st sm e he => by
    obtain ⟨x', st', sm', h1⟩ := h.run b hb x st sm e he
    exact k.run b hb x' st' sm' e h1⟩
theorem Far.of_aw {H : Nat → Option Nat} {W : Nat → Bool} {w w' : World} (h : Aw W w w') : Far H W w w' := ⟨h.tape, h.os, h.output, Nat.le_of_eq h.size.symm, fun b _ _ hw _ => .inr (h.heap b hw), fun b hb x st sm e he => (h.run b hb x st sm e he).elim fun st' y => ⟨x, st', y⟩⟩
theorem Keeps.same {H : Nat → Option Nat} {w w' : World} (h : Keeps H w w') {b n : Nat} (hb : H b = some n) (hl : b < w.heap.size) : HidSame n w.heap[b]? w'.heap[b]? := h.kind b n hb hl
theorem Keeps.run {H : Nat → Option Nat} {w w' : World} (h : Keeps H w w') {b : Nat} (hb : H b = some 1) {x : Value} {st sm : Int} {e : TypeId} (hx : w.heap[b]? = some (runObj x st sm e)) : ∃ x', w'.heap[b]? = some (runObj x' st sm e) := by
  rcases h.kind b 1 hb (Array.getElem?_eq_some_iff.1 hx).1 with ⟨c, c', e', f, h1, h2, h3, h4⟩ | h1
  · rw [hx] at h1
    unfold runObj at h1
    simp only [Option.some.injEq, Obj.cells.injEq] at h1
    obtain ⟨rfl, rfl, rfl⟩ := h1
    have hs : c'.size = 3 := h3
    refine ⟨c'[0]'(by omega), ?_⟩
    rw [h2]
    unfold runObj
    congr 2
    apply Array.ext_getElem?
    intro i
    match i with
    | 0 => simp
    | 1 => exact h4 1 (Nat.le_refl _)
    | 2 => exact h4 2 (by omega)
    | i + 3 => rw [Array.getElem?_eq_none (by omega), Array.getElem?_eq_none (by simp)]
  · exact ⟨x, by rw [h1]; exact hx⟩
theorem Far.of_keeps {H : Nat → Option Nat} {W : Nat → Bool} {w w' : World} (hW : ∀ b, W b = true → H b = some 1) (h : Keeps H w w') : Far H W w w' :=
  ⟨h.tape, h.os, h.output, h.size, fun b n hb _ hl => h.same hb hl, fun b hb x st sm e he => (h.run (hW b hb) he).elim fun x' y => ⟨x', st, sm, y⟩⟩
theorem vw_none (w : World) : vw (fun _ => none) w = w := by
  unfold vw
  have : w.heap.mapIdx (hideAt fun _ => none) = w.heap := by
    apply Array.ext_getElem?
    intro i
    simp only [Array.getElem?_mapIdx]
    cases w.heap[i]? <;> rfl
  rw [this]
theorem Aw.view {H : Nat → Option Nat} {W : Nat → Bool} {w w₁ : World} (hW : ∀ b, W b = true → H b = some 1) (hr : RunOk W w) (h : Aw W w w₁) (τ : Nat → Question → Nat) (d : Nat) : rt (vw H w₁) τ d = rt (vw H w) τ d := by
  have e : w₁.heap.mapIdx (hideAt H) = w.heap.mapIdx (hideAt H) := by
    apply Array.ext_getElem?
    intro i
    simp only [Array.getElem?_mapIdx]
    cases hw : W i with
    | false => rw [h.heap i hw]
    | true =>
      obtain ⟨x, st, sm, e, h1⟩ := hr i hw
      obtain ⟨st', sm', h2⟩ := h.run i hw x st sm e h1
      rw [h1, h2]
      simp [hideAt, hW i hw, hideObj, runObj]
  unfold rt vw
  rw [h.os, h.output]
  simp only [e]
structure Fit (H : Nat → Option Nat) (W : Nat → Bool) (w : World) : Prop where
  fair : Fair (vw H w)
  bound : Bounded H w
  hides : Hides H w
  ok : RunOk W w
  sub : ∀ b, W b = true → H b = some 1
theorem Fit.aw {H : Nat → Option Nat} {W : Nat → Bool} {w w₁ : World} (h : Fit H W w) (k : Aw W w w₁) : Fit H W w₁ := by
  have hv : (vw H w₁).heap = (vw H w).heap := by
    have := k.view (H := H) h.sub h.ok w.tape 0
    have e := congrArg (fun x : World => x.heap) this
    simpa only [rt_heap] using e
  refine ⟨fun b o ho => h.fair b o (by rw [← hv]; exact ho), fun b hb => h.bound b (by rw [← k.size]; exact hb), fun b n o hD ho => ?_, k.ok h.ok, h.sub⟩
  cases hw : W b with
  | false => rw [k.heap b hw] at ho; exact h.hides b n o hD ho
  | true =>
    obtain ⟨x, st, sm, e, h1⟩ := k.ok h.ok b hw
    rw [h1] at ho
    cases ho
    exact .inl ⟨_, _, _, rfl⟩
theorem Fit.keeps {H : Nat → Option Nat} {W : Nat → Bool} {w w' : World} (h : Fit H W w) (k : Keeps H w w') (hf : Fair (vw H w')) : Fit H W w' :=
  ⟨hf, fun b hb => h.bound b (Nat.le_trans k.size hb), k.hides h.bound h.hides, fun b hb => by
    obtain ⟨x, st, sm, e, h1⟩ := h.ok b hb
    obtain ⟨x', h2⟩ := k.run (h.sub b hb) h1
    exact ⟨x', st, sm, e, h2⟩, h.sub⟩
def lg (g : Goroutine) (w : World) : Machine := { world := w, gs := #[g], rest := { timers := #[], alone := none, slice := none } }
theorem lg_inj {g g' : Goroutine} {w w' : World} (h : lg g w = lg g' w') : g = g' ∧ w = w' := by
  unfold lg at h
  injection h with h1 h2
  exact ⟨by simpa using h2, h1⟩
theorem step_lg_go {P : Program} {fr fr' : Frame} {cs cs' : List Frame} {w w' : World} {es : Array Event} (h : stepG P true (G fr cs) w = .go (G fr' cs') w' es) : step P (lg (G fr cs) w) = .next (lg (G fr' cs') w') :=
  step_lone_go (by have : stepG P true { frame := fr, callers := cs, status := .running, dying := none } w = .go (G fr' cs') w' es := h
                   rw [this]; rfl)
theorem step_lg_ended {P : Program} {fr : Frame} {cs : List Frame} {w w' : World} {o : Outcome} {es : Array Event} (h : stepG P true (G fr cs) w = .ended o w' es) : step P (lg (G fr cs) w) = .ended o w' :=
  step_lone_ended (by have : stepG P true { frame := fr, callers := cs, status := .running, dying := none } w = .ended o w' es := h
                      rw [this]; rfl)
theorem runN_plus {P : Program} : ∀ (n m : Nat) (a b : Machine), runN P n a = .next b → runN P (n + m) a = runN P m b
  | 0, m, a, b, h => by simp only [runN, Stepped.next.injEq] at h; rw [h, Nat.zero_add]
  | n + 1, m, a, b, h => by
    rw [show n + 1 + m = (n + m) + 1 by omega]
    simp only [runN] at h ⊢
    cases hs : step P a with
    | next m' => rw [hs] at h; simp only at h ⊢; exact runN_plus n m m' b h
    | ended o w => rw [hs] at h; cases h
theorem runN_snoc {P : Program} {n : Nat} {a b c : Machine} (h : runN P n a = .next b) (h' : step P b = .next c) : runN P (n + 1) a = .next c := by
  rw [runN_plus n 1 a b h]; simp [runN, h']
def Ext (σ : List (Question → Nat)) (τ : Nat → Question → Nat) : Prop := ∀ i (h : i < σ.length), τ i = σ[i]
theorem Ext.prefix {σ σ' : List (Question → Nat)} {τ : Nat → Question → Nat} (h : Ext σ' τ) (hp : σ <+: σ') : Ext σ τ := fun i hi => by
  obtain ⟨t, rfl⟩ := hp
  rw [h i (by simp; omega), List.getElem_append_left hi]
theorem Ext.self (σ : List (Question → Nat)) : ∃ τ, Ext σ τ := ⟨fun i => if h : i < σ.length then σ[i] else fun _ => 0, fun i h => by simp [h]⟩
def Led (P : Program) (g0 : List Frame → Goroutine) (v0 : World) (cs : List Frame) (σ : List (Question → Nat)) (n : Nat) (f : Frame) (fs : List Frame) (v : World) : Prop :=
  ∀ τ, Ext σ τ → runN P n (lg (g0 cs) (rt v0 τ 0)) = .next (lg (Gx [] cs f fs) (rt v τ σ.length))
end Go.Proofs.Ytimlbbleblijnaa.Co
