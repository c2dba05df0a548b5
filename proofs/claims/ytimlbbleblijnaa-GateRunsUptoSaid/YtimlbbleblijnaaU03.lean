/- Lemmas for the laws of this seat, laid together of PGe, PGf, PGg, PGh, PGi. -/
import Derived.Test.YtimlbbleblijnaaU02
import Derived.Conc.Token

set_option linter.unusedVariables false
set_option linter.unusedSimpArgs false
namespace Go.Proofs.Ytimlbbleblijnaa.Co
open Go.Conc
def catcher (P : Program) : Frame := { fn := P.funcs.size, tmps := #[], todo := [.call default false "fmt's door" #[]], defers := [], mode := .run, kind := .normal }
theorem extFs_nil_append (base : List Frame) : ∀ fs : List Frame, extFs [] base fs = fs ++ base
  | [] => rfl
  | [b] => by simp [extFs, extFr]
  | f :: g :: fs => by simp only [extFs]; rw [extFs_nil_append base (g :: fs)]; rfl
theorem Gx_nil (base : List Frame) (f : Frame) (fs : List Frame) : Gx [] base f fs = G f (fs ++ base) := by
  cases fs with
  | nil => simp [Gx, extFr]
  | cons g fs => simp only [Gx]; rw [extFs_nil_append]
section
variable {P : Program} {F : FuncId → Bool}
theorem quiet_base (hC : Closed P F) {f f' : Frame} {fs fs' : List Frame} {x x' : World} {es : Array Event} (hf : QF P F f) (hfs : ∀ c ∈ fs, QC P F c) (hgo : fs = [] → f.mode = .run ∧ f.todo ≠ []) (hfair : Fair x)
    (h : stepG P true (G f fs) x = .go (G f' fs') x' es) (base : List Frame) : ∃ es', stepG P true (Gx [] base f fs) x = .go (Gx [] base f' fs') x' es' := by
  have := quiet_step (D := fun _ => none) (w := x) hC hf hfs hgo (by rw [vw_none]; exact hfair) (fun _ _ => rfl) (fun b n o hD _ => by cases hD)
  rw [vw_none, h] at this
  obtain ⟨f1, fs1, e1, _, _, ⟨w', e2, _, _, es', _, h3⟩, _⟩ := this
  have e3 : f' = f1 ∧ fs' = fs1 := by
    unfold G at e1
    injection e1 with a b
    exact ⟨a, b⟩
  obtain ⟨rfl, rfl⟩ := e3
  rw [vw_none] at e2
  subst e2
  exact ⟨es', h3 [] base true⟩
def NE (f : Frame) (fs : List Frame) : Prop := fs = [] → f.mode = .run ∧ f.todo ≠ []
def catchRet (P : Program) (l : Nat) : Frame := { fn := P.funcs.size, tmps := #[], todo := [.beginRound, .inRangeFunc l], defers := [], mode := .run, kind := .normal }
theorem stuck_end {f : Frame} {x : World} {l : Nat} (hd : f.defers = []) (hk : f.kind = .normal) (hm : f.mode = .returning) : ∀ n t y, t.mode = .run → runN P n (lg (G f [catchRet P l]) x) ≠ .next (lg (G t [catchRet P l]) y) := by
  have h1 : (∃ o y, step P (lg (G f [catchRet P l]) x) = .ended o y) ∨ ∃ v y, step P (lg (G f [catchRet P l]) x) = .next (lg (G ((catchRet P l).finish v) []) y) := by
    have hs : (∃ o y es, stepG P true (G f [catchRet P l]) x = .ended o y es) ∨ ∃ v y es, stepG P true (G f [catchRet P l]) x = .go (G ((catchRet P l).finish v) []) y es := by
      rw [stepG_unwind (by rw [hm]; simp)]
      unfold unwind
      simp only [hd, hm]
      cases hf : P.funcs[f.fn]? with
      | none => right; simp only; rw [doReturn_go _ _ _ _ _ _ hk]; exact ⟨_, _, _, rfl⟩
      | some fn =>
        simp only
        generalize (results fn f.tmps).runT P x #[] = q
        obtain ⟨r, es⟩ := q
        cases r with
        | ok v y => right; simp only; rw [doReturn_go _ _ _ _ _ _ hk]; exact ⟨_, _, _, rfl⟩
        | halt y z => left; cases y <;> exact ⟨_, _, _, rfl⟩
    rcases hs with ⟨o, y, es, h⟩ | ⟨v, y, es, h⟩
    · exact .inl ⟨o, y, step_lg_ended h⟩
    · exact .inr ⟨v, y, step_lg_go h⟩
  have h2 : ∀ v y, ∃ o z, step P (lg (G ((catchRet P l).finish v) []) y) = .ended o z := fun v y => by
    have hs : ∃ o z es, stepG P true (G ((catchRet P l).finish v) []) y = .ended o z es := by
      rw [stepG_run rfl]
      exact ⟨_, _, _, rfl⟩
    obtain ⟨o, z, es, h⟩ := hs
    exact ⟨o, z, step_lg_ended h⟩
  intro n t y ht h
  match n with
  | 0 =>
    simp only [runN, Stepped.next.injEq] at h
    have := (lg_inj h).1
    unfold G at this
    injection this with a
    rw [a, ht] at hm
    cases hm
  | 1 =>
    rcases h1 with ⟨o, z, h1⟩ | ⟨v, z, h1⟩
    · simp [runN, h1] at h
    · simp only [runN, h1, Stepped.next.injEq] at h
      have := (lg_inj h).1
      unfold G at this
      injection this with _ a
      cases a
  | n + 2 =>
    rcases h1 with ⟨o, z, h1⟩ | ⟨v, z, h1⟩
    · simp [runN, h1] at h
    · obtain ⟨o, z', h2⟩ := h2 v z
      simp [runN, h1, h2] at h
theorem step_run_end {f : Frame} {x : World} (hm : f.mode = .run) (ht : f.todo = []) (hr : f.roundOf = none) (cs : List Frame) : step P (lg (G f cs) x) = .next (lg (G { f with mode := .returning } cs) x) := by
  refine step_lg_go (es := #[]) ?_
  rw [stepG_run hm]
  simp [stepG.exec, ht, hr, G]
theorem left_ret {f t : Frame} {x y : World} {n : Nat} {l : Nat} (hf : QF P F f) (hm : f.mode = .returning ∨ (f.mode = .run ∧ f.todo = [])) (ht : t.mode = .run)
    (h : runN P n (lg (G f [catchRet P l]) x) = .next (lg (G t [catchRet P l]) y)) : n = 0 := by
  rcases hm with hm | ⟨hm, ht'⟩
  · exact absurd h (stuck_end hf.defers hf.kind hm n t y ht)
  · cases n with
    | zero => rfl
    | succ n =>
      simp only [runN, step_run_end hm ht' hf.round] at h
      exact absurd h (stuck_end (f := { f with mode := .returning }) hf.defers hf.kind rfl n t y ht)
theorem catcher_catches (P : Program) (l : List PanicEntry) : ((catcher P).raise l).catches P = true := by
  unfold Frame.catches catcher Frame.raise
  simp
theorem left_panic {f t : Frame} {x y : World} {n : Nat} {l : List PanicEntry} (hf : QF P F f) (hm : f.mode = .panicking l) (ht : t.mode = .run) (h : runN P n (lg (G f [catcher P]) x) = .next (lg (G t [catcher P]) y)) : False := by
  have h1 : step P (lg (G f [catcher P]) x) = .next (lg (G ((catcher P).raise l) []) x) := by
    refine step_lg_go (es := #[]) ?_
    rw [stepG_unwind (by rw [hm]; simp)]
    unfold unwind
    simp only [hf.defers, hm, catches_not hf]
    rfl
  have h2 : ∃ o z, step P (lg (G ((catcher P).raise l) []) x) = .ended o z := by
    have hs : ∃ o z es, stepG P true (G ((catcher P).raise l) []) x = .ended o z es := by
      rw [stepG_unwind (by simp [catcher, Frame.raise])]
      unfold unwind
      have e1 : ((catcher P).raise l).defers = [] := rfl
      have e2 : ((catcher P).raise l).mode = .panicking l := rfl
      simp only [e1, e2, catcher_catches, if_true]
      exact ⟨_, _, _, rfl⟩
    obtain ⟨o, z, es, hs⟩ := hs
    exact ⟨o, z, step_lg_ended hs⟩
  obtain ⟨o, z, h2⟩ := h2
  match n with
  | 0 =>
    simp only [runN, Stepped.next.injEq] at h
    have := (lg_inj h).1
    unfold G at this
    injection this with a
    rw [a, ht] at hm
    cases hm
  | 1 =>
    simp only [runN, h1, Stepped.next.injEq] at h
    have := (lg_inj h).1
    unfold G at this
    injection this with _ a
    cases a
  | n + 2 => simp [runN, h1, h2] at h
end
structure CS where
  σ : List (Question → Nat)
  n : Nat
  f : Frame
  fs : List Frame
  w : World
section
variable {P : Program} {F : FuncId → Bool} {H : Nat → Option Nat} {W : Nat → Bool}
def Lets (H : Nat → Option Nat) (W : Nat → Bool) (D : World → World → Array Event → Prop) : Prop := ∀ w w' es, Fit H W w → Fit H W w' → Keeps H w w' → (∀ e ∈ es, EvN H w'.heap.size e) → D w w' es
structure Bad (P : Program) (F : FuncId → Bool) (H : Nat → Option Nat) (W : Nat → Bool) (main : Bool) (D : World → World → Array Event → Prop) (Stop : Goroutine → World → Prop) (k : List Item) (base : List Frame) (g0 : List Frame → Goroutine) (w0 : World) (s : CS) : Prop where
  led : ∀ cs, Led P g0 (vw H w0) cs s.σ s.n s.f s.fs (vw H s.w)
  pre : ∀ cs τ, Ext s.σ τ → ∀ i, i ≤ s.n → ∃ f fs x, runN P i (lg (g0 cs) (rt (vw H w0) τ 0)) = .next (lg (G f (fs ++ cs)) x) ∧ NE f fs
  qf : QF P F s.f
  qc : ∀ c ∈ s.fs, QC P F c
  fit : Fit H W s.w
  far : Far H W w0 s.w
  bad : ¬ GoesW P main (Aw W) D Stop (Gx k base s.f s.fs) s.w
def drew (v v' : World) : List (Question → Nat) := (List.range (v'.drawn - v.drawn)).map fun i => v.tape (v.drawn + i)
theorem agree_ext {v v' : World} {σ : List (Question → Nat)} {τ : Nat → Question → Nat} (h : Ext (σ ++ drew v v') τ) : Agree v v' τ σ.length := fun i hi => by
  have hl : σ.length + i < (σ ++ drew v v').length := by simp [drew]; omega
  rw [h _ hl, List.getElem_append_right (by omega)]
  simp [drew]
theorem Gx_status (k : List Item) (base : List Frame) (f : Frame) (fs : List Frame) : (Gx k base f fs).status = .running := by cases fs <;> rfl
theorem lg_frames {f t : Frame} {fs cs : List Frame} {x y : World} (h : lg (G f (fs ++ cs)) x = lg (G t cs) y) : f = t ∧ fs = [] ∧ x = y := by
  obtain ⟨h1, h2⟩ := lg_inj h
  unfold G at h1
  injection h1 with a b
  refine ⟨a, ?_, h2⟩
  have := congrArg List.length b
  simp at this
  exact this
theorem Bad.next (hC : Closed P F) {main : Bool} {D : World → World → Array Event → Prop} {Stop : Goroutine → World → Prop} {k : List Item} {base : List Frame} {g0 : List Frame → Goroutine} {w0 : World} (hD : Lets H W D)
    {tgt : Frame → World → Prop}
    (hrun : ∀ τ cs, ∃ n t x, runN P n (lg (g0 cs) (rt (vw H w0) τ 0)) = .next (lg (G t cs) x) ∧ t.mode = .run ∧ t.todo = [] ∧ tgt t x)
    (hstop : ∀ t w' τ d, tgt t (rt (vw H w') τ d) → Far H W w0 w' → Fit H W w' → Stop (G (extFr k t) base) w')
    {s : CS} (h : Bad P F H W main D Stop k base g0 w0 s) : ∃ s', Bad P F H W main D Stop k base g0 w0 s' ∧ s.σ <+: s'.σ ∧ s'.n = s.n + 1 := by
  obtain ⟨σ, n, f, fs, w⟩ := s
  obtain ⟨led, pre, qf, qc, fit, far, bad⟩ := h
  simp only at led pre qf qc fit far bad ⊢
  have ne : NE f fs := by
    obtain ⟨τ, hτ⟩ := Ext.self σ
    obtain ⟨f1, fs1, x1, e1, h1⟩ := pre [] τ hτ n (Nat.le_refl _)
    have e2 := led [] τ hτ
    rw [Gx_nil, e1] at e2
    simp only [List.append_nil, Stepped.next.injEq] at e2
    have := (lg_inj e2).1
    unfold G at this
    injection this with a b
    subst a b
    exact h1
  obtain ⟨w₁, h1, hb⟩ : ∃ w₁, Aw W w w₁ ∧ ¬ ∃ g' w' es, stepG P main (Gx k base f fs) w₁ = .go g' w' es ∧ D w₁ w' es ∧ GoesW P main (Aw W) D Stop g' w' := by
    refine Classical.byContradiction fun hn => bad (.step' (Gx_status ..) fun w₁ h1 => ?_)
    exact Classical.byContradiction fun hx => hn ⟨w₁, h1, hx⟩
  have fit1 := fit.aw h1
  have hview : ∀ τ d, rt (vw H w₁) τ d = rt (vw H w) τ d := fun τ d => h1.view fit.sub fit.ok τ d
  have hq := quiet_step (D := H) (w := w₁) hC qf qc ne fit1.fair fit1.bound fit1.hides
  have late : ∀ τ cs, Ext σ τ → ∃ m t x, runN P (n + 1 + m) (lg (g0 cs) (rt (vw H w0) τ 0)) = .next (lg (G t cs) x) ∧ t.mode = .run ∧ t.todo = [] ∧ tgt t x := fun τ cs hτ => by
    obtain ⟨N, t, x, hN, hm1, hm2, hQ⟩ := hrun τ cs
    rcases Nat.lt_or_ge n N with hlt | hge
    · exact ⟨N - (n + 1), t, x, by rw [show n + 1 + (N - (n + 1)) = N by omega]; exact hN, hm1, hm2, hQ⟩
    · exfalso
      obtain ⟨f1, fs1, x1, e1, hne⟩ := pre cs τ hτ N hge
      rw [hN] at e1
      simp only [Stepped.next.injEq] at e1
      obtain ⟨rfl, rfl, _⟩ := lg_frames e1.symm
      exact (hne rfl).2 hm2
  cases hs : stepG P true (G f fs) (vw H w₁) with
  | go g' v' esv =>
    rw [hs] at hq
    obtain ⟨f', fs', rfl, qf', qc', ⟨w', rfl, hK, hF', es', hev, hst⟩, ht1, ht2, ht3⟩ := hq
    have fit' := fit1.keeps hK hF'
    have far' : Far H W w0 w' := far.trans ((Far.of_aw h1).trans (Far.of_keeps fit1.sub hK))
    have led' : ∀ cs, Led P g0 (vw H w0) cs (σ ++ drew (vw H w₁) (vw H w')) (n + 1) f' fs' (vw H w') := fun cs τ hτ => by
      have e1 := led cs τ (hτ.prefix ⟨_, rfl⟩)
      obtain ⟨es2, e2⟩ := ht3 τ σ.length (agree_ext hτ)
      have hfx : Fair (rt (vw H w₁) τ σ.length) := fun b o ho => fit1.fair b o ho
      obtain ⟨es3, e3⟩ := quiet_base hC qf qc ne hfx e2 cs
      rw [hview] at e3
      refine runN_snoc e1 ?_
      have e4 : (σ ++ drew (vw H w₁) (vw H w')).length = σ.length + ((vw H w').drawn - w₁.drawn) := by simp [drew]
      rw [e4]
      rw [Gx_nil, Gx_nil] at e3 ⊢
      exact step_lg_go e3
    have hn : ¬ GoesW P main (Aw W) D Stop (Gx k base f' fs') w' := fun hg => hb ⟨_, _, _, hst k base main, hD _ _ _ fit1 fit' hK hev, hg⟩
    by_cases hne : NE f' fs'
    · refine ⟨⟨_, n + 1, f', fs', w'⟩, ⟨led', fun cs τ hτ i hi => ?_, qf', qc', fit', far', hn⟩, ⟨_, rfl⟩, rfl⟩
      rcases Nat.lt_or_ge n i with hlt | hge
      · obtain rfl : i = n + 1 := by simp only at hi; omega
        have := led' cs τ hτ
        rw [Gx_nil] at this
        exact ⟨f', fs', _, this, hne⟩
      · exact pre cs τ (hτ.prefix ⟨_, rfl⟩) i hge
    · exfalso
      obtain ⟨rfl, hm⟩ : fs' = [] ∧ ¬ (f'.mode = .run ∧ f'.todo ≠ []) := by
        unfold NE at hne
        by_cases e : fs' = []
        · exact ⟨e, fun hx => hne fun _ => hx⟩
        · exact absurd (fun he => absurd he e) hne
      obtain ⟨τ, hτ⟩ := Ext.self (σ ++ drew (vw H w₁) (vw H w'))
      have key : ∀ cs, ∃ m t x, runN P m (lg (G f' cs) (rt (vw H w') τ (σ ++ drew (vw H w₁) (vw H w')).length)) = .next (lg (G t cs) x) ∧ t.mode = .run ∧ t.todo = [] ∧ tgt t x := by
        intro cs
        obtain ⟨m, t, x, hN, hm1, hm2, hQ⟩ := late τ cs (hτ.prefix ⟨_, rfl⟩)
        have eN := led' cs τ hτ
        rw [Gx_nil] at eN
        rw [runN_plus _ m _ _ eN] at hN
        exact ⟨m, t, x, hN, hm1, hm2, hQ⟩
      cases hmode : f'.mode with
      | panicking l =>
        obtain ⟨m, t, x, hN, hm1, _, _⟩ := key [catcher P]
        exact left_panic qf' hmode hm1 hN
      | returning =>
        obtain ⟨m, t, x, hN, hm1, _, _⟩ := key [catchRet P 0]
        exact stuck_end qf'.defers qf'.kind hmode m t x hm1 hN
      | run =>
        have htd : f'.todo = [] := Classical.byContradiction fun hx => hm ⟨hmode, hx⟩
        obtain ⟨m, t, x, hN, hm1, hm2, hQ⟩ := key [catchRet P 0]
        obtain rfl := left_ret qf' (.inr ⟨hmode, htd⟩) hm1 hN
        simp only [runN, Stepped.next.injEq] at hN
        obtain ⟨e1, e2⟩ := lg_inj hN
        unfold G at e1
        injection e1 with e1
        subst e1 e2
        refine hn (.stop fun w₂ h2 => ?_)
        exact hstop f' w₂ τ _ (by rw [h2.view fit'.sub fit'.ok]; exact hQ) (far'.trans (Far.of_aw h2)) (fit'.aw h2)
  | ended o x es =>
    exfalso
    rw [hs] at hq
    obtain ⟨v', _, hq⟩ := hq
    obtain ⟨τ, hτ⟩ := Ext.self (σ ++ drew (vw H w₁) v')
    obtain ⟨o', x', es', he⟩ := hq τ σ.length (agree_ext hτ)
    have hτ' : Ext σ τ := hτ.prefix ⟨_, rfl⟩
    obtain ⟨m, t, y, hN, _⟩ := late τ [] hτ'
    have e1 := led [] τ hτ'
    rw [Gx_nil, List.append_nil, ← hview] at e1
    have hst := step_lg_ended he
    rw [Nat.add_assoc, runN_plus _ _ _ _ e1, Nat.add_comm 1 m] at hN
    simp [runN, hst] at hN
  | _ => rw [hs] at hq; exact hq.elim
end
section
variable {P : Program} {F : FuncId → Bool} {H : Nat → Option Nat} {W : Nat → Bool}
theorem prefix_chain {s : Nat → CS} (h : ∀ i, (s i).σ <+: (s (i + 1)).σ) : ∀ i j, i ≤ j → (s i).σ <+: (s j).σ := by
  intro i j hij
  induction hij with
  | refl => exact List.prefix_refl _
  | step _ ih => exact ih.trans (h _)
theorem glue {s : Nat → CS} (h : ∀ i, (s i).σ <+: (s (i + 1)).σ) : ∃ τ, ∀ i, Ext (s i).σ τ := by
  classical
  refine ⟨fun p => if hp : ∃ i, p < (s i).σ.length then (s hp.choose).σ[p]'hp.choose_spec else fun _ => 0, fun i p hp => ?_⟩
  have hx : ∃ i, p < (s i).σ.length := ⟨i, hp⟩
  simp only [hx, dite_true]
  have key : ∀ a b (ha : p < (s a).σ.length) (hb : p < (s b).σ.length), a ≤ b → (s a).σ[p] = (s b).σ[p] := fun a b ha hb hab => (prefix_chain h a b hab).getElem ha
  rcases Nat.le_total hx.choose i with hle | hle
  · exact key _ _ hx.choose_spec hp hle
  · exact (key _ _ hp hx.choose_spec hle).symm
theorem Bad.absurd (hC : Closed P F) {main : Bool} {D : World → World → Array Event → Prop} {Stop : Goroutine → World → Prop} {k : List Item} {base : List Frame} {g0 : List Frame → Goroutine} {w0 : World} (hD : Lets H W D)
    {tgt : Frame → World → Prop}
    (hrun : ∀ τ cs, ∃ n t x, runN P n (lg (g0 cs) (rt (vw H w0) τ 0)) = .next (lg (G t cs) x) ∧ t.mode = .run ∧ t.todo = [] ∧ tgt t x)
    (hstop : ∀ t w' τ d, tgt t (rt (vw H w') τ d) → Far H W w0 w' → Fit H W w' → Stop (G (extFr k t) base) w')
    {s0 : CS} (h : Bad P F H W main D Stop k base g0 w0 s0) (hn0 : s0.n = 0) : False := by
  classical
  let nx : {s : CS // Bad P F H W main D Stop k base g0 w0 s} → {s : CS // Bad P F H W main D Stop k base g0 w0 s} := fun s => ⟨(Bad.next hC hD hrun hstop s.2).choose, (Bad.next hC hD hrun hstop s.2).choose_spec.1⟩
  let sq : Nat → {s : CS // Bad P F H W main D Stop k base g0 w0 s} := fun i => Nat.rec ⟨s0, h⟩ (fun _ s => nx s) i
  have hs : ∀ i, sq (i + 1) = nx (sq i) := fun i => rfl
  have hp : ∀ i, (sq i).1.σ <+: (sq (i + 1)).1.σ := fun i => by rw [hs]; exact (Bad.next hC hD hrun hstop (sq i).2).choose_spec.2.1
  have hn : ∀ i, (sq i).1.n = i := by
    intro i
    induction i with
    | zero => exact hn0
    | succ i ih => rw [hs]; exact ((Bad.next hC hD hrun hstop (sq i).2).choose_spec.2.2).trans (by rw [ih])
  obtain ⟨τ, hτ⟩ := glue (s := fun i => (sq i).1) hp
  obtain ⟨N, t, x, hN, hm1, hm2, _⟩ := hrun τ []
  obtain ⟨f1, fs1, x1, e1, hne⟩ := (sq N).2.pre [] τ (hτ N) N (by rw [hn]; exact Nat.le_refl _)
  rw [hN] at e1
  simp only [Stepped.next.injEq] at e1
  obtain ⟨rfl, rfl, _⟩ := lg_frames e1.symm
  exact (hne rfl).2 hm2
theorem bridge (hC : Closed P F) {main : Bool} {D : World → World → Array Event → Prop} (hD : Lets H W D) {c : Code} (hq : quietCode P F c = true) {b : Frame} {a : Act} {k : List Item} {cs : List Frame} {w : World} (hk : b.kind = .normal) (ha : a.defers = [])
    (hfit : Fit H W w) {Q : Act → World → Prop}
    (hwp : ∀ τ, c.wp P (fun e a' x' => e = .normal ∧ a'.defers = [] ∧ ∀ w' τ' d, x' = rt (vw H w') τ' d → Far H W w w' → Fit H W w' → Q a' w') a (rt (vw H w) τ 0)) :
    GoesW P main (Aw W) D (fun g w' => ∃ a', a'.defers = [] ∧ g = G (b.at a' k) cs ∧ Far H W w w' ∧ Fit H W w' ∧ Q a' w') (G (b.at a (.code c :: k)) cs) w := by
  refine Classical.byContradiction fun hbad => ?_
  let g0 : List Frame → Goroutine := fun cs => G (b.at a [.code c]) cs
  have hx : ∀ cs, Gx k cs (b.at a [.code c]) [] = G (b.at a (.code c :: k)) cs := fun cs => by simp [Gx, extFr, Frame.at]
  have hstart : Bad P F H W main D (fun g w' => ∃ a', a'.defers = [] ∧ g = G (b.at a' k) cs ∧ Far H W w w' ∧ Fit H W w' ∧ Q a' w') k cs g0 w ⟨[], 0, b.at a [.code c], [], w⟩ := by
    refine ⟨fun cs τ _ => by rw [Gx_nil]; rfl, fun cs τ _ i hi => ?_, ⟨ha, hk, rfl, fun it hi => ?_⟩, fun c hc => (nomatch hc), hfit, Far.refl _ _ _, (by rw [hx]; exact hbad)⟩
    · obtain rfl : i = 0 := by simpa using hi
      exact ⟨b.at a [.code c], [], _, rfl, fun _ => ⟨rfl, by simp [Frame.at]⟩⟩
    · simp only [Frame.at, List.mem_singleton] at hi
      subst hi
      exact hq
  refine Bad.absurd hC hD (tgt := fun t x' => ∃ a', t = b.at a' [] ∧ a'.defers = [] ∧ ∀ w' τ' d, x' = rt (vw H w') τ' d → Far H W w w' → Fit H W w' → Q a' w') (fun τ cs => ?_) (fun t w' τ d ht hf hf' => ?_) hstart rfl
  · obtain ⟨e, a', w', ⟨rfl, hd', hQ⟩, hs⟩ := hwp τ b [] cs
    obtain ⟨n, hn⟩ := hs
    exact ⟨n, b.at a' [], w', hn, rfl, rfl, a', rfl, hd', hQ⟩
  · obtain ⟨a', rfl, hd', hQ⟩ := ht
    refine ⟨a', hd', by simp [extFr, Frame.at], hf, hf', hQ w' τ d rfl hf hf'⟩
end
structure PastZ (Sh : Loc → Prop) (St : Nat → Loc → Prop) (Mem Loose : Nat → Prop) (B h dh : Nat) (t : Trace) : Prop where
  clean : ∀ said, ¬ Race said t
  known : ∀ i a, touchAt t i = some a → a.loc.isMemory = true → Knows t h i ∨ (a.write = false ∧ ∃ g, t.g? i = some g ∧ St g a.loc ∧ Loose g) ∨ (Sh a.loc ∧ a.kind = .atomic ∧ ¬ t.heard i)
  wrote : ∀ i a, touchAt t i = some a → a.write = true → ∀ g, Mem g → St g a.loc → Knows t g i
  shun : ∀ i a, touchAt t i = some a → Sh a.loc → a.kind ≠ .plain
  hears : ∀ g, Mem g → g ≠ h → Deaf t g = 0
  hearsH : Deaf t h = dh
  seen : ∀ op ∈ t, op.act.low B
theorem heard_old {t u : Trace} {i : Nat} (hi : i < t.size) : (t ++ u).heard i ↔ t.heard i := by
  unfold Trace.heard
  constructor
  · rintro ⟨g, h1, h2⟩
    exact ⟨g, by rw [g?_old hi] at h1; exact h1, by rw [deaf_old (Nat.le_of_lt hi)] at h2; exact h2⟩
  · rintro ⟨g, h1, h2⟩
    exact ⟨g, by rw [g?_old hi]; exact h1, by rw [deaf_old (Nat.le_of_lt hi)]; exact h2⟩
section
variable {Sh : Loc → Prop} {St : Nat → Loc → Prop} {Mem Loose : Nat → Prop} {B h dh : Nat} {t u : Trace}
theorem PastZ.mono {B' : Nat} (H : PastZ Sh St Mem Loose B h dh t) (hB : B ≤ B') : PastZ Sh St Mem Loose B' h dh t := ⟨H.clean, H.known, H.wrote, H.shun, H.hears, H.hearsH, fun op hop => MemAct.low_mono hB (H.seen op hop)⟩
theorem PastZ.fewer {Mem' : Nat → Prop} (H : PastZ Sh St Mem Loose B h dh t) (hM : ∀ g, Mem' g → Mem g) : PastZ Sh St Mem' Loose B h dh t := ⟨H.clean, H.known, fun i a ha hw g hg => H.wrote i a ha hw g (hM g hg), H.shun, fun g hg => H.hears g (hM g hg), H.hearsH, H.seen⟩
theorem PastZ.loosen {Loose' : Nat → Prop} (H : PastZ Sh St Mem Loose B h dh t) (hL : ∀ g, Loose g → Loose' g) : PastZ Sh St Mem Loose' B h dh t :=
  ⟨H.clean, fun i a ha hm => (H.known i a ha hm).imp id (Or.imp (fun ⟨x, g, hg, y, hl⟩ => ⟨x, g, hg, y, hL g hl⟩) id), H.wrote, H.shun, H.hears, H.hearsH, H.seen⟩
theorem PastZ.still {St' : Nat → Loc → Prop} (H : PastZ Sh St Mem Loose B h dh t) (h1 : ∀ g l, St g l → St' g l) (h2 : ∀ i a, touchAt t i = some a → a.write = true → ∀ g, Mem g → St' g a.loc → ¬ St g a.loc → Knows t g i) : PastZ Sh St' Mem Loose B h dh t :=
  ⟨H.clean, fun i a ha hm => (H.known i a ha hm).imp id (Or.imp (fun ⟨x, g, hg, y, hl⟩ => ⟨x, g, hg, h1 g _ y, hl⟩) id), fun i a ha hw g hg hs => by
    by_cases hx : St g a.loc
    · exact H.wrote i a ha hw g hg hx
    · exact h2 i a ha hw g hg hs hx, H.shun, H.hears, H.hearsH, H.seen⟩
theorem PastZ.shunMore {Sh' : Loc → Prop} (H : PastZ Sh St Mem Loose B h dh t) (h1 : ∀ l, Sh l → Sh' l) (h2 : ∀ l, Sh' l → ¬ Sh l → ∃ a, l = .cell a ∧ B ≤ a.block) : PastZ Sh' St Mem Loose B h dh t :=
  ⟨H.clean, fun i a ha hm => (H.known i a ha hm).imp id (Or.imp id fun ⟨x, y, z⟩ => ⟨h1 _ x, y, z⟩), H.wrote, fun i a ha hs => by
    by_cases hx : Sh a.loc
    · exact H.shun i a ha hx
    · obtain ⟨ad, he, hle⟩ := h2 _ hs hx
      obtain ⟨x, hx, hxa⟩ := touch_of ha
      have := H.seen x (mem_of_getElem? hx)
      exfalso
      cases hact : x.act with
      | access e =>
        rw [hact] at hxa this
        simp only [MemAct.touch?, Option.some.injEq] at hxa
        subst hxa
        simp only at he
        simp only [MemAct.low, he, Loc.low] at this
        omega
      | mark m =>
        rw [hact] at hxa this
        cases m <;> simp only [MemAct.touch?, Option.some.injEq, reduceCtorEq] at hxa <;> (subst hxa; simp only [Loc.cell.injEq] at he; subst he; simp only [MemAct.low] at this; omega)
      | _ => rw [hact] at hxa; simp [MemAct.touch?] at hxa, H.hears, H.hearsH, H.seen⟩
theorem PastZ.old_known (H : PastZ Sh St Mem Loose B h dh t) {i : Nat} {a : Touch} {x : MemOp} (hx' : t[i]? = some x) (hxa : x.act.touch? = some a) (hm : a.loc.isMemory = true) :
    Knows (t ++ u) h i ∨ (a.write = false ∧ ∃ g, (t ++ u).g? i = some g ∧ St g a.loc ∧ Loose g) ∨ (Sh a.loc ∧ a.kind = .atomic ∧ ¬ (t ++ u).heard i) :=
  (H.known i a (by rw [touchAt_of hx']; exact hxa) hm).imp (Knows.app u) (Or.imp (fun ⟨p, g, hg, q, hl⟩ => ⟨p, g, by rw [g?_old (lt_size_of_getElem? hx')]; exact hg, q, hl⟩) fun ⟨p, q, r⟩ => ⟨p, q, by rw [heard_old (lt_size_of_getElem? hx')]; exact r⟩)
theorem PastZ.old_hears {g : Nat} (H : PastZ Sh St Mem Loose B h dh t) (hu : ∀ op ∈ u, op.g = g) (hd : Mem g → g ≠ h → Deaf (t ++ u) g = Deaf t g) : ∀ g', Mem g' → g' ≠ h → Deaf (t ++ u) g' = 0 := fun g' hg' hne => by
  by_cases e : g' = g
  · subst e; exact (hd hg' hne).trans (H.hears g' hg' hne)
  · exact (Deaf_other t (fun x => e x.symm) u hu).trans (H.hears g' hg' hne)
theorem PastZ.appMute {g : Nat} (H : PastZ Sh St Mem Loose B h dh t) (hgh : g ≠ h) (hu : ∀ op ∈ u, op.g = g) (hn : ∀ op ∈ u, op.act.touch? = none) (hd : Mem g → Deaf (t ++ u) g = Deaf t g) (hl : ∀ op ∈ u, op.act.low B) : PastZ Sh St Mem Loose B h dh (t ++ u) := by
  refine ⟨fun said => noRace_appendMute (H.clean said) hn, fun i a ha hm => ?_, fun i a ha hw g' hg' hS => ?_, fun i a ha hs => ?_, H.old_hears hu (fun hM _ => hd hM), (Deaf_other t hgh u hu).trans H.hearsH, seen_app H.seen hl⟩
  all_goals
    obtain ⟨x, hx, hxa⟩ := touch_of ha
    rcases getElem?_append_cases hx with ⟨_, hx'⟩ | ⟨_, hxu⟩
  · exact H.old_known hx' hxa hm
  · rw [hn x hxu] at hxa; cases hxa
  · exact (H.wrote i a (by rw [touchAt_of hx']; exact hxa) hw g' hg' hS).app u
  · rw [hn x hxu] at hxa; cases hxa
  · exact H.shun i a (by rw [touchAt_of hx']; exact hxa) hs
  · rw [hn x hxu] at hxa; cases hxa
theorem PastZ.appRead {g : Nat} (hdis : ∀ g l, St g l → ¬ Sh l) (H : PastZ Sh St Mem Loose B h dh t) (hgh : g ≠ h) (hg : Mem g) (hL : Loose g) (hu : ∀ op ∈ u, op.g = g) (hr : ∀ op ∈ u, ∀ b, op.act.touch? = some b → b.write = false ∧ St g b.loc) (hd : Deaf (t ++ u) g = Deaf t g)
    (hl : ∀ op ∈ u, op.act.low B) : PastZ Sh St Mem Loose B h dh (t ++ u) := by
  refine ⟨fun said => noRace_append (H.clean said) hu fun i a ha op hop b hb hc => ?_, fun i a ha hm => ?_, fun i a ha hw g' hg' hS => ?_, fun i a ha hs => ?_, H.old_hears hu (fun _ _ => hd), (Deaf_other t hgh u hu).trans H.hearsH, seen_app H.seen hl⟩
  · obtain ⟨hb0, hbS⟩ := hr op hop b hb
    rcases hc.2.2.1 with x | x
    · exact H.wrote i a ha x g hg (hc.1 ▸ hbS)
    · rw [hb0] at x; cases x
  all_goals
    obtain ⟨x, hx, hxa⟩ := touch_of ha
    rcases getElem?_append_cases hx with ⟨_, hx'⟩ | ⟨_, hxu⟩
  · exact H.old_known hx' hxa hm
  · exact .inr (.inl ⟨(hr x hxu a hxa).1, g, by rw [g?_of hx, hu x hxu], (hr x hxu a hxa).2, hL⟩)
  · exact (H.wrote i a (by rw [touchAt_of hx']; exact hxa) hw g' hg' hS).app u
  · rw [(hr x hxu a hxa).1] at hw; cases hw
  · exact H.shun i a (by rw [touchAt_of hx']; exact hxa) hs
  · exact absurd hs (hdis g _ (hr x hxu a hxa).2)
theorem PastZ.appAtom {g : Nat} (hdis : ∀ g l, St g l → ¬ Sh l) (H : PastZ Sh St Mem Loose B h dh t) (hgh : g ≠ h) (hM : ¬ Mem g) (hu : ∀ op ∈ u, op.g = g) (hr : ∀ op ∈ u, ∀ b, op.act.touch? = some b → Sh b.loc ∧ b.kind = .atomic)
    (hd : ∀ i, i < u.size → 0 < (t ++ u).deaf g (t.size + i)) (hl : ∀ op ∈ u, op.act.low B) : PastZ Sh St Mem Loose B h dh (t ++ u) := by
  refine ⟨fun said => noRace_append (H.clean said) hu fun i a ha op hop b hb hc => ?_, fun i a ha hm => ?_, fun i a ha hw g' hg' hS => ?_, fun i a ha hs => ?_, H.old_hears hu (fun hx _ => absurd hx hM), (Deaf_other t hgh u hu).trans H.hearsH, seen_app H.seen hl⟩
  · obtain ⟨hb1, hb2⟩ := hr op hop b hb
    have hk := H.shun i a ha (hc.1 ▸ hb1)
    rcases hc.2.2.2 with x | x | ⟨_, _, x⟩
    · exact absurd x hk
    · rw [hb2] at x; cases x
    · rw [hb2] at x; cases x
  all_goals
    obtain ⟨x, hx, hxa⟩ := touch_of ha
    rcases getElem?_append_cases hx with ⟨_, hx'⟩ | ⟨hge, hxu⟩
  · exact H.old_known hx' hxa hm
  · refine .inr (.inr ⟨(hr x hxu a hxa).1, (hr x hxu a hxa).2, ?_⟩)
    rintro ⟨g', hg', hd'⟩
    rw [g?_of hx, hu x hxu] at hg'
    cases hg'
    have hlt := lt_size_of_getElem? hx
    rw [Array.size_append] at hlt
    have := hd (i - t.size) (by omega)
    rw [show t.size + (i - t.size) = i by omega] at this
    omega
  · exact (H.wrote i a (by rw [touchAt_of hx']; exact hxa) hw g' hg' hS).app u
  · exact absurd (hr x hxu a hxa).1 (hdis g' _ hS)
  · exact H.shun i a (by rw [touchAt_of hx']; exact hxa) hs
  · rw [(hr x hxu a hxa).2]; simp
theorem PastZ.appH {dh' : Nat} (H : PastZ Sh St Mem Loose B h dh t) (hu : ∀ op ∈ u, op.g = h) (hs : ∀ op ∈ u, ∀ b, op.act.touch? = some b → (∀ g, St g b.loc → b.write = false) ∧ (Sh b.loc → b.kind ≠ .plain)) (hd : Deaf (t ++ u) h = dh')
    (hl : ∀ op ∈ u, op.act.low B) : PastZ Sh St Mem Loose B h dh' (t ++ u) := by
  refine ⟨fun said => noRace_append (H.clean said) hu fun i a ha op hop b hb hc => ?_, fun i a ha hm => ?_, fun i a ha hw g hg hS => ?_, fun i a ha hsh => ?_, H.old_hears hu (fun _ hne => absurd rfl hne), hd, seen_app H.seen hl⟩
  · rcases H.known i a ha hc.2.1 with hk | ⟨hw, g, _, hS, _⟩ | ⟨hsh, hka, _⟩
    · exact hk
    · have hb0 := (hs op hop b hb).1 g (hc.1 ▸ hS)
      rcases hc.2.2.1 with x | x
      · rw [hw] at x; cases x
      · rw [hb0] at x; cases x
    · have hb0 := (hs op hop b hb).2 (hc.1 ▸ hsh)
      rcases hc.2.2.2 with x | x | ⟨_, x, _⟩
      · rw [hka] at x; cases x
      · exact absurd x hb0
      · rw [hka] at x; cases x
  all_goals
    obtain ⟨x, hx, hxa⟩ := touch_of ha
    rcases getElem?_append_cases hx with ⟨_, hx'⟩ | ⟨_, hxu⟩
  · exact H.old_known hx' hxa hm
  · have := knows_own hx
    rw [hu x hxu] at this
    exact .inl this
  · exact (H.wrote i a (by rw [touchAt_of hx']; exact hxa) hw g hg hS).app u
  · rw [(hs x hxu a hxa).1 g hS] at hw; cases hw
  · exact H.shun i a (by rw [touchAt_of hx']; exact hxa) hsh
  · exact (hs x hxu a hxa).2 hsh
end
section
variable {Sh : Loc → Prop} {St : Nat → Loc → Prop} {Mem Loose : Nat → Prop} {B h j : Nat} {t : Trace}
theorem PastZ.give (H : PastZ Sh St Mem Loose B h 0 t) (hjh : j ≠ h) (hj : Mem j) (fh : FuncId) (ph : String) (fj : FuncId) (pj : String) {c : Nat} (k cap : Nat) (hc : c < B) :
    PastZ Sh St Mem (fun g => Loose g ∧ g ≠ j) B j 0 (t ++ met h j fh ph fj pj c k cap) := by
  have hn := met_mute h j fh ph fj pj c k cap
  have hq := met_quiet h j fh ph fj pj c k cap
  have e0 : (t ++ met h j fh ph fj pj c k cap)[t.size]? = some { g := h, fn := fh, pos := ph, act := .send c k } := by simp [met]
  have e3 : (t ++ met h j fh ph fj pj c k cap)[t.size + 3]? = some { g := j, fn := fj, pos := pj, act := .recvDone c k } := by simp [met]
  have edge : HappensBefore (t ++ met h j fh ph fj pj c k cap) t.size (t.size + 3) :=
    Relation.TransGen.single (.inr ⟨.handOver (act?_of e0) (act?_of e3), ⟨h, g?_of e0, by rw [deaf_old (Nat.le_refl _)]; exact H.hearsH⟩, ⟨j, g?_of e3, by rw [deaf_quiet (hq j) 3 (by simp [met])]; exact H.hears j hj hjh⟩⟩)
  refine ⟨fun said => noRace_appendMute (H.clean said) hn, fun i a ha hm => ?_, fun i a ha hw g hg hS => ?_, fun i a ha hs => ?_, fun g hg hne => (Deaf_quiet (hq g)).trans ?_, (Deaf_quiet (hq j)).trans (H.hears j hj hjh), seen_app H.seen fun op hop => ?_⟩
  · obtain ⟨x, hx, hxa⟩ := touch_of ha
    rcases getElem?_append_cases hx with ⟨hi, hx'⟩ | ⟨_, hxu⟩
    · rcases H.known i a (by rw [touchAt_of hx']; exact hxa) hm with hk | ⟨p, g, hg, q, hl⟩ | ⟨p, q, r⟩
      · exact .inl ⟨t.size + 3, _, e3, rfl, .inr ((hk.hb_new (Nat.le_refl _) e0 rfl).trans edge)⟩
      · by_cases e : g = j
        · subst e
          have := knows_own hx
          rw [show x.g = g from by have := g?_of hx'; rw [hg] at this; exact (Option.some.inj this).symm] at this
          exact .inl this
        · exact .inr (.inl ⟨p, g, by rw [g?_old hi]; exact hg, q, hl, e⟩)
      · exact .inr (.inr ⟨p, q, by rw [heard_old hi]; exact r⟩)
    · rw [hn x hxu] at hxa; cases hxa
  · obtain ⟨x, hx, hxa⟩ := touch_of ha
    rcases getElem?_append_cases hx with ⟨_, hx'⟩ | ⟨_, hxu⟩
    · exact (H.wrote i a (by rw [touchAt_of hx']; exact hxa) hw g hg hS).app _
    · rw [hn x hxu] at hxa; cases hxa
  · obtain ⟨x, hx, hxa⟩ := touch_of ha
    rcases getElem?_append_cases hx with ⟨_, hx'⟩ | ⟨_, hxu⟩
    · exact H.shun i a (by rw [touchAt_of hx']; exact hxa) hs
    · rw [hn x hxu] at hxa; cases hxa
  · by_cases e : g = h
    · subst e; exact H.hearsH
    · exact H.hears g hg e
  · simp only [met, List.mem_toArray, List.mem_cons, List.not_mem_nil, or_false] at hop
    rcases hop with rfl | rfl | rfl | rfl <;> exact hc
theorem PastZ.hire {c : Nat} (H : PastZ Sh St Mem Loose B h 0 t) (hch : c ≠ h) (hc0 : Deaf t c = 0) (hMc : ¬ Mem c) (hS : ∀ l, ¬ St c l) (fh : FuncId) (ph : String) (fc : FuncId) :
    PastZ Sh St (fun g => Mem g ∨ g = c) Loose B c 0 (t ++ #[{ g := h, fn := fh, pos := ph, act := .go c }, { g := c, fn := fc, pos := ph, act := .start }]) := by
  generalize hu : (#[{ g := h, fn := fh, pos := ph, act := .go c }, { g := c, fn := fc, pos := ph, act := .start }] : Trace) = u
  have hn : ∀ op ∈ u, op.act.touch? = none := by
    intro op hop
    subst hu
    simp only [List.mem_toArray, List.mem_cons, List.not_mem_nil, or_false] at hop
    rcases hop with rfl | rfl <;> rfl
  have hq : ∀ g, ∀ op ∈ u, ∀ d, deafStep g d op = d := by
    intro g op hop d
    subst hu
    simp only [List.mem_toArray, List.mem_cons, List.not_mem_nil, or_false] at hop
    rcases hop with rfl | rfl <;> rfl
  have e0 : (t ++ u)[t.size]? = some { g := h, fn := fh, pos := ph, act := .go c } := by subst hu; simp
  have e1 : (t ++ u)[t.size + 1]? = some { g := c, fn := fc, pos := ph, act := .start } := by subst hu; simp
  have edge : HappensBefore (t ++ u) t.size (t.size + 1) :=
    Relation.TransGen.single (.inr ⟨.spawn (act?_of e0) (act?_of e1) (g?_of e1), ⟨h, g?_of e0, by rw [deaf_old (Nat.le_refl _)]; exact H.hearsH⟩, ⟨c, g?_of e1, by rw [deaf_quiet (hq c) 1 (by subst hu; simp)]; exact hc0⟩⟩)
  refine ⟨fun said => noRace_appendMute (H.clean said) hn, fun i a ha hm => ?_, fun i a ha hw g hg hSt => ?_, fun i a ha hs => ?_, fun g hg hne => (Deaf_quiet (hq g)).trans ?_, (Deaf_quiet (hq c)).trans hc0, seen_app H.seen fun op hop => ?_⟩
  · obtain ⟨x, hx, hxa⟩ := touch_of ha
    rcases getElem?_append_cases hx with ⟨hi, hx'⟩ | ⟨_, hxu⟩
    · rcases H.known i a (by rw [touchAt_of hx']; exact hxa) hm with hk | ⟨p, g, hg, q, hl⟩ | ⟨p, q, r⟩
      · exact .inl ⟨t.size + 1, _, e1, rfl, .inr ((hk.hb_new (Nat.le_refl _) e0 rfl).trans edge)⟩
      · exact .inr (.inl ⟨p, g, by rw [g?_old hi]; exact hg, q, hl⟩)
      · exact .inr (.inr ⟨p, q, by rw [heard_old hi]; exact r⟩)
    · rw [hn x hxu] at hxa; cases hxa
  · obtain ⟨x, hx, hxa⟩ := touch_of ha
    rcases getElem?_append_cases hx with ⟨_, hx'⟩ | ⟨_, hxu⟩
    · rcases hg with hg | rfl
      · exact (H.wrote i a (by rw [touchAt_of hx']; exact hxa) hw g hg hSt).app u
      · exact absurd hSt (hS _)
    · rw [hn x hxu] at hxa; cases hxa
  · obtain ⟨x, hx, hxa⟩ := touch_of ha
    rcases getElem?_append_cases hx with ⟨_, hx'⟩ | ⟨_, hxu⟩
    · exact H.shun i a (by rw [touchAt_of hx']; exact hxa) hs
    · rw [hn x hxu] at hxa; cases hxa
  · by_cases e : g = h
    · subst e; exact H.hearsH
    · exact H.hears g (hg.resolve_right hne) e
  · subst hu
    simp only [List.mem_toArray, List.mem_cons, List.not_mem_nil, or_false] at hop
    rcases hop with rfl | rfl <;> trivial
theorem PastZ.over (H : PastZ Sh St Mem Loose B 0 0 t) (hL : ∀ g, ¬ Loose g) : (∀ said, ¬ Race said t) ∧ t.HandedOver := by
  refine ⟨H.clean, fun i g hg hne ⟨x, hx, hm, hc⟩ => ?_⟩
  rcases H.known i x hx hm with ⟨q, z, hq, hz, hb⟩ | ⟨_, g', _, _, hl⟩ | ⟨_, hk, hh⟩
  · rcases hb with rfl | hb
    · rw [g?_of hq, hz] at hg
      exact absurd (Option.some.inj hg).symm hne
    · exact ⟨q, by rw [g?_of hq, hz], hb⟩
  · exact absurd hl (hL g')
  · rcases hc with hc | hc
    · exact absurd hk hc
    · exact absurd hc hh
end
end Go.Proofs.Ytimlbbleblijnaa.Co

namespace Go.Proofs.Ytimlbbleblijnaa.Co
open Go.Conc
open Go.ConcN (sumTo upd sumTo_upd upd_ne upd_same sumTo_congr le_sumTo)
inductive Role where
  | seat (c : Nat) (home : Goroutine → Prop)
  | ender (b : Nat)
  | last (b : Nat) (stored : Bool)
  | gone
def SameIo (w w' : World) : Prop := w'.os = w.os ∧ w'.output = w.output
theorem SameIo.refl (w : World) : SameIo w w := ⟨rfl, rfl⟩
theorem SameIo.trans {a b c : World} (h : SameIo a b) (k : SameIo b c) : SameIo a c := ⟨k.1.trans h.1, k.2.trans h.2⟩
structure Env where
  role : Nat → Role
  St : Nat → Addr → Option Value
  wg : Nat → Option Nat
  W : Nat → Bool
  H : Nat → Option Nat
  mode : Nat → Nat
  ex : Nat → Nat
  io : World
def KK : Int := 4294967296
def stZ (b : Nat) : Addr := ⟨b, 1, none⟩
def smZ (b : Nat) : Addr := ⟨b, 2, none⟩
def rdE (a : Addr) : Event := ⟨.cell a, false, true⟩
def wrE (a : Addr) : Event := ⟨.cell a, true, true⟩
def mkE (m : Mark) : Event := ⟨.mark m, false, true⟩
def GroupAt (b : Nat) (w : World) (st sm : Int) : Prop := ∃ x e, w.heap[b]? = some (runObj x st sm e)
def EvS (S : Addr → Option Value) (e : Event) : Prop := ∃ a, e = ⟨.cell a, false, false⟩ ∧ (S a).isSome = true
def KS (S : Addr → Option Value) (w : World) : Prop := ∀ a v, S a = some v → w.cell? a = some v
def AtSeat (P : Program) (main : Bool) (S : Addr → Option Value) (c : Nat) (home : Goroutine → Prop) (g g₂ : Goroutine) : Prop :=
  g.status = .running ∧ g.frame = g₂.frame ∧ g.callers = g₂.callers ∧ g.dying = g₂.dying ∧ home g₂ ∧ ∃ es, (∀ e ∈ es, EvS S e) ∧ ∀ w, KS S w → stepG P main g w = .comm g₂ #[rcase c (.bool false)] true (.recv false) w es
def Sits (P : Program) (main : Bool) (S : Addr → Option Value) (c : Nat) (home : Goroutine → Prop) (n : Nat) (g : Goroutine) : Prop :=
  (∃ k w, n = k + 1 ∧ Goes P main (fun _ w₁ => KS S w₁) (fun w w' es => w' = w ∧ ∀ e ∈ es, EvS S e) (fun g _ => ∃ g₂, AtSeat P main S c home g g₂) k g w) ∨
    (n = 0 ∧ ∃ g₀ g₂, g = parked g₂ #[rcase c (.bool false)] (.recv false) ∧ AtSeat P main S c home g₀ g₂)
def Lasts (P : Program) (b : Nat) : Nat → Bool → Goroutine → Prop
  | 0, _, _ => False
  | n + 1, false, g => g.status = .running ∧ ∀ w, GroupAt b w 1 0 → ∃ g' w' es, stepG P false g w = .go g' w' es ∧
      ((w' = w ∧ (es = #[] ∨ es = #[rdE (stZ b)]) ∧ Lasts P b n false g') ∨ (w' = w.setCell (stZ b) (.int .u64 0) ∧ es = #[wrE (stZ b)] ∧ Lasts P b n true g'))
  | n + 1, true, g => g.status = .running ∧ ∀ w, GroupAt b w 0 0 → ∃ g' w' es, stepG P false g w = .go g' w' es ∧
      ((w' = w ∧ es = #[] ∧ Lasts P b n true g') ∨ (w' = w.setCell (smZ b) (.int .u32 1) ∧ es = semEvents (smZ b) ∧ mayWake P g = true ∧ QuitsD P n 1 g'))
def Ends (P : Program) (b : Nat) : Nat → Nat → Goroutine → Prop
  | 0, _, _ => False
  | n + 1, d, g => g.status = .running ∧ ∀ (w : World) (v wt : Nat), v < 2147483647 → wt ≤ 1 → GroupAt b w (((v : Int) + 1) * KK + wt) 0 → ∃ g' w' es, stepG P false g w = .go g' w' es ∧
      ((w' = w ∧ es = #[] ∧ Ends P b n d g') ∨ (w' = w ∧ d = 0 ∧ es = #[mkE (.releaseMerge (stZ b))] ∧ Ends P b n 0 g') ∨ (w' = w ∧ d = 0 ∧ es = #[mkE .disable] ∧ Ends P b n 1 g') ∨
       (d = 1 ∧ w' = w.setCell (stZ b) (.int .u64 ((v : Int) * KK + wt)) ∧ es = #[rdE (stZ b), wrE (stZ b)] ∧ ((v = 0 ∧ wt = 1) → Lasts P b n false g') ∧ (¬ (v = 0 ∧ wt = 1) → QuitsD P n 1 g')))
def cnt (E : Env) (n b : Nat) : Nat := sumTo n fun i => if E.wg i = some b then 1 else 0
def stv (E : Env) (n b : Nat) : Int := ((cnt E n b + E.ex b : Nat) : Int) * KK + (if E.mode b = 1 ∨ E.mode b = 2 then 1 else 0)
def smv (E : Env) (b : Nat) : Int := if E.mode b = 4 then 1 else 0
def Idle (P : Program) (E : Env) (T : Trace) (i n : Nat) (g : Goroutine) : Prop := match E.role i with
  | .seat c home => Sits P (i == 0) (E.St i) c home n g
  | .ender b => 0 < i ∧ Ends P b n (Deaf T i) g ∧ E.wg i = some b
  | .last b f => 0 < i ∧ Lasts P b n f g ∧ Deaf T i = 1 ∧ E.W b = true ∧ E.mode b = (if f then 3 else 2) ∧ E.wg i = none
  | .gone => 0 < i ∧ QuitsD P n (Deaf T i) g ∧ E.wg i = none
def Role.sits : Role → Bool
  | .seat .. => true
  | _ => false
def ShZ (W : Nat → Bool) (l : Loc) : Prop := ∃ a, l = .cell a ∧ W a.block = true ∧ 1 ≤ a.off
def StZ (E : Env) (i : Nat) (l : Loc) : Prop := ∃ a, l = .cell a ∧ (E.St i a).isSome = true
def MemZ (E : Env) (h n : Nat) (i : Nat) : Prop := i = h ∨ (i < n ∧ (E.role i).sits = true)
def LooseZ (E : Env) (h n : Nat) (i : Nat) : Prop := i ≠ h ∧ i < n ∧ (E.role i).sits = true
structure Co (P : Program) (E : Env) (h dh : Nat) (T : Trace) (gs : Array Goroutine) (w : World) (q : Nat → Nat) : Prop where
  lt : h < gs.size
  idle : ∀ i g, i ≠ h → gs[i]? = some g → Idle P E T i (q i) g
  chans : ∀ i c home, i ≠ h → i < gs.size → E.role i = .seat c home → ∃ k, w.heap[c]? = some (.chan 0 #[] false k k false)
  inj : ∀ i i' c home home', i ≠ h → i' ≠ h → i < gs.size → i' < gs.size → E.role i = .seat c home → E.role i' = .seat c home' → i = i'
  above : ∀ j, gs.size ≤ j → Deaf T j = 0
  keep : ∀ i, KS (E.St i) w
  dis : ∀ i a, (E.St i a).isSome = true → E.W a.block = false
  fit : Fit E.H E.W w
  hidS : ∀ i a, (E.St i a).isSome = true → ∃ n, E.H a.block = some n ∧ n ≤ a.off
  hidC : ∀ i c home, E.role i = .seat c home → E.H c = some 0
  past : PastZ (ShZ E.W) (StZ E) (MemZ E h gs.size) (LooseZ E h gs.size) w.heap.size h dh T
  wgW : ∀ i b, i < gs.size → E.wg i = some b → E.W b = true
  fresh : ∀ i, gs.size ≤ i → E.role i = .gone ∧ E.wg i = none ∧ ∀ a, E.St i a = none
  groups : ∀ b, E.W b = true → GroupAt b w (stv E gs.size b) (smv E b)
  few : ∀ b, E.W b = true → cnt E gs.size b + E.ex b ≤ 1000
  modes : ∀ b, E.W b = true → E.mode b ≤ 4 ∧ (E.mode b = 1 → 1 ≤ cnt E gs.size b + E.ex b) ∧ (2 ≤ E.mode b → cnt E gs.size b + E.ex b = 0)
  lastEx : ∀ b, E.W b = true → (E.mode b = 2 ∨ E.mode b = 3) → ∃ i f, i ≠ h ∧ i < gs.size ∧ E.role i = .last b f
  zero : ∀ b, E.W b = false → E.ex b = 0 ∧ E.mode b = 0
  one : ∀ i i' b f f', i ≠ h → i' ≠ h → i < gs.size → i' < gs.size → E.role i = .last b f → E.role i' = .last b f' → i = i'
  io : SameIo E.io w
section
variable {P : Program} {E : Env} {h dh : Nat} {T : Trace} {gs : Array Goroutine} {w : World} {q : Nat → Nat}
theorem KS.mono {S S' : Addr → Option Value} (hS : ∀ a v, S a = some v → S' a = some v) {w : World} (h : KS S' w) : KS S w := fun a v e => h a v (hS a v e)
theorem EvS.mono {S S' : Addr → Option Value} (hS : ∀ a v, S a = some v → S' a = some v) {e : Event} (h : EvS S e) : EvS S' e := by
  obtain ⟨a, rfl, h⟩ := h
  obtain ⟨v, hv⟩ := Option.isSome_iff_exists.1 h
  exact ⟨a, rfl, by rw [hS a v hv]; rfl⟩
theorem AtSeat.mono {S S' : Addr → Option Value} (hS : ∀ a v, S a = some v → S' a = some v) {main : Bool} {c : Nat} {home : Goroutine → Prop} {g g₂ : Goroutine} (h : AtSeat P main S c home g g₂) : AtSeat P main S' c home g g₂ := by
  obtain ⟨h1, h2, h3, h4, h5, es, h6, h7⟩ := h
  exact ⟨h1, h2, h3, h4, h5, es, fun e he => (h6 e he).mono hS, fun w hw => h7 w (hw.mono hS)⟩
theorem sits_goes_mono {S S' : Addr → Option Value} (hS : ∀ a v, S a = some v → S' a = some v) {main : Bool} {c : Nat} {home : Goroutine → Prop} : ∀ {k : Nat} {g : Goroutine} {w : World},
    Goes P main (fun _ w₁ => KS S w₁) (fun w w' es => w' = w ∧ ∀ e ∈ es, EvS S e) (fun g _ => ∃ g₂, AtSeat P main S c home g g₂) k g w → Goes P main (fun _ w₁ => KS S' w₁) (fun w w' es => w' = w ∧ ∀ e ∈ es, EvS S' e) (fun g _ => ∃ g₂, AtSeat P main S' c home g g₂) k g w
  | 0, g, w, h => fun w₁ h1 => (h w₁ (h1.mono hS)).imp fun _ x => x.mono hS
  | k + 1, g, w, h => by
    rcases h with h | ⟨hs, h⟩
    · exact .inl fun w₁ h1 => (h w₁ (h1.mono hS)).imp fun _ x => x.mono hS
    · refine .inr ⟨hs, fun w₁ h1 => ?_⟩
      have := h w₁ (h1.mono hS)
      cases hg : stepG P main g w₁ with
      | go g' w' es =>
        rw [hg, goes_go] at this
        exact ⟨⟨this.1.1, fun e he => (this.1.2 e he).mono hS⟩, sits_goes_mono hS this.2⟩
      | _ => rw [hg] at this; exact this.elim
theorem Sits.mono {S S' : Addr → Option Value} (hS : ∀ a v, S a = some v → S' a = some v) {main : Bool} {c n : Nat} {home : Goroutine → Prop} {g : Goroutine} (h : Sits P main S c home n g) : Sits P main S' c home n g := by
  rcases h with ⟨k, w, e, h⟩ | ⟨e, g₀, g₂, e2, h⟩
  · exact .inl ⟨k, w, e, sits_goes_mono hS h⟩
  · exact .inr ⟨e, g₀, g₂, e2, h.mono hS⟩
theorem Sits.status {S : Addr → Option Value} {main : Bool} {c n : Nat} {home : Goroutine → Prop} {g : Goroutine} {w : World} (hK : KS S w) (h : Sits P main S c home n g) : (g.status = .running ∧ 0 < n) ∨ (g.status = .blocked ∧ n = 0) := by
  rcases h with ⟨k, w₀, rfl, hg⟩ | ⟨rfl, _, g₂, rfl, _⟩
  · refine .inl ⟨?_, by omega⟩
    cases k with
    | zero => exact (hg w hK).choose_spec.1
    | succ k => exact hg.elim (fun x => (x w hK).choose_spec.1) (·.1)
  · exact .inr ⟨rfl, rfl⟩
theorem Sits.again {S : Addr → Option Value} {main : Bool} {c n : Nat} {home : Goroutine → Prop} {g : Goroutine} {w w' : World} (hK : KS S w) (h : Sits P main S c home n g) (hc : ∃ cap buf a b tm, w'.heap[c]? = some (.chan cap buf false a b tm)) : g.again w' = g := by
  rcases h with ⟨k, w₀, rfl, hg⟩ | ⟨rfl, _, g₂, rfl, _⟩
  · exact again_of_running (.inl ((Sits.status hK (.inl ⟨k, w₀, rfl, hg⟩)).elim (·.1) (fun x => by omega))) w'
  · obtain ⟨cap, buf, a, b, tm, hc⟩ := hc
    exact again_recv_open hc
theorem Lasts.status {b n : Nat} {f : Bool} {g : Goroutine} (h : Lasts P b n f g) : g.status = .running := by
  cases n with
  | zero => exact h.elim
  | succ n => cases f <;> exact h.1
theorem Ends.status {b n d : Nat} {g : Goroutine} (h : Ends P b n d g) : g.status = .running := by
  cases n with
  | zero => exact h.elim
  | succ n => exact h.1
theorem Co.idle_status (C : Co P E h dh T gs w q) {i : Nat} {g : Goroutine} (hi : i ≠ h) (hg : gs[i]? = some g) : (g.status = .running ∨ g.status = .finished) ∨ ∃ c home g₂, E.role i = .seat c home ∧ g = parked g₂ #[rcase c (.bool false)] (.recv false) := by
  have hid := C.idle i g hi hg
  unfold Idle at hid
  cases hr : E.role i with
  | seat c home =>
    rw [hr] at hid
    rcases hid with ⟨k, w₀, e, hG⟩ | ⟨_, _, g₂, rfl, _⟩
    · exact .inl (.inl ((Sits.status (C.keep i) (.inl ⟨k, w₀, e, hG⟩)).elim (·.1) (fun x => by omega)))
    · exact .inr ⟨c, home, g₂, rfl, rfl⟩
  | ender b => rw [hr] at hid; exact .inl (.inl hid.2.1.status)
  | last b f => rw [hr] at hid; exact .inl (.inl hid.2.1.status)
  | gone => rw [hr] at hid; exact .inl hid.2.1.status
theorem Co.awake (C : Co P E h dh T gs w q) {a : Goroutine} (ha : gs[h]? = some a) (hs : a.status = .running ∨ a.status = .blocked) : ∀ g ∈ gs, awake g := by
  intro g hg
  obtain ⟨i, hi, rfl⟩ := Array.mem_iff_getElem.1 hg
  by_cases e : i = h
  · subst e
    have : gs[i] = a := by simpa [Array.getElem?_eq_getElem hi] using ha
    rw [this]; exact awake_of (hs.elim .inl fun x => .inr (.inl x))
  · rcases C.idle_status e (Array.getElem?_eq_getElem hi) with (x | x) | ⟨_, _, g₂, _, x⟩
    · exact awake_of (.inl x)
    · exact awake_of (.inr (.inr x))
    · rw [x]; exact awake_of (.inr (.inl rfl))
theorem Co.chan_notW (C : Co P E h dh T gs w q) {c k : Nat} {o : Obj} (hc : w.heap[c]? = some o) (ho : ∀ cs e f, o ≠ .cells cs e f) : E.W c = false := by
  cases hw : E.W c with
  | false => rfl
  | true =>
    obtain ⟨x, e, hx⟩ := C.groups c hw
    rw [hx] at hc
    cases hc
    exact absurd rfl (ho _ _ _)
theorem Co.fixed (C : Co P E h dh T gs w q) {x : Nat} {y : Goroutine} (hx : x ≠ h) (hy : gs[x]? = some y) {w' : World} (hA : ∀ c, E.W c = false → w'.heap[c]? = w.heap[c]?) : y.again w' = y := by
  have hlt := (Array.getElem?_eq_some_iff.1 hy).1
  rcases C.idle_status hx hy with z | ⟨c, home, g₂, hr, rfl⟩
  · exact again_of_running z w'
  · obtain ⟨k, hk⟩ := C.chans x c home hx hlt hr
    have hw := C.chan_notW (k := 0) hk (by intro cs e f hh; cases hh)
    exact again_recv_open (hk ▸ hA c hw)
theorem Co.noSend (C : Co P E h dh T gs w q) {x : Nat} {y : Goroutine} (hx : x ≠ h) (hy : gs[x]? = some y) (c : Nat) : offersAt y c true = [] := by
  rcases C.idle_status hx hy with z | ⟨c', home, g₂, hr, rfl⟩
  · exact offersAt_of_not_blocked (fun hb => by rcases z with z | z <;> rw [z] at hb <;> cases hb) c true
  · exact offersAt_parked_recv' ..
theorem Co.noRecvAt (C : Co P E h dh T gs w q) {x : Nat} {y : Goroutine} (hx : x ≠ h) (hy : gs[x]? = some y) {c : Nat} (hc : ∀ home, E.role x ≠ .seat c home) : offersAt y c false = [] := by
  rcases C.idle_status hx hy with z | ⟨c', home, g₂, hr, rfl⟩
  · exact offersAt_of_not_blocked (fun hb => by rcases z with z | z <;> rw [z] at hb <;> cases hb) c false
  · rw [offersAt_parked_recv, if_neg (fun e => by subst e; exact hc home hr)]
end
theorem heap_setCell_run {w : World} {b : Nat} {x : Value} {st sm : Int} {e : TypeId} (h : w.heap[b]? = some (runObj x st sm e)) (st' : Int) : (w.setCell (stZ b) (.int .u64 st')).heap[b]? = some (runObj x st' sm e) := by
  simp [World.setCell, stZ, Array.getElem?_modify, h, runObj]
theorem heap_setCell_sem {w : World} {b : Nat} {x : Value} {st sm : Int} {e : TypeId} (h : w.heap[b]? = some (runObj x st sm e)) (sm' : Int) : (w.setCell (smZ b) (.int .u32 sm')).heap[b]? = some (runObj x st sm' e) := by
  simp [World.setCell, smZ, Array.getElem?_modify, h, runObj]
theorem heap_setCell_ne {w : World} {a : Addr} {v : Value} {b : Nat} (h : a.block ≠ b) : (w.setCell a v).heap[b]? = w.heap[b]? := by
  simp [World.setCell, Array.getElem?_modify, h]
theorem GroupAt.same {b : Nat} {w w' : World} {st sm : Int} (h : GroupAt b w st sm) (he : w'.heap[b]? = w.heap[b]?) : GroupAt b w' st sm := by
  obtain ⟨x, e, h1⟩ := h
  exact ⟨x, e, he ▸ h1⟩
theorem aw_set {W : Nat → Bool} {w : World} {b : Nat} {st sm : Int} (h : GroupAt b w st sm) (hW : W b = true) (v : Value) {a : Addr} (ha : a = stZ b ∧ (∃ s, v = .int .u64 s) ∨ a = smZ b ∧ ∃ s, v = .int .u32 s) : Aw W w (w.setCell a v) := by
  have hb : a.block = b := by rcases ha with ⟨rfl, _⟩ | ⟨rfl, _⟩ <;> rfl
  refine ⟨rfl, rfl, rfl, by simp [World.setCell], fun c hc => heap_setCell_ne (fun e => by rw [← e, hb, hW] at hc; cases hc), fun c hc x st sm e hx => ?_⟩
  by_cases hcb : b = c
  · subst hcb
    rcases ha with ⟨rfl, s, rfl⟩ | ⟨rfl, s, rfl⟩
    · exact ⟨_, _, heap_setCell_run hx _⟩
    · exact ⟨_, _, heap_setCell_sem hx _⟩
  · exact ⟨st, sm, by rw [heap_setCell_ne (by rw [hb]; exact hcb)]; exact hx⟩
theorem cnt_drop {E E' : Env} {n b i : Nat} (hi : i < n) (h : ∀ x, x ≠ i → E'.wg x = E.wg x) (h1 : E.wg i = some b) (h2 : E'.wg i = none) : cnt E' n b + 1 = cnt E n b := by
  have e : cnt E' n b = sumTo n fun a => (fun o : Option Nat => if o = some b then 1 else 0) (upd E.wg i none a) := sumTo_congr fun a _ => by
    by_cases ha : a = i
    · subst ha; rw [upd_same, h2]
    · rw [upd_ne _ _ ha, h a ha]
  have := sumTo_upd E.wg none (fun o : Option Nat => if o = some b then 1 else 0) hi
  rw [e]
  simp only [h1, if_true] at this
  simp only [reduceCtorEq, if_false] at this
  unfold cnt
  omega
theorem cnt_drop_ne {E E' : Env} {n b c i : Nat} (h : ∀ x, x ≠ i → E'.wg x = E.wg x) (h1 : E.wg i = some b) (h2 : E'.wg i = none) (hc : c ≠ b) : cnt E' n c = cnt E n c := sumTo_congr fun a _ => by
  by_cases ha : a = i
  · subst ha; rw [h1, h2]; simp; exact fun e => hc e.symm
  · rw [h a ha]
theorem cell_same {w w' : World} {a : Addr} (h : w'.heap[a.block]? = w.heap[a.block]?) : w'.cell? a = w.cell? a := by
  unfold World.cell?; rw [h]
theorem KS.aw {S : Addr → Option Value} {W : Nat → Bool} {w w' : World} (hd : ∀ a, (S a).isSome = true → W a.block = false) (hA : Aw W w w') (h : KS S w) : KS S w' := fun a v e => by
  rw [cell_same (hA.heap _ (hd a (by rw [e]; rfl)))]
  exact h a v e
section
variable {P : Program} {E : Env} {h dh : Nat} {T : Trace} {gs : Array Goroutine} {w : World} {q : Nat → Nat}
theorem idle_other {E' : Env} {ops : Array MemOp} {i x n : Nat} {y : Goroutine} (hx : x ≠ i) (hops : ∀ op ∈ ops, op.g = i) (hr : E'.role x = E.role x) (hS : E'.St x = E.St x) (hwg : E'.wg x = E.wg x) (hW : ∀ b, E.W b = true → E'.W b = true) (hm : ∀ b f, E.role x = .last b f → E'.mode b = E.mode b)
    (h : Idle P E T x n y) : Idle P E' (T ++ ops) x n y := by
  unfold Idle at h ⊢
  rw [hr]
  have hD : Deaf (T ++ ops) x = Deaf T x := Deaf_other T (fun z => hx z.symm) ops hops
  cases e : E.role x with
  | seat c home => rw [e] at h; simp only at h ⊢; rw [hS]; exact h
  | ender b => rw [e] at h; simp only at h ⊢; rw [hD, hwg]; exact h
  | last b f => rw [e] at h; simp only at h ⊢; rw [hD, hm b f e, hwg]; exact ⟨h.1, h.2.1, h.2.2.1, hW b h.2.2.2.1, h.2.2.2.2⟩
  | gone => rw [e] at h; simp only at h ⊢; rw [hD, hwg]; exact h
theorem cnt_le {E' : Env} {n b : Nat} (h : ∀ x, E'.wg x = E.wg x ∨ E'.wg x = none) : cnt E' n b ≤ cnt E n b := by
  unfold cnt
  induction n with
  | zero => exact Nat.le_refl _
  | succ n ih =>
    simp only [sumTo]
    rcases h n with e | e <;> rw [e]
    · omega
    · simp only [reduceCtorEq, if_false]; omega
theorem Co.put (C : Co P E h dh T gs w q) {E' : Env} {i n' : Nat} {g' : Goroutine} {ops : Array MemOp} {gs' : Array Goroutine} {w' : World} (hih : i ≠ h) (hlt : i < gs.size) (hsz : gs'.size = gs.size) (hother : ∀ x, x ≠ i → x ≠ h → gs'[x]? = gs[x]?) (hself : gs'[i]? = some g')
    (hops : ∀ op ∈ ops, op.g = i) (hA : Aw E.W w w') (hr : ∀ x, x ≠ i → E'.role x = E.role x) (hS : E'.St = E.St) (hwg : ∀ x, x ≠ i → E'.wg x = E.wg x) (hW : E'.W = E.W) (hH : E'.H = E.H) (hex : E'.ex = E.ex)
    (hlast : ∀ x b f, x ≠ i → x ≠ h → x < gs.size → E.role x = .last b f → E'.mode b = E.mode b) (hseat : E'.role i = E.role i ∨ ((E'.role i).sits = false ∧ (E.role i).sits = false)) (hwgi : E'.wg i = E.wg i ∨ E'.wg i = none)
    (hidle : Idle P E' (T ++ ops) i n' g') (hgroups : ∀ b, E.W b = true → GroupAt b w' (stv E' gs.size b) (smv E' b)) (hmodes : ∀ b, E.W b = true → E'.mode b ≤ 4 ∧ (E'.mode b = 1 → 1 ≤ cnt E' gs.size b + E.ex b) ∧ (2 ≤ E'.mode b → cnt E' gs.size b + E.ex b = 0))
    (hlastEx : ∀ b, E.W b = true → (E'.mode b = 2 ∨ E'.mode b = 3) → ∃ i f, i ≠ h ∧ i < gs.size ∧ E'.role i = .last b f) (hzero : ∀ b, E.W b = false → E'.mode b = E.mode b)
    (hone : ∀ b f, E'.role i = .last b f → ∀ x f', x ≠ i → x ≠ h → x < gs.size → E.role x ≠ .last b f')
    (hpast : PastZ (ShZ E.W) (StZ E) (MemZ E h gs.size) (LooseZ E h gs.size) w.heap.size h dh (T ++ ops)) (hio : E'.io = E.io := by rfl) : Co P E' h dh (T ++ ops) gs' w' (upd q i n') := by
  have hs : ∀ x, (E'.role x).sits = (E.role x).sits := fun x => by
    by_cases e : x = i
    · subst e
      rcases hseat with z | ⟨z1, z2⟩
      · rw [z]
      · rw [z1, z2]
    · rw [hr x e]
  have hwall : ∀ x, E'.wg x = E.wg x ∨ E'.wg x = none := fun x => by
    by_cases e : x = i
    · subst e; exact hwgi
    · exact .inl (hwg x e)
  have hsame : ∀ x c home, E'.role x = .seat c home → E.role x = .seat c home := fun x c home e => by
    by_cases ex : x = i
    · subst ex
      rcases hseat with z | ⟨z1, z2⟩
      · rw [← z]; exact e
      · rw [e] at z1; cases z1
    · rw [← hr x ex]; exact e
  refine ⟨by rw [hsz]; exact C.lt, fun x y hx hy => ?_, fun x c home hx hl e => ?_, fun x x' c home home' hx hx' hl hl' e e' => C.inj x x' c home home' hx hx' (hsz ▸ hl) (hsz ▸ hl') (hsame _ _ _ e) (hsame _ _ _ e'), fun j hj => ?_, fun x => ?_, fun x a => ?_, by rw [hH, hW]; exact C.fit.aw hA, fun x a => by rw [hS, hH]; exact C.hidS x a, fun x c home e => by rw [hH]; exact C.hidC x c home (hsame _ _ _ e), ?_, fun x b hl e => ?_, fun x hx => ?_, fun b hb => ?_, fun b hb => ?_, fun b hb => ?_, fun b hb => by rw [hW] at hb; rw [hsz]; exact hlastEx b hb, fun b hb => by rw [hW] at hb; rw [hex, hzero b hb]; exact C.zero b hb, fun x x' b f f' hx hx' hl hl' e e' => ?_, by rw [hio]; exact C.io.trans ⟨hA.os, hA.output⟩⟩
  · by_cases e : x = i
    · subst e
      rw [hself] at hy
      obtain rfl := Option.some.inj hy
      rw [upd_same]; exact hidle
    · rw [hother x e hx] at hy
      rw [upd_ne q n' e]
      have hl := (Array.getElem?_eq_some_iff.1 hy).1
      exact idle_other e hops (hr x e) (by rw [hS]) (hwg x e) (fun b hb => by rw [hW]; exact hb) (fun b f z => hlast x b f e hx hl z) (C.idle x y hx hy)
  · obtain ⟨k, hk⟩ := C.chans x c home hx (hsz ▸ hl) (hsame _ _ _ e)
    refine ⟨k, ?_⟩
    rw [hA.heap c (C.chan_notW (k := 0) hk (by intro cs e f hh; cases hh))]
    exact hk
  · rw [hsz] at hj
    rw [Deaf_other T (g' := i) (by omega) ops hops]
    exact C.above j hj
  · rw [hS]
    exact (C.keep x).aw (C.dis x) hA
  · rw [hS, hW]; exact C.dis x a
  · have e1 : StZ E' = StZ E := by unfold StZ; rw [hS]
    have e2 : MemZ E' h gs'.size = MemZ E h gs.size := by unfold MemZ; rw [hsz]; simp only [hs]
    have e3 : LooseZ E' h gs'.size = LooseZ E h gs.size := by unfold LooseZ; rw [hsz]; simp only [hs]
    rw [e1, e2, e3, hW, hA.size]
    exact hpast
  · rw [hW]
    rcases hwall x with z | z
    · rw [z] at e; exact C.wgW x b (hsz ▸ hl) e
    · rw [z] at e; cases e
  · rw [hsz] at hx
    have hxi : x ≠ i := by omega
    rw [hr x hxi, hwg x hxi, hS]
    exact C.fresh x hx
  · rw [hW] at hb; rw [hsz]; exact hgroups b hb
  · rw [hW] at hb; rw [hsz, hex]
    have := cnt_le (E := E) (E' := E') (n := gs.size) (b := b) hwall
    have := C.few b hb
    omega
  · rw [hW] at hb; rw [hsz, hex]; exact hmodes b hb
  · rw [hsz] at hl hl'
    by_cases ex : x = i
    · by_cases ex' : x' = i
      · rw [ex, ex']
      · subst ex
        rw [hr x' ex'] at e'
        exact absurd e' (hone b f e x' f' ex' hx' hl')
    · by_cases ex' : x' = i
      · subst ex'
        rw [hr x ex] at e
        exact absurd e (hone b f' e' x f ex hx hl)
      · rw [hr x ex] at e; rw [hr x' ex'] at e'
        exact C.one x x' b f f' hx hx' hl hl' e e'
end
end Go.Proofs.Ytimlbbleblijnaa.Co
