/- Lemmas for the laws of this seat, laid together of PGr, PGs, PGt, PGu. -/
import Derived.Test.YtimlbbleblijnaaU05

set_option linter.unusedVariables false
set_option linter.unusedSimpArgs false
namespace Go.Proofs.Ytimlbbleblijnaa.Co
open Go.Conc
open Go.ConcN (sumTo upd sumTo_upd upd_ne upd_same sumTo_congr le_sumTo)
theorem GoesW.robust {P : Program} {main : Bool} {R : World → World → Prop} {D : World → World → Array Event → Prop} {Stop : Goroutine → World → Prop} (trans : ∀ a b c, R a b → R b c → R a c) {g : Goroutine} {w : World} (h : GoesW P main R D Stop g w) :
    GoesW P main R D (fun g w => ∀ w₁, R w w₁ → Stop g w₁) g w := by
  induction h with
  | stop h => exact .stop fun w₁ h1 w₂ h2 => h w₂ (trans _ _ _ h1 h2)
  | step hs ng nw ne h ih ihh => exact .step hs ng nw ne h ihh
section
variable (P : Program) (main : Bool) (W : Nat → Bool) (D : World → World → Array Event → Prop) (b : Nat) (Fin Anch : Goroutine → World → Prop)
abbrev GW (S : Goroutine → World → Prop) (g : Goroutine) (w : World) : Prop := GoesW P main (Aw W) D S g w
def AtW4 (g : Goroutine) (w : World) : Prop := g.status = .running ∧ (GroupAt b w 0 0 → ∃ g', stepG P main g w = .go g' w #[rdE (stZ b)] ∧ GW P main W D Fin g' w)
def AtW3 (g : Goroutine) (w : World) : Prop :=
  g.status = .running ∧ g.offers = none ∧ ((∃ st, GroupAt b w st 0) → stepG P main g w = .go { g with status := .blocked } w #[]) ∧
    (GroupAt b w 0 1 → ∃ g', stepG P main g w = .go g' (w.setCell (smZ b) (.int .u32 0)) (semEvents (smZ b)) ∧ GW P main W D (AtW4 P main W D b Fin) g' (w.setCell (smZ b) (.int .u32 0)))
def AtW2 (v : Nat) (g : Goroutine) (w : World) : Prop :=
  g.status = .running ∧ ∀ v' : Nat, v' < 2147483648 → GroupAt b w ((v' : Int) * KK) 0 →
    (v' = v → ∃ g', stepG P main g w = .go g' (w.setCell (stZ b) (.int .u64 ((v : Int) * KK + 1))) #[rdE (stZ b), wrE (stZ b)] ∧ GW P main W D (AtW3 P main W D b Fin) g' (w.setCell (stZ b) (.int .u64 ((v : Int) * KK + 1)))) ∧
    (v' ≠ v → ∃ g', stepG P main g w = .go g' w #[rdE (stZ b)] ∧ GW P main W D Anch g' w)
def AtW1 (g : Goroutine) (w : World) : Prop :=
  g.status = .running ∧ ∀ v : Nat, v < 2147483648 → GroupAt b w ((v : Int) * KK) 0 → ∃ g', stepG P main g w = .go g' w #[rdE (stZ b)] ∧
    (v = 0 → GW P main W D Fin g' w) ∧ (v ≠ 0 → GW P main W D (AtW2 P main W D b Fin Anch v) g' w)
end
section
variable {P : Program} {E : Env} {h dh : Nat} {T : Trace} {gs : Array Goroutine} {w : World} {q : Nat → Nat}
theorem Co.words (C : Co P E h dh T gs w q) {a a' : Goroutine} {b m' : Nat} {w' : World} (ha : gs[h]? = some a) (hW : E.W b = true) (hm : E.mode b ≠ 2 ∧ E.mode b ≠ 3) (hm' : m' ≠ 2 ∧ m' ≠ 3) {ops : Array MemOp} (hops : ∀ op ∈ ops, op.g = h) (hA : Aw E.W w w') (hother : ∀ c, c ≠ b → w'.heap[c]? = w.heap[c]?)
    (hgrp : GroupAt b w' (stv { E with mode := upd E.mode b m' } gs.size b) (smv { E with mode := upd E.mode b m' } b)) (hmodes : m' ≤ 4 ∧ (m' = 1 → 1 ≤ cnt E gs.size b + E.ex b) ∧ (2 ≤ m' → cnt E gs.size b + E.ex b = 0))
    (hpast : PastZ (ShZ E.W) (StZ E) (MemZ E h gs.size) (LooseZ E h gs.size) w.heap.size h dh (T ++ ops)) :
    Co P { E with mode := upd E.mode b m' } h dh (T ++ ops) ((gs.map (Go.Conc.woken P a a' w')).setIfInBounds h a') w' q ∧ ((gs.map (Go.Conc.woken P a a' w')).setIfInBounds h a')[h]? = some a' := by
  have hoth : ∀ x, x ≠ h → ((gs.map (Go.Conc.woken P a a' w')).setIfInBounds h a')[x]? = gs[x]? := fun x hx => by
    rw [Array.getElem?_setIfInBounds_ne (fun e => hx e.symm), Array.getElem?_map]
    cases e : gs[x]? with
    | none => rfl
    | some y => rw [Option.map_some, woken_of_again (C.fixed hx e hA.heap)]
  have hsz : ((gs.map (Go.Conc.woken P a a' w')).setIfInBounds h a').size = gs.size := by simp
  have hnl : ∀ x f, x ≠ h → x < gs.size → E.role x ≠ .last b f := fun x f hx hl e => by
    have := C.idle x _ hx (Array.getElem?_eq_getElem hl)
    unfold Idle at this
    rw [e] at this
    have := this.2.2.2.2.1
    cases f <;> simp at this
    · exact hm.1 this
    · exact hm.2 this
  refine ⟨⟨by rw [hsz]; exact C.lt, fun x y hx hy => ?_, fun x c home hx hl e => ?_, fun x x' c home home' hx hx' hl hl' => C.inj x x' c home home' hx hx' (hsz ▸ hl) (hsz ▸ hl'), fun j hj => ?_, fun x => (C.keep x).aw (C.dis x) hA, C.dis, C.fit.aw hA, C.hidS, C.hidC, by rw [hsz, hA.size]; exact hpast, fun x b hl => C.wgW x b (hsz ▸ hl), by rw [hsz]; exact C.fresh, fun c hc => ?_, by rw [hsz]; exact C.few, fun c hc => ?_, fun c hc hx => ?_, fun c hc => ?_, fun x x' b f f' hx hx' hl hl' => C.one x x' b f f' hx hx' (hsz ▸ hl) (hsz ▸ hl'), by first | exact ⟨C.io.1, C.io.2⟩ | exact C.io.trans ⟨hA.os, hA.output⟩ | exact C.io.trans hio⟩, Array.getElem?_setIfInBounds_self_of_lt (by simpa using C.lt)⟩
  · rw [hoth x hx] at hy
    have hl := (Array.getElem?_eq_some_iff.1 hy).1
    exact idle_other (E := E) hx hops rfl rfl rfl (fun _ hb => hb) (fun c f e => by
      have ec : c ≠ b := fun z => hnl x f hx hl (z ▸ e)
      exact upd_ne _ _ ec) (C.idle x y hx hy)
  · obtain ⟨k, hk⟩ := C.chans x c home hx (hsz ▸ hl) e
    exact ⟨k, by rw [hA.heap c (C.chan_notW (k := 0) hk (by intro cs e f hh; cases hh))]; exact hk⟩
  · rw [hsz] at hj
    have : h ≠ j := by have := C.lt; omega
    rw [Deaf_other T this _ hops]
    exact C.above j hj
  · rw [hsz]
    by_cases ec : c = b
    · subst ec; exact hgrp
    · have e1 : stv { E with mode := upd E.mode b m' } gs.size c = stv E gs.size c := by
        unfold stv
        simp only [upd_ne _ _ ec]
        rfl
      have e2 : smv { E with mode := upd E.mode b m' } c = smv E c := by
        unfold smv
        simp only [upd_ne _ _ ec]
      rw [e1, e2]
      exact (C.groups c hc).same (hother c ec)
  · rw [hsz]
    show upd E.mode b m' c ≤ 4 ∧ (upd E.mode b m' c = 1 → 1 ≤ cnt E gs.size c + E.ex c) ∧ (2 ≤ upd E.mode b m' c → cnt E gs.size c + E.ex c = 0)
    by_cases ec : c = b
    · subst ec; rw [upd_same]; exact hmodes
    · rw [upd_ne _ _ ec]; exact C.modes c hc
  · rw [hsz]
    have hx' : upd E.mode b m' c = 2 ∨ upd E.mode b m' c = 3 := hx
    by_cases ec : c = b
    · subst ec; rw [upd_same] at hx'; omega
    · rw [upd_ne _ _ ec] at hx'; exact C.lastEx c hc hx'
  · have hc' : E.W c = false := hc
    have ec : c ≠ b := fun e => by rw [e, hW] at hc'; cases hc'
    show E.ex c = 0 ∧ upd E.mode b m' c = 0
    rw [upd_ne _ _ ec]
    exact C.zero c hc'
structure Spent (E : Env) (h n b : Nat) : Prop where
  W : E.W b = true
  ex : E.ex b = 0
  mode : E.mode b = 0
  self : E.wg h ≠ some b
  none : ∀ x, x ≠ h → x < n → (E.role x).sits = true → E.wg x ≠ some b
theorem Spent.eq {E E' : Env} {h n b : Nat} (s : Spent E h n b) (k : E.Eq h E') : Spent E' h n b :=
  ⟨by rw [k.W']; exact s.W, by rw [k.ex]; exact s.ex, k.mode b s.mode, by rw [k.wgH]; exact s.self, fun x hx hl hs => by
    rw [k.sits x] at hs
    rw [k.wgS x hs]; exact s.none x hx hl hs⟩
theorem cnt_eq_le {E E' : Env} {h n b : Nat} (k : E.Le h E') : cnt E' n b ≤ cnt E n b := by
  unfold cnt
  induction n with
  | zero => exact Nat.le_refl _
  | succ n ih =>
    simp only [sumTo]
    by_cases e : E'.wg n = some b
    · rw [if_pos e, if_pos (k.wg n b e)]; omega
    · rw [if_neg e]; omega
theorem Co.counted (C : Co P E h dh T gs w q) {b : Nat} (hself : E.wg h ≠ some b) (hnone : ∀ x, x ≠ h → x < gs.size → (E.role x).sits = true → E.wg x ≠ some b) (hc : 1 ≤ cnt E gs.size b) : ∃ (i : Nat) (g : Goroutine), i ≠ h ∧ gs[i]? = some g ∧ g.status = .running := by
  have key : ∀ n, n ≤ gs.size → 1 ≤ sumTo n (fun i => if E.wg i = some b then 1 else 0) → ∃ i, i < n ∧ E.wg i = some b := by
    intro n hn hs
    induction n with
    | zero => simp [sumTo] at hs
    | succ n ih =>
      by_cases e : E.wg n = some b
      · exact ⟨n, by omega, e⟩
      · simp only [sumTo, if_neg e, Nat.add_zero] at hs
        obtain ⟨i, hi, he⟩ := ih (by omega) hs
        exact ⟨i, by omega, he⟩
  obtain ⟨i, hi, he⟩ := key _ (Nat.le_refl _) hc
  have hih : i ≠ h := fun e => hself (e ▸ he)
  refine ⟨i, gs[i], hih, Array.getElem?_eq_getElem hi, ?_⟩
  have hid := C.idle i _ hih (Array.getElem?_eq_getElem hi)
  unfold Idle at hid
  cases hr : E.role i with
  | seat c home => exact absurd he (hnone i hih hi (by rw [hr]; rfl))
  | ender b' => rw [hr] at hid; exact hid.2.1.status
  | last b' f => rw [hr] at hid; rw [hid.2.2.2.2.2] at he; cases he
  | gone => rw [hr] at hid; rw [hid.2.2] at he; cases he
theorem Co.walkR (C : Co P E h dh T gs w q) {Stop : Goroutine → World → Prop} {a : Goroutine} {sl : Option (Nat × Nat)} (hG : GoesW P (h == 0) (Aw E.W) E.D Stop a w) (ha : gs[h]? = some a) :
    ∃ N gs' a' w' sl' T' E' q', runNT P N (crowd gs w sl) T = (.next (crowd gs' w' sl'), T') ∧ gs'.size = gs.size ∧ gs'[h]? = some a' ∧ (∀ w₁, Aw E.W w' w₁ → Stop a' w₁) ∧ E.Eq h E' ∧ Co P E' h dh T' gs' w' q' :=
  Co.walk (hG.robust Aw.trans) (.refl h E) (Aw.refl _ _) C ha
theorem stv0 {E : Env} {n b : Nat} (hm : E.mode b = 0) (hex : E.ex b = 0) : stv E n b = (cnt E n b : Int) * KK := by
  unfold stv
  rw [hm, hex]
  simp
theorem smv0 {E : Env} {b : Nat} (hm : E.mode b ≠ 4) : smv E b = 0 := by unfold smv; rw [if_neg hm]
theorem PastZ.sem {Sh : Loc → Prop} {St : Nat → Loc → Prop} {Mem Loose : Nat → Prop} {B h dh b : Nat} {t : Trace} {fn : FuncId} {pos : String} (H : PastZ Sh St Mem Loose B h dh t) (hdis : ∀ g l, St g l → ¬ Sh l) (hs : Sh (.cell (smZ b))) (hb : b < B) :
    PastZ Sh St Mem Loose B h dh (t ++ MemOp.ofEvents h fn pos (semEvents (smZ b))) := by
  refine H.appH ofE_g (fun op hop x hx => ?_) ?_ (fun op hop => ?_)
  · obtain ⟨e, he, rfl⟩ := Go.Conc.mem_ofEvents hop
    simp only [semEvents, List.mem_toArray, List.mem_cons, List.not_mem_nil, or_false] at he
    rcases he with rfl | rfl | rfl | rfl
    · simp [MemAct.ofEvent, MemAct.touch?] at hx
    · simp only [MemAct.ofEvent, MemAct.touch?, Option.some.injEq] at hx
      subst hx
      exact ⟨fun g hg => absurd hs (hdis g _ hg), fun _ => by simp⟩
    · simp only [MemAct.ofEvent, MemAct.touch?, Option.some.injEq] at hx
      subst hx
      exact ⟨fun g hg => absurd hs (hdis g _ hg), fun _ => by simp⟩
    · simp [MemAct.ofEvent, MemAct.touch?] at hx
  · rw [Deaf_own, H.hearsH]
    rfl
  · obtain ⟨e, he, rfl⟩ := Go.Conc.mem_ofEvents hop
    simp only [semEvents, List.mem_toArray, List.mem_cons, List.not_mem_nil, or_false] at he
    rcases he with rfl | rfl | rfl | rfl
    · trivial
    · exact hb
    · exact hb
    · trivial
end
def Env.reset (E : Env) (b : Nat) : Env := { E with mode := upd E.mode b 0 }
theorem reset_self {E : Env} {b : Nat} (h : E.mode b = 0) : E.reset b = E := by
  have : upd E.mode b 0 = E.mode := by
    funext c
    by_cases e : c = b
    · subst e; rw [upd_same, h]
    · rw [upd_ne _ _ e]
  unfold Env.reset
  rw [this]
theorem reset_set (E : Env) (b m : Nat) : Env.reset { E with mode := upd E.mode b m } b = E.reset b := by
  have : upd (upd E.mode b m) b 0 = upd E.mode b 0 := by
    funext c
    by_cases e : c = b
    · subst e; rw [upd_same, upd_same]
    · rw [upd_ne _ _ e, upd_ne _ _ e, upd_ne _ _ e]
  unfold Env.reset
  simp only [this]
theorem reset_eq {E E' : Env} {h : Nat} (k : E.Eq h E') (b : Nat) : (E.reset b).Eq h (E'.reset b) :=
  ⟨⟨k.seat, k.gone, k.roleH, k.St, k.W, k.H, k.wg, k.wgH, k.wgS, k.ex, fun c hc => by
    by_cases e : c = b
    · subst e; exact upd_same ..
    · have hc' : upd E.mode b 0 c = 0 := hc
      rw [upd_ne _ _ e] at hc'
      show upd E'.mode b 0 c = 0
      rw [upd_ne _ _ e]; exact k.mode c hc', fun c => by
    show upd E.mode b 0 c ≤ upd E'.mode b 0 c
    by_cases e : c = b
    · subst e; rw [upd_same, upd_same]; exact Nat.le_refl _
    · rw [upd_ne _ _ e, upd_ne _ _ e]; exact k.modeUp c, k.io⟩, k.W', k.St', k.H'⟩
theorem offers_none {g : Goroutine} (h : g.offers = none) (c : Nat) (b : Bool) : offersAt { g with status := .blocked } c b = [] := by
  unfold offersAt
  simp [h]
theorem again_sem {g : Goroutine} (h1 : g.status = .running) (h2 : g.offers = none) (w : World) : Goroutine.again w { g with status := .blocked } = g := by
  obtain ⟨fr, cs, st, dy, off⟩ := g
  simp only at h1 h2
  subst h1 h2
  simp [Goroutine.again]
section
variable {P : Program} {E : Env} {h dh : Nat} {T : Trace} {gs : Array Goroutine} {w : World} {q : Nat → Nat}
def WaitEnd (P : Program) (h dh b : Nat) (Fin : Goroutine → World → Prop) (E : Env) (n : Nat) (m : Machine) (T : Trace) : Prop :=
  ∃ N gs' a' w' sl' T' E' q', runNT P N m T = (.next (crowd gs' w' sl'), T') ∧ gs'.size = n ∧ gs'[h]? = some a' ∧ Fin a' w' ∧ E.Eq h E' ∧ Co P E' h dh T' gs' w' q' ∧ cnt E' n b = 0
theorem WaitEnd.more {b : Nat} {Fin : Goroutine → World → Prop} {n N : Nat} {m m' : Machine} {T T' : Trace} {E' : Env} (hr : runNT P N m T = (.next m', T')) (hE : E.Eq h E') (g : WaitEnd P h dh b Fin E' n m' T') : WaitEnd P h dh b Fin E n m T := by
  obtain ⟨N', gs', a', w', sl', T'', E'', q', h1, h2, h3, h4, h5, h6, h7⟩ := g
  exact ⟨N + N', gs', a', w', sl', T'', E'', q', runNT_cat hr h1, h2, h3, h4, hE.trans h5, h6, h7⟩
theorem dg_read {H : Nat → Option Nat} {W : Nat → Bool} {S : Addr → Prop} {Cs : Nat → Prop} {w : World} {b : Nat} {es : Array Event} (hS : ∀ a, S a → W a.block = false) (hW : W b = true) (hb : b < w.heap.size) (hes : ∀ e ∈ es, e = rdE (stZ b)) : DG H W S Cs w w es :=
  ⟨Nat.le_refl _, fun _ _ => rfl, fun _ _ => rfl, fun _ _ x _ _ _ h => ⟨x, h⟩, id, fun e he => evG_atom hS hW hb (.inl (hes e he)), ⟨rfl, rfl⟩⟩
theorem Co.loadStep (C : Co P E h dh T gs w q) {a g' : Goroutine} {b : Nat} (ha : gs[h]? = some a) (hW : E.W b = true) : Co P E h dh (T ++ MemOp.ofEvents h a.frame.fn a.frame.place #[rdE (stZ b)]) ((gs.map (Go.Conc.woken P a g' w)).setIfInBounds h g') w q ∧ ((gs.map (Go.Conc.woken P a g' w)).setIfInBounds h g')[h]? = some g' :=
  C.own ha (dg_read C.S_dis hW (C.groups b hW).lt (fun e he => by simpa using he))
theorem Co.waitC (C : Co P E h dh T gs w q) {b : Nat} {Fin : Goroutine → World → Prop} {a : Goroutine} {sl : Option (Nat × Nat)} (hW : E.W b = true) (hex : E.ex b = 0) (hm : E.mode b = 0) (hc : cnt E gs.size b = 0) (ha : gs[h]? = some a)
    (hG : GW P (h == 0) E.W E.D (AtW4 P (h == 0) E.W E.D b Fin) a w) : WaitEnd P h dh b Fin E gs.size (crowd gs w sl) T := by
  obtain ⟨N, gs1, a1, w1, sl1, T1, E1, q1, hr1, hs1, ha1, hst1, hE1, C1⟩ := C.walkR (sl := sl) hG ha
  obtain ⟨hrun, _⟩ := hst1 w1 (Aw.refl _ _)
  obtain ⟨N2, gs2, w2, sl2, w3, sl3, T2, q2, E2, hr2, hst2, hs2, ha2, hA2, hE2, C2⟩ := C1.picked (sl := sl1) ha1 hrun
  have hEq := hE1.trans hE2
  have hc2 : cnt E2 gs2.size b = 0 := by
    have := cnt_eq_le (n := gs2.size) (b := b) hEq.toLe
    rw [hs2, hs1] at this ⊢
    omega
  have hgrp : GroupAt b w3 0 0 := by
    have := C2.groups b (by rw [hEq.W']; exact hW)
    rw [stv0 (hEq.mode b hm) (by rw [hEq.ex]; exact hex), smv0 (by rw [hEq.mode b hm]; omega), hc2] at this
    simpa using this
  obtain ⟨_, hld⟩ := hst1 w3 (by rw [← hE1.W']; exact hA2)
  obtain ⟨g', hg', hfin⟩ := hld hgrp
  obtain ⟨C3, ha3⟩ := C2.loadStep (g' := g') ha2 (b := b) (by rw [hEq.W']; exact hW)
  have hr3 := runNT_one (t := T2) (hst2.trans (runT_crowd_go (sl := sl3) ha2 hg'))
  obtain ⟨N4, gs4, a4, w4, sl4, T4, E4, q4, hr4, hs4, ha4, hst4, hE4, C4⟩ := C3.walkR (sl := sl3) (Stop := Fin) (by rw [hEq.W', hEq.D]; exact hfin) ha3
  have hsz : gs4.size = gs.size := by rw [hs4]; simp [hs2, hs1]
  refine ⟨_, gs4, a4, w4, sl4, T4, E4, q4, runNT_cat hr1 (runNT_cat hr2 (runNT_cat hr3 hr4)), hsz, ha4, hst4 _ (Aw.refl _ _), hEq.trans hE4, C4, ?_⟩
  have := cnt_eq_le (n := gs.size) (b := b) hE4.toLe
  rw [hs2, hs1] at hc2
  omega
theorem Co.waitB (C : Co P E h dh T gs w q) {b : Nat} {Fin : Goroutine → World → Prop} {a : Goroutine} {sl : Option (Nat × Nat)} (hW : E.W b = true) (hex : E.ex b = 0) (hm : 1 ≤ E.mode b) (hself : E.wg h ≠ some b)
    (hnone : ∀ x, x ≠ h → x < gs.size → (E.role x).sits = true → E.wg x ≠ some b) (ha : gs[h]? = some a) (hG : GW P (h == 0) E.W E.D (AtW3 P (h == 0) E.W E.D b Fin) a w) : WaitEnd P h dh b Fin (E.reset b) gs.size (crowd gs w sl) T := by
  obtain ⟨N, gs1, g, w1, sl1, T1, E1, q1, hr1, hs1, ha1, hst1, hE1, C1⟩ := C.walkR (sl := sl) hG ha
  obtain ⟨hrun, hoff, _⟩ := hst1 w1 (Aw.refl _ _)
  have hkey := runs_until (P := P)
    (Inv := fun μ m t => (∃ gs₂ g' w₂ sl₂ q₂ E₂, m = crowd gs₂ w₂ sl₂ ∧ gs₂.size = gs.size ∧ gs₂[h]? = some g' ∧ GW P (h == 0) E.W E.D (AtW4 P (h == 0) E.W E.D b Fin) g' w₂ ∧ (E.reset b).Eq h E₂ ∧ Co P E₂ h dh t gs₂ w₂ q₂ ∧ cnt E₂ gs.size b = 0) ∨
      ∃ gs₁ w₁ sl₁ q₁ E₁, ∃ fl : Bool, m = crowd gs₁ w₁ sl₁ ∧ gs₁.size = gs.size ∧ gs₁[h]? = some (if fl then { g with status := .blocked } else g) ∧ Aw E.W w1 w₁ ∧ E.Eq h E₁ ∧ Co P E₁ h dh t gs₁ w₁ q₁ ∧ (fl = true → E₁.mode b ≤ 3) ∧ μ = 2 * sumTo gs₁.size q₁ + (if fl then 0 else 1))
    (Done := fun m t => ∃ gs₂ g' w₂ sl₂ q₂ E₂, m = crowd gs₂ w₂ sl₂ ∧ gs₂.size = gs.size ∧ gs₂[h]? = some g' ∧ GW P (h == 0) E.W E.D (AtW4 P (h == 0) E.W E.D b Fin) g' w₂ ∧ (E.reset b).Eq h E₂ ∧ Co P E₂ h dh t gs₂ w₂ q₂ ∧ cnt E₂ gs.size b = 0)
    (fun μ m t hInv => by
      rcases hInv with hdone | ⟨gs₁, w₀, sl₁, q₁, E₁, fl, rfl, hsz, hag, hA0, hEq, C₀, hfl, hμ⟩
      · exact .inl hdone
      refine .inr ?_
      have hm1 : 1 ≤ E₁.mode b := Nat.le_trans hm (hEq.modeUp b)
      have hW1 : E₁.W b = true := by rw [hEq.W']; exact hW
      have hex1 : E₁.ex b = 0 := by rw [hEq.ex]; exact hex
      obtain ⟨hm4, hmc1, hmc2⟩ := C₀.modes b hW1
      have hsome : ∃ (i : Nat) (g : Goroutine), gs₁[i]? = some g ∧ g.status = .running := by
        cases fl with
        | false => exact ⟨h, g, hag, hrun⟩
        | true =>
          have h3 := hfl rfl
          by_cases h1 : E₁.mode b = 1
          · have hc := hmc1 h1
            obtain ⟨i, gi, _, hgi, hst⟩ := C₀.counted (b := b) (by rw [hEq.wgH]; exact hself) (fun x hx hl hs => by
              rw [hEq.sits x] at hs
              rw [hEq.wgS x hs]; exact hnone x hx (by omega) hs) (by omega)
            exact ⟨i, gi, hgi, hst⟩
          · obtain ⟨i, f, hih, hil, hri⟩ := C₀.lastEx b hW1 (by omega)
            have hid := C₀.idle i _ hih (Array.getElem?_eq_getElem hil)
            unfold Idle at hid
            rw [hri] at hid
            exact ⟨i, _, Array.getElem?_eq_getElem hil, hid.2.1.status⟩
      obtain ⟨i, gi, d, sl', hi, hg, hst⟩ := crowd_pick (P := P) (w := w₀) (sl := sl₁) (C₀.awake hag (by cases fl <;> simp [hrun])) hsome
      have C₁ := C₀.drew d
      generalize hw₁ : w₀.at d = w₁ at hst C₁
      have hA : Aw E.W w1 w₁ := hA0.trans _ _ _ (by rw [← hw₁]; exact Aw.draw _ _ d)
      have hgrp := C₁.groups b hW1
      by_cases e : i = h
      · subst e
        cases fl with
        | true => rw [hag] at hi; obtain rfl := Option.some.inj hi; cases hg
        | false =>
          obtain rfl : gi = g := by rw [hag] at hi; exact (Option.some.inj hi).symm
          obtain ⟨_, _, hblk, hacq⟩ := hst1 w₁ hA
          by_cases h4 : E₁.mode b = 4
          ·
            have hz := hmc2 (by omega)
            have hg01 : GroupAt b w₁ 0 1 := by
              have e1 : stv E₁ gs₁.size b = 0 := by unfold stv; rw [hz, h4]; simp
              have e2 : smv E₁ b = 1 := by unfold smv; rw [h4]; rfl
              rw [e1, e2] at hgrp
              exact hgrp
            obtain ⟨g', hstep, hG4⟩ := hacq hg01
            have hAw := aw_set hg01 hW1 (.int .u32 0) (.inr ⟨rfl, _, rfl⟩)
            have hpast := PastZ.sem (fn := gi.frame.fn) (pos := gi.frame.place) C₁.past (stz_dis C₁) ⟨smZ b, rfl, hW1, Nat.le_succ 1⟩ hg01.lt
            have hcnt0 : cnt E₁ gs₁.size b = 0 := by omega
            have e1 : stv { E₁ with mode := upd E₁.mode b 0 } gs₁.size b = 0 := by
              have : cnt { E₁ with mode := upd E₁.mode b 0 } gs₁.size b = 0 := hcnt0
              unfold stv
              simp only [this, upd_same, hex1]
              simp
            have e2 : smv { E₁ with mode := upd E₁.mode b 0 } b = 0 := by unfold smv; simp only [upd_same]; rfl
            obtain ⟨C', ha'⟩ := C₁.words (a' := g') (m' := 0) hi hW1 ⟨by omega, by omega⟩ ⟨by omega, by omega⟩ ofE_g hAw (fun c hc => heap_setCell_ne (by exact fun z => hc z.symm)) (by
              rw [e1, e2]
              obtain ⟨x, ty, hx⟩ := hg01
              exact ⟨x, ty, heap_setCell_sem hx 0⟩) ⟨by omega, fun z => by omega, fun z => by omega⟩ hpast
            refine ⟨_, _, 0, by rw [hst]; exact runT_crowd_go (sl := sl') hi hstep, by rw [hμ]; simp, .inl ⟨_, g', _, sl', q₁, _, rfl, by simpa using hsz, ha', hG4, ?_, C', ?_⟩⟩
            · have := reset_eq hEq b
              exact this
            · rw [← hsz]; exact hcnt0
          ·
            have hstep := hblk ⟨stv E₁ gs₁.size b, by
              have e2 : smv E₁ b = 0 := smv0 h4
              rw [e2] at hgrp
              exact hgrp⟩
            obtain ⟨C', ha'⟩ := C₁.own (a' := { gi with status := .blocked }) hi (DG.idle ..)
            refine ⟨_, _, 2 * sumTo gs₁.size q₁ + 0, by rw [hst]; exact runT_crowd_go (sl := sl') hi hstep, by rw [hμ]; simp, .inr ⟨_, w₁, sl', q₁, E₁, true, rfl, by simpa using hsz, ha', hA, hEq, C', fun _ => by omega, by simp⟩⟩
      · obtain ⟨gs', ops, w', E', q', hr, hsz', hh', _, _, hAw, hLe, C', hlt, _, hmd, h34, hW', hSt, hH⟩ := C₁.by_step (sl := sl') hi e hg (fun c home g₂ _ _ gh hgh => by
          rw [hag] at hgh; obtain rfl := Option.some.inj hgh
          cases fl with
          | false => exact offers_running hrun c
          | true => exact offers_none hoff c true)
        have hEq' : E.Eq h E' := hEq.trans ⟨hLe, hW', hSt, hH⟩
        have hA' : Aw E.W w1 w' := hA.trans _ _ _ (by rw [← hEq.W']; exact hAw)
        have hcase : (fl = true ∧ gs'[h]? = gs₁[h]? ∧ E'.mode b ≤ 3) ∨ gs'[h]? = some g := by
          cases fl with
          | false =>
            right
            rcases hh' with z | z
            · rw [z, hag]; rfl
            · rw [z, hag, Option.map_some, if_neg (by simp), again_of_running (.inl hrun)]
          | true =>
            have hag' : gs₁[h]? = some { g with status := .blocked } := hag
            by_cases h4 : E'.mode b ≤ 3
            · rcases hh' with z | z
              · exact .inl ⟨rfl, z, h4⟩
              · right; rw [z, hag', Option.map_some, again_sem hrun hoff]
            · right
              have h3 := hfl rfl
              have hx : E₁.mode b = 3 ∧ E'.mode b = 4 := by
                rcases hmd b with z | ⟨_, z⟩ <;> omega
              rw [h34 ⟨b, hx⟩, hag', Option.map_some, again_sem hrun hoff]
        rcases hcase with ⟨rfl, z1, z2⟩ | z
        · refine ⟨_, _, 2 * sumTo gs'.size q' + 0, by rw [hst]; exact hr, by rw [hμ, hsz']; simp; omega, .inr ⟨gs', w', sl', q', E', true, rfl, hsz'.trans hsz, by rw [z1]; exact hag, hA', hEq', C', fun _ => z2, by simp⟩⟩
        · refine ⟨_, _, 2 * sumTo gs'.size q' + 1, by rw [hst]; exact hr, by rw [hμ, hsz']; split <;> omega, .inr ⟨gs', w', sl', q', E', false, rfl, hsz'.trans hsz, by rw [z]; rfl, hA', hEq', C', (fun hx => by cases hx), by simp⟩⟩)
    _ (crowd gs1 w1 sl1) T1 (.inr ⟨gs1, w1, sl1, q1, E1, false, rfl, hs1, ha1, Aw.refl _ _, hE1, C1, (fun hx => by cases hx), rfl⟩)
  obtain ⟨N2, m2, T2, hr2, gs₂, g', w₂, sl₂, q₂, E₂, rfl, hsz2, hag2, hG2, hEq2, C2, hc2⟩ := hkey
  have h0 : (E.reset b).mode b = 0 := upd_same ..
  have hend := C2.waitC (sl := sl₂) (Fin := Fin) (b := b) (by rw [hEq2.W']; exact hW) (by rw [hEq2.ex]; exact hex) (hEq2.mode b h0) (by rw [hsz2]; exact hc2) hag2 (by rw [hEq2.W', hEq2.D]; exact hG2)
  rw [hsz2] at hend
  have hend' := hend.more hr2 hEq2
  obtain ⟨N', gs', a', w', sl', T'', E'', q', f1, f2, f3, f4, f5, f6, f7⟩ := hend'
  exact ⟨N + N', gs', a', w', sl', T'', E'', q', runNT_cat hr1 f1, f2, f3, f4, f5, f6, f7⟩
end
section
variable {P : Program} {E : Env} {h dh : Nat} {T : Trace} {gs : Array Goroutine} {w : World} {q : Nat → Nat}
theorem Co.wait {b : Nat} {Fin Anch : Goroutine → World → Prop} (hAn : ∀ g w, Anch g w → GW P (h == 0) E.W E.D (AtW1 P (h == 0) E.W E.D b Fin Anch) g w) :
    ∀ (m : Nat) {gs : Array Goroutine} {T : Trace} {q : Nat → Nat} {w : World} {sl : Option (Nat × Nat)} {E1 : Env} {a : Goroutine}, E.Eq h E1 → Spent E1 h gs.size b → cnt E1 gs.size b ≤ m → Co P E1 h dh T gs w q → gs[h]? = some a → GW P (h == 0) E.W E.D Anch a w →
      WaitEnd P h dh b Fin E1 gs.size (crowd gs w sl) T := by
  intro m
  induction m with
  | zero =>
    intro gs T q w sl E1 a hE s hcm C ha hG
    obtain ⟨N1, gs1, a1, w1, sl1, T1, E2, q1, hr1, hs1, ha1, hst1, hE2, C1⟩ := C.walkR (sl := sl) (Stop := Anch) (by rw [hE.W', hE.D]; exact hG) ha
    have hG2 := hAn a1 w1 (hst1 w1 (Aw.refl _ _))
    have hE12 := hE.trans hE2
    obtain ⟨N2, gs2, a2, w2, sl2, T2, E3, q2, hr2, hs2, ha2, hst2, hE3, C2⟩ := C1.walkR (sl := sl1) (by rw [hE12.W', hE12.D]; exact hG2) ha1
    have hst2' := fun w₁ h1 => hst2 w₁ (by rw [hE12.W']; exact h1)
    obtain ⟨hrun, _⟩ := hst2' w2 (Aw.refl _ _)
    obtain ⟨N3, gs3, w3, sl3, w4, sl4, T3, q3, E4, hr3, hst3, hs3, ha3, hA3, hE4, C3⟩ := C2.picked (sl := sl2) ha2 hrun
    have hEq := (hE2.trans hE3).trans hE4
    have hEa := hE.trans hEq
    have s4 := s.eq hEq
    have hc0 : cnt E4 gs3.size b = 0 := by
      have := cnt_eq_le (n := gs.size) (b := b) hEq.toLe
      rw [hs3, hs2, hs1]; omega
    have hgrp : GroupAt b w4 (((0 : Nat) : Int) * KK) 0 := by
      have := C3.groups b s4.W
      rw [stv0 s4.mode s4.ex, smv0 (by rw [s4.mode]; omega), hc0] at this
      exact this
    obtain ⟨_, hld⟩ := hst2' w4 (by have := hA3; rwa [(hE12.trans hE3).W'] at this)
    obtain ⟨g', hg', hfin, _⟩ := hld 0 (by decide) hgrp
    obtain ⟨C4, ha4⟩ := C3.loadStep (g' := g') ha3 s4.W
    have hr4 := runNT_one (t := T3) (hst3.trans (runT_crowd_go (sl := sl4) ha3 hg'))
    obtain ⟨N5, gs5, a5, w5, sl5, T5, E5, q5, hr5, hs5, ha5, hst5, hE5, C5⟩ := C4.walkR (sl := sl4) (Stop := Fin) (by rw [hEa.W', hEa.D]; exact hfin rfl) ha4
    have hsz : gs5.size = gs.size := by rw [hs5]; simp [hs3, hs2, hs1]
    refine ⟨_, gs5, a5, w5, sl5, T5, E5, q5, runNT_cat hr1 (runNT_cat hr2 (runNT_cat hr3 (runNT_cat hr4 hr5))), hsz, ha5, hst5 _ (Aw.refl _ _), hEq.trans hE5, C5, ?_⟩
    have := cnt_eq_le (n := gs.size) (b := b) hE5.toLe
    rw [hs3, hs2, hs1] at hc0
    omega
  | succ m ih =>
    intro gs T q w sl E1 a hE s hcm C ha hG
    obtain ⟨N1, gs1, a1, w1, sl1, T1, E2, q1, hr1, hs1, ha1, hst1, hE2, C1⟩ := C.walkR (sl := sl) (Stop := Anch) (by rw [hE.W', hE.D]; exact hG) ha
    have hG2 := hAn a1 w1 (hst1 w1 (Aw.refl _ _))
    have hE12 := hE.trans hE2
    obtain ⟨N2, gs2, a2, w2, sl2, T2, E3, q2, hr2, hs2, ha2, hst2, hE3, C2⟩ := C1.walkR (sl := sl1) (by rw [hE12.W', hE12.D]; exact hG2) ha1
    have hst2' := fun w₁ h1 => hst2 w₁ (by rw [hE12.W']; exact h1)
    obtain ⟨hrun, _⟩ := hst2' w2 (Aw.refl _ _)
    obtain ⟨N3, gs3, w3, sl3, w4, sl4, T3, q3, E4, hr3, hst3, hs3, ha3, hA3, hE4, C3⟩ := C2.picked (sl := sl2) ha2 hrun
    have hEq := (hE2.trans hE3).trans hE4
    have hEa := hE.trans hEq
    have s4 := s.eq hEq
    obtain ⟨v, hv⟩ : ∃ v, v = cnt E4 gs3.size b := ⟨_, rfl⟩
    have hsz3 : gs3.size = gs.size := by rw [hs3, hs2, hs1]
    have hvle : v ≤ m + 1 := by
      have := cnt_eq_le (n := gs.size) (b := b) hEq.toLe
      rw [hv, hsz3]; omega
    have hv1000 : v < 2147483648 := by
      have := C3.few b s4.W
      rw [← hv] at this
      omega
    have hgrp : GroupAt b w4 ((v : Int) * KK) 0 := by
      have := C3.groups b s4.W
      rw [stv0 s4.mode s4.ex, smv0 (by rw [s4.mode]; omega), ← hv] at this
      exact this
    obtain ⟨_, hld⟩ := hst2' w4 (by have := hA3; rwa [(hE12.trans hE3).W'] at this)
    obtain ⟨g', hg', hfin, hcas⟩ := hld v hv1000 hgrp
    obtain ⟨C4, ha4⟩ := C3.loadStep (g' := g') ha3 s4.W
    have hr4 := runNT_one (t := T3) (hst3.trans (runT_crowd_go (sl := sl4) ha3 hg'))
    by_cases hv0 : v = 0
    · obtain ⟨N5, gs5, a5, w5, sl5, T5, E5, q5, hr5, hs5, ha5, hst5, hE5, C5⟩ := C4.walkR (sl := sl4) (Stop := Fin) (by rw [hEa.W', hEa.D]; exact hfin hv0) ha4
      have hsz : gs5.size = gs.size := by rw [hs5]; simp [hsz3]
      refine ⟨_, gs5, a5, w5, sl5, T5, E5, q5, runNT_cat hr1 (runNT_cat hr2 (runNT_cat hr3 (runNT_cat hr4 hr5))), hsz, ha5, hst5 _ (Aw.refl _ _), hEq.trans hE5, C5, ?_⟩
      have := cnt_eq_le (n := gs.size) (b := b) hE5.toLe
      rw [hsz3] at hv
      omega
    · obtain ⟨N5, gs5, a5, w5, sl5, T5, E5, q5, hr5, hs5, ha5, hst5, hE5, C5⟩ := C4.walkR (sl := sl4) (by rw [hEa.W', hEa.D]; exact hcas hv0) ha4
      have hEa5 := hEa.trans hE5
      have hst5' := fun w₁ h1 => hst5 w₁ (by rw [hEa.W']; exact h1)
      obtain ⟨hrun5, _⟩ := hst5' w5 (Aw.refl _ _)
      obtain ⟨N6, gs6, w6, sl6, w7, sl7, T6, q6, E6, hr6, hst6, hs6, ha6, hA6, hE6, C6⟩ := C5.picked (sl := sl5) ha5 hrun5
      have hEq6 := (hEq.trans hE5).trans hE6
      have hEa6 := hE.trans hEq6
      have s6 := s.eq hEq6
      have hsz6 : gs6.size = gs.size := by rw [hs6, hs5]; simp [hsz3]
      obtain ⟨v', hv'⟩ : ∃ v', v' = cnt E6 gs6.size b := ⟨_, rfl⟩
      have hv'le : v' ≤ v := by
        have := cnt_eq_le (n := gs.size) (b := b) (hE5.trans hE6).toLe
        rw [hv', hv, hsz6, hsz3]; exact this
      have hgrp6 : GroupAt b w7 ((v' : Int) * KK) 0 := by
        have := C6.groups b s6.W
        rw [stv0 s6.mode s6.ex, smv0 (by rw [s6.mode]; omega), ← hv'] at this
        exact this
      have hpre := runNT_cat hr1 (runNT_cat hr2 (runNT_cat hr3 (runNT_cat hr4 (runNT_cat hr5 hr6))))
      obtain ⟨_, hcs⟩ := hst5' w7 (by have := hA6; rwa [hEa5.W'] at this)
      obtain ⟨hhit, hmiss⟩ := hcs v' (by omega) hgrp6
      by_cases hvv : v' = v
      ·
        subst hvv
        obtain ⟨g7, hg7, hG7⟩ := hhit rfl
        have hAw := aw_set hgrp6 s6.W (.int .u64 ((v' : Int) * KK + 1)) (.inl ⟨rfl, _, rfl⟩)
        have hpast := C6.past_own (fn := a5.frame.fn) (pos := a5.frame.place) (es := #[rdE (stZ b), wrE (stZ b)]) (Nat.le_refl _) (fun e he => evG_atom C6.S_dis s6.W hgrp6.lt (by simp at he; exact he.elim .inl fun x => .inr (.inl x)))
        have e1 : stv { E6 with mode := upd E6.mode b 1 } gs6.size b = (v' : Int) * KK + 1 := by
          have : cnt { E6 with mode := upd E6.mode b 1 } gs6.size b = v' := hv'.symm
          unfold stv
          simp only [this, upd_same, s6.ex]
          simp
        have e2 : smv { E6 with mode := upd E6.mode b 1 } b = 0 := by unfold smv; simp only [upd_same]; rfl
        obtain ⟨C7, ha7⟩ := C6.words (a' := g7) (m' := 1) ha6 s6.W (by rw [s6.mode]; omega) (by omega) ofE_g hAw (fun c hc => heap_setCell_ne (by exact fun z => hc z.symm)) (by
          rw [e1, e2]
          obtain ⟨x, ty, hx⟩ := hgrp6
          exact ⟨x, ty, heap_setCell_run hx _⟩) ⟨by omega, fun _ => by omega, fun z => by omega⟩ hpast
        have hr7 := runNT_one (t := T6) (hst6.trans (runT_crowd_go (sl := sl7) ha6 hg7))
        have hB := C7.waitB (sl := sl7) (b := b) (Fin := Fin) s6.W s6.ex (by show 1 ≤ upd E6.mode b 1 b; rw [upd_same]; exact Nat.le_refl _) s6.self (fun x hx hl hs => s6.none x hx (by rw [← hsz6]; simpa using hl) hs) ha7 (by
          have hx := hG7
          rw [← hEa6.W', ← hEa6.D] at hx
          exact hx)
        rw [reset_set, reset_self s6.mode] at hB
        have hsz7 : ((gs6.map (Go.Conc.woken P a5 g7 (w7.setCell (stZ b) (.int .u64 ((v' : Int) * KK + 1))))).setIfInBounds h g7).size = gs.size := by simp [hsz6]
        rw [hsz7] at hB
        exact hB.more (runNT_cat hpre hr7) hEq6
      ·
        obtain ⟨g7, hg7, hG7⟩ := hmiss hvv
        obtain ⟨C7, ha7⟩ := C6.loadStep (g' := g7) ha6 s6.W
        have hr7 := runNT_one (t := T6) (hst6.trans (runT_crowd_go (sl := sl7) ha6 hg7))
        have hsz7 : ((gs6.map (Go.Conc.woken P a5 g7 w7)).setIfInBounds h g7).size = gs.size := by simp [hsz6]
        have hI := ih (sl := sl7) hEa6 (by rw [hsz7]; exact s6) (by rw [hsz7]; rw [hsz6] at hv'; omega) C7 ha7 hG7
        rw [hsz7] at hI
        exact hI.more (runNT_cat hpre hr7) hEq6
end
section
variable {P : Program} {E : Env} {h dh : Nat} {T : Trace} {gs : Array Goroutine} {w : World} {q : Nat → Nat}
theorem Co.setH (C : Co P E h dh T gs w q) (r : Role) (hr : ∀ c home, r ≠ .seat c home) : Co P (E.setRole h r) h dh T gs w q := by
  have hne : ∀ x, x ≠ h → (E.setRole h r).role x = E.role x := fun x hx => upd_ne _ _ hx
  have hself : (E.setRole h r).role h = r := upd_same ..
  refine ⟨C.lt, fun x y hx hy => ?_, fun x c home hx hl e => C.chans x c home hx hl (by rw [← hne x hx]; exact e), fun x x' c home home' hx hx' hl hl' e e' => C.inj x x' c home home' hx hx' hl hl' (by rw [← hne x hx]; exact e) (by rw [← hne x' hx']; exact e'), C.above, C.keep, C.dis, C.fit, C.hidS, fun x c home e => ?_, ?_, C.wgW, fun x hx => ?_, C.groups, C.few, C.modes,
    fun b hb hx => ?_, C.zero, fun x x' b f f' hx hx' hl hl' e e' => C.one x x' b f f' hx hx' hl hl' (by rw [← hne x hx]; exact e) (by rw [← hne x' hx']; exact e'), by first | exact ⟨C.io.1, C.io.2⟩ | exact C.io.trans ⟨hA.os, hA.output⟩ | exact C.io.trans hio | exact ⟨C₁.io.1, C₁.io.2⟩ | exact C₁.io.trans ⟨hA.os, hA.output⟩⟩
  · have := C.idle x y hx hy
    unfold Idle at this ⊢
    rw [hne x hx]; exact this
  · by_cases ex : x = h
    · subst ex; rw [hself] at e; exact absurd e (hr c home)
    · exact C.hidC x c home (by rw [← hne x ex]; exact e)
  · have e1 : MemZ (E.setRole h r) h gs.size = MemZ E h gs.size := by
      funext x
      unfold MemZ
      by_cases ex : x = h
      · simp [ex]
      · rw [hne x ex]
    have e2 : LooseZ (E.setRole h r) h gs.size = LooseZ E h gs.size := by
      funext x
      unfold LooseZ
      by_cases ex : x = h
      · simp [ex]
      · rw [hne x ex]
    rw [e1, e2]
    exact C.past
  · obtain ⟨f1, f2, f3⟩ := C.fresh x hx
    have hxh : x ≠ h := by have := C.lt; omega
    exact ⟨by rw [hne x hxh]; exact f1, f2, f3⟩
  · obtain ⟨x, f, x1, x2, x3⟩ := C.lastEx b hb hx
    exact ⟨x, f, x1, x2, by rw [hne x x1]; exact x3⟩
def Reach (P : Program) (h : Nat) (Stop : Env → Goroutine → World → Prop) (E : Env) (a : Goroutine) (w : World) : Prop :=
  ∀ (gs : Array Goroutine) (T : Trace) (q : Nat → Nat) (sl : Option (Nat × Nat)), Co P E h 0 T gs w q → gs[h]? = some a →
    ∃ N gs' a' w' sl' T' E' q', runNT P N (crowd gs w sl) T = (.next (crowd gs' w' sl'), T') ∧ gs.size ≤ gs'.size ∧ gs'[h]? = some a' ∧ E.Le h E' ∧ Co P E' h 0 T' gs' w' q' ∧ Stop E' a' w'
theorem Reach.here {Stop : Env → Goroutine → World → Prop} {a : Goroutine} (hs : Stop E a w) : Reach P h Stop E a w :=
  fun gs T q sl C ha => ⟨0, gs, a, w, sl, T, E, q, rfl, Nat.le_refl _, ha, .refl h E, C, hs⟩
theorem Reach.bind {Stop Stop' : Env → Goroutine → World → Prop} {a : Goroutine} (hr : Reach P h Stop E a w) (hb : ∀ E' a' w', E.Le h E' → Stop E' a' w' → Reach P h Stop' E' a' w') : Reach P h Stop' E a w := by
  intro gs T q sl C ha
  obtain ⟨N, gs', a', w', sl', T', E', q', h1, h2, h3, h4, h5, h6⟩ := hr gs T q sl C ha
  obtain ⟨N2, gs2, a2, w2, sl2, T2, E2, q2, k1, k2, k3, k4, k5, k6⟩ := hb E' a' w' h4 h6 gs' T' q' sl' h5 h3
  exact ⟨N + N2, gs2, a2, w2, sl2, T2, E2, q2, runNT_cat h1 k1, Nat.le_trans h2 k2, k3, h4.trans k4, k5, k6⟩
theorem Reach.mono {Stop Stop' : Env → Goroutine → World → Prop} {a : Goroutine} (hr : Reach P h Stop E a w) (hb : ∀ E' a' w', E.Le h E' → Stop E' a' w' → Stop' E' a' w') : Reach P h Stop' E a w :=
  hr.bind fun E' a' w' hE hs => .here (hb E' a' w' hE hs)
theorem Reach.goes {Stop : Goroutine → World → Prop} {a : Goroutine} (hG : GoesW P (h == 0) (Aw E.W) E.D Stop a w) : Reach P h (fun E' a' w' => E.Eq h E' ∧ ∀ w₁, Aw E.W w' w₁ → Stop a' w₁) E a w := by
  intro gs T q sl C ha
  obtain ⟨N, gs', a', w', sl', T', E', q', h1, h2, h3, h4, h5, h6⟩ := C.walkR (sl := sl) hG ha
  exact ⟨N, gs', a', w', sl', T', E', q', h1, by omega, h3, h5.toLe, h6, h5, h4⟩
def RG (P : Program) (h : Nat) (Stop : Env → Goroutine → World → Prop) (E : Env) (a : Goroutine) (w : World) : Prop := ∀ E' w₁, E.Eq h E' → Aw E.W w w₁ → Reach P h Stop E' a w₁
end
structure Clo (P : Program) (main : Bool) (W : Nat → Bool) (D : World → World → Array Event → Prop) (Good : Goroutine → World → Prop) : Prop where
  goes : ∀ g w, GoesW P main (Aw W) D Good g w → Good g w
  rely : ∀ g w w₁, Aw W w w₁ → Good g w → Good g w₁
theorem RG.clo (P : Program) (h : Nat) (Stop : Env → Goroutine → World → Prop) (E : Env) : Clo P (h == 0) E.W E.D (RG P h Stop E) := by
  refine ⟨fun g w hg E' w₁ hE hA => ?_, fun g w w₁ hA hg E' w₂ hE hA2 => hg E' w₂ hE (hA.trans _ _ _ hA2)⟩
  have hG : GoesW P (h == 0) (Aw E'.W) E'.D (RG P h Stop E) g w₁ := by rw [hE.W', hE.D]; exact hg.rely Aw.trans hA
  refine (Reach.goes hG).bind fun E'' a' w' hLe ⟨hEq, hs⟩ => ?_
  exact (hs w' (Aw.refl _ _)) E'' w' (hE.trans hEq) (Aw.refl _ _)
section
variable {P : Program} {main : Bool} {W : Nat → Bool} {D : World → World → Array Event → Prop} {Good : Goroutine → World → Prop}
theorem Clo.own (c : Clo P main W D Good) {g : Goroutine} {w : World} (hs : g.status = .running) (h : ∀ w₁, Aw W w w₁ → ∃ g' w' es, stepG P main g w₁ = .go g' w' es ∧ D w₁ w' es ∧ Good g' w') : Good g w :=
  c.goes _ _ (.step' hs fun w₁ h1 => by
    obtain ⟨g', w', es, e1, e2, e3⟩ := h w₁ h1
    exact ⟨g', w', es, e1, e2, .stop fun w₂ h2 => c.rely _ _ _ h2 e3⟩)
theorem Clo.ctl (c : Clo P main W D Good) (hD : ∀ w, D w w #[]) {g g' : Goroutine} {w : World} (hs : g.status = .running) (h : ∀ w₁, stepG P main g w₁ = .go g' w₁ #[]) (hg : Good g' w) : Good g w :=
  c.own hs fun w₁ h1 => ⟨g', w₁, #[], h w₁, hD w₁, c.rely _ _ _ h1 hg⟩
variable {b : Frame} {a : Act} {k : List Item} {cs : List Frame} {w : World}
theorem Clo.skip (c : Clo P main W D Good) (hD : ∀ w, D w w #[]) (h : Good (G (b.at a k) cs) w) : Good (G (b.at a (.code .skip :: k)) cs) w := c.ctl hD rfl (fun _ => stepG_skip) h
theorem Clo.label (c : Clo P main W D Good) (hD : ∀ w, D w w #[]) {l : Nat} (h : Good (G (b.at a k) cs) w) : Good (G (b.at a (.code (.label l) :: k)) cs) w := c.ctl hD rfl (fun _ => stepG_label) h
theorem Clo.inBlock (c : Clo P main W D Good) (hD : ∀ w, D w w #[]) {id : Nat} (h : Good (G (b.at a k) cs) w) : Good (G (b.at a (.inBlock id :: k)) cs) w := c.ctl hD rfl (fun _ => stepG_inBlock) h
theorem Clo.seq (c : Clo P main W D Good) (hD : ∀ w, D w w #[]) {x y : Code} (h : Good (G (b.at a (.code x :: .code y :: k)) cs) w) : Good (G (b.at a (.code (.seq x y) :: k)) cs) w := c.ctl hD rfl (fun _ => stepG_seq) h
theorem Clo.cond (c : Clo P main W D Good) (hD : ∀ w, D w w #[]) {o : Operand} {x y : Code} {t : Bool} (ht : a.eval o = .bool t) (h : Good (G (b.at a (.code (if t then x else y) :: k)) cs) w) : Good (G (b.at a (.code (.cond o x y) :: k)) cs) w := c.ctl hD rfl (fun _ => stepG_cond ht) h
theorem Clo.block (c : Clo P main W D Good) (hD : ∀ w, D w w #[]) {id : Nat} {x : Code} (h : Good (G (b.at a (.code x :: .inBlock id :: k)) cs) w) : Good (G (b.at a (.code (.block id x) :: k)) cs) w := c.ctl hD rfl (fun _ => stepG_block) h
theorem Clo.loop (c : Clo P main W D Good) (hD : ∀ w, D w w #[]) {x : Code} (h : Good (G (b.at a (.code x :: .inLoop x :: k)) cs) w) : Good (G (b.at a (.code (.loop x) :: k)) cs) w := c.ctl hD rfl (fun _ => stepG_loop) h
theorem Clo.inLoop (c : Clo P main W D Good) (hD : ∀ w, D w w #[]) {x : Code} (h : Good (G (b.at a (.code x :: .inLoop x :: k)) cs) w) : Good (G (b.at a (.inLoop x :: k)) cs) w := c.ctl hD rfl (fun _ => stepG_inLoop) h
theorem Clo.exit (c : Clo P main W D Good) (hD : ∀ w, D w w #[]) {id : Nat} {k' : List Item} (hk : exitTo id k = some k') (h : Good (G (b.at a k') cs) w) : Good (G (b.at a (.code (.exit id) :: k)) cs) w := c.ctl hD rfl (fun _ => stepG_exit hk) h
theorem Clo.region (c : Clo P main W D Good) (hD : ∀ w, D w w #[]) {id : Nat} {ops : Array Oper} (h : Good (G (b.at a (.inRegion ops (List.range ops.size) :: k)) cs) w) : Good (G (b.at a (.code (.region id ops false) :: k)) cs) w := c.ctl hD rfl (fun _ => stepG_region) h
theorem Clo.ret (c : Clo P main W D Good) (hD : ∀ w, D w w #[]) (h : Good (G { b.at a (.code .ret :: k) with mode := .returning } cs) w) : Good (G (b.at a (.code .ret :: k)) cs) w := c.ctl hD rfl (fun _ => stepG_ret') h
theorem Clo.value (c : Clo P main W D Good) {ops : Array Oper} {i : Nat} {rest : List Nat} {o : Oper} {v : Value} (ho : ops[i]? = some o) (hw : Region.wanted o (yielded ops a.tmps) = true) (hk : b.kind ≠ .early)
    (hr : ∀ w₁, Aw W w w₁ → (execOp a.eval o).run P w₁ = .ok (.value v) w₁ ∧ D w₁ w₁ (listed P b.fn a o w₁)) (hg : Good (G (b.at (a.put o.dst v) (.inRegion ops rest :: k)) cs) w) : Good (G (b.at a (.inRegion ops (i :: rest) :: k)) cs) w :=
  c.own rfl fun w₁ h1 => ⟨_, w₁, _, stepG_value ho hw hk (hr w₁ h1).1, (hr w₁ h1).2, c.rely _ _ _ h1 hg⟩
theorem Clo.unwanted (c : Clo P main W D Good) (hD : ∀ w, D w w #[]) {ops : Array Oper} {i : Nat} {rest : List Nat} {o : Oper} (ho : ops[i]? = some o) (hw : Region.wanted o (yielded ops a.tmps) = false) (hg : Good (G (b.at (a.put o.dst undef) (.inRegion ops rest :: k)) cs) w) :
    Good (G (b.at a (.inRegion ops (i :: rest) :: k)) cs) w := c.ctl hD rfl (fun _ => stepG_unwanted ho hw) hg
theorem Clo.quiet {H : Nat → Option Nat} {F : FuncId → Bool} (c : Clo P main W D Good) (hC : Closed P F) (hD : Lets H W D) {x : Code} (hq : quietCode P F x = true) (hk : b.kind = .normal) (ha : a.defers = []) (hfit : Fit H W w) {Q : Act → World → Prop}
    (hwp : ∀ τ, x.wp P (fun e a' x' => e = .normal ∧ a'.defers = [] ∧ ∀ w' τ' d, x' = rt (vw H w') τ' d → Far H W w w' → Fit H W w' → Q a' w') a (rt (vw H w) τ 0))
    (hg : ∀ a' w', a'.defers = [] → Far H W w w' → Fit H W w' → Q a' w' → Good (G (b.at a' k) cs) w') : Good (G (b.at a (.code x :: k)) cs) w :=
  c.goes _ _ ((bridge hC hD hq hk ha hfit hwp).mono fun g w' ⟨a', h1, h2, h3, h4, h5⟩ => h2 ▸ hg a' w' h1 h3 h4 h5)
end
def H0 (w : World) : Nat → Option Nat := fun b => match w.heap[b]? with
  | some o => if o.fair = true then none else some 0
  | none => none
def Env.zero (w : World) : Env := ⟨fun _ => .gone, fun _ _ => none, fun _ => none, fun _ => false, H0 w, fun _ => 0, fun _ => 0, w⟩
theorem fit_zero (w : World) : Fit (H0 w) (fun _ => false) w := by
  refine ⟨fun b o ho => ?_, fun b hb => ?_, fun b n o hD ho => ?_, fun b hb => (by cases hb), fun b hb => (by cases hb)⟩
  · rw [vw_get] at ho
    cases hx : w.heap[b]? with
    | none => rw [hx] at ho; cases ho
    | some x =>
      rw [hx] at ho
      simp only [Option.map_some, Option.some.injEq] at ho
      subst ho
      unfold hideAt H0
      rw [hx]
      by_cases hf : x.fair = true
      · simp only [hf, if_true]
      · simp only [hf, if_false, Bool.false_eq_true]
        cases x <;> first | rfl | exact absurd rfl hf
  · unfold H0
    rw [Array.getElem?_eq_none hb]
  · unfold H0 at hD
    rw [ho] at hD
    simp only at hD
    by_cases hf : o.fair = true
    · rw [if_pos hf] at hD; cases hD
    · cases o <;> first | exact .inr (.inl ⟨_, _, rfl⟩) | exact .inr (.inr (.inr ⟨_, _, rfl⟩)) | exact absurd rfl hf
theorem Co.start (P : Program) (a : Goroutine) (w : World) : Co P (Env.zero w) 0 0 #[] #[a] w (fun _ => 0) := by
  have hd : ∀ g, Deaf (#[] : Trace) g = 0 := fun g => rfl
  refine ⟨by simp, fun i g hi hg => ?_, fun i c home _ _ e => (by cases e), fun i i' c home home' _ _ _ _ e => (by cases e), fun j _ => hd j, fun i a v e => (by cases e), fun i a hs => (by cases hs), fit_zero w, fun i a hs => (by cases hs), fun i c home e => (by cases e),
    ⟨fun said hr => ?_, fun i a ha => ?_, fun i a ha => ?_, fun i a ha => ?_, fun g _ _ => hd g, hd 0, fun op hop => by simp at hop⟩, fun i b _ e => (by cases e), fun i _ => ⟨rfl, rfl, fun _ => rfl⟩, fun b hb => (by cases hb), fun b hb => (by cases hb), fun b hb => (by cases hb), fun b hb => (by cases hb), fun b _ => ⟨rfl, rfl⟩, fun i i' b f f' _ _ _ _ e => (by cases e), SameIo.refl _⟩
  · have := (Array.getElem?_eq_some_iff.1 hg).1
    simp at this
    omega
  · obtain ⟨i, j, _, ⟨a, b, ha, _⟩, _⟩ := hr
    simp [Trace.act?] at ha
  all_goals simp [touchAt, Trace.act?] at ha
def AtRet (P : Program) (Post : Value → World → Prop) (E : Env) (a : Goroutine) (w : World) : Prop :=
  a.status = .running ∧ (∀ i, 0 < i → E.role i = .gone) ∧ ∀ w', Aw E.W w w' → ∃ v es, stepG P true a w' = .ended (.done v) w' es ∧ (∀ e ∈ es, EvG E.S E.W w'.heap.size e) ∧ Post v w'
section
variable {P : Program} {E : Env} {h dh : Nat} {T : Trace} {gs : Array Goroutine} {w : World} {q : Nat → Nat}
theorem Co.ends (C : Co P E 0 0 T gs w q) {a : Goroutine} {Post : Value → World → Prop} (ha : gs[0]? = some a) (hr : AtRet P Post E a w) {sl : Option (Nat × Nat)} :
    ∃ N last o w' t', runNT P (N + 1) (crowd gs w sl) T = (.ended o w', t') ∧ runN P N (crowd gs w sl) = .next last ∧ step P last = .ended o w' ∧ Good P Post last o w' t' := by
  obtain ⟨hrun, hg0, hend⟩ := hr
  obtain ⟨N, gs₁, w₁, sl₁, w₂, sl₂, T₁, q₁, E1, h1, h2, h3, h4, h5, h6, h7⟩ := C.picked (sl := sl) ha hrun
  obtain ⟨v, es, hst, hes, hpost⟩ := hend w₂ h5
  have hgone := fun i hi => h6.gone i (hg0 i hi)
  have hrT := runT_many_ended (P := P) (sl := sl₂) (i := 0) h4 (show stepG P (0 == 0) a w₂ = _ from hst)
  have hsT := h2.trans hrT
  have hp := h7.past_own (fn := a.frame.fn) (pos := a.frame.place) (es := es) (Nat.le_refl _) (by rw [h6.S, h6.W']; exact hes)
  obtain ⟨hc1, hc2⟩ := hp.over (fun g ⟨g1, g2, g3⟩ => by rw [hgone g (by omega)] at g3; cases g3)
  have hq : ∀ j x, 0 < j → gs₁[j]? = some x → QuitsD P (q₁ j) (Deaf T₁ j) x := fun j x hj hx => by
    have := h7.idle j x (by omega) hx
    unfold Idle at this
    rw [hgone j hj] at this
    exact this.2.1
  refine ⟨N, crowd gs₁ w₁ sl₁, .done v, w₂, T₁ ++ MemOp.ofEvents 0 a.frame.fn a.frame.place es, ?_, ?_, by simp [step, hsT], v, rfl, hpost, hc1, hc2, ⟨fun x hx => ?_, rfl⟩, fun j x hx hj => ?_⟩
  · rw [runNT_add, h1]
    simp only [runNT, hsT]
  · rw [← runNT_fst P N _ T, h1]
  · obtain ⟨j, hj⟩ := List.mem_iff_getElem?.1 hx
    rw [List.getElem?_drop] at hj
    exact ⟨_, (hq (1 + j) x (by omega) (by simpa [crowd] using hj)).leaves⟩
  · refine ⟨q₁ j, ?_⟩
    have e : (T₁ ++ MemOp.ofEvents 0 a.frame.fn a.frame.place es).deaf j (T₁ ++ MemOp.ofEvents 0 a.frame.fn a.frame.place es).size = Deaf T₁ j :=
      Deaf_other T₁ (g := j) (g' := 0) (by omega) _ ofE_g
    rw [e]
    exact (hq j x (by omega) hx).hears _
end
end Go.Proofs.Ytimlbbleblijnaa.Co
