/- Lemmas for the laws of this seat, laid together of PGj, PGk, PGl. -/
import Derived.Test.YtimlbbleblijnaaU03

set_option linter.unusedVariables false
set_option linter.unusedSimpArgs false
namespace Go.Proofs.Ytimlbbleblijnaa.Co
open Go.Conc
open Go.ConcN (sumTo upd sumTo_upd upd_ne upd_same sumTo_congr le_sumTo)
structure Env.Le (h : Nat) (E E' : Env) : Prop where
  seat : ∀ x c home, E.role x = .seat c home ↔ E'.role x = .seat c home
  gone : ∀ x, E.role x = .gone → E'.role x = .gone
  roleH : E'.role h = E.role h
  St : ∀ x a v, E.St x a = some v → E'.St x a = some v
  W : ∀ b, E.W b = true → E'.W b = true
  H : ∀ b n, E.H b = some n → E'.H b = some n
  wg : ∀ x b, E'.wg x = some b → E.wg x = some b
  wgH : E'.wg h = E.wg h
  wgS : ∀ x, (E.role x).sits = true → E'.wg x = E.wg x
  ex : E'.ex = E.ex
  mode : ∀ b, E.mode b = 0 → E'.mode b = 0
  modeUp : ∀ b, E.mode b ≤ E'.mode b
  io : E'.io = E.io
theorem Env.Le.refl (h : Nat) (E : Env) : E.Le h E := ⟨fun _ _ _ => Iff.rfl, fun _ e => e, rfl, fun _ _ _ e => e, fun _ e => e, fun _ _ e => e, fun _ _ e => e, rfl, fun _ _ => rfl, rfl, fun _ e => e, fun _ => Nat.le_refl _, rfl⟩
theorem Env.Le.sits {h : Nat} {E E' : Env} (k : E.Le h E') (x : Nat) : (E'.role x).sits = (E.role x).sits := by
  cases e : E.role x with
  | seat c home => rw [(k.seat x c home).1 e]
  | _ =>
    cases e' : E'.role x with
    | seat c home => have := (k.seat x c home).2 e'; rw [e] at this; cases this
    | _ => rfl
theorem Env.Le.trans {h : Nat} {E E' E'' : Env} (a : E.Le h E') (b : E'.Le h E'') : E.Le h E'' :=
  ⟨fun x c home => (a.seat x c home).trans (b.seat x c home), fun x e => b.gone x (a.gone x e), b.roleH.trans a.roleH, fun x ad v e => b.St x ad v (a.St x ad v e), fun x e => b.W x (a.W x e), fun x n e => b.H x n (a.H x n e), fun x g e => a.wg x g (b.wg x g e), b.wgH.trans a.wgH, fun x e => (b.wgS x (by rw [a.sits]; exact e)).trans (a.wgS x e), b.ex.trans a.ex, fun x e => b.mode x (a.mode x e), fun x => Nat.le_trans (a.modeUp x) (b.modeUp x), b.io.trans a.io⟩
section
variable {P : Program} {E : Env} {h dh : Nat} {T : Trace} {gs : Array Goroutine} {w : World} {q : Nat → Nat}
def After1 (P : Program) (E : Env) (h dh : Nat) (T : Trace) (gs : Array Goroutine) (w : World) (q : Nat → Nat) (sl : Option (Nat × Nat)) (i : Nat) (g : Goroutine) : Prop :=
  ∃ (gs' : Array Goroutine) (ops : Array MemOp) (w' : World) (E' : Env) (q' : Nat → Nat), runT P (crowd gs w sl) i = (.next (crowd gs' w' sl), ops) ∧ gs'.size = gs.size ∧ (gs'[h]? = gs[h]? ∨ gs'[h]? = (gs[h]?).map (·.again w')) ∧
    (∀ x, x ≠ i → x ≠ h → gs'[x]? = gs[x]?) ∧ (∀ x, x ≠ i → q' x = q x) ∧ Aw E.W w w' ∧ E.Le h E' ∧ Co P E' h dh (T ++ ops) gs' w' q' ∧ sumTo gs.size q' < sumTo gs.size q ∧
    (∀ c home, E.role i = .seat c home → q' i = 0 → ∃ g₂, AtSeat P (i == 0) (E.St i) c home g g₂) ∧ (∀ b, E'.mode b = E.mode b ∨ (1 ≤ E.mode b ∧ E'.mode b = E.mode b + 1)) ∧ ((∃ b, E.mode b = 3 ∧ E'.mode b = 4) → gs'[h]? = (gs[h]?).map (·.again w')) ∧ E'.W = E.W ∧ E'.St = E.St ∧ E'.H = E.H
theorem sum_less {n i k : Nat} (hi : i < n) (hq : q i = k + 1) : sumTo n (upd q i k) < sumTo n q := by
  have := sumTo_upd q k id hi
  change sumTo n (upd q i k) + q i = sumTo n q + k at this
  rw [hq] at this
  omega
theorem own_step (C : Co P E h dh T gs w q) {i : Nat} {g g' : Goroutine} {w' : World} {es : Array Event} {sl : Option (Nat × Nat)} (hi : gs[i]? = some g) (hih : i ≠ h) (hst : stepG P (i == 0) g w = .go g' w' es) (hA : Aw E.W w w') :
    ∃ gs', runT P (crowd gs w sl) i = (.next (crowd gs' w' sl), MemOp.ofEvents i g.frame.fn g.frame.place es) ∧ gs'.size = gs.size ∧ (gs'[h]? = gs[h]? ∨ gs'[h]? = (gs[h]?).map (·.again w')) ∧ (∀ x, x ≠ i → x ≠ h → gs'[x]? = gs[x]?) ∧ gs'[i]? = some g' ∧
      (mayWake P g = true → g'.status ≠ .blocked → g'.status ≠ .waiting → gs'[h]? = (gs[h]?).map (·.again w')) := by
  have hlt : i < gs.size := (Array.getElem?_eq_some_iff.1 hi).1
  have hsame : ((gs.map (woken P g g' w')).setIfInBounds i g')[h]? = (gs[h]?).map (woken P g g' w') := by
    rw [Array.getElem?_setIfInBounds_ne hih, Array.getElem?_map]
  refine ⟨_, runT_crowd_go (sl := sl) hi hst, by simp, ?_, fun x hx hxh => ?_, Array.getElem?_setIfInBounds_self_of_lt (by simpa using hlt), fun hm h1 h2 => ?_⟩
  · rw [hsame]
    cases e : gs[h]? with
    | none => exact .inl rfl
    | some y =>
      simp only [Option.map_some]
      unfold woken
      split
      · exact .inr rfl
      · exact .inl rfl
  · rw [Array.getElem?_setIfInBounds_ne (fun e => hx e.symm), Array.getElem?_map]
    cases e : gs[x]? with
    | none => rfl
    | some y => rw [Option.map_some, woken_of_again (C.fixed hxh e hA.heap)]
  · rw [hsame]
    cases e : gs[h]? with
    | none => rfl
    | some y => simp [woken, hm, h1, h2]
theorem ofE_g {i : Nat} {fn : FuncId} {pos : String} {es : Array Event} : ∀ op ∈ MemOp.ofEvents i fn pos es, op.g = i := fun op hop => by obtain ⟨e, _, rfl⟩ := Go.Conc.mem_ofEvents hop; rfl
theorem Co.memNot (C : Co P E h dh T gs w q) {i : Nat} (hih : i ≠ h) (hs : (E.role i).sits = false) : ¬ MemZ E h gs.size i := fun hm => hm.elim hih fun x => by rw [hs] at x; cases x.2
theorem Co.cnt_pos (C : Co P E h dh T gs w q) {i b : Nat} (hi : i < gs.size) (hw : E.wg i = some b) : 1 ≤ cnt E gs.size b := by
  have := le_sumTo (f := fun i => if E.wg i = some b then 1 else 0) hi
  simp only [hw, if_true] at this
  exact this
theorem Co.step_still (C : Co P E h dh T gs w q) {i k : Nat} {g g' : Goroutine} {es : Array Event} {sl : Option (Nat × Nat)} (hi : gs[i]? = some g) (hih : i ≠ h) (hs : (E.role i).sits = false) (hpos : 0 < i) (hq : q i = k + 1)
    (hst : stepG P false g w = .go g' w es) (hp : PastZ (ShZ E.W) (StZ E) (MemZ E h gs.size) (LooseZ E h gs.size) w.heap.size h dh (T ++ MemOp.ofEvents i g.frame.fn g.frame.place es))
    (hid : Idle P E (T ++ MemOp.ofEvents i g.frame.fn g.frame.place es) i k g') : After1 P E h dh T gs w q sl i g := by
  have hlt : i < gs.size := (Array.getElem?_eq_some_iff.1 hi).1
  have hi0 : (i == 0) = false := by simp; omega
  obtain ⟨gs', h1, h2, h3, h4, h5, _⟩ := own_step (sl := sl) C hi hih (by rw [hi0]; exact hst) (Aw.refl _ _)
  refine ⟨gs', _, w, E, upd q i k, h1, h2, h3, h4, fun x hx => upd_ne q k hx, Aw.refl _ _, Env.Le.refl _ _, ?_, sum_less hlt hq, fun c home e => (by rw [e] at hs; cases hs), fun _ => .inl rfl, fun ⟨b, e1, e2⟩ => (by rw [e1] at e2; cases e2), rfl, rfl, rfl⟩
  exact C.put hih hlt h2 h4 h5 ofE_g (Aw.refl _ _) (fun _ _ => rfl) rfl (fun _ _ => rfl) rfl rfl rfl (fun _ _ _ _ _ _ _ => rfl) (.inl rfl) (.inl rfl) hid C.groups C.modes C.lastEx (fun _ _ => rfl)
    (fun b f e x f' hx hxh hxl e' => hx (C.one x i b f' f hxh hih hxl hlt e' e)) hp
theorem Co.step_gone (C : Co P E h dh T gs w q) {i : Nat} {g : Goroutine} {sl : Option (Nat × Nat)} (hi : gs[i]? = some g) (hih : i ≠ h) (hrun : g.status = .running) (hr : E.role i = .gone) : After1 P E h dh T gs w q sl i g := by
  have hid := C.idle i g hih hi
  unfold Idle at hid
  rw [hr] at hid
  obtain ⟨hpos, hq, hwg⟩ := hid
  cases hqi : q i with
  | zero => rw [hqi] at hq; rw [hq.1] at hrun; cases hrun
  | succ k =>
    rw [hqi] at hq
    rcases hq with ⟨hf, _⟩ | ⟨_, g', es, hm, hstp, hq'⟩
    · rw [hf] at hrun; cases hrun
    · refine C.step_still hi hih (by rw [hr]; rfl) hpos hqi (hstp w) (C.past.appMute hih ofE_g (fun op hop => by obtain ⟨e, he, rfl⟩ := Go.Conc.mem_ofEvents hop; exact touch_mute (hm e he)) (fun hM => absurd hM (C.memNot hih (by rw [hr]; rfl))) (fun op hop => by obtain ⟨e, he, rfl⟩ := Go.Conc.mem_ofEvents hop; exact low_mute (hm e he) _)) ?_
      unfold Idle
      rw [hr]
      exact ⟨hpos, by rw [Deaf_own]; exact hq', hwg⟩
theorem stepped_seat (C : Co P E h dh T gs w q) {i : Nat} {g : Goroutine} {sl : Option (Nat × Nat)} (hi : gs[i]? = some g) (hih : i ≠ h) (hrun : g.status = .running) {c : Nat} {home : Goroutine → Prop} (hr : E.role i = .seat c home)
    (hO : ∀ g₂, AtSeat P (i == 0) (E.St i) c home g g₂ → ∀ gh, gs[h]? = some gh → offersAt gh c true = []) : After1 P E h dh T gs w q sl i g := by
  have hlt : i < gs.size := (Array.getElem?_eq_some_iff.1 hi).1
  have hid := C.idle i g hih hi
  unfold Idle at hid
  rw [hr] at hid
  simp only at hid
  have hM : MemZ E h gs.size i := .inr ⟨hlt, by rw [hr]; rfl⟩
  have hL : LooseZ E h gs.size i := ⟨hih, hlt, by rw [hr]; rfl⟩
  have hdis : ∀ g l, StZ E g l → ¬ ShZ E.W l := fun g l ⟨a, e, hs⟩ ⟨a', e', hw, _⟩ => by
    rw [e] at e'; cases e'
    rw [C.dis g a hs] at hw; cases hw
  have hops : ∀ {es : Array Event}, (∀ e ∈ es, EvS (E.St i) e) → (∀ op ∈ MemOp.ofEvents i g.frame.fn g.frame.place es, ∀ b, op.act.touch? = some b → b.write = false ∧ StZ E i b.loc) ∧ (∀ op ∈ MemOp.ofEvents i g.frame.fn g.frame.place es, op.act.low w.heap.size) ∧
      Deaf (T ++ MemOp.ofEvents i g.frame.fn g.frame.place es) i = Deaf T i := fun {es} hes => by
    refine ⟨fun op hop b hb => ?_, fun op hop => ?_, ?_⟩
    · obtain ⟨e, he, rfl⟩ := Go.Conc.mem_ofEvents hop
      obtain ⟨a, rfl, hS⟩ := hes e he
      simp only [ofEvent_cell0, MemAct.touch?, Option.some.injEq] at hb
      subst hb
      exact ⟨rfl, a, rfl, hS⟩
    · obtain ⟨e, he, rfl⟩ := Go.Conc.mem_ofEvents hop
      obtain ⟨a, rfl, hS⟩ := hes e he
      obtain ⟨v, hv⟩ := Option.isSome_iff_exists.1 hS
      rw [ofEvent_cell0]
      exact lt_of_cell (C.keep i a v hv)
    · rw [Deaf_own]
      exact deafBehind_still (fun e he => by obtain ⟨a, rfl, _⟩ := hes e he; exact ⟨by simp, by simp⟩) _
  obtain ⟨k, w₀, hqi, hg⟩ : ∃ k w₀, q i = k + 1 ∧ Goes P (i == 0) (fun _ w₁ => KS (E.St i) w₁) (fun w w' es => w' = w ∧ ∀ e ∈ es, EvS (E.St i) e) (fun g _ => ∃ g₂, AtSeat P (i == 0) (E.St i) c home g g₂) k g w₀ := by
    rcases hid with hid | ⟨_, _, g₂, rfl, _⟩
    · exact hid
    · cases hrun
  have hcase : (∃ g₂, AtSeat P (i == 0) (E.St i) c home g g₂) ∨ ∃ k' g' es, k = k' + 1 ∧ stepG P (i == 0) g w = .go g' w es ∧ (∀ e ∈ es, EvS (E.St i) e) ∧ Goes P (i == 0) (fun _ w₁ => KS (E.St i) w₁) (fun w w' es => w' = w ∧ ∀ e ∈ es, EvS (E.St i) e) (fun g _ => ∃ g₂, AtSeat P (i == 0) (E.St i) c home g g₂) k' g' w := by
    cases k with
    | zero => exact .inl (hg w (C.keep i))
    | succ k' =>
      rcases hg with hstop | ⟨_, hstep⟩
      · exact .inl (hstop w (C.keep i))
      · have hs := hstep w (C.keep i)
        cases hgo : stepG P (i == 0) g w with
        | go g' w' es =>
          rw [hgo, goes_go] at hs
          obtain ⟨⟨rfl, hes⟩, hG'⟩ := hs
          exact .inr ⟨k', g', es, rfl, rfl, hes, hG'⟩
        | _ => rw [hgo] at hs; exact hs.elim
  have hidle : ∀ (u : Trace) (n : Nat) (g' : Goroutine), Sits P (i == 0) (E.St i) c home n g' → Idle P E u i n g' := fun u n g' hx => by unfold Idle; rw [hr]; exact hx
  rcases hcase with ⟨g₂, hat⟩ | ⟨k', g', es, rfl, hgo, hes, hG'⟩
  ·
    obtain ⟨_, _, _, _, _, es, hes, hstp⟩ := id hat
    obtain ⟨hr', hl, hd⟩ := hops hes
    obtain ⟨kk, hc⟩ := C.chans i c home hih hlt hr
    have hw : ∀ cc ∈ #[rcase c (.bool false)], NoWays w (gs.setIfInBounds i ph) cc := by
      intro cc hcc
      simp only [List.mem_toArray, List.mem_cons, List.not_mem_nil, or_false] at hcc
      subst hcc
      refine ways_recv_none hc (partners_nil fun x y hy => ?_)
      rcases getElem?_stand gs i x y hy with ⟨_, rfl⟩ | ⟨hx, hy'⟩
      · exact offersAt_ph _ _
      · by_cases hxh : x = h
        · subst hxh; exact hO g₂ hat y hy'
        · exact C.noSend hxh hy' _
    refine ⟨_, _, w, E, upd q i 0, crowd_waits (sl := sl) hi (hstp w (C.keep i)) hw, by simp, .inl (Array.getElem?_setIfInBounds_ne hih), fun x hx _ => Array.getElem?_setIfInBounds_ne (fun z => hx z.symm), fun x hx => upd_ne q 0 hx, Aw.refl _ _, Env.Le.refl _ _, ?_, ?_, fun c' home' e _ => ?_, fun _ => .inl rfl, fun ⟨b, e1, e2⟩ => (by rw [e1] at e2; cases e2), rfl, rfl, rfl⟩
    · exact C.put hih hlt (by simp) (fun x hx _ => Array.getElem?_setIfInBounds_ne (fun z => hx z.symm)) (Array.getElem?_setIfInBounds_self_of_lt hlt) ofE_g (Aw.refl _ _) (fun _ _ => rfl) rfl (fun _ _ => rfl) rfl rfl rfl (fun _ _ _ _ _ _ _ => rfl) (.inl rfl) (.inl rfl)
        (hidle _ _ _ (.inr ⟨rfl, g, g₂, rfl, hat⟩)) C.groups C.modes C.lastEx (fun _ _ => rfl) (fun b f e => by rw [hr] at e; cases e) (C.past.appRead hdis hih hM hL ofE_g hr' hd hl)
    · have h2 : sumTo gs.size (upd q i 0) + q i = sumTo gs.size q + 0 := by
        have := sumTo_upd q 0 id hlt
        simpa using this
      rw [hqi] at h2
      omega
    · rw [hr] at e; cases e; exact ⟨g₂, hat⟩
  · obtain ⟨hr', hl, hd⟩ := hops hes
    obtain ⟨gs', h1, h2, h3, h4, h5, _⟩ := own_step (sl := sl) C hi hih hgo (Aw.refl _ _)
    refine ⟨gs', _, w, E, upd q i (k' + 1), h1, h2, h3, h4, fun x hx => upd_ne q _ hx, Aw.refl _ _, Env.Le.refl _ _, ?_, sum_less hlt hqi, fun c' home' _ e0 => (by rw [upd_same] at e0; omega), fun _ => .inl rfl, fun ⟨b, e1, e2⟩ => (by rw [e1] at e2; cases e2), rfl, rfl, rfl⟩
    exact C.put hih hlt h2 h4 h5 ofE_g (Aw.refl _ _) (fun _ _ => rfl) rfl (fun _ _ => rfl) rfl rfl rfl (fun _ _ _ _ _ _ _ => rfl) (.inl rfl) (.inl rfl)
      (hidle _ _ _ (.inl ⟨k', w, rfl, hG'⟩)) C.groups C.modes C.lastEx (fun _ _ => rfl) (fun b f e => by rw [hr] at e; cases e) (C.past.appRead hdis hih hM hL ofE_g hr' hd hl)
end
section
variable {P : Program} {E : Env} {h dh : Nat} {T : Trace} {gs : Array Goroutine} {w : World} {q : Nat → Nat}
theorem stz_dis (C : Co P E h dh T gs w q) : ∀ g l, StZ E g l → ¬ ShZ E.W l := fun g l ⟨a, e, hs⟩ ⟨a', e', hw, _⟩ => by
  rw [e] at e'; cases e'
  rw [C.dis g a hs] at hw; cases hw
theorem GroupAt.lt {b : Nat} {w : World} {st sm : Int} (h : GroupAt b w st sm) : b < w.heap.size := by
  obtain ⟨x, e, h⟩ := h
  exact (Array.getElem?_eq_some_iff.1 h).1
theorem Co.past_atom (C : Co P E h dh T gs w q) {i b : Nat} {fn : FuncId} {pos : String} {es : Array Event} (hih : i ≠ h) (hs : (E.role i).sits = false) (hW : E.W b = true) (hes : ∀ e ∈ es, e = rdE (stZ b) ∨ e = wrE (stZ b)) (hd : 0 < Deaf T i) :
    PastZ (ShZ E.W) (StZ E) (MemZ E h gs.size) (LooseZ E h gs.size) w.heap.size h dh (T ++ MemOp.ofEvents i fn pos es) ∧ Deaf (T ++ MemOp.ofEvents i fn pos es) i = Deaf T i := by
  have hq : ∀ e ∈ es, e.loc ≠ .mark .disable ∧ e.loc ≠ .mark .enable := fun e he => by rcases hes e he with rfl | rfl <;> exact ⟨by simp [rdE, wrE], by simp [rdE, wrE]⟩
  refine ⟨C.past.appAtom (stz_dis C) hih (C.memNot hih hs) ofE_g (fun op hop x hx => ?_) (fun j hj => ?_) (fun op hop => ?_), by rw [Deaf_own]; exact deafBehind_still hq _⟩
  · obtain ⟨e, he, rfl⟩ := Go.Conc.mem_ofEvents hop
    rcases hes e he with rfl | rfl <;> (simp only [rdE, wrE, MemAct.ofEvent, MemAct.touch?, Option.some.injEq] at hx; subst hx; exact ⟨⟨stZ b, rfl, hW, Nat.le_refl _⟩, rfl⟩)
  · rw [ofEvents_eq, Array.size_map] at hj
    have := Go.Conc.deaf_inside T i fn pos es j (Nat.le_of_lt hj)
    rw [this, deafBehind_still (fun e he => hq e (by
      obtain ⟨m, hm1, hm2⟩ := Array.mem_iff_getElem.1 he
      rw [← hm2]
      simp only [Array.getElem_extract]
      exact Array.getElem_mem _))]
    exact hd
  · obtain ⟨e, he, rfl⟩ := Go.Conc.mem_ofEvents hop
    rcases hes e he with rfl | rfl <;> exact (C.groups b hW).lt
theorem Co.step_words (C : Co P E h dh T gs w q) {E' : Env} {i k b : Nat} {g g' : Goroutine} {w' : World} {es : Array Event} {sl : Option (Nat × Nat)} (hi : gs[i]? = some g) (hih : i ≠ h) (hpos : 0 < i) (hq : q i = k + 1) (hs : (E.role i).sits = false) (hs' : (E'.role i).sits = false)
    (hA : Aw E.W w w') (hst : stepG P false g w = .go g' w' es) (hp : PastZ (ShZ E.W) (StZ E) (MemZ E h gs.size) (LooseZ E h gs.size) w.heap.size h dh (T ++ MemOp.ofEvents i g.frame.fn g.frame.place es))
    (hr : ∀ x, x ≠ i → E'.role x = E.role x) (hS : E'.St = E.St) (hwg : ∀ x, x ≠ i → E'.wg x = E.wg x) (hW : E'.W = E.W) (hH : E'.H = E.H) (hex : E'.ex = E.ex) (hwgi : E'.wg i = none) (hmo : ∀ c, c ≠ b → E'.mode c = E.mode c) (hWb : E.W b = true) (hlx : (E'.mode b = 2 ∨ E'.mode b = 3) → ∃ f, E'.role i = .last b f) (hri : ∀ c f, c ≠ b → E.role i ≠ .last c f) (hng : E.role i ≠ .gone)
    (hown : ∀ x f, x ≠ i → x ≠ h → x < gs.size → E.role x ≠ .last b f)
    (hid : Idle P E' (T ++ MemOp.ofEvents i g.frame.fn g.frame.place es) i k g') (hgroups : ∀ b, E.W b = true → GroupAt b w' (stv E' gs.size b) (smv E' b))
    (hmodes : ∀ b, E.W b = true → E'.mode b ≤ 4 ∧ (E'.mode b = 1 → 1 ≤ cnt E' gs.size b + E.ex b) ∧ (2 ≤ E'.mode b → cnt E' gs.size b + E.ex b = 0))
    (hone : ∀ c f, E'.role i = .last c f → c = b) (hm1 : E'.mode b = E.mode b ∨ (1 ≤ E.mode b ∧ E'.mode b = E.mode b + 1))
    (hm4 : E.mode b = 3 → E'.mode b = 4 → mayWake P g = true ∧ g'.status ≠ .blocked ∧ g'.status ≠ .waiting) (hio : E'.io = E.io := by rfl) : After1 P E h dh T gs w q sl i g := by
  have hlt : i < gs.size := (Array.getElem?_eq_some_iff.1 hi).1
  have hi0 : (i == 0) = false := by simp; omega
  have hseat : ∀ x c home, E.role x = .seat c home ↔ E'.role x = .seat c home := fun x c home => by
    by_cases e : x = i
    · subst e
      constructor
      · intro e; rw [e] at hs; cases hs
      · intro e; rw [e] at hs'; cases hs'
    · rw [hr x e]
  obtain ⟨gs', h1, h2, h3, h4, h5, h6⟩ := own_step (sl := sl) C hi hih (by rw [hi0]; exact hst) hA
  refine ⟨gs', _, w', E', upd q i k, h1, h2, h3, h4, fun x hx => upd_ne q k hx, hA, ⟨hseat, fun x e => by rw [hr x fun ex => hng (ex ▸ e)]; exact e, hr h (Ne.symm hih), fun x a v e => by rw [hS]; exact e, fun c e => by rw [hW]; exact e, fun c n e => by rw [hH]; exact e, fun x c e => ?_, hwg h (Ne.symm hih), fun x e => ?_, hex, fun c e => ?_, fun c => ?_, hio⟩, ?_, sum_less hlt hq, fun c home e => (by rw [e] at hs; cases hs), fun c => ?_, fun ⟨c, e1, e2⟩ => ?_, hW, hS, hH⟩
  · by_cases ex : x = i
    · subst ex; rw [hwgi] at e; cases e
    · rw [← hwg x ex]; exact e
  · by_cases ex : x = i
    · subst ex; rw [hs] at e; cases e
    · exact hwg x ex
  · by_cases ec : c = b
    · subst ec
      rcases hm1 with z | ⟨z, _⟩
      · rw [z]; exact e
      · omega
    · rw [hmo c ec]; exact e
  · by_cases ec : c = b
    · subst ec
      rcases hm1 with z | ⟨_, z⟩ <;> omega
    · rw [hmo c ec]; exact Nat.le_refl _
  · exact C.put hih hlt h2 h4 h5 ofE_g hA hr hS hwg hW hH hex (fun x c f hx hxh hxl e => hmo c (fun ec => hown x f hx hxh hxl (ec ▸ e))) (.inr ⟨hs', hs⟩) (.inr hwgi) hid hgroups hmodes (fun c hc hx => by
      by_cases ec : c = b
      · subst ec; obtain ⟨f, hf⟩ := hlx hx; exact ⟨i, f, hih, hlt, hf⟩
      · rw [hmo c ec] at hx
        obtain ⟨x, f, hx1, hx2, hx3⟩ := C.lastEx c hc hx
        have hxi : x ≠ i := fun e => by rw [e] at hx3; exact hri c f ec hx3
        exact ⟨x, f, hx1, hx2, by rw [hr x hxi]; exact hx3⟩) (fun c hc => hmo c fun e => by rw [e, hWb] at hc; cases hc)
      (fun c f e x f' hx hxh hxl => by rw [hone c f e]; exact hown x f' hx hxh hxl) hp hio
  · by_cases ec : c = b
    · subst ec; exact hm1
    · exact .inl (hmo c ec)
  · by_cases ec : c = b
    · subst ec
      obtain ⟨z1, z2, z3⟩ := hm4 e1 e2
      exact h6 z1 z2 z3
    · rw [hmo c ec, e1] at e2; cases e2
theorem Co.step_ender (C : Co P E h dh T gs w q) {i b : Nat} {g : Goroutine} {sl : Option (Nat × Nat)} (hi : gs[i]? = some g) (hih : i ≠ h) (hr : E.role i = .ender b) : After1 P E h dh T gs w q sl i g := by
  have hlt : i < gs.size := (Array.getElem?_eq_some_iff.1 hi).1
  have hid := C.idle i g hih hi
  unfold Idle at hid
  rw [hr] at hid
  obtain ⟨hpos, hq, hwg⟩ := hid
  have hsit : (E.role i).sits = false := by rw [hr]; rfl
  have hW := C.wgW i b hlt hwg
  have hcnt := C.cnt_pos hlt hwg
  have hfew := C.few b hW
  obtain ⟨hm4, hm1, hm2⟩ := C.modes b hW
  have hmode : E.mode b = 0 ∨ E.mode b = 1 := by
    rcases Nat.lt_or_ge (E.mode b) 2 with z | z
    · omega
    · have := hm2 z; omega
  obtain ⟨wt, hwt, hwt1⟩ : ∃ wt : Nat, wt = (if E.mode b = 1 then 1 else 0) ∧ wt ≤ 1 := ⟨_, rfl, by split <;> omega⟩
  obtain ⟨v, hv⟩ : ∃ v, cnt E gs.size b + E.ex b = v + 1 := ⟨cnt E gs.size b + E.ex b - 1, by omega⟩
  have hgrp : GroupAt b w (((v : Int) + 1) * KK + wt) 0 := by
    have := C.groups b hW
    unfold stv smv at this
    rw [hv] at this
    rcases hmode with z | z <;> (rw [z] at this hwt; subst hwt; simpa using this)
  cases hqi : q i with
  | zero => rw [hqi] at hq; exact hq.elim
  | succ k =>
    rw [hqi] at hq
    obtain ⟨g', w', es, hst, hcase⟩ := hq.2 w v wt (by omega) hwt1 hgrp
    have hidle : ∀ (u : Trace) (g' : Goroutine), Ends P b k (Deaf u i) g' → Idle P E u i k g' := fun u g' hx => by unfold Idle; rw [hr]; exact ⟨hpos, hx, hwg⟩
    have hmark : ∀ m : Mark, (m = .releaseMerge (stZ b) ∨ m = .disable) → PastZ (ShZ E.W) (StZ E) (MemZ E h gs.size) (LooseZ E h gs.size) w.heap.size h dh (T ++ MemOp.ofEvents i g.frame.fn g.frame.place #[mkE m]) := fun m hm => by
      refine C.past.appMute hih ofE_g (fun op hop => ?_) (fun hM => absurd hM (C.memNot hih hsit)) (fun op hop => ?_)
      all_goals
        obtain ⟨e, he, rfl⟩ := Go.Conc.mem_ofEvents hop
        simp only [List.mem_toArray, List.mem_cons, List.not_mem_nil, or_false] at he
        subst he
      · rcases hm with rfl | rfl <;> rfl
      · rcases hm with rfl | rfl
        · exact hgrp.lt
        · trivial
    rcases hcase with ⟨rfl, rfl, hx⟩ | ⟨rfl, hd, rfl, hx⟩ | ⟨rfl, hd, rfl, hx⟩ | ⟨hd, rfl, rfl, hx1, hx2⟩
    · refine C.step_still hi hih hsit hpos hqi hst ?_ (hidle _ _ (by rw [Deaf_own]; exact hx))
      exact C.past.appMute hih ofE_g (fun op hop => by obtain ⟨e, he, rfl⟩ := Go.Conc.mem_ofEvents hop; simp at he) (fun hM => absurd hM (C.memNot hih hsit)) (fun op hop => by obtain ⟨e, he, rfl⟩ := Go.Conc.mem_ofEvents hop; simp at he)
    · refine C.step_still hi hih hsit hpos hqi hst (hmark _ (.inl rfl)) (hidle _ _ ?_)
      rw [Deaf_own, hd]; exact hx
    · refine C.step_still hi hih hsit hpos hqi hst (hmark _ (.inr rfl)) (hidle _ _ ?_)
      rw [Deaf_own, hd]; exact hx
    · have hnolast : ∀ x f, x ≠ i → x ≠ h → x < gs.size → E.role x ≠ .last b f := fun x f hx hxh hxl e => by
        have := C.idle x _ hxh (Array.getElem?_eq_getElem hxl)
        unfold Idle at this
        rw [e] at this
        have := this.2.2.2.2.1
        cases f <;> simp at this <;> omega
      obtain ⟨hpast, hdf⟩ := C.past_atom (i := i) (b := b) (fn := g.frame.fn) (pos := g.frame.place) (es := #[rdE (stZ b), wrE (stZ b)]) hih hsit hW (fun e he => by simpa using he) (by omega)
      have hA : Aw E.W w (w.setCell (stZ b) (.int .u64 ((v : Int) * KK + wt))) := aw_set hgrp hW _ (.inl ⟨rfl, _, rfl⟩)
      by_cases hlast : v = 0 ∧ wt = 1
      · have hmb : E.mode b = 1 := by
          rcases hmode with z | z
          · rw [z] at hwt; simp at hwt; omega
          · exact z
        refine C.step_words (b := b) (E' := { E with role := upd E.role i (.last b false), wg := upd E.wg i none, mode := upd E.mode b 2 }) hi hih hpos hqi hsit (by simp [upd_same, Role.sits]) hA hst hpast (fun x hx => upd_ne _ _ hx) rfl (fun x hx => upd_ne _ _ hx) rfl rfl rfl (upd_same ..) (fun c hc => upd_ne _ _ hc) hW (fun _ => ⟨false, upd_same ..⟩) (fun c f _ e => by rw [hr] at e; cases e) (fun e => by rw [hr] at e; cases e) hnolast ?_ (fun c hc => ?_) (fun c hc => ?_) (fun c f e => ?_) (.inr ⟨by omega, by rw [hmb]; exact upd_same ..⟩) (fun e => by omega)
        · unfold Idle
          simp only [upd_same]
          exact ⟨hpos, hx1 hlast, by rw [hdf, hd], hW, by simp, trivial⟩
        · by_cases ec : c = b
          · subst ec
            obtain ⟨x, e, hx⟩ := hgrp
            have hcd := cnt_drop (E := E) (E' := { E with role := upd E.role i (.last c false), wg := upd E.wg i none, mode := upd E.mode c 2 }) hlt (fun x hx => upd_ne _ _ hx) hwg (upd_same ..)
            refine ⟨x, e, ?_⟩
            have e1 : stv { E with role := upd E.role i (.last c false), wg := upd E.wg i none, mode := upd E.mode c 2 } gs.size c = (v : Int) * KK + wt := by
              unfold stv
              simp only [upd_same]
              have : cnt { E with role := upd E.role i (.last c false), wg := upd E.wg i none, mode := upd E.mode c 2 } gs.size c + E.ex c = v := by omega
              rw [this, hlast.2]
              simp
            have e2 : smv { E with role := upd E.role i (.last c false), wg := upd E.wg i none, mode := upd E.mode c 2 } c = 0 := by
              unfold smv
              simp only [upd_same]
              rfl
            rw [e1, e2]
            exact heap_setCell_run hx _
          · have e1 : stv { E with role := upd E.role i (.last b false), wg := upd E.wg i none, mode := upd E.mode b 2 } gs.size c = stv E gs.size c := by
              unfold stv
              simp only [upd_ne _ _ ec]
              rw [cnt_drop_ne (E := E) (fun x hx => upd_ne _ _ hx) hwg (upd_same ..) ec]
            have e2 : smv { E with role := upd E.role i (.last b false), wg := upd E.wg i none, mode := upd E.mode b 2 } c = smv E c := by
              unfold smv
              simp only [upd_ne _ _ ec]
            rw [e1, e2]
            exact (C.groups c hc).same (heap_setCell_ne (by exact fun z => ec z.symm))
        · by_cases ec : c = b
          · subst ec
            have hcd := cnt_drop (E := E) (E' := { E with role := upd E.role i (.last c false), wg := upd E.wg i none, mode := upd E.mode c 2 }) hlt (fun x hx => upd_ne _ _ hx) hwg (upd_same ..)
            simp only [upd_same]
            omega
          · simp only [upd_ne _ _ ec]
            rw [cnt_drop_ne (E := E) (fun x hx => upd_ne _ _ hx) hwg (upd_same ..) ec]
            exact C.modes c hc
        · simp only [upd_same] at e
          injection e with e
          exact e.symm
      · refine C.step_words (b := b) (E' := { E with role := upd E.role i .gone, wg := upd E.wg i none }) hi hih hpos hqi hsit (by simp [upd_same, Role.sits]) hA hst hpast (fun x hx => upd_ne _ _ hx) rfl (fun x hx => upd_ne _ _ hx) rfl rfl rfl (upd_same ..) (fun c hc => rfl) hW (fun e => by simp only at e; omega) (fun c f _ e => by rw [hr] at e; cases e) (fun e => by rw [hr] at e; cases e) hnolast ?_ (fun c hc => ?_) (fun c hc => ?_) (fun c f e => ?_) (.inl rfl) (fun e => by omega)
        · unfold Idle
          simp only [upd_same]
          exact ⟨hpos, by rw [hdf, hd]; exact hx2 hlast, trivial⟩
        · by_cases ec : c = b
          · subst ec
            obtain ⟨x, e, hx⟩ := hgrp
            have hcd := cnt_drop (E := E) (E' := { E with role := upd E.role i .gone, wg := upd E.wg i none }) hlt (fun x hx => upd_ne _ _ hx) hwg (upd_same ..)
            refine ⟨x, e, ?_⟩
            have e1 : stv { E with role := upd E.role i .gone, wg := upd E.wg i none } gs.size c = (v : Int) * KK + wt := by
              unfold stv
              have : cnt { E with role := upd E.role i .gone, wg := upd E.wg i none } gs.size c + E.ex c = v := by omega
              simp only [this]
              rcases hmode with z | z <;> (rw [z] at hwt; subst hwt; simp [z])
            have e2 : smv { E with role := upd E.role i .gone, wg := upd E.wg i none } c = 0 := by
              unfold smv
              rcases hmode with z | z <;> simp [z]
            rw [e1, e2]
            exact heap_setCell_run hx _
          · have e1 : stv { E with role := upd E.role i .gone, wg := upd E.wg i none } gs.size c = stv E gs.size c := by
              unfold stv
              rw [cnt_drop_ne (E := E) (fun x hx => upd_ne _ _ hx) hwg (upd_same ..) ec]
            rw [e1]
            exact (C.groups c hc).same (heap_setCell_ne (by exact fun z => ec z.symm))
        · by_cases ec : c = b
          · subst ec
            have hcd := cnt_drop (E := E) (E' := { E with role := upd E.role i .gone, wg := upd E.wg i none }) hlt (fun x hx => upd_ne _ _ hx) hwg (upd_same ..)
            simp only
            refine ⟨hm4, fun e1 => ?_, fun e2 => by omega⟩
            rw [e1] at hwt
            simp at hwt
            omega
          · simp only
            rw [cnt_drop_ne (E := E) (fun x hx => upd_ne _ _ hx) hwg (upd_same ..) ec]
            exact C.modes c hc
        · simp only [upd_same] at e
          cases e
theorem Co.step_last (C : Co P E h dh T gs w q) {i b : Nat} {f : Bool} {g : Goroutine} {sl : Option (Nat × Nat)} (hi : gs[i]? = some g) (hih : i ≠ h) (hr : E.role i = .last b f) : After1 P E h dh T gs w q sl i g := by
  have hlt : i < gs.size := (Array.getElem?_eq_some_iff.1 hi).1
  have hid := C.idle i g hih hi
  unfold Idle at hid
  rw [hr] at hid
  obtain ⟨hpos, hq, hd, hW, hmo, hwg⟩ := hid
  have hsit : (E.role i).sits = false := by rw [hr]; rfl
  obtain ⟨hm4, hm1, hm2⟩ := C.modes b hW
  have hz : cnt E gs.size b + E.ex b = 0 := hm2 (by rw [hmo]; cases f <;> simp)
  have hgrp := C.groups b hW
  have hst0 : stv E gs.size b = if f then 0 else 1 := by
    unfold stv
    rw [hz, hmo]
    cases f <;> simp
  have hsm0 : smv E b = 0 := by
    unfold smv
    rw [hmo]
    cases f <;> simp
  rw [hst0, hsm0] at hgrp
  have hnolast : ∀ x f', x ≠ i → x ≠ h → x < gs.size → E.role x ≠ .last b f' := fun x f' hx hxh hxl e => hx (C.one x i b f' f hxh hih hxl hlt e hr)
  have hidle : ∀ (u : Trace) (g' : Goroutine) (k : Nat), Lasts P b k f g' → Deaf u i = 1 → Idle P E u i k g' := fun u g' k hx hd => by unfold Idle; rw [hr]; exact ⟨hpos, hx, hd, hW, hmo, hwg⟩
  have hnil : PastZ (ShZ E.W) (StZ E) (MemZ E h gs.size) (LooseZ E h gs.size) w.heap.size h dh (T ++ MemOp.ofEvents i g.frame.fn g.frame.place #[]) :=
    C.past.appMute hih ofE_g (fun op hop => by obtain ⟨e, he, rfl⟩ := Go.Conc.mem_ofEvents hop; simp at he) (fun hM => absurd hM (C.memNot hih hsit)) (fun op hop => by obtain ⟨e, he, rfl⟩ := Go.Conc.mem_ofEvents hop; simp at he)
  have hnd : Deaf (T ++ MemOp.ofEvents i g.frame.fn g.frame.place #[]) i = 1 := by rw [Deaf_own]; exact hd
  have htab : ∀ (r : Role) (m : Nat) (st sm : Int) (w' : World), (∀ c home, r ≠ .seat c home) → 2 < m → m ≤ 4 → GroupAt b w' st sm → st = 0 → sm = (if m = 4 then 1 else 0) → (∀ c, c ≠ b → w'.heap[c]? = w.heap[c]?) →
      (∀ c, E.W c = true → GroupAt c w' (stv { E with role := upd E.role i r, mode := upd E.mode b m } gs.size c) (smv { E with role := upd E.role i r, mode := upd E.mode b m } c)) ∧
      (∀ c, E.W c = true → (upd E.mode b m) c ≤ 4 ∧ ((upd E.mode b m) c = 1 → 1 ≤ cnt E gs.size c + E.ex c) ∧ (2 ≤ (upd E.mode b m) c → cnt E gs.size c + E.ex c = 0)) := by
    intro r m st sm w' _ h2m hm4' hg hst hsm hother
    refine ⟨fun c hc => ?_, fun c hc => ?_⟩
    · by_cases ec : c = b
      · subst ec
        have e1 : stv { E with role := upd E.role i r, mode := upd E.mode c m } gs.size c = 0 := by
          unfold stv
          simp only [upd_same]
          have : cnt { E with role := upd E.role i r, mode := upd E.mode c m } gs.size c + E.ex c = 0 := hz
          rw [this, if_neg (by omega)]
          simp
        have e2 : smv { E with role := upd E.role i r, mode := upd E.mode c m } c = (if m = 4 then 1 else 0) := by
          unfold smv
          simp only [upd_same]
        rw [e1, e2]
        rw [hst, hsm] at hg
        exact hg
      · have e1 : stv { E with role := upd E.role i r, mode := upd E.mode b m } gs.size c = stv E gs.size c := by
          unfold stv
          simp only [upd_ne _ _ ec]
          rfl
        have e2 : smv { E with role := upd E.role i r, mode := upd E.mode b m } c = smv E c := by
          unfold smv
          simp only [upd_ne _ _ ec]
        rw [e1, e2]
        exact (C.groups c hc).same (hother c ec)
    · by_cases ec : c = b
      · subst ec
        rw [upd_same]
        exact ⟨hm4', fun e => by omega, fun _ => hz⟩
      · rw [upd_ne _ _ ec]; exact C.modes c hc
  cases hqi : q i with
  | zero => rw [hqi] at hq; exact hq.elim
  | succ k =>
    rw [hqi] at hq
    cases f with
    | false =>
      obtain ⟨g', w', es, hst, hcase⟩ := hq.2 w hgrp
      rcases hcase with ⟨rfl, hes, hx⟩ | ⟨rfl, rfl, hx⟩
      · rcases hes with rfl | rfl
        · exact C.step_still hi hih hsit hpos hqi hst hnil (hidle _ _ _ hx hnd)
        · obtain ⟨hpast, hdf⟩ := C.past_atom (i := i) (b := b) (fn := g.frame.fn) (pos := g.frame.place) (es := #[rdE (stZ b)]) hih hsit hW (fun e he => by simp at he; exact .inl he) (by omega)
          exact C.step_still hi hih hsit hpos hqi hst hpast (hidle _ _ _ hx (by rw [hdf]; exact hd))
      · obtain ⟨hpast, hdf⟩ := C.past_atom (i := i) (b := b) (fn := g.frame.fn) (pos := g.frame.place) (es := #[wrE (stZ b)]) hih hsit hW (fun e he => by simp at he; exact .inr he) (by omega)
        obtain ⟨x, e, hx0⟩ := id hgrp
        obtain ⟨t1, t2⟩ := htab (.last b true) 3 0 0 _ (fun _ _ => by simp) (by omega) (by omega) ⟨x, e, heap_setCell_run hx0 0⟩ rfl rfl (fun c hc => heap_setCell_ne (by exact fun z => hc z.symm))
        refine C.step_words (b := b) (E' := { E with role := upd E.role i (.last b true), mode := upd E.mode b 3 }) hi hih hpos hqi hsit (by simp [upd_same, Role.sits]) (aw_set hgrp hW _ (.inl ⟨rfl, _, rfl⟩)) hst hpast (fun x hx => upd_ne _ _ hx) rfl (fun x hx => rfl) rfl rfl rfl hwg (fun c hc => upd_ne _ _ hc) hW (fun _ => ⟨true, upd_same ..⟩) (fun c f' ec e => by rw [hr] at e; injection e with e; exact ec e.symm) (fun e => by rw [hr] at e; cases e) hnolast ?_ t1 t2 (fun c f e => ?_) (.inr ⟨by rw [hmo]; simp, by rw [hmo]; exact upd_same ..⟩) (fun e => by rw [hmo] at e; simp at e)
        · unfold Idle
          simp only [upd_same]
          exact ⟨hpos, hx, by rw [hdf]; exact hd, hW, by simp, hwg⟩
        · simp only [upd_same] at e
          injection e with e
          exact e.symm
    | true =>
      obtain ⟨g', w', es, hst, hcase⟩ := hq.2 w hgrp
      rcases hcase with ⟨rfl, rfl, hx⟩ | ⟨rfl, rfl, hmw, hx⟩
      · exact C.step_still hi hih hsit hpos hqi hst hnil (hidle _ _ _ hx hnd)
      · have hdf : Deaf (T ++ MemOp.ofEvents i g.frame.fn g.frame.place (semEvents (smZ b))) i = 1 := by
          rw [Deaf_own, hd]
          rfl
        have hpast : PastZ (ShZ E.W) (StZ E) (MemZ E h gs.size) (LooseZ E h gs.size) w.heap.size h dh (T ++ MemOp.ofEvents i g.frame.fn g.frame.place (semEvents (smZ b))) := by
          refine C.past.appAtom (stz_dis C) hih (C.memNot hih hsit) ofE_g (fun op hop x hx => ?_) (fun j hj => ?_) (fun op hop => ?_)
          · obtain ⟨e, he, rfl⟩ := Go.Conc.mem_ofEvents hop
            simp only [semEvents, List.mem_toArray, List.mem_cons, List.not_mem_nil, or_false] at he
            rcases he with rfl | rfl | rfl | rfl
            · simp [MemAct.ofEvent, MemAct.touch?] at hx
            · simp only [MemAct.ofEvent, MemAct.touch?, Option.some.injEq] at hx
              subst hx
              exact ⟨⟨smZ b, rfl, hW, Nat.le_succ 1⟩, rfl⟩
            · simp only [MemAct.ofEvent, MemAct.touch?, Option.some.injEq] at hx
              subst hx
              exact ⟨⟨smZ b, rfl, hW, Nat.le_succ 1⟩, rfl⟩
            · simp [MemAct.ofEvent, MemAct.touch?] at hx
          · rw [ofEvents_eq, Array.size_map] at hj
            have := Go.Conc.deaf_inside T i g.frame.fn g.frame.place (semEvents (smZ b)) j (Nat.le_of_lt hj)
            rw [this, hd]
            have hj4 : j < 4 := hj
            match j, hj4 with
            | 0, _ => simp [semEvents, deafBehind]
            | 1, _ => simp [semEvents, deafBehind]
            | 2, _ => simp [semEvents, deafBehind]
            | 3, _ => simp [semEvents, deafBehind]
          · obtain ⟨e, he, rfl⟩ := Go.Conc.mem_ofEvents hop
            simp only [semEvents, List.mem_toArray, List.mem_cons, List.not_mem_nil, or_false] at he
            rcases he with rfl | rfl | rfl | rfl
            · trivial
            · exact hgrp.lt
            · exact hgrp.lt
            · trivial
        obtain ⟨x, e, hx0⟩ := id hgrp
        obtain ⟨t1, t2⟩ := htab .gone 4 0 1 _ (fun _ _ => by simp) (by omega) (by omega) ⟨x, e, heap_setCell_sem hx0 1⟩ rfl rfl (fun c hc => heap_setCell_ne (by exact fun z => hc z.symm))
        refine C.step_words (b := b) (E' := { E with role := upd E.role i .gone, mode := upd E.mode b 4 }) hi hih hpos hqi hsit (by simp [upd_same, Role.sits]) (aw_set hgrp hW _ (.inr ⟨rfl, _, rfl⟩)) hst hpast (fun x hx => upd_ne _ _ hx) rfl (fun x hx => rfl) rfl rfl rfl hwg (fun c hc => upd_ne _ _ hc) hW (fun e => by simp only [upd_same] at e; omega) (fun c f' ec e => by rw [hr] at e; injection e with e; exact ec e.symm) (fun e => by rw [hr] at e; cases e) hnolast ?_ t1 t2 (fun c f e => ?_) (.inr ⟨by rw [hmo]; simp, by rw [hmo]; exact upd_same ..⟩) (fun _ _ => ⟨hmw, ?_, ?_⟩)
        · unfold Idle
          simp only [upd_same]
          exact ⟨hpos, by rw [hdf]; exact hx, hwg⟩
        · simp only [upd_same] at e
          cases e
        · rcases hx.status with z | z <;> rw [z] <;> simp
        · rcases hx.status with z | z <;> rw [z] <;> simp
theorem Co.by_step (C : Co P E h dh T gs w q) {i : Nat} {g : Goroutine} {sl : Option (Nat × Nat)} (hi : gs[i]? = some g) (hih : i ≠ h) (hrun : g.status = .running)
    (hO : ∀ c home g₂, E.role i = .seat c home → AtSeat P (i == 0) (E.St i) c home g g₂ → ∀ gh, gs[h]? = some gh → offersAt gh c true = []) : After1 P E h dh T gs w q sl i g := by
  cases hr : E.role i with
  | seat c home => exact stepped_seat C hi hih hrun hr (fun g₂ => hO c home g₂ hr)
  | ender b => exact C.step_ender hi hih hr
  | last b f => exact C.step_last hi hih hr
  | gone => exact C.step_gone hi hih hrun hr
end
def Env.S (E : Env) (a : Addr) : Prop := ∃ i, (E.St i a).isSome = true
def Env.Cs (E : Env) (c : Nat) : Prop := ∃ i home, E.role i = .seat c home
def EvG (S : Addr → Prop) (W : Nat → Bool) (B : Nat) (e : Event) : Prop :=
  (∀ t, (MemAct.ofEvent e).touch? = some t → (∀ a, t.loc = .cell a → S a → t.write = false) ∧ (ShZ W t.loc → t.kind ≠ .plain)) ∧ e.loc ≠ .mark .disable ∧ e.loc ≠ .mark .enable ∧ (MemAct.ofEvent e).low B
structure DG (H : Nat → Option Nat) (W : Nat → Bool) (S : Addr → Prop) (Cs : Nat → Prop) (w w' : World) (es : Array Event) : Prop where
  size : w.heap.size ≤ w'.heap.size
  still : ∀ a, S a → w'.cell? a = w.cell? a
  chans : ∀ c, Cs c → w'.heap[c]? = w.heap[c]?
  run : ∀ b, W b = true → ∀ x st sm e, w.heap[b]? = some (runObj x st sm e) → ∃ x', w'.heap[b]? = some (runObj x' st sm e)
  fit : Fit H W w → Fit H W w'
  ev : ∀ e ∈ es, EvG S W w'.heap.size e
  io : SameIo w w'
abbrev Env.D (E : Env) := DG E.H E.W E.S E.Cs
theorem DG.idle (H : Nat → Option Nat) (W : Nat → Bool) (S : Addr → Prop) (Cs : Nat → Prop) (w : World) : DG H W S Cs w w #[] :=
  ⟨Nat.le_refl _, fun _ _ => rfl, fun _ _ => rfl, fun _ _ x _ _ _ h => ⟨x, h⟩, id, fun e he => by simp at he, SameIo.refl _⟩
theorem evN_G {H : Nat → Option Nat} {W : Nat → Bool} {S : Addr → Prop} (hS : ∀ a, S a → ∃ n, H a.block = some n ∧ n ≤ a.off) (hW : ∀ b, W b = true → H b = some 1) {B : Nat} {e : Event} (h : EvN H B e) : EvG S W B e := by
  obtain ⟨l, wr, sy⟩ := e
  obtain ⟨h1, h2⟩ := h
  unfold EvV at h1
  cases l with
  | cell a =>
    obtain ⟨hb, hv⟩ := h1
    refine ⟨fun t ht => ?_, by simp, by simp, ?_⟩
    · have ht' : t = ⟨.cell a, wr, if sy then .atomic else .plain⟩ := by
        cases wr <;> cases sy <;> (simp [MemAct.ofEvent, MemAct.touch?] at ht; exact ht.symm)
      subst ht'
      refine ⟨fun a' e hs => ?_, fun ⟨a', e, hw, hlt⟩ => ?_⟩
      · cases e
        obtain ⟨n, h1, h2⟩ := hS a hs
        exact absurd (hv n h1) (by omega)
      · cases e
        exact absurd (hv 1 (hW _ hw)) (by omega)
    · cases wr <;> cases sy <;> exact hb
  | obj r =>
    obtain ⟨hb, hv⟩ := h1
    refine ⟨fun t ht => ?_, by simp, by simp, ?_⟩
    · have ht' : t.loc = .obj r := by
        cases wr <;> cases sy <;> (simp [MemAct.ofEvent, MemAct.touch?] at ht; try (rw [← ht]))
      refine ⟨fun a' e => ?_, fun ⟨a', e, _⟩ => ?_⟩ <;> (rw [ht'] at e; cases e)
    · cases wr <;> cases sy <;> first | exact hb | trivial
  | mark m =>
    rcases h1 with rfl | ⟨f, rfl⟩
    · refine ⟨fun t ht => ?_, by simp, by simp, ?_⟩
      · cases wr <;> cases sy <;> simp [MemAct.ofEvent, MemAct.touch?] at ht
      · cases wr <;> cases sy <;> trivial
    · exact absurd rfl (h2 f)
  | _ => exact h1.elim
theorem lets_dg {H : Nat → Option Nat} {W : Nat → Bool} {S : Addr → Prop} {Cs : Nat → Prop} (hS : ∀ a, S a → ∃ n, H a.block = some n ∧ n ≤ a.off) (hC : ∀ c, Cs c → H c = some 0) (hW : ∀ b, W b = true → H b = some 1) : Lets H W (DG H W S Cs) := fun w w' es hf hf' hk hev => by
  have hb : ∀ b n, H b = some n → b < w.heap.size := fun b n hb => Nat.lt_of_not_le fun hle => by
    have := hf.bound b hle
    rw [hb] at this; cases this
  refine ⟨hk.size, fun a hs => ?_, fun c hc => ?_, fun b hw x st sm e he => hk.run (hW b hw) he, fun _ => hf', fun e he => evN_G hS hW (hev e he), ⟨hk.os, hk.output⟩⟩
  · obtain ⟨n, h1, h2⟩ := hS a hs
    rcases hk.same h1 (hb _ _ h1) with ⟨c, c', e, f, k1, k2, k3, k4⟩ | k1
    · unfold World.cell?
      rw [k1, k2]
      simp only
      split
      · rfl
      · exact k4 _ h2
    · exact cell_same k1
  · exact (hk.same (hC c hc) (hb _ _ (hC c hc))).zero
theorem runNT_cat {P : Program} {N N' : Nat} {m m₁ m₂ : Machine} {t t₁ t₂ : Trace} (h : runNT P N m t = (.next m₁, t₁)) (hk : runNT P N' m₁ t₁ = (.next m₂, t₂)) : runNT P (N + N') m t = (.next m₂, t₂) := by
  rw [runNT_add, h]; exact hk
theorem runNT_one {P : Program} {m m₁ : Machine} {t : Trace} {ops : Array MemOp} (h : stepT P m = (.next m₁, ops)) : runNT P 1 m t = (.next m₁, t ++ ops) := by
  simp [runNT, h]
structure Env.Eq (h : Nat) (E E' : Env) : Prop extends E.Le h E' where
  W' : E'.W = E.W
  St' : E'.St = E.St
  H' : E'.H = E.H
theorem Env.Eq.refl (h : Nat) (E : Env) : E.Eq h E := ⟨.refl h E, rfl, rfl, rfl⟩
theorem Env.Eq.trans {h : Nat} {E E' E'' : Env} (a : E.Eq h E') (b : E'.Eq h E'') : E.Eq h E'' := ⟨a.toLe.trans b.toLe, b.W'.trans a.W', b.St'.trans a.St', b.H'.trans a.H'⟩
theorem Env.Eq.S {h : Nat} {E E' : Env} (a : E.Eq h E') : E'.S = E.S := by unfold Env.S; rw [a.St']
theorem Env.Le.cs {h : Nat} {E E' : Env} (a : E.Le h E') : E'.Cs = E.Cs := by
  funext c
  apply propext
  constructor
  · rintro ⟨i, home, e⟩; exact ⟨i, home, (a.seat i c home).2 e⟩
  · rintro ⟨i, home, e⟩; exact ⟨i, home, (a.seat i c home).1 e⟩
theorem Env.Eq.D {h : Nat} {E E' : Env} (a : E.Eq h E') : E'.D = E.D := by unfold Env.D; rw [a.H', a.W', a.S, a.toLe.cs]
section
variable {P : Program} {E : Env} {h dh : Nat} {T : Trace} {gs : Array Goroutine} {w : World} {q : Nat → Nat}
theorem Co.hold (C : Co P E h dh T gs w q) {dh' : Nat} {gs' : Array Goroutine} {w' : World} {ops : Array MemOp} (hsz : gs'.size = gs.size) (hoth : ∀ x, x ≠ h → gs'[x]? = gs[x]?) (hops : ∀ op ∈ ops, op.g = h)
    (hsize : w.heap.size ≤ w'.heap.size) (hstill : ∀ a, E.S a → w'.cell? a = w.cell? a) (hch : ∀ c, E.Cs c → w'.heap[c]? = w.heap[c]?) (hrun : ∀ b, E.W b = true → ∀ x st sm e, w.heap[b]? = some (runObj x st sm e) → ∃ x', w'.heap[b]? = some (runObj x' st sm e))
    (hfit : Fit E.H E.W w') (hpast : PastZ (ShZ E.W) (StZ E) (MemZ E h gs.size) (LooseZ E h gs.size) w'.heap.size h dh' (T ++ ops)) (hio : SameIo w w') : Co P E h dh' (T ++ ops) gs' w' q := by
  refine ⟨by rw [hsz]; exact C.lt, fun x y hx hy => ?_, fun x c home hx hl e => ?_, fun x x' c home home' hx hx' hl hl' => C.inj x x' c home home' hx hx' (hsz ▸ hl) (hsz ▸ hl'), fun j hj => ?_, fun x a v e => ?_, C.dis, hfit, C.hidS, C.hidC, by rw [hsz]; exact hpast, fun x b hl => C.wgW x b (hsz ▸ hl), by rw [hsz]; exact C.fresh, fun b hb => ?_, by rw [hsz]; exact C.few, by rw [hsz]; exact C.modes, by rw [hsz]; exact C.lastEx, C.zero, fun x x' b f f' hx hx' hl hl' => C.one x x' b f f' hx hx' (hsz ▸ hl) (hsz ▸ hl'), C.io.trans hio⟩
  · rw [hoth x hx] at hy
    exact idle_other hx hops rfl rfl rfl (fun _ hb => hb) (fun _ _ _ => rfl) (C.idle x y hx hy)
  · obtain ⟨k, hk⟩ := C.chans x c home hx (hsz ▸ hl) e
    exact ⟨k, by rw [hch c ⟨x, home, e⟩]; exact hk⟩
  · rw [hsz] at hj
    have : h ≠ j := by have := C.lt; omega
    rw [Deaf_other T this ops hops]
    exact C.above j hj
  · rw [hstill a ⟨x, by rw [e]; rfl⟩]
    exact C.keep x a v e
  · obtain ⟨x, e, hx⟩ := C.groups b hb
    obtain ⟨x', hx'⟩ := hrun b hb x _ _ e hx
    rw [hsz]
    exact ⟨x', e, hx'⟩
theorem Co.woken (C : Co P E h dh T gs w q) {a a' : Goroutine} {w' : World} (hch : ∀ c, E.Cs c → w'.heap[c]? = w.heap[c]?) (x : Nat) (hx : x ≠ h) : ((gs.map (Go.Conc.woken P a a' w')).setIfInBounds h a')[x]? = gs[x]? := by
  rw [Array.getElem?_setIfInBounds_ne (fun e => hx e.symm), Array.getElem?_map]
  cases e : gs[x]? with
  | none => rfl
  | some y =>
    rw [Option.map_some, woken_of_again]
    have hlt := (Array.getElem?_eq_some_iff.1 e).1
    rcases C.idle_status hx e with z | ⟨c, home, g₂, hr, rfl⟩
    · exact again_of_running z w'
    · obtain ⟨k, hk⟩ := C.chans x c home hx hlt hr
      exact again_recv_open (by rw [hch c ⟨x, home, hr⟩]; exact hk)
theorem Co.past_own (C : Co P E h dh T gs w q) {fn : FuncId} {pos : String} {es : Array Event} {B : Nat} (hB : w.heap.size ≤ B) (hev : ∀ e ∈ es, EvG E.S E.W B e) :
    PastZ (ShZ E.W) (StZ E) (MemZ E h gs.size) (LooseZ E h gs.size) B h dh (T ++ MemOp.ofEvents h fn pos es) := by
  refine (C.past.mono hB).appH ofE_g (fun op hop b hb => ?_) ?_ (fun op hop => ?_)
  · obtain ⟨e, he, rfl⟩ := Go.Conc.mem_ofEvents hop
    obtain ⟨h1, _⟩ := hev e he
    exact ⟨fun g ⟨a, e1, e2⟩ => (h1 b hb).1 a e1 ⟨g, e2⟩, (h1 b hb).2⟩
  · rw [Deaf_own, deafBehind_still (fun e he => ⟨(hev e he).2.1, (hev e he).2.2.1⟩)]
    exact C.past.hearsH
  · obtain ⟨e, he, rfl⟩ := Go.Conc.mem_ofEvents hop
    exact (hev e he).2.2.2
theorem Co.own (C : Co P E h dh T gs w q) {a a' : Goroutine} {w' : World} {es : Array Event} (ha : gs[h]? = some a) (hd : E.D w w' es) :
    Co P E h dh (T ++ MemOp.ofEvents h a.frame.fn a.frame.place es) ((gs.map (Go.Conc.woken P a a' w')).setIfInBounds h a') w' q ∧ ((gs.map (Go.Conc.woken P a a' w')).setIfInBounds h a')[h]? = some a' :=
  ⟨C.hold (by simp) (C.woken hd.chans) ofE_g hd.size hd.still hd.chans hd.run (hd.fit C.fit) (C.past_own hd.size hd.ev) hd.io, Array.getElem?_setIfInBounds_self_of_lt (by simpa using C.lt)⟩
def Got (P : Program) (h dh : Nat) (Stop : Goroutine → World → Prop) (E : Env) (n : Nat) (m : Machine) (T : Trace) : Prop :=
  ∃ N gs' a' w' sl' T' E' q', runNT P N m T = (.next (crowd gs' w' sl'), T') ∧ gs'.size = n ∧ gs'[h]? = some a' ∧ Stop a' w' ∧ E.Eq h E' ∧ Co P E' h dh T' gs' w' q'
theorem Got.more {Stop : Goroutine → World → Prop} {n N : Nat} {m m' : Machine} {T T' : Trace} {E' : Env} (hr : runNT P N m T = (.next m', T')) (hE : E.Eq h E') (g : Got P h dh Stop E' n m' T') : Got P h dh Stop E n m T := by
  obtain ⟨N', gs', a', w', sl', T'', E'', q', h1, h2, h3, h4, h5, h6⟩ := g
  exact ⟨N + N', gs', a', w', sl', T'', E'', q', runNT_cat hr h1, h2, h3, h4, hE.trans h5, h6⟩
theorem offers_running {gh : Goroutine} (h : gh.status = .running) (c : Nat) : offersAt gh c true = [] := offersAt_of_not_blocked (by rw [h]; simp) _ _
theorem Co.walk {Stop : Goroutine → World → Prop} {a : Goroutine} {w0 : World} (hG : GoesW P (h == 0) (Aw E.W) E.D Stop a w0) : ∀ {gs : Array Goroutine} {T : Trace} {q : Nat → Nat} {w : World} {sl : Option (Nat × Nat)} {E1 : Env},
    E.Eq h E1 → Aw E.W w0 w → Co P E1 h dh T gs w q → gs[h]? = some a → Got P h dh Stop E1 gs.size (crowd gs w sl) T := by
  induction hG with
  | stop hst =>
    intro gs T q w sl E1 hE hA C ha
    exact ⟨0, gs, _, w, sl, T, E1, q, rfl, rfl, ha, hst w hA, .refl h E1, C⟩
  | @step g w0 hs ng nw ne hh ih ihh =>
    have key : ∀ μ, ∀ {gs : Array Goroutine} {T : Trace} {q : Nat → Nat} {w : World} {sl : Option (Nat × Nat)} {E1 : Env}, sumTo gs.size q = μ → E.Eq h E1 → Aw E.W w0 w → Co P E1 h dh T gs w q → gs[h]? = some g → Got P h dh Stop E1 gs.size (crowd gs w sl) T := by
      intro μ
      induction μ using Nat.strongRecOn with
      | _ μ ihμ =>
        intro gs T q w sl E1 hμ hE hA C ha
        obtain ⟨i, gi, d, sl', hi, hg, hst⟩ := crowd_pick (P := P) (w := w) (sl := sl) (C.awake ha (.inl hs)) ⟨h, g, ha, hs⟩
        have hA' : Aw E.W w0 (w.at d) := hA.trans _ _ _ (Aw.draw _ _ d)
        have Cd : Co P E1 h dh T gs (w.at d) q :=
          ⟨C.lt, C.idle, C.chans, C.inj, C.above, C.keep, C.dis, C.fit.aw (Aw.draw _ _ d), C.hidS, C.hidC, C.past, C.wgW, C.fresh, C.groups, C.few, C.modes, C.lastEx, C.zero, C.one, ⟨C.io.1, C.io.2⟩⟩
        by_cases e : i = h
        · subst e
          obtain rfl : gi = g := by rw [ha] at hi; exact (Option.some.inj hi).symm
          obtain ⟨h1, h2⟩ := hh (w.at d) hA'
          obtain ⟨C', ha'⟩ := Cd.own (a' := ng (w.at d)) hi (by rw [hE.D]; exact h2)
          have hr := runNT_one (t := T) (hst.trans (runT_crowd_go (sl := sl') hi h1))
          have := ihh (w.at d) hA' (sl := sl') hE (Aw.refl _ _) C' ha'
          rw [show ((gs.map (Go.Conc.woken P gi (ng (w.at d)) (nw (w.at d)))).setIfInBounds i (ng (w.at d))).size = gs.size by simp] at this
          exact this.more hr (.refl _ _)
        · obtain ⟨gs', ops, w', E', q', hr, hsz, hh', _, _, hAw, hLe, C', hlt, _, _, _, hW, hSt, hH⟩ := Cd.by_step (sl := sl') hi e hg (fun c home g₂ _ _ gh hgh => by rw [ha] at hgh; obtain rfl := Option.some.inj hgh; exact offers_running hs c)
          have ha' : gs'[h]? = some g := by
            rcases hh' with z | z
            · rw [z, ha]
            · rw [z, ha, Option.map_some, again_of_running (.inl hs)]
          have hr1 := runNT_one (t := T) (hst.trans hr)
          have hEq : E1.Eq h E' := ⟨hLe, hW, hSt, hH⟩
          have := ihμ (sumTo gs'.size q') (by rw [hsz, ← hμ]; exact hlt) (sl := sl') rfl (hE.trans hEq) (hA'.trans _ _ _ (by rw [← hE.W']; exact hAw)) C' ha'
          rw [hsz] at this
          exact this.more hr1 hEq
    intro gs T q w sl E1
    exact key _ rfl
end
end Go.Proofs.Ytimlbbleblijnaa.Co
