/- Lemmas for the laws of this seat, laid together of PGm, PGn, PGp, PGq. -/
import Derived.Test.YtimlbbleblijnaaU04

set_option linter.unusedVariables false
set_option linter.unusedSimpArgs false
namespace Go.Proofs.Ytimlbbleblijnaa.Co
open Go.Conc
open Go.ConcN (sumTo upd sumTo_upd upd_ne upd_same sumTo_congr le_sumTo)
def Env.setRole (E : Env) (h : Nat) (r : Role) : Env := { E with role := upd E.role h r }
section
variable {P : Program} {E : Env} {h dh : Nat} {T : Trace} {gs : Array Goroutine} {w : World} {q : Nat → Nat}
theorem fit_chan {H : Nat → Option Nat} {W : Nat → Bool} {w : World} {c cap s r cap' s' r' : Nat} {b b' : Array Value} {cl cl' tm tm' : Bool} (hf : Fit H W w) (hc : w.heap[c]? = some (.chan cap b cl s r tm)) (hH : H c = some 0) : Fit H W (w.setChan c cap' b' cl' s' r' tm') := by
  have hget : ∀ x, (w.setChan c cap' b' cl' s' r' tm').heap[x]? = if x = c then some (.chan cap' b' cl' s' r' tm') else w.heap[x]? := fun x => by
    by_cases e : x = c
    · subst e; rw [if_pos rfl]; exact heap_setChan_self w hc ..
    · rw [if_neg e]; exact heap_setChan_ne w _ _ _ _ _ _ (fun z => e z.symm)
  have hv : (vw H (w.setChan c cap' b' cl' s' r' tm')).heap = (vw H w).heap := by
    unfold vw
    apply Array.ext_getElem?
    intro x
    simp only [Array.getElem?_mapIdx, hget]
    by_cases e : x = c
    · subst e
      rw [if_pos rfl, hc]
      simp [hideAt, hH, hideObj]
    · rw [if_neg e]
  refine ⟨fun x o ho => hf.fair x o (by rw [← hv]; exact ho), fun x hx => hf.bound x (by simpa [World.setChan] using hx), fun x n o hD ho => ?_, fun x hx => ?_, hf.sub⟩
  · rw [hget] at ho
    by_cases e : x = c
    · rw [if_pos e] at ho; cases ho; exact .inr (.inr (.inl ⟨_, _, _, _, _, _, rfl⟩))
    · rw [if_neg e] at ho; exact hf.hides x n o hD ho
  · obtain ⟨p, st, sm, ty, h1⟩ := hf.ok x hx
    refine ⟨p, st, sm, ty, ?_⟩
    rw [hget]
    by_cases e : x = c
    · subst e; rw [hc] at h1; cases h1
    · rw [if_neg e]; exact h1
theorem Co.pass (C : Co P E h 0 T gs w q) {j c k n' : Nat} {home : Goroutine → Prop} (hjh : j ≠ h) (hjlt : j < gs.size) (hj : E.role j = .seat c home) (hc : w.heap[c]? = some (.chan 0 #[] false k k false)) {gs' : Array Goroutine} {T' : Trace} {H' : Goroutine} {r' : Role}
    (hsz : gs'.size = gs.size) (hoth : ∀ x, x ≠ h → x ≠ j → gs'[x]? = gs[x]?) (hH : gs'[h]? = some H') (hDeaf : ∀ x, Deaf T' x = Deaf T x)
    (hafter : Idle P (E.setRole h r') T' h n' H') (hr1 : ∀ c' home', r' = .seat c' home' → (∃ k, w.heap[c']? = some (.chan 0 #[] false k k false)) ∧ E.H c' = some 0 ∧ ∀ x home'', x ≠ h → x < gs.size → E.role x = .seat c' home'' → False) (hr2 : ∀ b f, r' ≠ .last b f)
    (hpast : PastZ (ShZ E.W) (StZ E) (MemZ E h gs.size) (fun g => LooseZ E h gs.size g ∧ g ≠ j) w.heap.size j 0 T') :
    Co P (E.setRole h r') j 0 T' gs' (w.setChan c 0 #[] false (k + 1) (k + 1) false) (upd q h n') := by
  have hne : ∀ x, x ≠ h → (E.setRole h r').role x = E.role x := fun x hx => upd_ne _ _ hx
  have hself : (E.setRole h r').role h = r' := upd_same ..
  have hcW := C.chan_notW (k := 0) hc (by intro cs e f hh; cases hh)
  have hheap : ∀ b, b ≠ c → (w.setChan c 0 #[] false (k + 1) (k + 1) false).heap[b]? = w.heap[b]? := fun b hb => heap_setChan_ne w _ _ _ _ _ _ (fun e => hb e.symm)
  have hH' := C.hidC j c home hj
  refine ⟨by rw [hsz]; exact hjlt, fun x y hx hy => ?_, fun x c' home' hx hl e => ?_, fun x x' c' home' home'' hx hx' hl hl' e e' => ?_, fun x hx => by rw [hDeaf]; exact C.above x (by omega), fun x a v e => ?_, C.dis, fit_chan C.fit hc hH', C.hidS, fun x c' home' e => ?_, ?_, fun x b hl => C.wgW x b (hsz ▸ hl), fun x hx => ?_, fun b hb => ?_, by rw [hsz]; exact C.few, by rw [hsz]; exact C.modes, fun b hb hx => ?_, C.zero, fun x x' b f f' hx hx' hl hl' e e' => ?_, ⟨C.io.1, C.io.2⟩⟩
  · by_cases e : x = h
    · subst e
      rw [hH] at hy
      obtain rfl := Option.some.inj hy
      rw [upd_same]; exact hafter
    · rw [hoth x e hx] at hy
      rw [upd_ne q n' e]
      have hid := C.idle x y e hy
      unfold Idle at hid ⊢
      rw [hne x e, hDeaf]
      exact hid
  · by_cases ec : c' = c
    · subst ec; exact ⟨k + 1, heap_setChan_self w hc ..⟩
    · rw [hheap c' ec]
      by_cases ex : x = h
      · subst ex
        rw [hself] at e
        exact (hr1 c' home' e).1
      · rw [hne x ex] at e
        exact C.chans x c' home' ex (hsz ▸ hl) e
  · rw [hsz] at hl hl'
    by_cases ex : x = h
    · by_cases ex' : x' = h
      · rw [ex, ex']
      · subst ex
        rw [hself] at e; rw [hne x' ex'] at e'
        exact ((hr1 c' home' e).2.2 x' home'' ex' hl' e').elim
    · by_cases ex' : x' = h
      · subst ex'
        rw [hself] at e'; rw [hne x ex] at e
        exact ((hr1 c' home'' e').2.2 x home' ex hl e).elim
      · rw [hne x ex] at e; rw [hne x' ex'] at e'
        exact C.inj x x' c' home' home'' ex ex' hl hl' e e'
  · have hcell := C.keep x a v e
    have hb : a.block ≠ c := fun hb => by
      unfold World.cell? at hcell
      rw [hb, hc] at hcell
      cases hcell
    rw [cell_same (hheap _ hb)]
    exact hcell
  · by_cases ex : x = h
    · subst ex
      rw [hself] at e
      exact (hr1 c' home' e).2.1
    · rw [hne x ex] at e
      exact C.hidC x c' home' e
  · rw [show (w.setChan c 0 #[] false (k + 1) (k + 1) false).heap.size = w.heap.size by simp [World.setChan], hsz]
    have h1 : PastZ (ShZ E.W) (StZ E) (MemZ (E.setRole h r') j gs.size) (fun g => LooseZ E h gs.size g ∧ g ≠ j) w.heap.size j 0 T' := hpast.fewer fun g hg => by
      rcases hg with rfl | ⟨hl, hs⟩
      · exact .inr ⟨hjlt, by rw [hj]; rfl⟩
      · by_cases e : g = h
        · exact .inl e
        · rw [hne g e] at hs; exact .inr ⟨hl, hs⟩
    exact h1.loosen fun g ⟨⟨g1, g2, g3⟩, g4⟩ => ⟨g4, g2, by rw [hne g g1]; exact g3⟩
  · rw [hsz] at hx
    have hxh : x ≠ h := by have := C.lt; omega
    obtain ⟨f1, f2, f3⟩ := C.fresh x hx
    exact ⟨by rw [hne x hxh]; exact f1, f2, f3⟩
  · have hbc : b ≠ c := fun e => by
      have hb' : E.W b = true := hb
      rw [e, hcW] at hb'; cases hb'
    rw [hsz]
    exact (C.groups b hb).same (hheap b hbc)
  · obtain ⟨x, f, x1, x2, x3⟩ := C.lastEx b hb hx
    exact ⟨x, f, (fun e => by rw [e, hj] at x3; cases x3), by rw [hsz]; exact x2, by rw [hne x x1]; exact x3⟩
  · rw [hsz] at hl hl'
    by_cases ex : x = h
    · subst ex; rw [hself] at e; exact absurd e (hr2 b f)
    · by_cases ex' : x' = h
      · subst ex'; rw [hself] at e'; exact absurd e' (hr2 b f')
      · rw [hne x ex] at e; rw [hne x' ex'] at e'
        exact C.one x x' b f f' ex ex' hl hl' e e'
def Given (P : Program) (E : Env) (h j c : Nat) (home : Goroutine → Prop) (v : Value) (r' : Role) (n : Nat) (w : World) (m : Machine) (T : Trace) : Prop :=
  ∃ (gs' : Array Goroutine) (g₂ : Goroutine) (w₁ : World) (k : Nat) (sl' : Option (Nat × Nat)) (q' : Nat → Nat) (E1 : Env), m = crowd gs' (w₁.setChan c 0 #[] false (k + 1) (k + 1) false) sl' ∧ gs'.size = n ∧ gs'[j]? = some (Go.Conc.served g₂ v) ∧ home g₂ ∧ Aw E.W w w₁ ∧
    w₁.heap[c]? = some (.chan 0 #[] false k k false) ∧ E.Eq h E1 ∧ Co P (E1.setRole h r') j 0 T gs' (w₁.setChan c 0 #[] false (k + 1) (k + 1) false) q'
theorem Co.drew (C : Co P E h dh T gs w q) (d : Nat) : Co P E h dh T gs (w.at d) q :=
  ⟨C.lt, C.idle, C.chans, C.inj, C.above, C.keep, C.dis, C.fit.aw (Aw.draw _ _ d), C.hidS, C.hidC, C.past, C.wgW, C.fresh, C.groups, C.few, C.modes, C.lastEx, C.zero, C.one, ⟨C.io.1, C.io.2⟩⟩
theorem Co.give (C : Co P E h 0 T gs w q) {a a₂ : Goroutine} {j c : Nat} {home : Goroutine → Prop} {v z' : Value} {es : Array Event} {sl : Option (Nat × Nat)} (hjh : j ≠ h) (hjlt : j < gs.size) (hj : E.role j = .seat c home) (ha : gs[h]? = some a) (hrun : a.status = .running)
    (hsend : ∀ w', Aw E.W w w' → stepG P (h == 0) a w' = .comm a₂ #[scase c v z'] true .send w' es) (hes : ∀ e ∈ es, EvG E.S E.W w.heap.size e)
    {r' : Role} {n' : Nat} (hafter : ∀ T', Deaf T' h = 0 → Idle P (E.setRole h r') T' h n' (Go.Conc.served a₂ undef))
    (hr1 : ∀ c' home', r' = .seat c' home' → (∃ k, w.heap[c']? = some (.chan 0 #[] false k k false)) ∧ E.H c' = some 0 ∧ ∀ x home'', x ≠ h → x < gs.size → E.role x = .seat c' home'' → False) (hr2 : ∀ b f, r' ≠ .last b f) :
    ∃ N m' T', runNT P N (crowd gs w sl) T = (.next m', T') ∧ Given P E h j c home v r' gs.size w m' T' := by
  refine runs_until (P := P)
    (Inv := fun μ m t => Given P E h j c home v r' gs.size w m t ∨ ∃ gs₁ w₁ sl₁ q₁ E1, ∃ pk : Bool, m = crowd gs₁ w₁ sl₁ ∧ gs₁.size = gs.size ∧ Aw E.W w w₁ ∧ E.Eq h E1 ∧ gs₁[h]? = some (if pk then parked a₂ #[scase c v z'] .send else a) ∧
      Co P E1 h 0 t gs₁ w₁ q₁ ∧ (pk = true → 0 < q₁ j) ∧ μ = sumTo gs₁.size q₁ + (if pk then 0 else 1))
    (fun μ m t hInv => ?_) _ _ T (.inr ⟨gs, w, sl, q, E, false, rfl, rfl, Aw.refl _ _, .refl h E, ha, C, by simp, rfl⟩)
  rcases hInv with hdone | ⟨gs₁, w₀, sl₁, q₁, E1, pk, rfl, hsz, hA0, hEq, ha₁, C₀, hpk, hμ⟩
  · exact .inl hdone
  refine .inr ?_
  have hj1 : E1.role j = .seat c home := (hEq.seat j c home).1 hj
  obtain ⟨gj, hgj⟩ : ∃ gj, gs₁[j]? = some gj := ⟨gs₁[j]'(by omega), Array.getElem?_eq_getElem (by omega)⟩
  have hlth : h < gs₁.size := (Array.getElem?_eq_some_iff.1 ha₁).1
  have hSj : Sits P (j == 0) (E1.St j) c home (q₁ j) gj := by have := C₀.idle j gj hjh hgj; unfold Idle at this; rwa [hj1] at this
  have hsome : ∃ (i : Nat) (g : Goroutine), gs₁[i]? = some g ∧ g.status = .running := by
    cases pk with
    | false => exact ⟨h, a, ha₁, hrun⟩
    | true => exact ⟨j, gj, hgj, (Sits.status (C₀.keep j) hSj).elim (·.1) (fun z => by have := hpk rfl; omega)⟩
  obtain ⟨i, g, d', sl', hi, hg, hst⟩ := crowd_pick (P := P) (w := w₀) (sl := sl₁) (C₀.awake ha₁ (by cases pk <;> simp [hrun, parked])) hsome
  have C₁ := C₀.drew d'
  generalize hw₁ : w₀.at d' = w₁ at hst C₁
  have hA : Aw E.W w w₁ := hA0.trans _ _ _ (by rw [← hw₁]; exact Aw.draw _ _ d')
  obtain ⟨k, hc⟩ := C₁.chans j c home hjh (by omega) hj1
  have hcW := C₁.chan_notW (k := 0) hc (by intro cs e f hh; cases hh)
  have hoth : ∀ x home', x ≠ h → x ≠ j → x < gs₁.size → E1.role x ≠ .seat c home' := fun x home' hx hxj hl e => hxj (C₁.inj x j c home' home hx hjh hl (by omega) e hj1)
  have hmet0 : ∀ (fh : FuncId) (ph : String) (fj : FuncId) (pj : String) (g : Nat), ∀ op ∈ met h j fh ph fj pj c k 0, ∀ d, deafStep g d op = d := fun fh ph fj pj g => met_quiet h j fh ph fj pj c k 0 g
  have hS : E1.S = E.S := hEq.S
  have fin : ∀ (gs' : Array Goroutine) (ops₀ : Array MemOp) (g₂ : Goroutine) (x : Nat), gs'.size = gs₁.size → (∀ x, x ≠ h → x ≠ j → gs'[x]? = gs₁[x]?) → gs'[h]? = some (Go.Conc.served a₂ undef) → gs'[j]? = some (Go.Conc.served g₂ v) → home g₂ →
      (∀ op ∈ ops₀, op.g = x) → Deaf (t ++ ops₀) x = Deaf t x → PastZ (ShZ E1.W) (StZ E1) (MemZ E1 h gs₁.size) (LooseZ E1 h gs₁.size) w₁.heap.size h 0 (t ++ ops₀) →
      Given P E h j c home v r' gs.size w (crowd gs' (w₁.setChan c 0 #[] false (k + 1) (k + 1) false) sl') (t ++ (ops₀ ++ met h j a₂.frame.fn a₂.frame.place g₂.frame.fn g₂.frame.place c k 0)) := by
    intro gs' ops₀ g₂ x hsz' hoth' hH hJ hhome hx hdx p1
    have hD0 : ∀ y, Deaf (t ++ ops₀) y = Deaf t y := fun y => by
      by_cases e : y = x
      · subst e; exact hdx
      · exact Deaf_other t (fun z => e z.symm) _ hx
    have hDeaf : ∀ y, Deaf (t ++ (ops₀ ++ met h j a₂.frame.fn a₂.frame.place g₂.frame.fn g₂.frame.place c k 0)) y = Deaf t y := fun y => by rw [← Array.append_assoc, Deaf_quiet (hmet0 _ _ _ _ y), hD0]
    have p2 := p1.give hjh (.inr ⟨by omega, by rw [hj1]; rfl⟩) a₂.frame.fn a₂.frame.place g₂.frame.fn g₂.frame.place k 0 (Array.getElem?_eq_some_iff.1 hc).1
    rw [Array.append_assoc] at p2
    refine ⟨gs', g₂, w₁, k, sl', upd q₁ h n', E1, rfl, hsz'.trans hsz, hJ, hhome, hA, hc, hEq, ?_⟩
    refine C₁.pass hjh (by omega) hj1 hc hsz' hoth' hH hDeaf ?_ (fun c' home' e => ?_) hr2 p2
    · have := hafter (t ++ (ops₀ ++ met h j a₂.frame.fn a₂.frame.place g₂.frame.fn g₂.frame.place c k 0)) (by rw [hDeaf]; exact C₁.past.hearsH)
      unfold Idle at this ⊢
      simp only [Env.setRole, upd_same] at this ⊢
      rw [hEq.St', hEq.wgH, hEq.W']
      cases r' with
      | last b f => exact absurd rfl (hr2 b f)
      | _ => exact this
    · obtain ⟨⟨k', hk'⟩, e2, e3⟩ := hr1 c' home' e
      refine ⟨⟨k', ?_⟩, by rw [hEq.H']; exact e2, fun y home'' hy hl e' => e3 y home'' hy (by omega) ((hEq.seat y c' home'').2 e')⟩
      have hw' : E.W c' = false := C.chan_notW (k := 0) hk' (by intro cs e f hh; cases hh)
      rw [hA.heap c' hw']
      exact hk'
  have hμpos : 0 < μ := by
    cases pk with
    | false => simp at hμ; omega
    | true =>
      have h1 := hpk rfl
      have h2 : q₁ j ≤ sumTo gs₁.size q₁ := le_sumTo (f := q₁) (by omega)
      simp at hμ; omega
  by_cases e : i = h
  ·
    subst e
    cases pk with
    | true => rw [ha₁] at hi; obtain rfl := Option.some.inj hi; cases hg
    | false =>
      obtain rfl : g = a := by rw [ha₁] at hi; exact (Option.some.inj hi).symm
      have hsd := hsend w₁ hA
      have hev : ∀ e ∈ es, EvG E1.S E1.W w₁.heap.size e := by rw [hS, hEq.W', hA.size]; exact hes
      have hp1 := C₁.past_own (fn := g.frame.fn) (pos := g.frame.place) (Nat.le_refl _) hev
      have hd1 : Deaf (t ++ MemOp.ofEvents i g.frame.fn g.frame.place es) i = Deaf t i := by rw [hp1.hearsH, C₁.past.hearsH]
      have hoff : ∀ (x : Nat) (y : Goroutine), x ≠ j → (gs₁.setIfInBounds i ph)[x]? = some y → offersAt y c false = [] := by
        intro x y hxj hy
        rcases getElem?_stand gs₁ i x y hy with ⟨_, rfl⟩ | ⟨hx, hy'⟩
        · exact offersAt_ph _ _
        · exact C₁.noRecvAt hx hy' fun home' => hoth x home' hx hxj (Array.getElem?_eq_some_iff.1 hy').1
      rcases hSj with ⟨kk, w0, hq, hG⟩ | ⟨hq0, g₀, g₂, rfl, hat⟩
      ·
        have hjr : gj.status = .running := (Sits.status (C₀.keep j) (.inl ⟨kk, w0, hq, hG⟩)).elim (·.1) (fun z => by omega)
        have hp : partners (gs₁.setIfInBounds i ph) c false = [] := partners_nil fun x y hy => by
          by_cases hxj : x = j
          · subst hxj
            rw [stand_get hjh hgj] at hy
            obtain rfl := Option.some.inj hy
            exact offersAt_of_not_blocked (by rw [hjr]; simp) _ _
          · exact hoff x y hxj hy
        have hw : ∀ cc ∈ #[scase c v z'], NoWays w₁ (gs₁.setIfInBounds i ph) cc := by
          intro cc hcc
          simp only [List.mem_toArray, List.mem_cons, List.not_mem_nil, or_false] at hcc
          subst hcc
          exact ways_send_none hc (Nat.le_refl _) hp
        refine ⟨_, _, sumTo gs₁.size q₁ + 0, by rw [hst]; exact crowd_waits (sl := sl') hi hsd hw, by simp at hμ; omega, .inr ⟨_, w₁, sl', q₁, E1, true, rfl, by simpa using hsz, hA, hEq, Array.getElem?_setIfInBounds_self_of_lt hlth, ?_, fun _ => by omega, by simp⟩⟩
        exact C₁.hold (by simp) (fun x hx => Array.getElem?_setIfInBounds_ne (fun z => hx z.symm)) ofE_g (Nat.le_refl _) (fun _ _ => rfl) (fun _ _ => rfl) (fun _ _ x _ _ _ hx => ⟨x, hx⟩) C₁.fit hp1 (SameIo.refl _)
      ·
        have hp : partners (gs₁.setIfInBounds i ph) c false = [(j, 0)] := by
          rw [partners_one (stand_get hjh hgj) fun x y hxj hy => hoff x y hxj hy, offersAt_parked_recv, if_pos rfl]
          rfl
        refine ⟨_, _, 0, by rw [hst]; exact crowd_send_meets (sl := sl') hi hsd hc hjh hgj hp, hμpos, .inl ?_⟩
        exact fin _ _ g₂ i (by simp) (fun x hx hxj => by rw [Array.getElem?_setIfInBounds_ne (fun z => hx z.symm), Array.getElem?_setIfInBounds_ne (fun z => hxj z.symm)]) (Array.getElem?_setIfInBounds_self_of_lt (by simpa using hlth))
          (by rw [Array.getElem?_setIfInBounds_ne (fun z => hjh z.symm), Array.getElem?_setIfInBounds_self_of_lt (by omega)]; rfl) hat.2.2.2.2.1 ofE_g hd1 hp1
  · by_cases ej : i = j ∧ pk = true ∧ ∃ g₂, AtSeat P (i == 0) (E1.St i) c home g g₂
    ·
      obtain ⟨rfl, rfl, g₂, hat⟩ := ej
      obtain ⟨_, _, _, _, hhome, esj, hesj, hstp⟩ := hat
      have hM : MemZ E1 h gs₁.size i := .inr ⟨by omega, by rw [hj1]; rfl⟩
      have hL : LooseZ E1 h gs₁.size i := ⟨e, by omega, by rw [hj1]; rfl⟩
      have hdj : Deaf (t ++ MemOp.ofEvents i g.frame.fn g.frame.place esj) i = Deaf t i := by
        rw [Deaf_own]
        exact deafBehind_still (fun e he => by obtain ⟨a, rfl, _⟩ := hesj e he; exact ⟨by simp, by simp⟩) _
      have hp1 : PastZ (ShZ E1.W) (StZ E1) (MemZ E1 h gs₁.size) (LooseZ E1 h gs₁.size) w₁.heap.size h 0 (t ++ MemOp.ofEvents i g.frame.fn g.frame.place esj) := by
        refine C₁.past.appRead (stz_dis C₁) e hM hL ofE_g (fun op hop b hb => ?_) hdj (fun op hop => ?_)
        · obtain ⟨e, he, rfl⟩ := Go.Conc.mem_ofEvents hop
          obtain ⟨a, rfl, hS⟩ := hesj e he
          simp only [ofEvent_cell0, MemAct.touch?, Option.some.injEq] at hb
          subst hb
          exact ⟨rfl, a, rfl, hS⟩
        · obtain ⟨e, he, rfl⟩ := Go.Conc.mem_ofEvents hop
          obtain ⟨a, rfl, hS⟩ := hesj e he
          obtain ⟨v, hv⟩ := Option.isSome_iff_exists.1 hS
          rw [ofEvent_cell0]
          exact lt_of_cell (C₁.keep i a v hv)
      have hp : partners (gs₁.setIfInBounds i ph) c true = [(h, 0)] := by
        rw [partners_one (stand_get (Ne.symm hjh) ha₁) fun x y hxh hy => by
          rcases getElem?_stand gs₁ i x y hy with ⟨_, rfl⟩ | ⟨_, hy'⟩
          · exact offersAt_ph _ _
          · exact C₁.noSend hxh hy' _]
        simp [offersAt_parked_send]
      refine ⟨_, _, 0, by rw [hst]; exact crowd_recv_meets (sl := sl') hi (hstp _ (C₁.keep i)) hc (Ne.symm hjh) ha₁ hp, hμpos, .inl ?_⟩
      exact fin _ _ g₂ i (by simp) (fun x hx hxj => by rw [Array.getElem?_setIfInBounds_ne (fun z => hxj z.symm), Array.getElem?_setIfInBounds_ne (fun z => hx z.symm)])
        (by rw [Array.getElem?_setIfInBounds_ne hjh, Array.getElem?_setIfInBounds_self_of_lt hlth]; rfl) (by rw [Array.getElem?_setIfInBounds_self_of_lt (by simp; omega)]; rfl) hhome ofE_g hdj hp1
    ·
      obtain ⟨gs', ops, w', E', q', hr, hsz', hh', _, hqo, hAw, hLe, C', hlt, hq0, _, _, hW, hSt, hH⟩ := C₁.by_step (sl := sl') hi e hg (fun c' home' g₂ hr hat gh hgh => by
        rw [ha₁] at hgh; obtain rfl := Option.some.inj hgh
        cases pk with
        | false => exact offers_running hrun c'
        | true =>
          simp only [if_true]
          rw [offersAt_parked_send]
          by_cases ecc : c = c'
          · subst ecc
            exfalso
            by_cases eij : i = j
            · subst eij
              rw [hj1] at hr
              cases hr
              exact ej ⟨rfl, rfl, g₂, hat⟩
            · exact hoth i home' e eij (Array.getElem?_eq_some_iff.1 hi).1 hr
          · rw [if_neg ecc])
      have hEq' : E1.Eq h E' := ⟨hLe, hW, hSt, hH⟩
      have hc' : w'.heap[c]? = some (.chan 0 #[] false k k false) := by rw [hAw.heap c hcW]; exact hc
      have ha' : gs'[h]? = some (if pk then parked a₂ #[scase c v z'] .send else a) := by
        rcases hh' with z | z
        · rw [z, ha₁]
        · rw [z, ha₁, Option.map_some]
          cases pk with
          | false => rw [if_neg (by simp)]; rw [again_of_running (.inl hrun)]
          | true => rw [if_pos rfl, again_send_open hc']
      refine ⟨_, _, sumTo gs'.size q' + (if pk then 0 else 1), by rw [hst]; exact hr, by rw [hsz']; omega, .inr ⟨gs', w', sl', q', E', pk, rfl, hsz'.trans hsz, hA.trans _ _ _ (by rw [← hEq.W']; exact hAw), hEq.trans hEq', ha', C', fun hpk' => ?_, rfl⟩⟩
      by_cases eij : i = j
      · subst eij
        refine Nat.pos_of_ne_zero fun hz => ?_
        obtain ⟨g₂, hat⟩ := hq0 c home hj1 hz
        exact ej ⟨rfl, hpk', g₂, hat⟩
      · rw [hqo j (fun z => eij z.symm)]; exact hpk hpk'
end
section
variable {P : Program} {E : Env} {h dh : Nat} {T : Trace} {gs : Array Goroutine} {w : World} {q : Nat → Nat}
theorem Co.picked (C : Co P E h dh T gs w q) {a : Goroutine} {sl : Option (Nat × Nat)} (ha : gs[h]? = some a) (hrun : a.status = .running) :
    ∃ N gs₁ w₁ sl₁ w₂ sl₂ T₁ q₁ E1, runNT P N (crowd gs w sl) T = (.next (crowd gs₁ w₁ sl₁), T₁) ∧ stepT P (crowd gs₁ w₁ sl₁) = runT P (crowd gs₁ w₂ sl₂) h ∧ gs₁.size = gs.size ∧ gs₁[h]? = some a ∧ Aw E.W w w₂ ∧ E.Eq h E1 ∧ Co P E1 h dh T₁ gs₁ w₂ q₁ := by
  obtain ⟨N, m', T', hr, gs₁, w₁, sl₁, w₂, sl₂, q₁, E1, rfl, h1, h2, h3, h4, h5, h6⟩ := runs_until (P := P)
    (Inv := fun μ m t => ∃ gs₁ w₁ sl₁ q₁ E1, m = crowd gs₁ w₁ sl₁ ∧ gs₁.size = gs.size ∧ gs₁[h]? = some a ∧ Aw E.W w w₁ ∧ E.Eq h E1 ∧ Co P E1 h dh t gs₁ w₁ q₁ ∧ μ = sumTo gs₁.size q₁)
    (Done := fun m t => ∃ gs₁ w₁ sl₁ w₂ sl₂ q₁ E1, m = crowd gs₁ w₁ sl₁ ∧ stepT P (crowd gs₁ w₁ sl₁) = runT P (crowd gs₁ w₂ sl₂) h ∧ gs₁.size = gs.size ∧ gs₁[h]? = some a ∧ Aw E.W w w₂ ∧ E.Eq h E1 ∧ Co P E1 h dh t gs₁ w₂ q₁)
    (fun μ m t ⟨gs₁, w₁, sl₁, q₁, E1, hm, hsz, ha₁, hA, hE, C₁, hμ⟩ => by
      subst hm
      obtain ⟨i, gi, d, sl', hi, hg, hst⟩ := crowd_pick (P := P) (w := w₁) (sl := sl₁) (C₁.awake ha₁ (.inl hrun)) ⟨h, a, ha₁, hrun⟩
      have hA' : Aw E.W w (w₁.at d) := hA.trans _ _ _ (Aw.draw _ _ d)
      by_cases e : i = h
      · subst e
        exact .inl ⟨gs₁, w₁, sl₁, w₁.at d, sl', q₁, E1, rfl, hst, hsz, ha₁, hA', hE, C₁.drew d⟩
      · refine .inr ?_
        obtain ⟨gs', ops, w', E', q', hr, hsz', hh', _, _, hAw, hLe, C', hlt, _, _, _, hW, hSt, hH⟩ := (C₁.drew d).by_step (sl := sl') hi e hg (fun c home g₂ _ _ gh hgh => by rw [ha₁] at hgh; obtain rfl := Option.some.inj hgh; exact offers_running hrun c)
        have ha' : gs'[h]? = some a := by
          rcases hh' with z | z
          · rw [z, ha₁]
          · rw [z, ha₁, Option.map_some, again_of_running (.inl hrun)]
        exact ⟨_, _, sumTo gs'.size q', by rw [hst]; exact hr, by rw [hsz', hμ]; exact hlt, gs', w', sl', q', E', rfl, hsz'.trans hsz, ha', hA'.trans _ _ _ (by rw [← hE.W']; exact hAw), hE.trans ⟨hLe, hW, hSt, hH⟩, C', rfl⟩)
    _ _ T ⟨gs, w, sl, q, E, rfl, rfl, ha, Aw.refl _ _, .refl h E, C, rfl⟩
  exact ⟨N, gs₁, w₁, sl₁, w₂, sl₂, T', q₁, E1, hr, h1, h2, h3, h4, h5, h6⟩
theorem Co.step1 (C : Co P E h dh T gs w q) {a : Goroutine} {sl : Option (Nat × Nat)} (ha : gs[h]? = some a) (hrun : a.status = .running) {R : Env → World → Machine → Trace → Prop}
    (hstep : ∀ gs₁ w₂ sl₂ T₁ q₁ E1, gs₁.size = gs.size → gs₁[h]? = some a → Aw E.W w w₂ → E.Eq h E1 → Co P E1 h dh T₁ gs₁ w₂ q₁ → ∃ m' ops, runT P (crowd gs₁ w₂ sl₂) h = (.next m', ops) ∧ R E1 w₂ m' (T₁ ++ ops)) :
    ∃ N m' T' E1 w₂, runNT P N (crowd gs w sl) T = (.next m', T') ∧ Aw E.W w w₂ ∧ E.Eq h E1 ∧ R E1 w₂ m' T' := by
  obtain ⟨N, gs₁, w₁, sl₁, w₂, sl₂, T₁, q₁, E1, h1, h2, h3, h4, h5, h6, h7⟩ := C.picked (sl := sl) ha hrun
  obtain ⟨m', ops, h8, h9⟩ := hstep gs₁ w₂ sl₂ T₁ q₁ E1 h3 h4 h5 h6 h7
  exact ⟨N + 1, m', _, E1, w₂, runNT_cat h1 (runNT_one (h2.trans h8)), h5, h6, h9⟩
theorem Co.markStep (C : Co P E h dh T gs w q) {dh' : Nat} {a a' : Goroutine} (ha : gs[h]? = some a) (m : Mark) (hm : m = .disable ∧ dh' = dh + 1 ∨ m = .enable ∧ dh' = dh - 1) :
    Co P E h dh' (T ++ MemOp.ofEvents h a.frame.fn a.frame.place #[mkE m]) ((gs.map (Go.Conc.woken P a a' w)).setIfInBounds h a') w q ∧ ((gs.map (Go.Conc.woken P a a' w)).setIfInBounds h a')[h]? = some a' := by
  refine ⟨C.hold (by simp) (C.woken fun _ _ => rfl) ofE_g (Nat.le_refl _) (fun _ _ => rfl) (fun _ _ => rfl) (fun _ _ x _ _ _ hx => ⟨x, hx⟩) C.fit ?_ (SameIo.refl _), Array.getElem?_setIfInBounds_self_of_lt (by simpa using C.lt)⟩
  refine C.past.appH ofE_g (fun op hop b hb => ?_) ?_ (fun op hop => ?_)
  · obtain ⟨e, he, rfl⟩ := Go.Conc.mem_ofEvents hop
    simp only [List.mem_toArray, List.mem_cons, List.not_mem_nil, or_false] at he
    subst he
    rcases hm with ⟨rfl, _⟩ | ⟨rfl, _⟩ <;> simp [mkE, MemAct.ofEvent, MemAct.touch?] at hb
  · rw [Deaf_own, C.past.hearsH]
    rcases hm with ⟨rfl, rfl⟩ | ⟨rfl, rfl⟩ <;> rfl
  · obtain ⟨e, he, rfl⟩ := Go.Conc.mem_ofEvents hop
    simp only [List.mem_toArray, List.mem_cons, List.not_mem_nil, or_false] at he
    subst he
    rcases hm with ⟨rfl, _⟩ | ⟨rfl, _⟩ <;> trivial
theorem evG_atom {S : Addr → Prop} {W : Nat → Bool} {B b : Nat} (hS : ∀ a, S a → W a.block = false) (hW : W b = true) (hb : b < B) {e : Event} (he : e = rdE (stZ b) ∨ e = wrE (stZ b) ∨ e = rdE (smZ b) ∨ e = wrE (smZ b)) : EvG S W B e := by
  have key : ∀ (ad : Addr) (wr : Bool), ad.block = b → EvG S W B ⟨.cell ad, wr, true⟩ := fun ad wr hab => by
    refine ⟨fun t ht => ?_, by simp, by simp, by cases wr <;> (show ad.block < B; rw [hab]; exact hb)⟩
    have ht' : t = ⟨.cell ad, wr, .atomic⟩ := by cases wr <;> (simp [MemAct.ofEvent, MemAct.touch?] at ht; exact ht.symm)
    subst ht'
    refine ⟨fun a e hs => ?_, fun _ => by simp⟩
    cases e
    rw [← hab, hS _ hs] at hW
    cases hW
  rcases he with rfl | rfl | rfl | rfl <;> exact key _ _ rfl
theorem Co.S_dis (C : Co P E h dh T gs w q) : ∀ a, E.S a → E.W a.block = false := fun a ⟨i, hi⟩ => C.dis i a hi
theorem Co.addStep (C : Co P E h dh T gs w q) {a a' : Goroutine} {b v : Nat} (ha : gs[h]? = some a) (hW : E.W b = true) (hm : E.mode b = 0) (hv : cnt E gs.size b + E.ex b = v) (hv2 : v < 1000) {es : Array Event} (hes : ∀ e ∈ es, e = rdE (stZ b) ∨ e = wrE (stZ b)) :
    Co P { E with ex := upd E.ex b (E.ex b + 1) } h dh (T ++ MemOp.ofEvents h a.frame.fn a.frame.place es) ((gs.map (Go.Conc.woken P a a' (w.setCell (stZ b) (.int .u64 (((v : Int) + 1) * KK))))).setIfInBounds h a') (w.setCell (stZ b) (.int .u64 (((v : Int) + 1) * KK))) q ∧
      ((gs.map (Go.Conc.woken P a a' (w.setCell (stZ b) (.int .u64 (((v : Int) + 1) * KK))))).setIfInBounds h a')[h]? = some a' := by
  have hgrp := C.groups b hW
  have hA := aw_set hgrp hW (.int .u64 (((v : Int) + 1) * KK)) (.inl ⟨rfl, _, rfl⟩)
  have hpast : PastZ (ShZ E.W) (StZ E) (MemZ E h gs.size) (LooseZ E h gs.size) w.heap.size h dh (T ++ MemOp.ofEvents h a.frame.fn a.frame.place es) :=
    C.past_own (Nat.le_refl _) fun e he => evG_atom C.S_dis hW hgrp.lt ((hes e he).elim .inl fun x => .inr (.inl x))
  have hoth : ∀ x, x ≠ h → ((gs.map (Go.Conc.woken P a a' (w.setCell (stZ b) (.int .u64 (((v : Int) + 1) * KK))))).setIfInBounds h a')[x]? = gs[x]? := fun x hx => by
    rw [Array.getElem?_setIfInBounds_ne (fun e => hx e.symm), Array.getElem?_map]
    cases e : gs[x]? with
    | none => rfl
    | some y => rw [Option.map_some, woken_of_again (C.fixed hx e hA.heap)]
  have hsz : ((gs.map (Go.Conc.woken P a a' (w.setCell (stZ b) (.int .u64 (((v : Int) + 1) * KK))))).setIfInBounds h a').size = gs.size := by simp
  refine ⟨⟨by rw [hsz]; exact C.lt, fun x y hx hy => ?_, fun x c home hx hl e => ?_, fun x x' c home home' hx hx' hl hl' => C.inj x x' c home home' hx hx' (hsz ▸ hl) (hsz ▸ hl'), fun j hj => ?_, fun x => (C.keep x).aw (C.dis x) hA, C.dis, C.fit.aw hA, C.hidS, C.hidC, by rw [hsz, hA.size]; exact hpast, fun x b hl => C.wgW x b (hsz ▸ hl), by rw [hsz]; exact C.fresh, fun c hc => ?_, fun c hc => ?_, fun c hc => ?_, by rw [hsz]; exact C.lastEx, fun c hc => ?_, fun x x' b f f' hx hx' hl hl' => C.one x x' b f f' hx hx' (hsz ▸ hl) (hsz ▸ hl'), ⟨C.io.1, C.io.2⟩⟩, Array.getElem?_setIfInBounds_self_of_lt (by simpa using C.lt)⟩
  · rw [hoth x hx] at hy
    exact idle_other hx ofE_g rfl rfl rfl (fun _ hb => hb) (fun _ _ _ => rfl) (C.idle x y hx hy)
  · obtain ⟨k, hk⟩ := C.chans x c home hx (hsz ▸ hl) e
    exact ⟨k, by rw [hA.heap c (C.chan_notW (k := 0) hk (by intro cs e f hh; cases hh))]; exact hk⟩
  · rw [hsz] at hj
    have : h ≠ j := by have := C.lt; omega
    rw [Deaf_other T this _ ofE_g]
    exact C.above j hj
  · rw [hsz]
    by_cases ec : c = b
    · subst ec
      obtain ⟨x, e, hx⟩ := hgrp
      refine ⟨x, e, ?_⟩
      have e1 : stv { E with ex := upd E.ex c (E.ex c + 1) } gs.size c = ((v : Int) + 1) * KK := by
        unfold stv
        simp only [upd_same, hm]
        have : cnt { E with ex := upd E.ex c (E.ex c + 1) } gs.size c + (E.ex c + 1) = v + 1 := by
          have : cnt { E with ex := upd E.ex c (E.ex c + 1) } gs.size c = cnt E gs.size c := rfl
          omega
        rw [this]
        simp
      have e2 : smv { E with ex := upd E.ex c (E.ex c + 1) } c = smv E c := rfl
      rw [e1, e2]
      exact heap_setCell_run hx _
    · have e1 : stv { E with ex := upd E.ex b (E.ex b + 1) } gs.size c = stv E gs.size c := by
        unfold stv
        simp only [upd_ne _ _ ec]
        rfl
      rw [e1]
      exact (C.groups c hc).same (heap_setCell_ne (by exact fun z => ec z.symm))
  · rw [hsz]
    show cnt E gs.size c + upd E.ex b (E.ex b + 1) c ≤ 1000
    by_cases ec : c = b
    · subst ec; rw [upd_same]; omega
    · rw [upd_ne _ _ ec]; exact C.few c hc
  · rw [hsz]
    show E.mode c ≤ 4 ∧ (E.mode c = 1 → 1 ≤ cnt E gs.size c + upd E.ex b (E.ex b + 1) c) ∧ (2 ≤ E.mode c → cnt E gs.size c + upd E.ex b (E.ex b + 1) c = 0)
    by_cases ec : c = b
    · subst ec; rw [hm]; exact ⟨by omega, fun e => by omega, fun e => by omega⟩
    · rw [upd_ne _ _ ec]; exact C.modes c hc
  · have ec : c ≠ b := fun e => by
      rw [e] at hc
      have hc' : E.W b = false := hc
      rw [hW] at hc'; cases hc'
    show upd E.ex b (E.ex b + 1) c = 0 ∧ E.mode c = 0
    rw [upd_ne _ _ ec]
    exact C.zero c hc
end
theorem fit_grow {H H' : Nat → Option Nat} {W : Nat → Bool} {w : World} (hf : Fit H W w) (h1 : ∀ b n, H b = some n → H' b = some n)
    (h2 : ∀ b n, H' b = some n → H b = some n ∨ ((∃ c e f, w.heap[b]? = some (.cells c e f)) ∨ ∃ c bf l s r m, w.heap[b]? = some (.chan c bf l s r m))) : Fit H' W w := by
  refine ⟨fun b o ho => ?_, fun b hb => ?_, fun b n o hD ho => ?_, hf.ok, fun b hb => h1 b 1 (hf.sub b hb)⟩
  · cases hD : H' b with
    | none =>
      have hn : H b = none := by
        cases e : H b with
        | none => rfl
        | some n => rw [h1 b n e] at hD; cases hD
      rw [vw_get_none hD] at ho
      exact hf.fair b o (by rw [vw_get_none hn]; exact ho)
    | some n =>
      rw [vw_get_some hD] at ho
      rcases h2 b n hD with e | ⟨c, e, f, e1⟩ | ⟨c, bf, l, s, r, m, e1⟩
      · exact hf.fair b o (by rw [vw_get_some e]; exact ho)
      · rw [e1] at ho; cases ho; rfl
      · rw [e1] at ho; cases ho; rfl
  · cases hD : H' b with
    | none => rfl
    | some n =>
      rcases h2 b n hD with e | ⟨c, e, f, e1⟩ | ⟨c, bf, l, s, r, m, e1⟩
      · rw [hf.bound b hb] at e; cases e
      · have := (Array.getElem?_eq_some_iff.1 e1).1; omega
      · have := (Array.getElem?_eq_some_iff.1 e1).1; omega
  · rcases h2 b n hD with e | ⟨c, e, f, e1⟩ | ⟨c, bf, l, s, r, m, e1⟩
    · exact hf.hides b n o e ho
    · rw [e1] at ho; cases ho; exact .inl ⟨_, _, _, rfl⟩
    · rw [e1] at ho; cases ho; exact .inr (.inr (.inl ⟨_, _, _, _, _, _, rfl⟩))
theorem stz_known {Sh : Loc → Prop} {St : Nat → Loc → Prop} {Mem Loose : Nat → Prop} {B h dh : Nat} {t : Trace} (H : PastZ Sh St Mem Loose B h dh t) {i : Nat} {a : Touch} (ha : touchAt t i = some a) (hw : a.write = true) (hm : a.loc.isMemory = true) (hs : ¬ Sh a.loc) : Knows t h i := by
  rcases H.known i a ha hm with z | ⟨z, _⟩ | ⟨z, _⟩
  · exact z
  · rw [hw] at z; cases z
  · exact absurd z hs
section
variable {P : Program} {E : Env} {h dh : Nat} {T : Trace} {gs : Array Goroutine} {w : World} {q : Nat → Nat}
theorem Co.S_lt (C : Co P E h dh T gs w q) {i : Nat} {a : Addr} (hs : (E.St i a).isSome = true) : a.block < w.heap.size := by
  obtain ⟨v, hv⟩ := Option.isSome_iff_exists.1 hs
  exact lt_of_cell (C.keep i a v hv)
theorem Co.newRun (C : Co P E h dh T gs w q) {a a' : Goroutine} {ty : TypeId} {w' : World} (ha : gs[h]? = some a) (hw' : w'.heap = w.heap.push (runObj (.int .i64 0) 0 0 ty)) (hio : SameIo w w' := by exact ⟨rfl, rfl⟩) :
    Co P { E with W := upd E.W w.heap.size true, H := upd E.H w.heap.size (some 1) } h dh (T ++ MemOp.ofEvents h a.frame.fn a.frame.place #[]) ((gs.map (Go.Conc.woken P a a' w')).setIfInBounds h a') w' q ∧ ((gs.map (Go.Conc.woken P a a' w')).setIfInBounds h a')[h]? = some a' := by
  have hget : ∀ b, b < w.heap.size → w'.heap[b]? = w.heap[b]? := fun b hb => by rw [hw', Array.getElem?_push, if_neg (by omega)]
  have hnew : w'.heap[w.heap.size]? = some (runObj (.int .i64 0) 0 0 ty) := by rw [hw', Array.getElem?_push, if_pos rfl]
  have hWn : E.W w.heap.size = false := by
    cases e : E.W w.heap.size with
    | false => rfl
    | true => exact absurd (C.groups _ e).lt (Nat.lt_irrefl _)
  have hlt : ∀ b o, w.heap[b]? = some o → b < w.heap.size := fun b o e => (Array.getElem?_eq_some_iff.1 e).1
  have hWlt : ∀ b, E.W b = true → b < w.heap.size := fun b hb => (C.groups b hb).lt
  have hoth : ∀ x, x ≠ h → ((gs.map (Go.Conc.woken P a a' w')).setIfInBounds h a')[x]? = gs[x]? := C.woken fun c ⟨i, home, e⟩ => by
    refine hget c (Nat.lt_of_not_le fun hle => ?_)
    have := C.fit.bound c hle
    rw [C.hidC i c home e] at this; cases this
  have hsz : ((gs.map (Go.Conc.woken P a a' w')).setIfInBounds h a').size = gs.size := by simp
  have hcnt : cnt E gs.size w.heap.size = 0 := by
    unfold cnt
    have : ∀ n, n ≤ gs.size → sumTo n (fun i => if E.wg i = some w.heap.size then 1 else 0) = 0 := by
      intro n hn
      induction n with
      | zero => rfl
      | succ n ih =>
        simp only [sumTo, ih (by omega)]
        rw [if_neg (fun e => by have := C.wgW n _ (by omega) e; rw [hWn] at this; cases this)]
    exact this _ (Nat.le_refl _)
  obtain ⟨hex0, hmo0⟩ := C.zero _ hWn
  have hWup : ∀ b, (upd E.W w.heap.size true) b = true → b = w.heap.size ∨ E.W b = true := fun b hb => by
    by_cases e : b = w.heap.size
    · exact .inl e
    · rw [upd_ne _ _ e] at hb; exact .inr hb
  refine ⟨⟨by rw [hsz]; exact C.lt, fun x y hx hy => ?_, fun x c home hx hl e => ?_, fun x x' c home home' hx hx' hl hl' => C.inj x x' c home home' hx hx' (hsz ▸ hl) (hsz ▸ hl'), fun j hj => ?_, fun x ad v e => ?_, fun x ad hs => ?_, ?_, fun x ad hs => ?_, fun x c home e => ?_, ?_, fun x b hl e => ?_, by rw [hsz]; exact C.fresh, fun b hb => ?_, fun b hb => ?_, fun b hb => ?_, fun b hb hx => ?_, fun b hb => ?_, fun x x' b f f' hx hx' hl hl' => C.one x x' b f f' hx hx' (hsz ▸ hl) (hsz ▸ hl'), C.io.trans hio⟩, Array.getElem?_setIfInBounds_self_of_lt (by simpa using C.lt)⟩
  · rw [hoth x hx] at hy
    exact idle_other (E := E) hx ofE_g rfl rfl rfl (fun b hb => by
      show upd E.W w.heap.size true b = true
      by_cases e : b = w.heap.size
      · subst e; rw [upd_same]
      · rw [upd_ne _ _ e]; exact hb) (fun _ _ _ => rfl) (C.idle x y hx hy)
  · obtain ⟨k, hk⟩ := C.chans x c home hx (hsz ▸ hl) e
    exact ⟨k, by rw [hget c (hlt _ _ hk)]; exact hk⟩
  · rw [hsz] at hj
    have : h ≠ j := by have := C.lt; omega
    rw [Deaf_other T this _ ofE_g]
    exact C.above j hj
  · have := C.keep x ad v e
    rw [cell_same (hget _ (lt_of_cell this))]; exact this
  · show upd E.W w.heap.size true ad.block = false
    have := C.S_lt hs
    rw [upd_ne _ _ (by omega)]
    exact C.dis x ad hs
  · refine ⟨fun b o ho => ?_, fun b hb => ?_, fun b n o hD ho => ?_, fun b hb => ?_, fun b hb => ?_⟩
    · by_cases e : b = w.heap.size
      · subst e
        rw [vw_get_some (n := 1) (upd_same ..), hnew] at ho
        cases ho; rfl
      · have hb : b < w.heap.size := by
          have := (Array.getElem?_eq_some_iff.1 ho).1
          rw [vw_size, hw', Array.size_push] at this
          omega
        refine C.fit.fair b o ?_
        rw [vw_get] at ho ⊢
        rw [hget b hb] at ho
        unfold hideAt at ho ⊢
        simp only [upd_ne _ _ e] at ho
        exact ho
    · rw [hw', Array.size_push] at hb
      show upd E.H w.heap.size (some 1) b = none
      rw [upd_ne _ _ (by omega)]
      exact C.fit.bound b (by omega)
    · by_cases e : b = w.heap.size
      · subst e; rw [hnew] at ho; cases ho; exact .inl ⟨_, _, _, rfl⟩
      · simp only [upd_ne _ _ e] at hD
        have hb : b < w.heap.size := Nat.lt_of_not_le fun hle => by rw [C.fit.bound b hle] at hD; cases hD
        rw [hget b hb] at ho
        exact C.fit.hides b n o hD ho
    · rcases hWup b hb with rfl | hb'
      · exact ⟨_, _, _, _, hnew⟩
      · obtain ⟨x, st, sm, e, hx⟩ := C.fit.ok b hb'
        exact ⟨x, st, sm, e, by rw [hget b (hWlt b hb')]; exact hx⟩
    · rcases hWup b hb with rfl | hb'
      · exact upd_same ..
      · show upd E.H w.heap.size (some 1) b = some 1
        rw [upd_ne _ _ (by have := hWlt b hb'; omega)]
        exact C.fit.sub b hb'
  · obtain ⟨n, h1, h2⟩ := C.hidS x ad hs
    have := C.S_lt hs
    exact ⟨n, by show upd E.H w.heap.size (some 1) ad.block = some n; rw [upd_ne _ _ (by omega)]; exact h1, h2⟩
  · have h1 := C.hidC x c home e
    have hc : c < w.heap.size := Nat.lt_of_not_le fun hle => by rw [C.fit.bound c hle] at h1; cases h1
    show upd E.H w.heap.size (some 1) c = some 0
    rw [upd_ne _ _ (by omega)]
    exact h1
  · rw [hsz]
    have h1 : PastZ (ShZ (upd E.W w.heap.size true)) (StZ E) (MemZ E h gs.size) (LooseZ E h gs.size) w.heap.size h dh T := C.past.shunMore (fun l ⟨ad, e, hw, ho⟩ => ⟨ad, e, by
        rw [upd_ne _ _ (by have := hWlt _ hw; omega)]; exact hw, ho⟩) (fun l ⟨ad, e, hw, ho⟩ hn => ⟨ad, e, by
        rcases hWup _ hw with z | z
        · omega
        · exact absurd ⟨ad, e, z, ho⟩ hn⟩)
    have h2 := h1.appH (u := MemOp.ofEvents h a.frame.fn a.frame.place #[]) (dh' := dh) ofE_g (fun op hop b hb => by obtain ⟨e, he, rfl⟩ := Go.Conc.mem_ofEvents hop; simp at he) (by rw [Deaf_own, C.past.hearsH]; rfl) (fun op hop => by obtain ⟨e, he, rfl⟩ := Go.Conc.mem_ofEvents hop; simp at he)
    exact h2.mono (by rw [hw', Array.size_push]; omega)
  · have hb := C.wgW x b (hsz ▸ hl) e
    show upd E.W w.heap.size true b = true
    rw [upd_ne _ _ (by have := hWlt b hb; omega)]
    exact hb
  · rw [hsz]
    rcases hWup b hb with rfl | hb'
    · refine ⟨.int .i64 0, ty, ?_⟩
      have e1 : stv { E with W := upd E.W w.heap.size true, H := upd E.H w.heap.size (some 1) } gs.size w.heap.size = 0 := by
        unfold stv
        have : cnt { E with W := upd E.W w.heap.size true, H := upd E.H w.heap.size (some 1) } gs.size w.heap.size = 0 := hcnt
        simp only [this, hex0, hmo0]
        simp
      have e2 : smv { E with W := upd E.W w.heap.size true, H := upd E.H w.heap.size (some 1) } w.heap.size = 0 := by
        unfold smv
        simp only [hmo0]
        rfl
      rw [e1, e2]
      exact hnew
    · exact (C.groups b hb').same (hget b (hWlt b hb'))
  · rw [hsz]
    rcases hWup b hb with rfl | hb'
    · show cnt E gs.size _ + E.ex _ ≤ 1000
      omega
    · exact C.few b hb'
  · rw [hsz]
    rcases hWup b hb with rfl | hb'
    · show E.mode _ ≤ 4 ∧ (E.mode _ = 1 → 1 ≤ cnt E gs.size _ + E.ex _) ∧ (2 ≤ E.mode _ → cnt E gs.size _ + E.ex _ = 0)
      rw [hmo0]
      exact ⟨by omega, fun e => by omega, fun e => by omega⟩
    · exact C.modes b hb'
  · rw [hsz]
    rcases hWup b hb with rfl | hb'
    · have hx' : E.mode w.heap.size = 2 ∨ E.mode w.heap.size = 3 := hx
      rw [hmo0] at hx'; omega
    · exact C.lastEx b hb' hx
  · have e : b ≠ w.heap.size := fun e => by
      rw [e] at hb
      have hb' : upd E.W w.heap.size true w.heap.size = false := hb
      rw [upd_same] at hb'; cases hb'
    have hb' : upd E.W w.heap.size true b = false := hb
    rw [upd_ne _ _ e] at hb'
    exact C.zero b hb'
theorem Co.grow (C : Co P E h dh T gs w q) {H' : Nat → Option Nat} {S' : Addr → Option Value} (hH : ∀ b n, E.H b = some n → H' b = some n) (hfit : Fit H' E.W w) (hS : ∀ a v, E.St h a = some v → S' a = some v)
    (hS2 : ∀ a v, S' a = some v → w.cell? a = some v ∧ E.W a.block = false ∧ ∃ n, H' a.block = some n ∧ n ≤ a.off) : Co P { E with H := H', St := upd E.St h S' } h dh T gs w q := by
  have hne : ∀ x, x ≠ h → (upd E.St h S') x = E.St x := fun x hx => upd_ne _ _ hx
  have hall : ∀ x a, ((upd E.St h S') x a).isSome = true → (x = h ∧ ∃ v, S' a = some v) ∨ (E.St x a).isSome = true := fun x a hs => by
    by_cases e : x = h
    · subst e; rw [upd_same] at hs; exact .inl ⟨rfl, Option.isSome_iff_exists.1 hs⟩
    · rw [hne x e] at hs; exact .inr hs
  refine ⟨C.lt, fun x y hx hy => ?_, C.chans, C.inj, C.above, fun x a v e => ?_, fun x a hs => ?_, hfit, fun x a hs => ?_, fun x c home e => hH c 0 (C.hidC x c home e), ?_, C.wgW, fun x hx => ?_, C.groups, C.few, C.modes, C.lastEx, C.zero, C.one, ⟨C.io.1, C.io.2⟩⟩
  · have := C.idle x y hx hy
    unfold Idle at this ⊢
    simp only [hne x hx]
    exact this
  · by_cases ex : x = h
    · subst ex
      have e' : S' a = some v := by have : upd E.St x S' x a = some v := e; rwa [upd_same] at this
      exact (hS2 a v e').1
    · have e' : E.St x a = some v := by have : upd E.St h S' x a = some v := e; rwa [hne x ex] at this
      exact C.keep x a v e'
  · rcases hall x a hs with ⟨_, v, hv⟩ | hs'
    · exact (hS2 a v hv).2.1
    · exact C.dis x a hs'
  · rcases hall x a hs with ⟨_, v, hv⟩ | hs'
    · exact (hS2 a v hv).2.2
    · obtain ⟨n, h1, h2⟩ := C.hidS x a hs'
      exact ⟨n, hH _ _ h1, h2⟩
  · refine C.past.still (fun g l ⟨a, e, hs⟩ => ⟨a, e, ?_⟩) (fun i a ha hw g hg hst hn => ?_)
    · show (upd E.St h S' g a).isSome = true
      by_cases ex : g = h
      · subst ex
        obtain ⟨v, hv⟩ := Option.isSome_iff_exists.1 hs
        rw [upd_same, hS a v hv]; rfl
      · rw [hne g ex]; exact hs
    · obtain ⟨ad, e, hs⟩ := hst
      rcases hall g ad hs with ⟨rfl, v, hv⟩ | hs'
      · exact stz_known C.past ha hw (by rw [e]; rfl) (fun ⟨ad', e', hw', _⟩ => by
          rw [e] at e'; cases e'
          rw [(hS2 ad v hv).2.1] at hw'; cases hw')
      · exact absurd ⟨ad, e, hs'⟩ hn
  · obtain ⟨f1, f2, f3⟩ := C.fresh x hx
    have hxh : x ≠ h := by have := C.lt; omega
    exact ⟨f1, f2, fun a => by show upd E.St h S' x a = none; rw [hne x hxh]; exact f3 a⟩
end
def Env.hireE (E : Env) (h : Nat) (r' : Role) (n b : Nat) (S : Addr → Option Value) : Env :=
  { E with role := upd E.role h r', wg := upd E.wg n (some b), ex := upd E.ex b (E.ex b - 1), St := upd E.St n S }
theorem cnt_hire {E : Env} {h n b c : Nat} {r' : Role} {S : Addr → Option Value} : cnt (E.hireE h r' n b S) (n + 1) c = cnt E n c + (if c = b then 1 else 0) := by
  unfold cnt
  simp only [sumTo]
  have e : sumTo n (fun i => if (E.hireE h r' n b S).wg i = some c then 1 else 0) = sumTo n (fun i => if E.wg i = some c then 1 else 0) := sumTo_congr fun i hi => by
    have : (E.hireE h r' n b S).wg i = E.wg i := upd_ne _ _ (by omega)
    rw [this]
  rw [e]
  have e2 : (E.hireE h r' n b S).wg n = some b := upd_same ..
  rw [e2]
  by_cases ec : c = b
  · subst ec; simp
  · rw [if_neg ec, if_neg (fun e => ec (by simpa using e.symm))]
section
variable {P : Program} {E : Env} {h dh : Nat} {T : Trace} {gs : Array Goroutine} {w : World} {q : Nat → Nat}
theorem Co.hire (C : Co P E h 0 T gs w q) {a a' child : Goroutine} {es : Array Event} {sl : Option (Nat × Nat)} (ha : gs[h]? = some a) (hrun : a.status = .running) (hgo : ∀ w', Aw E.W w w' → stepG P (h == 0) a w' = .spawn a' child w' es)
    (hes : ∀ e ∈ es, EvG E.S E.W w.heap.size e) {r' : Role} {n' b : Nat} {S : Addr → Option Value} (hWb : E.W b = true) (hex : 1 ≤ E.ex b) (hmode : E.mode b = 0)
    (hafter : ∀ T', Deaf T' h = 0 → Idle P (E.hireE h r' gs.size b S) T' h n' a')
    (hr1 : ∀ c' home', r' = .seat c' home' → (∃ k, w.heap[c']? = some (.chan 0 #[] false k k false)) ∧ E.H c' = some 0 ∧ ∀ x home'', x ≠ h → x < gs.size → E.role x = .seat c' home'' → False) (hr2 : ∀ b f, r' ≠ .last b f)
    (hS : ∀ a v, S a = some v → w.cell? a = some v ∧ E.W a.block = false ∧ ∃ n, E.H a.block = some n ∧ n ≤ a.off) :
    ∃ N gs' w' sl' T' q' E1, runNT P N (crowd gs w sl) T = (.next (crowd gs' w' sl'), T') ∧ gs'.size = gs.size + 1 ∧ gs'[gs.size]? = some child ∧ Aw E.W w w' ∧ E.Eq h E1 ∧ Co P (E1.hireE h r' gs.size b S) gs.size 0 T' gs' w' q' := by
  obtain ⟨N, gs₁, w₁, sl₁, w₂, sl₂, T₁, q₁, E1, h1, h2, hsz, ha₁, hA, hEq, C₁⟩ := C.picked (sl := sl) ha hrun
  have hst := runT_crowd_spawn (P := P) (sl := sl₂) ha₁ (hgo w₂ hA)
  have hpush : ((MemOp.ofEvents h a.frame.fn a.frame.place es).push { g := h, fn := a.frame.fn, pos := a.frame.place, act := .go gs₁.size } |>.push { g := gs₁.size, fn := child.frame.fn, pos := a.frame.place, act := .start }) =
      MemOp.ofEvents h a.frame.fn a.frame.place es ++ #[{ g := h, fn := a.frame.fn, pos := a.frame.place, act := .go gs₁.size }, { g := gs₁.size, fn := child.frame.fn, pos := a.frame.place, act := .start }] := by
    apply Array.ext'; simp
  rw [hpush] at hst
  refine ⟨N + 1, (gs₁.setIfInBounds h a').push child, w₂, sl₂, _, upd q₁ h n', E1, runNT_cat h1 (runNT_one (h2.trans hst)), by simp [hsz], by rw [← hsz, Array.getElem?_push, if_pos (by simp)], hA, hEq, ?_⟩
  rw [← hsz] at hafter ⊢
  generalize hn : gs₁.size = n at *
  have hlt : h < n := by have := C₁.lt; omega
  have hhn : h ≠ n := by omega
  obtain ⟨fr1, fr2, fr3⟩ := C₁.fresh n (by omega)
  have hrole : ∀ x, x ≠ h → (E1.hireE h r' n b S).role x = E1.role x := fun x hx => upd_ne _ _ hx
  have hroleh : (E1.hireE h r' n b S).role h = r' := upd_same ..
  have hSt : ∀ x, x ≠ n → (E1.hireE h r' n b S).St x = E1.St x := fun x hx => upd_ne _ _ hx
  have hwg : ∀ x, x ≠ n → (E1.hireE h r' n b S).wg x = E1.wg x := fun x hx => upd_ne _ _ hx
  have hgs : ∀ x, x ≠ h → x < n → ((gs₁.setIfInBounds h a').push child)[x]? = gs₁[x]? := fun x hx hl => by
    rw [Array.getElem?_push, if_neg (by simp; omega), Array.getElem?_setIfInBounds_ne (fun e => hx e.symm)]
  have hszn : ((gs₁.setIfInBounds h a').push child).size = n + 1 := by simp [hn]
  have hex1 : 1 ≤ E1.ex b := by rw [hEq.ex]; exact hex
  have hWb1 : E1.W b = true := by rw [hEq.W']; exact hWb
  have hev : ∀ e ∈ es, EvG E1.S E1.W w₂.heap.size e := by rw [hEq.S, hEq.W', hA.size]; exact hes
  have hp1 := C₁.past_own (fn := a.frame.fn) (pos := a.frame.place) (Nat.le_refl _) hev
  have hS1 : ∀ a v, S a = some v → w₂.cell? a = some v ∧ E1.W a.block = false ∧ ∃ n, E1.H a.block = some n ∧ n ≤ a.off := fun ad v e => by
    obtain ⟨s1, s2, s3⟩ := hS ad v e
    rw [hEq.W', hEq.H']
    exact ⟨by rw [cell_same (hA.heap _ s2)]; exact s1, s2, s3⟩
  have hD1 : ∀ x, Deaf (T₁ ++ MemOp.ofEvents h a.frame.fn a.frame.place es) x = Deaf T₁ x := fun x => by
    by_cases e : x = h
    · subst e; rw [hp1.hearsH, C₁.past.hearsH]
    · exact Deaf_other T₁ (fun z => e z.symm) _ ofE_g
  have p2 := hp1.hire (c := n) (fun e => hhn e.symm) (by rw [hD1]; exact C₁.above n (by omega)) (fun hm => hm.elim (fun e => hhn e.symm) (fun e => by rw [fr1] at e; exact absurd e.2 (by simp [Role.sits])))
    (fun l ⟨ad, _, hs⟩ => by rw [fr3 ad] at hs; cases hs) a.frame.fn a.frame.place child.frame.fn
  rw [Array.append_assoc] at p2
  have hD2 : ∀ x, Deaf (T₁ ++ (MemOp.ofEvents h a.frame.fn a.frame.place es ++ #[{ g := h, fn := a.frame.fn, pos := a.frame.place, act := .go n }, { g := n, fn := child.frame.fn, pos := a.frame.place, act := .start }])) x = Deaf T₁ x := fun x => by
    rw [← Array.append_assoc, Deaf_quiet (fun op hop d => by
      simp only [List.mem_toArray, List.mem_cons, List.not_mem_nil, or_false] at hop
      rcases hop with rfl | rfl <;> rfl), hD1]
  have hall : ∀ x ad, ((E1.hireE h r' n b S).St x ad).isSome = true → (x = n ∧ ∃ v, S ad = some v) ∨ (x ≠ n ∧ (E1.St x ad).isSome = true) := fun x ad hs => by
    by_cases e : x = n
    · subst e
      have hs' : (upd E1.St x S x ad).isSome = true := hs
      rw [upd_same] at hs'
      exact .inl ⟨rfl, Option.isSome_iff_exists.1 hs'⟩
    · rw [hSt x e] at hs; exact .inr ⟨e, hs⟩
  have htot : ∀ c, E1.W c = true → cnt (E1.hireE h r' n b S) (n + 1) c + (E1.hireE h r' n b S).ex c = cnt E1 n c + E1.ex c := fun c hc => by
    rw [cnt_hire]
    show _ + upd E1.ex b (E1.ex b - 1) c = _
    by_cases ec : c = b
    · subst ec; rw [upd_same, if_pos rfl]; omega
    · rw [upd_ne _ _ ec, if_neg ec]; omega
  have hc2 : n ≠ h := fun e => hhn e.symm
  refine ⟨by rw [hszn]; omega, fun x y hx hy => ?_, fun x c home hx hl e => ?_, fun x x' c home home' hx hx' hl hl' e e' => ?_, fun x hx => ?_, fun x ad v e => ?_, fun x ad hs => ?_, C₁.fit, fun x ad hs => ?_, fun x c home e => ?_, ?_, fun x c hl e => ?_, fun x hx => ?_, fun c hc => ?_, fun c hc => ?_, fun c hc => ?_, fun c hc hx => ?_, fun c hc => ?_, fun x x' c f f' hx hx' hl hl' e e' => ?_, ⟨C₁.io.1, C₁.io.2⟩⟩
  · have hxl : x < n := by
      have := (Array.getElem?_eq_some_iff.1 hy).1
      rw [hszn] at this; omega
    by_cases e : x = h
    · subst e
      rw [Array.getElem?_push, if_neg (by simp; omega), Array.getElem?_setIfInBounds_self_of_lt (by omega)] at hy
      obtain rfl := Option.some.inj hy
      rw [upd_same]
      have := hafter (T₁ ++ (MemOp.ofEvents x a.frame.fn a.frame.place es ++ #[{ g := x, fn := a.frame.fn, pos := a.frame.place, act := .go n }, { g := n, fn := child.frame.fn, pos := a.frame.place, act := .start }])) (by rw [hD2]; exact C₁.past.hearsH)
      unfold Idle at this ⊢
      rw [hroleh]
      rw [show (E.hireE x r' n b S).role x = r' from upd_same ..] at this
      rw [hwg x hhn, hSt x hhn, hEq.St', hEq.wgH]
      rw [show (E.hireE x r' n b S).wg x = E.wg x from upd_ne _ _ hhn, show (E.hireE x r' n b S).St x = E.St x from upd_ne _ _ hhn] at this
      cases r' with
      | last b f => exact absurd rfl (hr2 b f)
      | _ => exact this
    · rw [hgs x e hxl] at hy
      rw [upd_ne q₁ n' e]
      have hid := C₁.idle x y e hy
      unfold Idle at hid ⊢
      rw [hrole x e, hD2, hSt x (by omega), hwg x (by omega)]
      exact hid
  · rw [hszn] at hl
    by_cases ex : x = h
    · subst ex
      rw [hroleh] at e
      obtain ⟨⟨k, hk⟩, _, _⟩ := hr1 c home e
      have hw' : E.W c = false := C.chan_notW (k := 0) hk (by intro cs e f hh; cases hh)
      exact ⟨k, by rw [hA.heap c hw']; exact hk⟩
    · rw [hrole x ex] at e
      exact C₁.chans x c home ex (by omega) e
  · rw [hszn] at hl hl'
    by_cases ex : x = h
    · by_cases ex' : x' = h
      · rw [ex, ex']
      · subst ex
        rw [hroleh] at e; rw [hrole x' ex'] at e'
        exact ((hr1 c home e).2.2 x' home' ex' (by omega) ((hEq.seat x' c home').2 e')).elim
    · by_cases ex' : x' = h
      · subst ex'
        rw [hroleh] at e'; rw [hrole x ex] at e
        exact ((hr1 c home' e').2.2 x home ex (by omega) ((hEq.seat x c home).2 e)).elim
      · rw [hrole x ex] at e; rw [hrole x' ex'] at e'
        exact C₁.inj x x' c home home' ex ex' (by omega) (by omega) e e'
  · rw [hszn] at hx
    rw [hD2]; exact C₁.above x (by omega)
  · by_cases ex : x = n
    · subst ex
      have e' : S ad = some v := by have : upd E1.St x S x ad = some v := e; rwa [upd_same] at this
      exact (hS1 ad v e').1
    · rw [hSt x ex] at e; exact C₁.keep x ad v e
  · rcases hall x ad hs with ⟨_, v, hv⟩ | ⟨_, hs'⟩
    · exact (hS1 ad v hv).2.1
    · exact C₁.dis x ad hs'
  · rcases hall x ad hs with ⟨_, v, hv⟩ | ⟨_, hs'⟩
    · exact (hS1 ad v hv).2.2
    · exact C₁.hidS x ad hs'
  · by_cases ex : x = h
    · subst ex
      rw [hroleh] at e
      show E1.H c = some 0
      rw [hEq.H']
      exact (hr1 c home e).2.1
    · rw [hrole x ex] at e; exact C₁.hidC x c home e
  · rw [hszn]
    have q1 : PastZ (ShZ E1.W) (StZ (E1.hireE h r' n b S)) (fun g => MemZ E1 h n g ∨ g = n) (LooseZ E1 h n) w₂.heap.size n 0 (T₁ ++ (MemOp.ofEvents h a.frame.fn a.frame.place es ++ #[{ g := h, fn := a.frame.fn, pos := a.frame.place, act := .go n }, { g := n, fn := child.frame.fn, pos := a.frame.place, act := .start }])) := by
      rw [hn] at p2
      refine p2.still (fun g l ⟨ad, e, hs⟩ => ⟨ad, e, ?_⟩) (fun i t ht hw g hg hst hns => ?_)
      · by_cases ex : g = n
        · subst ex; rw [fr3 ad] at hs; cases hs
        · rw [hSt g ex]; exact hs
      · obtain ⟨ad, e, hs⟩ := hst
        rcases hall g ad hs with ⟨rfl, v, hv⟩ | ⟨hgn, hs'⟩
        · exact stz_known p2 ht hw (by rw [e]; rfl) (fun ⟨ad', e', hw', _⟩ => by
            rw [e] at e'; cases e'
            rw [(hS1 ad v hv).2.1] at hw'; cases hw')
        · exact absurd ⟨ad, e, hs'⟩ hns
    refine (q1.fewer fun g hg => ?_).loosen fun g hg => ?_
    · rcases hg with rfl | ⟨hl, hs⟩
      · exact .inr rfl
      · by_cases ex : g = n
        · exact .inr ex
        · by_cases exh : g = h
          · exact .inl (.inl exh)
          · rw [hrole g exh] at hs; exact .inl (.inr ⟨by omega, hs⟩)
    · obtain ⟨g1, g2, g3⟩ := hg
      exact ⟨by omega, by omega, by rw [hrole g g1]; exact g3⟩
  · rw [hszn] at hl
    by_cases ex : x = n
    · subst ex
      have e' : (some b : Option Nat) = some c := by have : upd E1.wg x (some b) x = some c := e; rwa [upd_same] at this
      cases e'
      exact hWb1
    · rw [hwg x ex] at e; exact C₁.wgW x c (by omega) e
  · rw [hszn] at hx
    obtain ⟨f1, f2, f3⟩ := C₁.fresh x (by omega)
    exact ⟨by rw [hrole x (by omega)]; exact f1, by rw [hwg x (by omega)]; exact f2, fun ad => by rw [hSt x (by omega)]; exact f3 ad⟩
  · rw [hszn]
    have hg := C₁.groups c hc
    rw [hn] at hg
    have e1 : stv (E1.hireE h r' n b S) (n + 1) c = stv E1 n c := by
      unfold stv
      rw [htot c hc]
      rfl
    rw [e1]
    exact hg
  · rw [hszn, htot c hc, ← hn]; exact C₁.few c hc
  · rw [hszn]
    have := C₁.modes c hc
    rw [hn] at this
    rw [htot c hc]
    exact this
  · obtain ⟨x, f, x1, x2, x3⟩ := C₁.lastEx c hc hx
    exact ⟨x, f, by omega, by omega, by rw [hrole x x1]; exact x3⟩
  · have hz := C₁.zero c hc
    have ec : c ≠ b := fun e => by
      rw [e] at hc
      have hc' : E1.W b = false := hc
      rw [hWb1] at hc'; cases hc'
    exact ⟨by show upd E1.ex b (E1.ex b - 1) c = 0; rw [upd_ne _ _ ec]; exact hz.1, hz.2⟩
  · rw [hszn] at hl hl'
    by_cases ex : x = h
    · subst ex; rw [hroleh] at e; exact absurd e (hr2 c f)
    · by_cases ex' : x' = h
      · subst ex'; rw [hroleh] at e'; exact absurd e' (hr2 c f')
      · rw [hrole x ex] at e; rw [hrole x' ex'] at e'
        exact C₁.one x x' c f f' ex ex' (by omega) (by omega) e e'
end
end Go.Proofs.Ytimlbbleblijnaa.Co
