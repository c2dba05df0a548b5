/- A range over a function whose iterator keeps numbers of its own in cells: the statement, out of the iterator's contract and one round's walk. The iterator's own steps on the heap are 'Stp'. -/
import Derived.RangeFuncNested
import Derived.RangeFuncBound
import Derived.RangeFuncCalls
import Derived.RangeFuncLeaves
import Derived.Shelf.Abstract
import Derived.Shelf.RegionOpen
import Derived.WalkKit
import Derived.OwnWalkIn
import Derived.TacticsInMore
import Derived.LoopNIn
import Derived.LoopIn
namespace Go.Proofs.Ytonacegkhkncmaa.Rg
open Go.RowKit
set_option linter.unusedVariables false
variable {F : Fence} {n : Nat} {P : Program}

/-- The iterator's contract: for every caller's word J that its own steps abide. -/
def Iter {α : Type} (F : Fence) (n : Nat) (P : Program) (gf : Nat) (lb : Array Value) (encs : α → Array Value) (Kp Stp : World → World → Prop) (S Sp : List α → Prop) (N : Nat) (W : World) : Prop :=
  ∀ (l : Nat) (J Jx : List α → World → Prop), (∀ s A B, J s A → Stp A B → J s B) → (∀ s A B, Jx s A → Stp A B → Jx s B) →
    (∀ pre x W1, J pre W1 → pre.length < N → YieldAt F (n - 1) P l (encs x) W1 fun e W' =>
      (e = .returned (.bool true) ∧ J (pre ++ [x]) W' ∧ Kp W1 W') ∨ (e = .returned (.bool false) ∧ Jx (pre ++ [x]) W')) →
    J [] W →
    CallsIn F n P gf (#[.func (.yield l) #[] #[]] ++ lb) W fun e W' => (∃ v, e = .returned v) ∧ ((∃ xs, S xs ∧ J xs W') ∨ (∃ pre, Sp pre ∧ Jx pre W'))

theorem range_own {α : Type} {g : Operand} {ps : Array Tmp} {assign body : Code} {Q : Exit → Act → World → Prop} {a : Act} {w : World}
    (hro : F.round = none) (h1 : 1 ≤ n) {gf : Nat} {lb : Array Value} (hg : a.eval g = .func (.func gf) #[] lb) (hFg : F.fn gf) (eg : ∀ args w, (callFunc gf args).run P w = .ok (.enter gf args) w)
    {encs : α → Array Value} {Kp Stp : World → World → Prop} {S Sp : List α → Prop} {N : Nat}
    (hit : ∀ W, Below w.heap.size w W → Iter F (n - 1) P gf lb encs Kp Stp S Sp N W)
    (hKt : ∀ {A B C : World}, Kp A B → Kp B C → Kp A C) (hKb : ∀ (W : World) (l : Nat) (o o' : Obj), w.heap.size ≤ l → W.heap[l]? = some o → o.isCells = false → Kp W (W.putObj l o'))
    (hSt : ∀ (A B : World) (k : Nat) (o : Obj), Stp A B → w.heap.size ≤ k → A.heap[k]? = some o → o.isCells = false → B.heap[k]? = some o)
    (hps : ∀ x, (encs x).size = ps.size)
    (I : List α → World → Prop) (Ix : Code → List α → World → Prop) (hI : OwnFrom w.heap.size I) (hIx : ∀ c, OwnFrom w.heap.size (Ix c))
    (hIs : ∀ s A B, I s A → Stp A B → I s B) (hIxs : ∀ c s A B, Ix c s A → Stp A B → Ix c s B) (h0 : I [] w)
    (Ax : α → Act → World → Prop) (hAx : ∀ x a', OwnFrom w.heap.size (fun (_ : Unit) W => Ax x a' W))
    (hassign : ∀ (l : Nat) (pre : List α) (x : α) (W : World) (K : Act → World → Prop), I pre W → (∀ a' W', KeepsFrom w.heap.size W W' → Kp W W' → I pre W' → Ax x a' W' → K a' W') →
      assign.wpIn (F.inRound l) (n - 1 - 1) P (Exit.then K (fun _ _ _ => False)) { tmps := (ps.zip (encs x)).foldl (fun t (p, v) => t.setIfInBounds p v) a.tmps, defers := [] } W)
    (hbody : ∀ (l : Nat) (pre : List α) (x : α) (a' : Act) (W : World), w.heap.size ≤ l → I pre W → Ax x a' W → pre.length < N → body.wpIn (F.inRound l) (n - 1 - 1) P (ownPostG w.heap.size Kp I Ix (pre ++ [x]) W) a' W)
    (hdone : ∀ (D : Nat) (xs : List α) (W : World), w.heap.size ≤ D → S xs → I xs W → W.heap[D]? = some (.deferred (some [])) → Q .normal { a with defers := { target := .collected D, args := #[] } :: a.defers } W)
    (hstop : ∀ (D : Nat) (c : Code) (pre : List α) (W : World), w.heap.size ≤ D → Sp pre → Ix c pre W → W.heap[D]? = some (.deferred (some [])) → c.wpIn F n P Q { a with defers := { target := .collected D, args := #[] } :: a.defers } W) :
    (Code.rangeFunc g ps assign body).wpIn F n P Q a w := by
  refine wpIn_rangeFunc fun fn hfn => ?_
  rw [hro]
  -- the two blocks of book-keeping
  obtain ⟨D, hD⟩ : ∃ D, D = w.heap.size := ⟨_, rfl⟩
  let rec0 : LoopState → Option Code → Loop := fun st pe => { state := st, pending := pe, fn, tmps := a.tmps, params := ps, assign, body, defers := w.heap.size }
  let W1 : World := (w.alloc (.deferred (some []))).alloc (.loop (rec0 .ready none))
  have kL : W1.heap[w.heap.size + 1]? = some (.loop (rec0 .ready none)) := by
    have := World.alloc_heap_new (w.alloc (.deferred (some []))) (.loop (rec0 .ready none))
    rwa [World.size_alloc] at this
  have kD : W1.heap[w.heap.size]? = some (.deferred (some [])) := (Below.heap_alloc _ _ _ (by simp)).trans (World.alloc_heap_new w _)
  have kI : I [] W1 := hI.alloc _ (hI.alloc _ h0)
  have kB : Below w.heap.size w W1 := ((Below.refl _ w).alloc (Nat.le_refl _) _).alloc (by simp) _
  refine ⟨w.heap.size + 1, [{ target := .collected w.heap.size, args := #[] }], W1, { target := .fn (.func gf) lb, args := #[.func (.yield (w.heap.size + 1)) #[] #[]] }, W1, gf,
    #[.func (.yield (w.heap.size + 1)) #[] #[]] ++ lb, W1, run_enterLoop_outer _ _ _ _ _, ?_, ?_, ?_, fun _ => h1, ?_⟩
  · simp only [resolve, hg]
    simp [go_sem]
  · intro f' hf'
    simp [Target.leads] at hf'
    subst hf'
    exact hFg
  · simp [invoke, go_sem, eg]
  -- what is known between two rounds, and when a round has left
  let J : List α → World → Prop := fun pre W => I pre W ∧ W.heap[w.heap.size + 1]? = some (.loop (rec0 .ready none)) ∧ W.heap[w.heap.size]? = some (.deferred (some []))
  let Jx : List α → World → Prop := fun pre W => ∃ c, Ix c pre W ∧ W.heap[w.heap.size + 1]? = some (.loop (rec0 .done (some c))) ∧ W.heap[w.heap.size]? = some (.deferred (some []))
  have hJ : ∀ s A B, J s A → Stp A B → J s B := fun s A B ⟨x, y, z⟩ hs => ⟨hIs s A B x hs, hSt A B _ _ hs (by omega) y rfl, hSt A B _ _ hs (by omega) z rfl⟩
  have hJx : ∀ s A B, Jx s A → Stp A B → Jx s B := fun s A B ⟨c, x, y, z⟩ hs => ⟨c, hIxs c s A B x hs, hSt A B _ _ hs (by omega) y rfl, hSt A B _ _ hs (by omega) z rfl⟩
  refine (hit W1 kB (w.heap.size + 1) J Jx hJ hJx ?round ⟨kI, kL, kD⟩).mono ?behind
  case round =>
    rintro pre x W ⟨hi, hl, hd⟩ hlen
    refine ⟨fn, _, assign, body, run_yield (P := P) (args := encs x) hl (hps x), roundIn_of_wpIn hfn (hassign _ pre x W _ hi ?_)⟩
    intro a' V hkf hkp hv hax
    have hl1 := hkf.same _ _ (by omega) hl rfl
    have hd1 := hkf.same _ _ (Nat.le_refl _) hd rfl
    have hsz : w.heap.size + 1 < V.heap.size := (Array.getElem?_eq_some_iff.1 hl1).1
    refine ⟨_, run_beginRound hl1 rfl, ?_⟩
    let V2 : World := V.putObj (w.heap.size + 1) (.loop { rec0 .ready none with state := .busy })
    have hl2 : V2.heap[w.heap.size + 1]? = some (.loop { rec0 .ready none with state := .busy }) := World.putObj_heap_same hsz
    have hd2 : V2.heap[w.heap.size]? = some (.deferred (some [])) := (World.putObj_heap_other (by omega)).trans hd1
    have hk2 : Kp V V2 := hKb _ _ _ _ (by omega) hl1 rfl
    refine wpIn_mono (hbody _ pre x a' V2 (by omega) (hI.putObj _ hv (by omega) hl1 rfl) ((hAx x a').putObj (s := ()) _ hax (by omega) hl1 rfl) hlen) ?_
    have fin : ∀ (jump : Option Code) (W3 : World), KeepsFrom w.heap.size V2 W3 →
        (Instr.endRound (w.heap.size + 1) jump).run P W3 = .ok (.bool jump.isNone) (W3.putObj (w.heap.size + 1) (.loop (rec0 (if jump.isNone then .ready else .done) jump))) ∧
        W3.heap[w.heap.size + 1]? = some (.loop { rec0 .ready none with state := .busy }) ∧
        (W3.putObj (w.heap.size + 1) (.loop (rec0 (if jump.isNone then .ready else .done) jump))).heap[w.heap.size + 1]? = some (.loop (rec0 (if jump.isNone then .ready else .done) jump)) ∧
        (W3.putObj (w.heap.size + 1) (.loop (rec0 (if jump.isNone then .ready else .done) jump))).heap[w.heap.size]? = some (.deferred (some [])) := fun jump W3 hk3 =>
      have hl3 := hk3.same _ _ (by omega) hl2 rfl
      ⟨run_endRound (P := P) jump hl3, hl3, World.putObj_heap_same (Array.getElem?_eq_some_iff.1 hl3).1, (World.putObj_heap_other (by omega)).trans (hk3.same _ _ (Nat.le_refl _) hd2 rfl)⟩
    intro e a3 W3 hp
    cases e with
    | normal =>
      obtain ⟨x1, x2, x3⟩ := hp
      obtain ⟨r1, r2, r3, r4⟩ := fin none W3 x1
      exact ⟨_, _, r1, .inl ⟨rfl, ⟨hI.putObj _ x3 (by omega) r2 rfl, r3, r4⟩, hKt hkp (hKt (hKt hk2 x2) (hKb _ _ _ _ (by omega) r2 rfl))⟩⟩
    | ret =>
      obtain ⟨x1, x3⟩ := hp
      obtain ⟨r1, r2, r3, r4⟩ := fin (some .ret) W3 x1
      exact ⟨_, _, r1, .inr ⟨rfl, .ret, (hIx _).putObj _ x3 (by omega) r2 rfl, r3, r4⟩⟩
    | exit id =>
      obtain ⟨x1, x3⟩ := hp
      obtain ⟨r1, r2, r3, r4⟩ := fin (some (.exit id)) W3 x1
      exact ⟨_, _, r1, .inr ⟨rfl, .exit id, (hIx _).putObj _ x3 (by omega) r2 rfl, r3, r4⟩⟩
    | goto t =>
      obtain ⟨x1, x3⟩ := hp
      obtain ⟨r1, r2, r3, r4⟩ := fin (some (.goto t)) W3 x1
      exact ⟨_, _, r1, .inr ⟨rfl, .goto t, (hIx _).putObj _ x3 (by omega) r2 rfl, r3, r4⟩⟩
    | panic ch => exact hp.elim
    | outgrown => exact hp.elim
  case behind =>
    rintro e W2 ⟨⟨v, rfl⟩, (⟨xs, hS, x1, x2, x3⟩ | ⟨pre, hS, c, x1, x2, x3⟩)⟩
    · exact ⟨none, _, run_endLoop (P := P) x2 (by simp [rec0]), hdone _ xs _ (Nat.le_refl _) hS (hI.putObj _ x1 (by omega) x2 rfl) ((World.putObj_heap_other (by omega)).trans x3)⟩
    · exact ⟨some c, _, run_endLoop (P := P) x2 (by simp [rec0]), hstop _ c pre _ (Nat.le_refl _) hS ((hIx c).putObj _ x1 (by omega) x2 rfl) ((World.putObj_heap_other (by omega)).trans x3)⟩
end Go.Proofs.Ytonacegkhkncmaa.Rg
