/- Lemmas for the laws of this seat, laid together of Rg, Rk0, RkA. -/
import Derived.Test.YtpiegngjpnpohaaGreatK01
import Derived.RangeFuncNested
import Derived.RangeFuncBound
import Derived.RangeFuncCalls
import Derived.RangeFuncLeaves
import Derived.Shelf.Abstract
import Derived.Shelf.RegionOpen
import Derived.WalkKit
import Derived.OwnWalkIn
import Derived.TacticsInMore
import Derived.LoopNIn
import Derived.LoopIn
import Derived.Test.YtpiegngjpnpohaaGreatChecked
import Derived.BigQuiet
import Derived.Deep.QuietTactic
import Derived.RegionTactic
import Derived.ChangeAlike
import Derived.Outline
import Derived.Lib.Hide
import Derived.LoopTactic
import Derived.IntWalk
import Derived.WalkSmall

namespace Go.Proofs.YtpiegngjpnpohaaGreat.Rg
open Go.RowKit
set_option linter.unusedVariables false
variable {F : Fence} {n : Nat} {P : Program}
def Iter {α : Type} (F : Fence) (n : Nat) (P : Program) (gf : Nat) (lb : Array Value) (encs : α → Array Value) (Kp Stp : World → World → Prop) (S Sp : List α → Prop) (N : Nat) (W : World) : Prop :=
  ∀ (l : Nat) (J Jx : List α → World → Prop), (∀ s A B, J s A → Stp A B → J s B) → (∀ s A B, Jx s A → Stp A B → Jx s B) →
    (∀ pre x W1, J pre W1 → pre.length < N → YieldAt F (n - 1) P l (encs x) W1 fun e W' =>
      (e = .returned (.bool true) ∧ J (pre ++ [x]) W' ∧ Kp W1 W') ∨ (e = .returned (.bool false) ∧ Jx (pre ++ [x]) W')) →
    J [] W →
    CallsIn F n P gf (#[.func (.yield l) #[] #[]] ++ lb) W fun e W' => (∃ v, e = .returned v) ∧ ((∃ xs, S xs ∧ J xs W') ∨ (∃ pre, Sp pre ∧ Jx pre W'))
theorem range_own {α : Type} {g : Operand} {ps : Array Tmp} {assign body : Code} {Q : Exit → Act → World → Prop} {a : Act} {w : World}
    (hro : F.round = none) (h1 : 1 ≤ n) {gf : Nat} {lb : Array Value} (hg : a.eval g = .func (.func gf) #[] lb) (hFg : F.fn gf) (eg : ∀ args w, (callFunc gf args).run P w = .ok (.enter gf args) w)
    {encs : α → Array Value} {Kp Stp : World → World → Prop} {S Sp : List α → Prop} {N : Nat}
    (hit : ∀ W, Below w.heap.size w W → Iter F (n - 1) P gf lb encs Kp Stp S Sp N W)
    (hKt : ∀ {A B C : World}, Kp A B → Kp B C → Kp A C) (hKb : ∀ (W : World) (l : Nat) (o o' : Obj), w.heap.size ≤ l → W.heap[l]? = some o → o.isCells = false → Kp W (W.putObj l o'))
    (hSt : ∀ (A B : World) (k : Nat) (o : Obj), Stp A B → w.heap.size ≤ k → A.heap[k]? = some o → o.isCells = false → B.heap[k]? = some o)
    (hps : ∀ x, (encs x).size = ps.size)
    (I : List α → World → Prop) (Ix : Code → List α → World → Prop) (hI : OwnFrom w.heap.size I) (hIx : ∀ c, OwnFrom w.heap.size (Ix c))
    (hIs : ∀ s A B, I s A → Stp A B → I s B) (hIxs : ∀ c s A B, Ix c s A → Stp A B → Ix c s B) (h0 : I [] w)
    (Ax : α → Act → World → Prop) (hAx : ∀ x a', OwnFrom w.heap.size (fun (_ : Unit) W => Ax x a' W))
    (hassign : ∀ (l : Nat) (pre : List α) (x : α) (W : World) (K : Act → World → Prop), I pre W → (∀ a' W', KeepsFrom w.heap.size W W' → Kp W W' → I pre W' → Ax x a' W' → K a' W') →
      assign.wpIn (F.inRound l) (n - 1 - 1) P (Exit.then K (fun _ _ _ => False)) { tmps := (ps.zip (encs x)).foldl (fun t (p, v) => t.setIfInBounds p v) a.tmps, defers := [] } W)
    (hbody : ∀ (l : Nat) (pre : List α) (x : α) (a' : Act) (W : World), w.heap.size ≤ l → I pre W → Ax x a' W → pre.length < N → body.wpIn (F.inRound l) (n - 1 - 1) P (ownPostG w.heap.size Kp I Ix (pre ++ [x]) W) a' W)
    (hdone : ∀ (D : Nat) (xs : List α) (W : World), w.heap.size ≤ D → S xs → I xs W → W.heap[D]? = some (.deferred (some [])) → Q .normal { a with defers := { target := .collected D, args := #[] } :: a.defers } W)
    (hstop : ∀ (D : Nat) (c : Code) (pre : List α) (W : World), w.heap.size ≤ D → Sp pre → Ix c pre W → W.heap[D]? = some (.deferred (some [])) → c.wpIn F n P Q { a with defers := { target := .collected D, args := #[] } :: a.defers } W) :
    (Code.rangeFunc g ps assign body).wpIn F n P Q a w := by
  refine wpIn_rangeFunc fun fn hfn => ?_
  rw [hro]
  obtain ⟨D, hD⟩ : ∃ D, D = w.heap.size := ⟨_, rfl⟩
  let rec0 : LoopState → Option Code → Loop := fun st pe => { state := st, pending := pe, fn, tmps := a.tmps, params := ps, assign, body, defers := w.heap.size }
  let W1 : World := (w.alloc (.deferred (some []))).alloc (.loop (rec0 .ready none))
  have kL : W1.heap[w.heap.size + 1]? = some (.loop (rec0 .ready none)) := by
    have := World.alloc_heap_new (w.alloc (.deferred (some []))) (.loop (rec0 .ready none))
    rwa [World.size_alloc] at this
  have kD : W1.heap[w.heap.size]? = some (.deferred (some [])) := (Below.heap_alloc _ _ _ (by simp)).trans (World.alloc_heap_new w _)
  have kI : I [] W1 := hI.alloc _ (hI.alloc _ h0)
  have kB : Below w.heap.size w W1 := ((Below.refl _ w).alloc (Nat.le_refl _) _).alloc (by simp) _
  refine ⟨w.heap.size + 1, [{ target := .collected w.heap.size, args := #[] }], W1, { target := .fn (.func gf) lb, args := #[.func (.yield (w.heap.size + 1)) #[] #[]] }, W1, gf,
    #[.func (.yield (w.heap.size + 1)) #[] #[]] ++ lb, W1, run_enterLoop_outer _ _ _ _ _, ?_, ?_, ?_, fun _ => h1, ?_⟩
  · simp only [resolve, hg]
    simp [go_sem]
  · intro f' hf'
    simp [Target.leads] at hf'
    subst hf'
    exact hFg
  · simp [invoke, go_sem, eg]
  let J : List α → World → Prop := fun pre W => I pre W ∧ W.heap[w.heap.size + 1]? = some (.loop (rec0 .ready none)) ∧ W.heap[w.heap.size]? = some (.deferred (some []))
  let Jx : List α → World → Prop := fun pre W => ∃ c, Ix c pre W ∧ W.heap[w.heap.size + 1]? = some (.loop (rec0 .done (some c))) ∧ W.heap[w.heap.size]? = some (.deferred (some []))
  have hJ : ∀ s A B, J s A → Stp A B → J s B := fun s A B ⟨x, y, z⟩ hs => ⟨hIs s A B x hs, hSt A B _ _ hs (by omega) y rfl, hSt A B _ _ hs (by omega) z rfl⟩
  have hJx : ∀ s A B, Jx s A → Stp A B → Jx s B := fun s A B ⟨c, x, y, z⟩ hs => ⟨c, hIxs c s A B x hs, hSt A B _ _ hs (by omega) y rfl, hSt A B _ _ hs (by omega) z rfl⟩
  refine (hit W1 kB (w.heap.size + 1) J Jx hJ hJx ?round ⟨kI, kL, kD⟩).mono ?behind
  case round =>
    rintro pre x W ⟨hi, hl, hd⟩ hlen
    refine ⟨fn, _, assign, body, run_yield (P := P) (args := encs x) hl (hps x), roundIn_of_wpIn hfn (hassign _ pre x W _ hi ?_)⟩
    intro a' V hkf hkp hv hax
    have hl1 := hkf.same _ _ (by omega) hl rfl
    have hd1 := hkf.same _ _ (Nat.le_refl _) hd rfl
    have hsz : w.heap.size + 1 < V.heap.size := (Array.getElem?_eq_some_iff.1 hl1).1
    refine ⟨_, run_beginRound hl1 rfl, ?_⟩
    let V2 : World := V.putObj (w.heap.size + 1) (.loop { rec0 .ready none with state := .busy })
    have hl2 : V2.heap[w.heap.size + 1]? = some (.loop { rec0 .ready none with state := .busy }) := World.putObj_heap_same hsz
    have hd2 : V2.heap[w.heap.size]? = some (.deferred (some [])) := (World.putObj_heap_other (by omega)).trans hd1
    have hk2 : Kp V V2 := hKb _ _ _ _ (by omega) hl1 rfl
    refine wpIn_mono (hbody _ pre x a' V2 (by omega) (hI.putObj _ hv (by omega) hl1 rfl) ((hAx x a').putObj (s := ()) _ hax (by omega) hl1 rfl) hlen) ?_
    have fin : ∀ (jump : Option Code) (W3 : World), KeepsFrom w.heap.size V2 W3 →
        (Instr.endRound (w.heap.size + 1) jump).run P W3 = .ok (.bool jump.isNone) (W3.putObj (w.heap.size + 1) (.loop (rec0 (if jump.isNone then .ready else .done) jump))) ∧
        W3.heap[w.heap.size + 1]? = some (.loop { rec0 .ready none with state := .busy }) ∧
        (W3.putObj (w.heap.size + 1) (.loop (rec0 (if jump.isNone then .ready else .done) jump))).heap[w.heap.size + 1]? = some (.loop (rec0 (if jump.isNone then .ready else .done) jump)) ∧
        (W3.putObj (w.heap.size + 1) (.loop (rec0 (if jump.isNone then .ready else .done) jump))).heap[w.heap.size]? = some (.deferred (some [])) := fun jump W3 hk3 =>
      have hl3 := hk3.same _ _ (by omega) hl2 rfl
      ⟨run_endRound (P := P) jump hl3, hl3, World.putObj_heap_same (Array.getElem?_eq_some_iff.1 hl3).1, (World.putObj_heap_other (by omega)).trans (hk3.same _ _ (Nat.le_refl _) hd2 rfl)⟩
    intro e a3 W3 hp
    cases e with
    | normal =>
      obtain ⟨x1, x2, x3⟩ := hp
      obtain ⟨r1, r2, r3, r4⟩ := fin none W3 x1
      exact ⟨_, _, r1, .inl ⟨rfl, ⟨hI.putObj _ x3 (by omega) r2 rfl, r3, r4⟩, hKt hkp (hKt (hKt hk2 x2) (hKb _ _ _ _ (by omega) r2 rfl))⟩⟩
    | ret =>
      obtain ⟨x1, x3⟩ := hp
      obtain ⟨r1, r2, r3, r4⟩ := fin (some .ret) W3 x1
      exact ⟨_, _, r1, .inr ⟨rfl, .ret, (hIx _).putObj _ x3 (by omega) r2 rfl, r3, r4⟩⟩
    | exit id =>
      obtain ⟨x1, x3⟩ := hp
      obtain ⟨r1, r2, r3, r4⟩ := fin (some (.exit id)) W3 x1
      exact ⟨_, _, r1, .inr ⟨rfl, .exit id, (hIx _).putObj _ x3 (by omega) r2 rfl, r3, r4⟩⟩
    | goto t =>
      obtain ⟨x1, x3⟩ := hp
      obtain ⟨r1, r2, r3, r4⟩ := fin (some (.goto t)) W3 x1
      exact ⟨_, _, r1, .inr ⟨rfl, .goto t, (hIx _).putObj _ x3 (by omega) r2 rfl, r3, r4⟩⟩
    | panic ch => exact hp.elim
    | outgrown => exact hp.elim
  case behind =>
    rintro e W2 ⟨⟨v, rfl⟩, (⟨xs, hS, x1, x2, x3⟩ | ⟨pre, hS, c, x1, x2, x3⟩)⟩
    · exact ⟨none, _, run_endLoop (P := P) x2 (by simp [rec0]), hdone _ xs _ (Nat.le_refl _) hS (hI.putObj _ x1 (by omega) x2 rfl) ((World.putObj_heap_other (by omega)).trans x3)⟩
    · exact ⟨some c, _, run_endLoop (P := P) x2 (by simp [rec0]), hstop _ c pre _ (Nat.le_refl _) hS ((hIx c).putObj _ x1 (by omega) x2 rfl) ((World.putObj_heap_other (by omega)).trans x3)⟩
end Go.Proofs.YtpiegngjpnpohaaGreat.Rg

namespace Go.Proofs.YtpiegngjpnpohaaGreat.Rk
open Go.RowKit
set_option linter.unusedVariables false
def okC (c : Int × Int) : Prop := -9223372036854775808 ≤ c.1 ∧ c.1 ≤ 9223372036854775807 ∧ 0 ≤ c.2 ∧ c.2 ≤ 18446744073709551615
structure Cs (w : World) (B : Nat) (A : Option Addr) (l : List (Int × Int)) : Prop where
  len : l.length ≤ maxLen
  ok : ∀ c ∈ l, okC c
  cells : 0 < l.length → ∃ b off, A = some ⟨b, off, none⟩ ∧ b < B ∧ ∀ i c, l[i]? = some c → w.cell? ⟨b, off + i * 2, none⟩ = some (.int .i64 c.1) ∧ w.cell? ⟨b, off + i * 2 + 1, none⟩ = some (.int .u64 c.2)
theorem Cs.below {w w' : World} {B : Nat} {A : Option Addr} {l : List (Int × Int)} (h : Cs w B A l) (hb : Below B w w') : Cs w' B A l :=
  ⟨h.len, h.ok, fun hl => by
    obtain ⟨b, off, e, hB, hc⟩ := h.cells hl
    refine ⟨b, off, e, hB, fun i c hi => ?_⟩
    obtain ⟨h1, h2⟩ := hc i c hi
    exact ⟨(hb.cell (p := ⟨b, off + i * 2, none⟩) hB).trans h1, (hb.cell (p := ⟨b, off + i * 2 + 1, none⟩) hB).trans h2⟩⟩
def totF (n : Int) (l : List (Int × Int)) : Int := l.foldl (fun n c => IntKind.u64.wrap (n + c.2)) n
theorem take_snoc {α : Type} {l : List α} {k : Nat} (h : k < l.length) : l.take (k + 1) = l.take k ++ [l[k]] := by
  rw [List.take_succ_eq_append_getElem h]
theorem totF_snoc (n : Int) {l : List (Int × Int)} {k : Nat} (h : k < l.length) : totF n (l.take (k + 1)) = IntKind.u64.wrap (totF n (l.take k) + l[k].2) := by
  rw [take_snoc h, totF, List.foldl_append]; rfl
theorem total_any (w : World) (B : Nat) (A : Option Addr) (l : List (Int × Int)) (cap : Nat) (h : Cs w B A l) (hB : B ≤ w.heap.size) :
    Calls Tryz.prog 120 #[.slice A l.length cap] w fun e w' => e = .returned (.int .u64 (totF 0 l)) ∧ Below w.heap.size w w' := by
  have hl := h.len
  unfold maxLen at hl
  go_enter Tryz.func120, Tryz.ntmps120
  go_wp2
  go_loopw [3, 8] (fun n i wr => ∃ k : Nat, k ≤ l.length ∧ i = .int .i64 k ∧ n = .int .u64 (totF 0 (l.take k)) ∧ Below w.heap.size w wr) (fun _ i _ => l.length - (intOf i).toNat)
  case atStart => exact ⟨0, Nat.zero_le _, rfl, rfl, Below.refl _ _⟩
  case round =>
    obtain ⟨k, hk, rfl, rfl, hb⟩ := hrel
    by_cases hlt : k < l.length
    · obtain ⟨b, off, rfl, hbB, hc⟩ := (h.below (hb.mono hB)).cells (by omega)
      obtain ⟨h1, h2⟩ := hc k l[k] (List.getElem?_eq_getElem hlt)
      have hs := totF_snoc 0 hlt
      clear hc
      replace hs := Lib.hid hs
      go_wp2
      exact ⟨⟨k + 1, by omega, by go_num, by rw [hs.out], hb.alloc hb.size _⟩, by simp [intOf]; omega⟩
    · go_wp2
      go_ret
      exact ⟨by rw [List.take_of_length_le (by omega)]; rfl, hb⟩
end Go.Proofs.YtpiegngjpnpohaaGreat.Rk

namespace Go.Proofs.YtpiegngjpnpohaaGreat.Rk
open Go.RowKit Go.Proofs.YtpiegngjpnpohaaGreat.Bk
set_option linter.unusedVariables false
def sumN (l : List (Int × Int)) : Int := (l.map (·.2)).sum
def chk (p : Int) : Option Int → List (Int × Int) → Int
  | _, [] => 0
  | prev, c :: r => if c.1 < 0 ∨ lenI p ≤ c.1 then 2 else if (∃ q, prev = some q ∧ c.1 ≤ q) then 15 else if c.2 = 0 then 16 else chk p (some c.1) r
def mayE (p : Int) (l : List (Int × Int)) : Int := if ¬ good p then 1 else if chk p none l ≠ 0 then chk p none l else if 9223372036854775807 < sumN l then 3 else 0
def prevOf (l : List (Int × Int)) (k : Nat) : Option Int := if k = 0 then none else (l[k - 1]?).map (·.1)
def At (p : Int) (l : List (Int × Int)) (k : Nat) : Prop := chk p none l = chk p (prevOf l k) (l.drop k)
theorem At.zero (p : Int) (l : List (Int × Int)) : At p l 0 := rfl
theorem prevOf_succ {l : List (Int × Int)} {k : Nat} (h : k < l.length) : prevOf l (k + 1) = some l[k].1 := by
  simp [prevOf, h]
theorem chk_at {p : Int} {l : List (Int × Int)} {k : Nat} (h : k < l.length) : chk p (prevOf l k) (l.drop k) =
    if l[k].1 < 0 ∨ lenI p ≤ l[k].1 then 2 else if (∃ q, prevOf l k = some q ∧ l[k].1 ≤ q) then 15 else if l[k].2 = 0 then 16 else chk p (some l[k].1) (l.drop (k + 1)) := by
  rw [List.drop_eq_getElem_cons h, chk]
theorem At.range {p : Int} {l : List (Int × Int)} {k : Nat} (ha : At p l k) (h : k < l.length) (h1 : l[k].1 < 0 ∨ lenI p ≤ l[k].1) : chk p none l = 2 := by
  rw [ha, chk_at h, if_pos h1]
theorem At.order {p : Int} {l : List (Int × Int)} {k : Nat} (ha : At p l k) (h : k < l.length) (h1 : 0 ≤ l[k].1) (h1' : l[k].1 < lenI p) (h0 : 0 < k) (h2 : l[k].1 ≤ (l[k - 1]'(by omega)).1) : chk p none l = 15 := by
  rw [ha, chk_at h, if_neg (by omega), if_pos]
  exact ⟨(l[k - 1]'(by omega)).1, by simp [prevOf, show k ≠ 0 by omega, show k - 1 < l.length by omega], h2⟩
theorem At.empty {p : Int} {l : List (Int × Int)} {k : Nat} (ha : At p l k) (h : k < l.length) (h1 : 0 ≤ l[k].1) (h1' : l[k].1 < lenI p) (h2 : ∀ h0 : 0 < k, ¬ l[k].1 ≤ (l[k - 1]'(by omega)).1) (h3 : l[k].2 = 0) : chk p none l = 16 := by
  rw [ha, chk_at h, if_neg (by omega), if_neg, if_pos h3]
  rintro ⟨q, hq, hle⟩
  unfold prevOf at hq
  by_cases h0 : k = 0
  · simp [h0] at hq
  · rw [if_neg h0, List.getElem?_eq_getElem (by omega)] at hq
    simp at hq
    exact h2 (by omega) (by omega)
theorem At.next {p : Int} {l : List (Int × Int)} {k : Nat} (ha : At p l k) (h : k < l.length) (h1 : 0 ≤ l[k].1) (h1' : l[k].1 < lenI p) (h2 : ∀ h0 : 0 < k, ¬ l[k].1 ≤ (l[k - 1]'(by omega)).1) (h3 : l[k].2 ≠ 0) : At p l (k + 1) := by
  unfold At
  rw [ha, chk_at h, if_neg (by omega), if_neg, if_neg h3, prevOf_succ h]
  rintro ⟨q, hq, hle⟩
  unfold prevOf at hq
  by_cases h0 : k = 0
  · simp [h0] at hq
  · rw [if_neg h0, List.getElem?_eq_getElem (by omega)] at hq
    simp at hq
    exact h2 (by omega) (by omega)
theorem At.done {p : Int} {l : List (Int × Int)} {k : Nat} (ha : At p l k) (h : l.length ≤ k) : chk p none l = 0 := by
  rw [ha, List.drop_of_length_le h]; unfold chk; rfl
theorem sumN_snoc {l : List (Int × Int)} {k : Nat} (h : k < l.length) : sumN (l.take (k + 1)) = sumN (l.take k) + l[k].2 := by
  rw [take_snoc h, sumN, List.map_append, List.sum_append]; simp [sumN]
theorem sumN_nonneg {l : List (Int × Int)} (h : ∀ c ∈ l, okC c) : 0 ≤ sumN l := by
  induction l with
  | nil => simp [sumN]
  | cons c r ih =>
    have := ih fun x hx => h x (List.mem_cons_of_mem _ hx)
    have h2 := h c (List.mem_cons_self ..)
    unfold okC at h2
    simp only [sumN, List.map_cons, List.sum_cons] at this ⊢; omega
theorem sumN_take_le {l : List (Int × Int)} (h : ∀ c ∈ l, okC c) (k : Nat) : sumN (l.take k) ≤ sumN l := by
  have e : sumN l = sumN (l.take k) + sumN (l.drop k) := by
    rw [sumN, sumN, sumN, ← List.sum_append, ← List.map_append, List.take_append_drop]
  have := sumN_nonneg (l := l.drop k) fun c hc => h c (List.mem_of_mem_drop hc)
  omega
theorem lenI_rng (p : Int) : 0 ≤ lenI p ∧ lenI p ≤ 1048576 := by
  unfold lenI
  by_cases h : good p
  · rw [if_pos h]
    have := size14 (n := p.toNat) (by have := h.2; omega)
    omega
  · rw [if_neg h]; omega
theorem lenI_ge {p : Int} (h : good p) : 2 ≤ lenI p := by
  obtain ⟨h1, h2⟩ := id h
  have := Nat.mul_le_mul (show 2 ≤ 64 - p.toNat by omega) (BkM.pow_pos' p.toNat)
  rw [lenI, if_pos h]; omega
theorem may_bad (w : World) (p : Int) (l : List (Int × Int)) (A : Option Addr) (cap : Nat) (hp : ¬ good p) :
    Calls Tryz.prog 118 #[.int .i64 p, .slice A l.length cap] w fun e w' => e = .returned (.int .i64 (mayE p l)) ∧ Below w.heap.size w w' := by
  have c := length_any p
  have e : lenI p = 0 := by simp [lenI, hp]
  rw [e] at c
  have e1 : mayE p l = 1 := by rw [mayE, if_pos hp]
  replace e1 := Lib.hid e1
  clear e
  go_enter Tryz.func118, Tryz.ntmps118
  go_wp2_with (first | (go_at_call 171; refine (c _).mono ?_; rintro e w' ⟨rfl, rfl⟩))
  go_ret
  exact ⟨ret_int e1.out.symm, Below.refl _ _⟩
set_option maxRecDepth 100000 in
set_option maxHeartbeats 1000000 in
theorem may_good (w : World) (B : Nat) (p : Int) (l : List (Int × Int)) (A : Option Addr) (cap : Nat) (hp : good p) (h : Cs w B A l) (hB : B ≤ w.heap.size) :
    Calls Tryz.prog 118 #[.int .i64 p, .slice A l.length cap] w fun e w' => e = .returned (.int .i64 (mayE p l)) ∧ Below w.heap.size w w' := by
  have hl := h.len
  unfold maxLen at hl
  have c := length_any p
  have n0 := lenI_ge hp
  have n1 := lenI_rng p
  obtain ⟨_, n1⟩ := n1
  have n2 : (lenI p == 0) = false := beq_eq_false_iff_ne.2 (by omega)
  have em : mayE p l = if chk p none l ≠ 0 then chk p none l else if 9223372036854775807 < sumN l then 3 else 0 := by rw [mayE, if_neg (by simpa using hp)]
  replace em := Lib.hid em
  replace hp := Lib.hid hp
  generalize hN : lenI p = N at *
  replace hN := Lib.hid hN
  go_enter Tryz.func118, Tryz.ntmps118
  go_wp2_with (first | (go_at_call 171; refine (c _).mono ?_; rintro e w' ⟨rfl, rfl⟩))
  go_loopw [17] (fun i wr => ∃ k : Nat, k ≤ l.length ∧ i = .int .i64 k ∧ At p l k ∧ Below w.heap.size w wr) (fun i _ => l.length - (intOf i).toNat)
  case atStart => exact ⟨0, Nat.zero_le _, rfl, At.zero _ _, Below.refl _ _⟩
  case round =>
    obtain ⟨k, hk, rfl, ha, hb⟩ := hrel
    replace ha := Lib.hid ha
    by_cases hlt : k < l.length
    · obtain ⟨b, off, rfl, hbB, hc⟩ := (h.below (hb.mono hB)).cells (by omega)
      obtain ⟨h1, h2⟩ := hc k l[k] (List.getElem?_eq_getElem hlt)
      have hok := h.ok l[k] (List.getElem_mem hlt)
      obtain ⟨o1, o2, o3, o4⟩ := hok
      by_cases r1 : l[k].1 < 0
      · have e := ha.out.range hlt (by omega)
        replace e := Lib.hid e
        clear hc
        go_wp2
        go_ret
        exact ⟨ret_int (by rw [em.out, e.out]; rfl), hb.alloc hb.size _⟩
      by_cases r2 : N ≤ l[k].1
      · have e := ha.out.range hlt (by rw [hN.out]; omega)
        replace e := Lib.hid e
        clear hc
        go_wp2
        go_ret
        exact ⟨ret_int (by rw [em.out, e.out]; rfl), hb.alloc hb.size _⟩
      have hks : k = 0 ∨ 0 < k := Nat.eq_zero_or_pos k
      have hq : 0 < k → ∃ q : Int × Int, l[k - 1]? = some q ∧ wr.cell? ⟨b, off + (k - 1) * 2, none⟩ = some (.int .i64 q.1) ∧ (l[k].1 ≤ q.1 → chk p none l = 15) ∧ (¬ l[k].1 ≤ q.1 → (l[k].2 = 0 → chk p none l = 16) ∧ (l[k].2 ≠ 0 → At p l (k + 1))) := fun h0 => by
        have hx : k - 1 < l.length := by omega
        refine ⟨l[k - 1], List.getElem?_eq_getElem hx, (hc (k - 1) _ (List.getElem?_eq_getElem hx)).1, fun hle => ha.out.order hlt (by omega) (by rw [hN.out]; omega) h0 hle, fun hn => ⟨fun h3 => ha.out.empty hlt (by omega) (by rw [hN.out]; omega) (fun _ => hn) h3, fun h3 => ha.out.next hlt (by omega) (by rw [hN.out]; omega) (fun _ => hn) h3⟩⟩
      have hz : k = 0 → (l[k].2 = 0 → chk p none l = 16) ∧ (l[k].2 ≠ 0 → At p l (k + 1)) := fun h0 =>
        ⟨fun h3 => ha.out.empty hlt (by omega) (by rw [hN.out]; omega) (fun h => absurd h (by omega)) h3, fun h3 => ha.out.next hlt (by omega) (by rw [hN.out]; omega) (fun h => absurd h (by omega)) h3⟩
      clear hc
      generalize l[k] = x at *
      obtain ⟨x1, x2⟩ := x
      simp only at h1 h2 o1 o2 o3 o4 r1 r2 hq hz
      rcases hks with hk0 | hk0
      · obtain ⟨hz1, hz2⟩ := hz hk0
        have hk0' : decide ((0 : Int) < (k : Int)) = false := decide_eq_false (by omega)
        have hk0'' : decide (0 < k) = false := decide_eq_false (by omega)
        clear hz hq hk0
        by_cases r3 : x2 = 0
        · have e := hz1 r3
          replace e := Lib.hid e
          have r3' : ((x2 : Int) == 0) = true := beq_iff_eq.2 r3
          clear r3 hz1 hz2
          go_wp2
          go_quiet (fail)
          go_wp2
          go_ret
          exact ⟨ret_int (by rw [em.out, e.out]; rfl), below_drewN (hb.alloc hb.size _) _⟩
        · have e := hz2 r3
          replace e := Lib.hid e
          have r3' : ((x2 : Int) == 0) = false := beq_eq_false_iff_ne.2 r3
          clear r3 hz1 hz2
          go_wp2
          go_quiet (fail)
          go_wp2
          exact ⟨⟨k + 1, by omega, by go_num, e.out, below_drewN (hb.alloc hb.size _) _⟩, by simp [intOf]; omega⟩
      · obtain ⟨⟨q1, q2⟩, hq1, hq2, hq3, hq4⟩ := hq hk0
        simp only at hq2 hq3 hq4
        have hk0' : decide ((0 : Int) < (k : Int)) = true := decide_eq_true (by omega)
        have hk0'' : decide (0 < k) = true := decide_eq_true (by omega)
        have hk1 : k - 1 < l.length := by omega
        have hbs : b < wr.heap.size := by have := hb.size; omega
        have hq2' : ∀ o : Obj, (wr.alloc o).cell? ⟨b, off + (k - 1) * 2, none⟩ = some (.int .i64 q1) := fun o => (World.cell?_alloc_lt wr o ⟨b, off + (k - 1) * 2, none⟩ hbs).trans hq2
        have w1 : IntKind.i64.wrap ((k : Int) - 1) = (k : Int) - 1 := IntWalk.i64_in _ (by omega)
        have w2 : (0 : Int) ≤ (k : Int) - 1 := by omega
        have w3 : ((k : Int) - 1).toNat = k - 1 := by omega
        have w4 : (k : Int) - 1 < (l.length : Int) := by omega
        clear hz hq hq1
        by_cases hle : x1 ≤ q1
        · have e := hq3 hle
          replace e := Lib.hid e
          clear hq3 hq4
          go_wp2
          go_quiet (fail)
          go_wp2
          go_ret
          exact ⟨ret_int (by rw [em.out, e.out]; rfl), below_drewN (hb.alloc hb.size _) _⟩
        · obtain ⟨hz1, hz2⟩ := hq4 hle
          clear hq3 hq4
          by_cases r3 : x2 = 0
          · have e := hz1 r3
            replace e := Lib.hid e
            have r3' : ((x2 : Int) == 0) = true := beq_iff_eq.2 r3
            clear r3 hz1 hz2
            go_wp2
            go_quiet (fail)
            go_wp2
            go_ret
            exact ⟨ret_int (by rw [em.out, e.out]; rfl), below_drewN (hb.alloc hb.size _) _⟩
          · have e := hz2 r3
            replace e := Lib.hid e
            have r3' : ((x2 : Int) == 0) = false := beq_eq_false_iff_ne.2 r3
            clear r3 hz1 hz2
            go_wp2
            go_quiet (fail)
            go_wp2
            exact ⟨⟨k + 1, by omega, by go_num, e.out, below_drewN (hb.alloc hb.size _) _⟩, by simp [intOf]; omega⟩
    · have e := ha.out.done (by omega)
      rw [e] at em
      replace em : mayE p l = if 9223372036854775807 < sumN l then 3 else 0 := em.out
      replace em := Lib.hid em
      replace e := Lib.hid e
      have hsn := sumN_nonneg h.ok
      replace hsn := Lib.hid hsn
      go_wp2_with fail
      go_loopw [8, 53] (fun r i wr => ∃ (k : Nat) (s : Int), k ≤ l.length ∧ i = .int .i64 k ∧ r = .int .u64 s ∧ 0 ≤ s ∧ s ≤ 9223372036854775807 ∧ Hid (sumN (l.take k) + s = 9223372036854775807) ∧ Below w.heap.size w wr) (fun _ i _ => l.length - (intOf i).toNat)
      case atStart => exact ⟨0, 9223372036854775807, Nat.zero_le _, rfl, rfl, by omega, by omega, by rw [List.take_zero]; exact rfl, hb⟩
      case round =>
        clear hk ha hb hlt
        obtain ⟨k, s, hk, rfl, rfl, s1, s2, s3, hb⟩ := hrel
        by_cases hlt : k < l.length
        · obtain ⟨b, off, rfl, hbB, hc⟩ := (h.below (hb.mono hB)).cells (by omega)
          obtain ⟨h1, h2⟩ := hc k l[k] (List.getElem?_eq_getElem hlt)
          have hok := h.ok l[k] (List.getElem_mem hlt)
          have hsn1 := sumN_snoc hlt
          have hsn2 := sumN_take_le h.ok (k + 1)
          clear hc
          generalize l[k] = x at *
          obtain ⟨x1, x2⟩ := x
          obtain ⟨o1, o2, o3, o4⟩ := hok
          simp only at h1 h2 o1 o2 o3 o4 hsn1
          by_cases hx : s < x2
          · have e3 : 9223372036854775807 < sumN l := by have := s3.out; omega
            replace e3 := Lib.hid e3
            replace hsn1 := Lib.hid hsn1; replace hsn2 := Lib.hid hsn2
            go_wp2
            go_ret
            exact ⟨ret_int (by rw [em.out, if_pos e3.out]), hb.alloc hb.size _⟩
          · have e4 : Hid (sumN (l.take (k + 1)) + (s - x2) = 9223372036854775807) := by have := s3.out; show _ = _; omega
            have e5 : 0 ≤ s - x2 := by omega
            replace hsn1 := Lib.hid hsn1; replace hsn2 := Lib.hid hsn2
            go_wp2
            exact ⟨⟨k + 1, s - x2, by omega, by go_num, rfl, by omega, by omega, e4, hb.alloc hb.size _⟩, by simp [intOf]; omega⟩
        · have e3 : ¬ 9223372036854775807 < sumN l := by
            have := s3.out
            rw [List.take_of_length_le (by omega)] at this; omega
          replace e3 := Lib.hid e3
          go_wp2
          go_ret
          exact ⟨ret_int (by rw [em.out, if_neg (by have := e3.out; omega)]), hb⟩
theorem may_any (w : World) (B : Nat) (p : Int) (l : List (Int × Int)) (A : Option Addr) (cap : Nat) (h : Cs w B A l) (hB : B ≤ w.heap.size) :
    Calls Tryz.prog 118 #[.int .i64 p, .slice A l.length cap] w fun e w' => e = .returned (.int .i64 (mayE p l)) ∧ Below w.heap.size w w' := by
  by_cases hp : good p
  · exact may_good w B p l A cap hp h hB
  · exact may_bad w p l A cap hp
end Go.Proofs.YtpiegngjpnpohaaGreat.Rk
