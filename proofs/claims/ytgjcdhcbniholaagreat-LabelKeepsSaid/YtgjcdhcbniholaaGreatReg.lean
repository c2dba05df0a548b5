/- A region that draws its order and whose calls make memory: one walk of the text's order, over the class of worlds in which what was there has not turned. -/
import Derived.WalkKit
import Derived.Below
import Derived.WalkSmall
import Derived.Handy
import Derived.BigQuiet
import Derived.Deep.QuietTactic
namespace Go.Proofs.YtgjcdhcbniholaaGreat.Reg
open Go.RowKit
set_option linter.unusedVariables false

theorem region_below {P : Program} {id : Nat} {Q : Exit → Act → World → Prop} {a : Act} {w : World} {l : List Oper} (hm : P.follows .mixedOrders = true) (hB : Region.lexB .any l.toArray = true)
    (h : ∀ (S : Type) [Nonempty S] (f : S → World), (∀ s, Below w.heap.size w (f s)) → (∀ s w', Below (f s).heap.size (f s) w' → ∃ s', w' = f s') →
      wpQuiet P l.toArray (fun w' => ∃ s, w' = f s) (fun a' => ∀ s, Q .normal a' (f s)) l a) : (Code.region id l.toArray true).wp P Q a w := by
  refine wp_region_quiet (C := fun w' => ∃ s : { w' // Below w.heap.size w w' }, w' = s.1) hm hB ⟨⟨_, below_drewN (Below.refl _ w) 1⟩, rfl⟩ ?_
  have hne : Nonempty { w' // Below w.heap.size w w' } := ⟨⟨w, Below.refl _ w⟩⟩
  have hh := h { w' // Below w.heap.size w w' } Subtype.val (fun s => s.2) (fun s w' hb => ⟨⟨w', s.2.trans (hb.mono s.2.size)⟩, rfl⟩)
  have e : (fun a' => ∀ w', (∃ s : { w' // Below w.heap.size w w' }, w' = s.1) → Q .normal a' w') = (fun a' => ∀ s : { w' // Below w.heap.size w w' }, Q .normal a' s.1) := by
    funext a'
    apply propext
    constructor
    · intro g s; exact g _ ⟨s, rfl⟩
    · rintro g w' ⟨s, rfl⟩; exact g s
  rw [e]
  simpa using hh

theorem keepc {S : Type} {f : S → World} {w : World} {B g o : Nat} {v : Value} (hf : ∀ s, Below B w (f s)) (hg : g < B) (h : w.cell? ⟨g, o, none⟩ = some v) : ∀ s, (f s).cell? ⟨g, o, none⟩ = some v :=
  fun s => ((hf s).cell (p := ⟨g, o, none⟩) hg).trans h

/-- A contract that keeps what was there, met in a world of the class. -/
theorem met {S : Type} {f : S → World} {P : Program} {k : FuncId} {args : Array Value} {v : Value} (hs : ∀ s w', Below (f s).heap.size (f s) w' → ∃ s', w' = f s') {s : S}
    (c : Calls P k args (f s) fun e w' => e = .returned v ∧ Below (f s).heap.size (f s) w') : Calls P k args (f s) fun e w' => e = .returned v ∧ ∃ s', w' = f s' :=
  c.mono fun _ _ ⟨he, hb⟩ => ⟨he, hs _ _ hb⟩
/-- .. that draws alone. -/
theorem metQ {S : Type} {f : S → World} {P : Program} {k : FuncId} {args : Array Value} {v : Value} (hs : ∀ s w', Below (f s).heap.size (f s) w' → ∃ s', w' = f s') {s : S}
    (c : Calls P k args (f s) fun e w' => e = .returned v ∧ ∃ n, w' = (f s).drewN n) : Calls P k args (f s) fun e w' => e = .returned v ∧ ∃ s', w' = f s' :=
  c.mono fun _ w' ⟨he, n, hb⟩ => ⟨he, hs s w' (hb ▸ below_drewN (Below.refl _ _) n)⟩

end Go.Proofs.YtgjcdhcbniholaaGreat.Reg
