/- Compare: what it says, in plain Lean. -/
import Derived.Test.YtgjcdhcbniholaaGreatLaC
namespace Go.Proofs.YtgjcdhcbniholaaGreat.La
open Go.RowKit Go.Proofs.YtgjcdhcbniholaaGreat.Sl
set_option linter.unusedVariables false

def cB (a b : ByteArray) : Int := Lib.compareBytes a.data.toList b.data.toList
def cmpLab (x y : Lab) : Int := if cB x.1 y.1 ≠ 0 then cB x.1 y.1 else cB x.2 y.2
def cmpLs : List Lab → List Lab → Int
  | [], [] => 0
  | [], _ :: _ => -1
  | _ :: _, [] => 1
  | x :: a, y :: b => if cmpLab x y ≠ 0 then cmpLab x y else cmpLs a b

/-- An order: three answers, of two it tells the third. -/
structure Ord3 (α : Type) (c : α → α → Int) : Prop where
  range : ∀ a b, c a b = -1 ∨ c a b = 0 ∨ c a b = 1
  eq : ∀ a b, c a b = 0 ↔ a = b
  neg : ∀ a b, c b a = -(c a b)
  trans : ∀ a b d, c a b ≤ 0 → c b d ≤ 0 → c a d ≤ 0

theorem Ord3.zero {α : Type} {c : α → α → Int} (h : Ord3 α c) (a b d : α) (h1 : c a b ≤ 0) (h2 : c b d ≤ 0) : (c a b = 0 ∧ c b d = 0) ↔ c a d = 0 := by
  constructor
  · rintro ⟨x, y⟩; rw [(h.eq a b).1 x, (h.eq b d).1 y]; exact (h.eq d d).2 rfl
  · intro x
    obtain rfl := (h.eq a d).1 x
    have := h.neg a b
    constructor <;> omega

/-- Of two orders, first by the one, then by the other. -/
theorem Ord3.lex {α β : Type} {c : α → α → Int} {d : β → β → Int} (h : Ord3 α c) (k : Ord3 β d) : Ord3 (α × β) (fun x y => if c x.1 y.1 ≠ 0 then c x.1 y.1 else d x.2 y.2) := by
  refine ⟨fun a b => ?_, fun a b => ?_, fun a b => ?_, fun a b e => ?_⟩
  · split
    · exact h.range _ _
    · exact k.range _ _
  · split
    · rename_i x
      constructor
      · intro y; exact absurd y x
      · intro y; exact absurd ((h.eq _ _).2 (by rw [y])) x
    · rename_i x
      have x : c a.1 b.1 = 0 := by omega
      rw [k.eq, Prod.ext_iff, ← h.eq a.1 b.1]
      simp [x]
  · have e1 := h.neg a.1 b.1
    have e2 := k.neg a.2 b.2
    split <;> split <;> omega
  · have z := h.zero a.1 b.1 e.1
    have t1 := h.trans a.1 b.1 e.1
    have t2 := k.trans a.2 b.2 e.2
    split <;> split <;> split <;> intros <;> omega

theorem bytes_ord : Ord3 (List UInt8) Lib.compareBytes := by
  refine ⟨fun a => ?_, fun a => ?_, fun a => ?_, fun a => ?_⟩
  · induction a with
    | nil => intro b; cases b <;> simp [Lib.compareBytes]
    | cons x a ih =>
      intro b
      cases b with
      | nil => simp [Lib.compareBytes]
      | cons y b =>
        simp only [Lib.compareBytes]
        split
        · simp
        · split
          · simp
          · exact ih b
  · induction a with
    | nil => intro b; cases b <;> simp [Lib.compareBytes]
    | cons x a ih =>
      intro b
      cases b with
      | nil => simp [Lib.compareBytes]
      | cons y b =>
        simp only [Lib.compareBytes, List.cons.injEq]
        split
        · rename_i hlt
          constructor
          · intro h; omega
          · rintro ⟨rfl, _⟩; exact absurd hlt (UInt8.lt_irrefl _)
        · rename_i h1
          split
          · rename_i hlt
            constructor
            · intro h; omega
            · rintro ⟨rfl, _⟩; exact absurd hlt (UInt8.lt_irrefl _)
          · rename_i h2
            have hxy : x = y := UInt8.le_antisymm (UInt8.not_lt.1 h2) (UInt8.not_lt.1 h1)
            rw [ih b]; simp [hxy]
  · induction a with
    | nil => intro b; cases b <;> simp [Lib.compareBytes]
    | cons x a ih =>
      intro b
      cases b with
      | nil => simp [Lib.compareBytes]
      | cons y b =>
        simp only [Lib.compareBytes]
        by_cases h1 : x < y
        · have h2 : ¬ y < x := UInt8.not_lt.2 (UInt8.le_of_lt h1)
          rw [if_neg h2, if_pos h1, if_pos h1]; rfl
        · by_cases h2 : y < x
          · rw [if_pos h2, if_neg h1, if_pos h2]
          · rw [if_neg h2, if_neg h1, if_neg h1, if_neg h2]; exact ih b
  · induction a with
    | nil => intro b d; cases b <;> cases d <;> simp [Lib.compareBytes]
    | cons x a ih =>
      intro b d
      cases b with
      | nil => simp [Lib.compareBytes]
      | cons y b =>
        cases d with
        | nil => simp [Lib.compareBytes]
        | cons z d =>
          simp only [Lib.compareBytes]
          by_cases h1 : x < y
          · rw [if_pos h1]
            by_cases h2 : y < z
            · rw [if_pos h2, if_pos (UInt8.lt_trans h1 h2)]; omega
            · by_cases h3 : z < y
              · rw [if_neg h2, if_pos h3]; omega
              · have : y = z := UInt8.le_antisymm (UInt8.not_lt.1 h3) (UInt8.not_lt.1 h2)
                subst this
                rw [if_pos h1]; omega
          · by_cases h1' : y < x
            · rw [if_neg h1, if_pos h1']; omega
            · have : x = y := UInt8.le_antisymm (UInt8.not_lt.1 h1') (UInt8.not_lt.1 h1)
              subst this
              rw [if_neg h1, if_neg h1]
              split
              · omega
              · split
                · omega
                · exact ih b d

theorem cB_ord : Ord3 ByteArray cB := by
  have h := bytes_ord
  refine ⟨fun a b => h.range _ _, fun a b => ?_, fun a b => h.neg _ _, fun a b d => h.trans _ _ _⟩
  unfold cB
  rw [h.eq]
  constructor
  · intro e; exact ByteArray.ext (Array.toList_inj.1 e)
  · rintro rfl; rfl

theorem lab_ord : Ord3 Lab cmpLab := cB_ord.lex cB_ord

theorem labs_ord : Ord3 (List Lab) cmpLs := by
  have h := lab_ord
  refine ⟨fun a => ?_, fun a => ?_, fun a => ?_, fun a => ?_⟩
  · induction a with
    | nil => intro b; cases b <;> simp [cmpLs]
    | cons x a ih =>
      intro b
      cases b with
      | nil => simp [cmpLs]
      | cons y b =>
        simp only [cmpLs]
        split
        · exact h.range _ _
        · exact ih b
  · induction a with
    | nil => intro b; cases b <;> simp [cmpLs]
    | cons x a ih =>
      intro b
      cases b with
      | nil => simp [cmpLs]
      | cons y b =>
        simp only [cmpLs, List.cons.injEq]
        rw [← h.eq x y]
        split
        · rename_i z
          constructor
          · intro e; exact absurd e z
          · rintro ⟨e, _⟩; exact absurd e z
        · rename_i z
          rw [ih b]
          constructor
          · intro e; exact ⟨by omega, e⟩
          · exact fun e => e.2
  · induction a with
    | nil => intro b; cases b <;> simp [cmpLs]
    | cons x a ih =>
      intro b
      cases b with
      | nil => simp [cmpLs]
      | cons y b =>
        simp only [cmpLs]
        have e1 := h.neg x y
        have e2 := ih b
        split <;> split <;> omega
  · induction a with
    | nil => intro b d; cases b <;> cases d <;> simp [cmpLs]
    | cons x a ih =>
      intro b d
      cases b with
      | nil => simp [cmpLs]
      | cons y b =>
        cases d with
        | nil => simp [cmpLs]
        | cons z d =>
          simp only [cmpLs]
          have zz := h.zero x y z
          have t1 := h.trans x y z
          have t2 := ih b d
          split <;> split <;> split <;> intros <;> omega

end Go.Proofs.YtgjcdhcbniholaaGreat.La
