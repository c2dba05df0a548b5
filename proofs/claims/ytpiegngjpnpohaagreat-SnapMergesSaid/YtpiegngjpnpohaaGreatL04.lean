/- Lemmas for the laws of this seat, laid together of LaC, Lc0, Lc1, LaD, LaE, Lc2, Lc4, Reg, Ck. -/
import Derived.Test.YtpiegngjpnpohaaGreatL00
import Derived.Test.YtpiegngjpnpohaaGreatL03
import Derived.Shelf.Strings.BuilderX
import Derived.Lib.AppendStr
import Derived.Lib.Builder
import Derived.WalkKit
import Derived.Laws.Externs
import Derived.ProofKit
import Derived.SizedLaws
import Derived.ChangeArms
import Derived.ChangeSame
import Derived.Lib.SmallJoins
import Derived.Below
import Derived.WalkSmall
import Derived.Handy
import Derived.BigQuiet
import Derived.Deep.QuietTactic
import Derived.Deep.DeepCutAuto

namespace Go.Proofs.YtpiegngjpnpohaaGreat.La
open Go.RowKit Go.Proofs.YtpiegngjpnpohaaGreat.Sl
set_option linter.unusedVariables false
structure Box (w : World) (N : Nat) (x : Lab) : Prop where
  lt : N < w.heap.size
  c0 : w.cell? ⟨N, 0, none⟩ = some (.string x.1)
  c1 : w.cell? ⟨N, 1, none⟩ = some (.string x.2)
  f0 : w.frozen? ⟨N, 0, none⟩ = false
  f1 : w.frozen? ⟨N, 1, none⟩ = false
theorem Box.only {w w' : World} {N g : Nat} {x : Lab} (h : Box w N x) (k : w.grownBy w' (some g)) (hne : N ≠ g) : Box w' N x :=
  ⟨Nat.lt_of_lt_of_le h.lt k.size, (k.cell_far _ h.lt (by simpa using hne)).trans h.c0, (k.cell_far _ h.lt (by simpa using hne)).trans h.c1,
    (k.frozen_far _ h.lt (by simpa using hne)).trans h.f0, (k.frozen_far _ h.lt (by simpa using hne)).trans h.f1⟩
theorem Box.new (w : World) (x : Lab) (t : TypeId) : Box (w.alloc (.cells #[.string x.1, .string x.2] t)) w.heap.size x := by
  refine ⟨by simp, ?_, ?_, ?_, ?_⟩ <;> go_cell
theorem Box.set {w : World} {N : Nat} {x : Lab} (h : Box w N x) (y : Lab) : Box ((w.setCell ⟨N, 0, none⟩ (.string y.1)).setCell ⟨N, 1, none⟩ (.string y.2)) N y := by
  obtain ⟨a, b0, b1, b2, b3⟩ := h
  exact ⟨by simpa using a, by go_cell, by go_cell, by go_cell, by go_cell⟩
end Go.Proofs.YtpiegngjpnpohaaGreat.La

namespace Go.Proofs.YtpiegngjpnpohaaGreat.La
open Go.RowKit Go.Proofs.YtpiegngjpnpohaaGreat.Sl
set_option linter.unusedVariables false
def cB (a b : ByteArray) : Int := Lib.compareBytes a.data.toList b.data.toList
def cmpLab (x y : Lab) : Int := if cB x.1 y.1 ≠ 0 then cB x.1 y.1 else cB x.2 y.2
def cmpLs : List Lab → List Lab → Int
  | [], [] => 0
  | [], _ :: _ => -1
  | _ :: _, [] => 1
  | x :: a, y :: b => if cmpLab x y ≠ 0 then cmpLab x y else cmpLs a b
structure Ord3 (α : Type) (c : α → α → Int) : Prop where
  range : ∀ a b, c a b = -1 ∨ c a b = 0 ∨ c a b = 1
  eq : ∀ a b, c a b = 0 ↔ a = b
  neg : ∀ a b, c b a = -(c a b)
  trans : ∀ a b d, c a b ≤ 0 → c b d ≤ 0 → c a d ≤ 0
theorem Ord3.zero {α : Type} {c : α → α → Int} (h : Ord3 α c) (a b d : α) (h1 : c a b ≤ 0) (h2 : c b d ≤ 0) : (c a b = 0 ∧ c b d = 0) ↔ c a d = 0 := by
  constructor
  · rintro ⟨x, y⟩; rw [(h.eq a b).1 x, (h.eq b d).1 y]; exact (h.eq d d).2 rfl
  · intro x
    obtain rfl := (h.eq a d).1 x
    have := h.neg a b
    constructor <;> omega
theorem Ord3.lex {α β : Type} {c : α → α → Int} {d : β → β → Int} (h : Ord3 α c) (k : Ord3 β d) : Ord3 (α × β) (fun x y => if c x.1 y.1 ≠ 0 then c x.1 y.1 else d x.2 y.2) := by
  refine ⟨fun a b => ?_, fun a b => ?_, fun a b => ?_, fun a b e => ?_⟩
  · split
    · exact h.range _ _
    · exact k.range _ _
  · split
    · rename_i x
      constructor
      · intro y; exact absurd y x
      · intro y; exact absurd ((h.eq _ _).2 (by rw [y])) x
    · rename_i x
      have x : c a.1 b.1 = 0 := by omega
      rw [k.eq, Prod.ext_iff, ← h.eq a.1 b.1]
      simp [x]
  · have e1 := h.neg a.1 b.1
    have e2 := k.neg a.2 b.2
    split <;> split <;> omega
  · have z := h.zero a.1 b.1 e.1
    have t1 := h.trans a.1 b.1 e.1
    have t2 := k.trans a.2 b.2 e.2
    split <;> split <;> split <;> intros <;> omega
theorem bytes_ord : Ord3 (List UInt8) Lib.compareBytes := by
  refine ⟨fun a => ?_, fun a => ?_, fun a => ?_, fun a => ?_⟩
  · induction a with
    | nil => intro b; cases b <;> simp [Lib.compareBytes]
    | cons x a ih =>
      intro b
      cases b with
      | nil => simp [Lib.compareBytes]
      | cons y b =>
        simp only [Lib.compareBytes]
        split
        · simp
        · split
          · simp
          · exact ih b
  · induction a with
    | nil => intro b; cases b <;> simp [Lib.compareBytes]
    | cons x a ih =>
      intro b
      cases b with
      | nil => simp [Lib.compareBytes]
      | cons y b =>
        simp only [Lib.compareBytes, List.cons.injEq]
        split
        · rename_i hlt
          constructor
          · intro h; omega
          · rintro ⟨rfl, _⟩; exact absurd hlt (UInt8.lt_irrefl _)
        · rename_i h1
          split
          · rename_i hlt
            constructor
            · intro h; omega
            · rintro ⟨rfl, _⟩; exact absurd hlt (UInt8.lt_irrefl _)
          · rename_i h2
            have hxy : x = y := UInt8.le_antisymm (UInt8.not_lt.1 h2) (UInt8.not_lt.1 h1)
            rw [ih b]; simp [hxy]
  · induction a with
    | nil => intro b; cases b <;> simp [Lib.compareBytes]
    | cons x a ih =>
      intro b
      cases b with
      | nil => simp [Lib.compareBytes]
      | cons y b =>
        simp only [Lib.compareBytes]
        by_cases h1 : x < y
        · have h2 : ¬ y < x := UInt8.not_lt.2 (UInt8.le_of_lt h1)
          rw [if_neg h2, if_pos h1, if_pos h1]; rfl
        · by_cases h2 : y < x
          · rw [if_pos h2, if_neg h1, if_pos h2]
          · rw [if_neg h2, if_neg h1, if_neg h1, if_neg h2]; exact ih b
  · induction a with
    | nil => intro b d; cases b <;> cases d <;> simp [Lib.compareBytes]
    | cons x a ih =>
      intro b d
      cases b with
      | nil => simp [Lib.compareBytes]
      | cons y b =>
        cases d with
        | nil => simp [Lib.compareBytes]
        | cons z d =>
          simp only [Lib.compareBytes]
          by_cases h1 : x < y
          · rw [if_pos h1]
            by_cases h2 : y < z
            · rw [if_pos h2, if_pos (UInt8.lt_trans h1 h2)]; omega
            · by_cases h3 : z < y
              · rw [if_neg h2, if_pos h3]; omega
              · have : y = z := UInt8.le_antisymm (UInt8.not_lt.1 h3) (UInt8.not_lt.1 h2)
                subst this
                rw [if_pos h1]; omega
          · by_cases h1' : y < x
            · rw [if_neg h1, if_pos h1']; omega
            · have : x = y := UInt8.le_antisymm (UInt8.not_lt.1 h1') (UInt8.not_lt.1 h1)
              subst this
              rw [if_neg h1, if_neg h1]
              split
              · omega
              · split
                · omega
                · exact ih b d
theorem cB_ord : Ord3 ByteArray cB := by
  have h := bytes_ord
  refine ⟨fun a b => h.range _ _, fun a b => ?_, fun a b => h.neg _ _, fun a b d => h.trans _ _ _⟩
  unfold cB
  rw [h.eq]
  constructor
  · intro e; exact ByteArray.ext (Array.toList_inj.1 e)
  · rintro rfl; rfl
theorem lab_ord : Ord3 Lab cmpLab := cB_ord.lex cB_ord
theorem labs_ord : Ord3 (List Lab) cmpLs := by
  have h := lab_ord
  refine ⟨fun a => ?_, fun a => ?_, fun a => ?_, fun a => ?_⟩
  · induction a with
    | nil => intro b; cases b <;> simp [cmpLs]
    | cons x a ih =>
      intro b
      cases b with
      | nil => simp [cmpLs]
      | cons y b =>
        simp only [cmpLs]
        split
        · exact h.range _ _
        · exact ih b
  · induction a with
    | nil => intro b; cases b <;> simp [cmpLs]
    | cons x a ih =>
      intro b
      cases b with
      | nil => simp [cmpLs]
      | cons y b =>
        simp only [cmpLs, List.cons.injEq]
        rw [← h.eq x y]
        split
        · rename_i z
          constructor
          · intro e; exact absurd e z
          · rintro ⟨e, _⟩; exact absurd e z
        · rename_i z
          rw [ih b]
          constructor
          · intro e; exact ⟨by omega, e⟩
          · exact fun e => e.2
  · induction a with
    | nil => intro b; cases b <;> simp [cmpLs]
    | cons x a ih =>
      intro b
      cases b with
      | nil => simp [cmpLs]
      | cons y b =>
        simp only [cmpLs]
        have e1 := h.neg x y
        have e2 := ih b
        split <;> split <;> omega
  · induction a with
    | nil => intro b d; cases b <;> cases d <;> simp [cmpLs]
    | cons x a ih =>
      intro b d
      cases b with
      | nil => simp [cmpLs]
      | cons y b =>
        cases d with
        | nil => simp [cmpLs]
        | cons z d =>
          simp only [cmpLs]
          have zz := h.zero x y z
          have t1 := h.trans x y z
          have t2 := ih b d
          split <;> split <;> split <;> intros <;> omega
end Go.Proofs.YtpiegngjpnpohaaGreat.La

namespace Go.Proofs.YtpiegngjpnpohaaGreat.La
open Go.RowKit Go.Proofs.YtpiegngjpnpohaaGreat.Sl
set_option linter.unusedVariables false
set_option maxHeartbeats 1000000 in
theorem cmp1_any (x y : Lab) (w : World) :
    Calls Tryz.prog 95 #[.agg #[.string x.1, .string x.2], .agg #[.string y.1, .string y.2]] w fun e w' => e = .returned (.int .i64 (cmpLab x y)) ∧ Below w.heap.size w w' := by
  have c1 := Tryz.strings_Compare x.1 y.1
  have c2 := Tryz.strings_Compare x.2 y.2
  rw [show Lib.compareBytes x.1.data.toList y.1.data.toList = cB x.1 y.1 from rfl] at c1
  rw [show Lib.compareBytes x.2.data.toList y.2.data.toList = cB x.2 y.2 from rfl] at c2
  unfold cmpLab
  have hb : ∀ o1 o2, Below w.heap.size w ((w.alloc o1).alloc o2) := fun o1 o2 => ((Below.refl _ w).alloc (Nat.le_refl _) _).alloc (by simp) _
  replace c1 := Lib.hid c1
  replace c2 := Lib.hid c2
  replace hb := Lib.hid hb
  by_cases h : cB x.1 y.1 ≠ 0
  · rw [if_pos h]
    have t : (cB x.1 y.1 != 0) = true := by simpa using h
    clear h
    go_enter Tryz.func95, Tryz.ntmps95
    go_wp2_with fail
    refine (c1.out _).mono ?_
    rintro e w' ⟨rfl, hw⟩
    rw [hw]; clear hw w'
    go_wp2
    go_ret
    exact ⟨rfl, hb.out _ _⟩
  · rw [if_neg h]
    have t : (cB x.1 y.1 != 0) = false := by simpa using h
    clear h
    go_enter Tryz.func95, Tryz.ntmps95
    go_wp2_with fail
    refine (c1.out _).mono ?_
    rintro e w' ⟨rfl, hw⟩
    rw [hw]; clear hw w'
    go_wp2_with fail
    refine (c2.out _).mono ?_
    rintro e w' ⟨rfl, hw⟩
    rw [hw]; clear hw w'
    go_wp2
    go_ret
    exact ⟨rfl, hb.out _ _⟩
theorem cmpLs_drop (l m : List Lab) (i : Nat) (hl : i < l.length) (hm : i < m.length) : cmpLs (l.drop i) (m.drop i) = if cmpLab l[i] m[i] ≠ 0 then cmpLab l[i] m[i] else cmpLs (l.drop (i + 1)) (m.drop (i + 1)) := by
  rw [List.drop_eq_getElem_cons hl, List.drop_eq_getElem_cons hm]; rfl
theorem cmpLs_more (l m : List Lab) (i : Nat) (hl : i < l.length) (hm : m.length ≤ i) : cmpLs (l.drop i) (m.drop i) = 1 := by
  rw [List.drop_eq_getElem_cons hl, List.drop_eq_nil_of_le hm]; rfl
theorem cmpLs_end (l m : List Lab) (i : Nat) (hl : i = l.length) (hm : i ≤ m.length) : cmpLs (l.drop i) (m.drop i) = if l.length < m.length then -1 else 0 := by
  rw [List.drop_eq_nil_of_le (by omega)]
  by_cases h : l.length < m.length
  · rw [if_pos h, List.drop_eq_getElem_cons (by omega)]; rfl
  · rw [if_neg h, List.drop_eq_nil_of_le (by omega)]; rfl
def natOf' : Value → Nat
  | .int _ n => n.toNat
  | _ => 0
theorem rd_lab {w : World} {B n : Nat} {A : Option Addr} {l : List Lab} (h : Rd w B 2 A (labs l) n) (i : Nat) (hi : i < l.length) (hn : n = l.length) : ∃ b off, A = some ⟨b, off, none⟩ ∧ b < B ∧ w.cell? ⟨b, off + i * 2, none⟩ = some (.string l[i].1) ∧ w.cell? ⟨b, off + i * 2 + 1, none⟩ = some (.string l[i].2) := by
  obtain ⟨b, off, e, hb, hc⟩ := h.cells (by omega)
  have := labs_get l i hi
  exact ⟨b, off, e, hb, hc _ _ this.1, hc _ _ this.2⟩
set_option maxRecDepth 100000 in
set_option maxHeartbeats 4000000 in
theorem cmpf_any {w : World} {c1 c2 : Nat} {A1 A2 : Option Addr} {l m : List Lab} (h1 : Rd w w.heap.size 2 A1 (labs l) l.length) (h2 : Rd w w.heap.size 2 A2 (labs m) m.length) (hl : l.length ≤ 9223372036854775807) (hm : m.length ≤ 9223372036854775807) :
    Calls Tryz.prog 94 #[.slice A1 l.length c1, .slice A2 m.length c2, .func (.func 95) #[] #[]] w fun e w' => e = .returned (.int .i64 (cmpLs l m)) ∧ Below w.heap.size w w' := by
  have hc := cmp1_any
  replace h1 := Lib.hid h1
  replace h2 := Lib.hid h2
  replace hc := Lib.hid hc
  go_enter Tryz.func94, Tryz.ntmps94
  go_wp2
  go_loopw [13] (fun v wr => ∃ i : Nat, v = .int .i64 i ∧ i ≤ l.length ∧ i ≤ m.length ∧ Hid (cmpLs (l.drop i) (m.drop i) = cmpLs l m) ∧ Below w.heap.size w wr) (fun v _ => l.length + 1 - natOf' v)
  case atStart => exact ⟨0, rfl, Nat.zero_le _, Nat.zero_le _, rfl, Below.refl _ _⟩
  case round =>
    obtain ⟨i, rfl, hi1, hi2, hq, hw⟩ := hrel
    have hq' := hq.out
    clear hq
    have g0 : (0 : Int) ≤ (i : Int) := by omega
    have gw : wrap64 (i : Int) = (i : Int) := by unfold wrap64; omega
    by_cases hlt : i < l.length
    · obtain ⟨b1, o1, rfl, hb1, x1, x2⟩ := rd_lab h1.out i hlt rfl
      have x1 := (hw.cell (p := ⟨b1, o1 + i * 2, none⟩) hb1).trans x1
      have x2 := (hw.cell (p := ⟨b1, o1 + i * 2 + 1, none⟩) hb1).trans x2
      have g1 : (i : Int) < (l.length : Int) := by omega
      by_cases hlt2 : i < m.length
      · rw [cmpLs_drop l m i hlt hlt2] at hq'
        obtain ⟨b2, o2, rfl, hb2, y1, y2⟩ := rd_lab h2.out i hlt2 rfl
        have y1 := fun o => ((hw.alloc hw.size o).cell (p := ⟨b2, o2 + i * 2, none⟩) hb2).trans y1
        have y2 := fun o => ((hw.alloc hw.size o).cell (p := ⟨b2, o2 + i * 2 + 1, none⟩) hb2).trans y2
        have g2 : (i : Int) < (m.length : Int) := by omega
        have g3 : ¬ (m.length : Int) ≤ (i : Int) := by omega
        have g4 : ¬ m.length ≤ i := by omega
        obtain ⟨p, hp⟩ : ∃ p, p = l[i] := ⟨_, rfl⟩
        obtain ⟨q, hqq⟩ : ∃ q, q = m[i] := ⟨_, rfl⟩
        rw [← hp] at x1 x2 hq'
        rw [← hqq] at y1 y2 hq'
        clear hp hqq
        have hwa : ∀ a1 a2, Below w.heap.size w ((wr.alloc a1).alloc a2) := fun a1 a2 => (hw.alloc hw.size a1).alloc (by simp; have := hw.size; omega) a2
        by_cases hz : cmpLab p q ≠ 0
        · rw [if_pos hz] at hq'
          have t : (cmpLab p q != 0) = true := by simpa using hz
          clear hz
          replace hq' := Lib.hid hq'
          replace hwa := Lib.hid hwa
          go_wp2_with fail
          refine (hc.out p q _).mono ?_
          rintro e w2 ⟨rfl, hw2⟩
          have hw3 := (hwa.out _ _).trans (hw2.mono (hwa.out _ _).size)
          go_wp2
          go_ret
          exact ⟨by rw [← hq'.out]; rfl, hw3⟩
        · rw [if_neg hz] at hq'
          have t : (cmpLab p q != 0) = false := by simpa using hz
          clear hz
          replace hq' := Lib.hid hq'
          replace hwa := Lib.hid hwa
          go_wp2_with fail
          refine (hc.out p q _).mono ?_
          rintro e w2 ⟨rfl, hw2⟩
          have hw3 := (hwa.out _ _).trans (hw2.mono (hwa.out _ _).size)
          go_wp2
          exact ⟨⟨i + 1, by simp, by omega, by omega, hq', hw3⟩, by simp [natOf']; omega⟩
      · rw [cmpLs_more l m i hlt (by omega)] at hq'
        have g3 : (m.length : Int) ≤ (i : Int) := by omega
        have g4 : m.length ≤ i := by omega
        replace hq' := Lib.hid hq'
        have hwa : ∀ a1, Below w.heap.size w (wr.alloc a1) := fun a1 => hw.alloc hw.size a1
        replace hwa := Lib.hid hwa
        go_wp2
        go_ret
        exact ⟨by rw [← hq'.out]; rfl, hwa.out _⟩
    · rw [cmpLs_end l m i (by omega) hi2] at hq'
      have g1 : ¬ (i : Int) < (l.length : Int) := by omega
      by_cases hs : l.length < m.length
      · rw [if_pos hs] at hq'
        have g2 : (l.length : Int) < (m.length : Int) := by omega
        replace hq' := Lib.hid hq'
        go_wp2
        go_ret
        exact ⟨by rw [← hq'.out]; rfl, hw⟩
      · rw [if_neg hs] at hq'
        have g2 : ¬ (l.length : Int) < (m.length : Int) := by omega
        replace hq' := Lib.hid hq'
        go_wp2
        go_ret
        exact ⟨by rw [← hq'.out]; rfl, hw⟩
end Go.Proofs.YtpiegngjpnpohaaGreat.La

namespace Go.Proofs.YtpiegngjpnpohaaGreat.La
open Go.RowKit Go.Proofs.YtpiegngjpnpohaaGreat.Sl
set_option linter.unusedVariables false
def lenOf : Value → Nat
  | .slice _ n _ => n
  | _ => 0
theorem Rdr.alloc {w : World} {g : Nat} {s : ByteArray} {p er bad : Int} (h : Rdr w g s p er bad) (o : Obj) : Rdr (w.alloc o) g s p er bad := h.stays (Below.alloc (Below.refl _ _) (Nat.le_refl _) o)
end Go.Proofs.YtpiegngjpnpohaaGreat.La

namespace Go.Proofs.YtpiegngjpnpohaaGreat.La
open Go.RowKit Go.Proofs.YtpiegngjpnpohaaGreat.Sl
set_option linter.unusedVariables false
theorem Rdr.new (w : World) (s : ByteArray) (t : TypeId) : Rdr (w.alloc (.cells #[.string s, .int .i64 0, .int .i64 0, .int .i64 0] t)) w.heap.size s ((0 : Nat) : Int) 0 0 := by
  refine ⟨by simp, ?_, ?_, ?_, ?_, ?_, ?_, ?_⟩ <;> go_cell
end Go.Proofs.YtpiegngjpnpohaaGreat.La

namespace Go.Proofs.YtpiegngjpnpohaaGreat.La
open Go.RowKit Go.Proofs.YtpiegngjpnpohaaGreat.Sl
set_option linter.unusedVariables false
structure DD where
  kind : Int
  name : ByteArray
  help : ByteArray
  A : Option Addr
  c : Nat
  l : List Lab
def DD.v (d : DD) : Value := .agg #[.int .i64 d.kind, .string d.name, .string d.help, .slice d.A d.l.length d.c]
structure DD.In (d : DD) (w : World) (B : Nat) : Prop where
  rd : Rd w B 2 d.A (labs d.l) d.l.length
  len : d.l.length ≤ 9223372036854775807
def cmpD (a b : DD) : Int := if cB a.name b.name ≠ 0 then cB a.name b.name else cmpLs a.l b.l
set_option maxRecDepth 100000 in
set_option maxHeartbeats 4000000 in
theorem compare_any {w : World} {B : Nat} (a b : DD) (ha : a.In w B) (hb : b.In w B) (hB : B ≤ w.heap.size) :
    Calls Tryz.prog 47 #[a.v, b.v] w fun e w' => e = .returned (.int .i64 (cmpD a b)) ∧ Below w.heap.size w w' := by
  obtain ⟨k1, n1, h1, A1, c1, l1⟩ := a
  obtain ⟨k2, n2, h2, A2, c2, l2⟩ := b
  obtain ⟨ra, la⟩ := ha
  obtain ⟨rb, lb⟩ := hb
  have cs := Tryz.strings_Compare n1 n2
  rw [show Lib.compareBytes n1.data.toList n2.data.toList = cB n1 n2 from rfl] at cs
  have hal : ∀ o1 o2, Below w.heap.size w ((w.alloc o1).alloc o2) := fun o1 o2 => ((Below.refl _ w).alloc (Nat.le_refl _) _).alloc (by simp) _
  have cf : ∀ o1 o2, Calls _ _ _ ((w.alloc o1).alloc o2) _ := fun o1 o2 => cmpf_any (c1 := c1) (c2 := c2) (((ra.mono hB).below (hal o1 o2)).mono (by simp; omega)) (((rb.mono hB).below (hal o1 o2)).mono (by simp; omega)) la lb
  unfold cmpD DD.v
  dsimp only at *
  replace cs := Lib.hid cs
  replace hal := Lib.hid hal
  replace cf := Lib.hid cf
  clear ra rb
  by_cases h : cB n1 n2 ≠ 0
  · rw [if_pos h]
    have t : (cB n1 n2 != 0) = true := by simpa using h
    clear h
    go_enter Tryz.func47, Tryz.ntmps47
    go_wp2_with fail
    refine (cs.out _).mono ?_
    rintro e w' ⟨rfl, hw⟩
    rw [hw]; clear hw w'
    go_wp2
    go_ret
    exact ⟨rfl, hal.out _ _⟩
  · rw [if_neg h]
    have t : (cB n1 n2 != 0) = false := by simpa using h
    clear h
    go_enter Tryz.func47, Tryz.ntmps47
    go_wp2_with fail
    refine (cs.out _).mono ?_
    rintro e w' ⟨rfl, hw⟩
    rw [hw]; clear hw w'
    go_wp2_with fail
    refine (cf.out _ _).mono ?_
    rintro e w' ⟨rfl, hw⟩
    go_wp2
    go_ret
    exact ⟨rfl, (hal.out _ _).trans (hw.mono (hal.out _ _).size)⟩
theorem cmpD_ord (a b : DD) : cmpD a b = (if cB (a.name, a.l).1 (b.name, b.l).1 ≠ 0 then cB (a.name, a.l).1 (b.name, b.l).1 else cmpLs (a.name, a.l).2 (b.name, b.l).2) := rfl
end Go.Proofs.YtpiegngjpnpohaaGreat.La

namespace Go.Proofs.YtpiegngjpnpohaaGreat.La
open Go.RowKit Go.Proofs.YtpiegngjpnpohaaGreat.Sl Go.ChangeShapes Go.WideShapes
set_option linter.unusedVariables false
set_option maxRecDepth 100000
theorem str_sizes {H : Type} {enc : TypeId × Value → H} {W : World} {base : Nat} {spare : Nat → Bool} {held : Bool} {m t : Nat} {c : Value} {y : DataW H × List MemPlace}
    (ht : Tryz.prog.underlying t = some .string) (h : DataW.trod enc Tryz.prog W base spare held m t [c] = some y) : ∃ s : ByteArray, c = .string s ∧ s.size ≤ maxLen ∧ y = (.lit (.string s.data.toList), []) := by
  obtain ⟨s, hs, hy, hl⟩ := DataW.trod_string ht h
  exact ⟨s, by simpa using hs, hl, hy⟩
def labD {H : Type} (x : Lab) : DataW H := .agg [.lit (.string x.1.data.toList), .lit (.string x.2.data.toList)]
theorem one_lab {H : Type} {enc : TypeId × Value → H} {W : World} {base : Nat} {spare : Nat → Bool} {held : Bool} {m : Nat} {cs : List Value} {y : DataW H × List MemPlace}
    (h : DataW.trod enc Tryz.prog W base spare held m 103 cs = some y) : ∃ x : Lab, cs = labV x ∧ (x.1.size ≤ maxLen ∧ x.2.size ≤ maxLen) ∧ y.1 = labD x := by
  obtain ⟨y0, y1, n, hy, hl, h0, h1⟩ := trod_struct2 Tryz.underlying103 h
  have hl2 : cs.length = 2 := hl.trans (by kernel_rfl)
  match cs, hl2 with
  | [c0, c1], _ =>
    obtain ⟨s0, rfl, z0, e0⟩ := str_sizes (by kernel_rfl) (show DataW.trod enc Tryz.prog W base spare held n _ [c0] = some y0 from h0)
    obtain ⟨s1, rfl, z1, e1⟩ := str_sizes (by kernel_rfl) (show DataW.trod enc Tryz.prog W base spare held n _ [c1] = some y1 from h1)
    exact ⟨(s0, s1), rfl, ⟨z0, z1⟩, by rw [hy, e0, e1]; rfl⟩
theorem pick_all {α : Type} {p : Nat → α → Prop} : ∀ n, (∀ i, i < n → ∃ x, p i x) → ∃ l : List α, l.length = n ∧ ∀ i (h : i < l.length), p i l[i]
  | 0, _ => ⟨[], rfl, fun i h => absurd h (by simp)⟩
  | n + 1, hp => by
    obtain ⟨l, hl, h⟩ := pick_all n (fun i hi => hp i (by omega))
    obtain ⟨x, hx⟩ := hp n (by omega)
    refine ⟨l ++ [x], by simp [hl], fun i hi => ?_⟩
    by_cases hi' : i < l.length
    · rw [List.getElem_append_left hi']; exact h i hi'
    · have hi2 : i = l.length := by simp at hi; omega
      subst hi2
      simp [hl, hx]
theorem labs_open {H : Type} {enc : TypeId × Value → H} {W : World} {base : Nat} {spare : Nat → Bool} {held : Bool} {m : Nat} {c : Value} {y : DataW H × List MemPlace}
    (h : DataW.trod enc Tryz.prog W base spare held m 36 [c] = some y) :
    ∃ (A : Option Addr) (cap : Nat) (l : List Lab), c = .slice A l.length cap ∧ Rd W W.heap.size 2 A (labs l) l.length ∧ l.length ≤ cap ∧ cap ≤ maxLen ∧ (∀ x ∈ l, x.1.size ≤ maxLen ∧ x.2.size ≤ maxLen) ∧ ((y.1 = .nil ∧ l = []) ∨ ∃ rest, y.1 = .slice (l.map labD) rest) := by
  rcases DataW.trod_slice Tryz.underlying36 h with ⟨hc, hy⟩ | ⟨a, len, cap, elems, rest, n, _, hc, hy, hb, hl, hm, hlen, hel, _, _⟩
  · obtain rfl : c = .slice none 0 0 := by simpa using hc
    exact ⟨none, 0, [], rfl, Rd.nil _ _ _ _, Nat.le_refl _, by decide, fun x hx => by simp at hx, .inl ⟨by rw [hy], rfl⟩⟩
  · obtain rfl : c = .slice (some a) len cap := by simpa using hc
    have hC : Tryz.prog.cellsOf 103 = 2 := by kernel_rfl
    rw [hC] at hel
    have key : ∀ i, i < len → ∃ x : Lab, (W.cell? (a.add (i * 2)) = some (.string x.1) ∧ W.cell? ((a.add (i * 2)).add 1) = some (.string x.2)) ∧ (x.1.size ≤ maxLen ∧ x.2.size ≤ maxLen) ∧ (elems.map (·.1))[i]? = some (labD x) := by
      intro i hi
      have he := hel i hi
      rw [List.getElem?_eq_getElem (by omega)] at he
      simp only [Option.bind_eq_some_iff] at he
      obtain ⟨cs, hcs, ht⟩ := he
      obtain ⟨x, rfl, z01, hd⟩ := one_lab ht
      have hcc := (World.cells?_some hcs).2.2
      refine ⟨x, ⟨?_, ?_⟩, z01, by rw [List.getElem?_map, List.getElem?_eq_getElem (by omega), Option.map_some, hd]⟩
      · have := hcc 0 (by omega)
        simpa [labV, Addr.add] using this
      · exact hcc 1 (by omega)
    obtain ⟨l, hll, hp⟩ := pick_all len key
    refine ⟨some a, cap, l, by rw [hll], ⟨labs_len l, fun hn => ?_⟩, by omega, hm, fun x hx => ?_, .inr ⟨rest.map (·.1), ?_⟩⟩
    · have h0 := (hp 0 hn).1.1
      have ha : a.add (0 * 2) = a := by simp [Addr.add]
      rw [ha] at h0
      have hsp := World.cell?_spot h0
      have hlt := World.block_lt_of_cell? W _ h0
      obtain ⟨ab, ao, at0⟩ := a
      simp only at hsp hlt
      subst hsp
      refine ⟨ab, ao, rfl, hlt, fun j u hu => ?_⟩
      have hj : j < (labs l).length := by
        rcases Nat.lt_or_ge j (labs l).length with hj | hj
        · exact hj
        · rw [List.getElem?_eq_none hj] at hu; cases hu
      rw [labs_len] at hj
      have hq : j / 2 < l.length := by omega
      have hg := labs_get l (j / 2) hq
      have hw := (hp (j / 2) hq).1
      rw [add_plain] at hw
      rw [add_plain] at hw
      rcases Nat.mod_two_eq_zero_or_one j with h2 | h2
      · have hj2 : j = j / 2 * 2 := by omega
        have := hg.1
        rw [← hj2, hu] at this
        obtain rfl : u = _ := by simpa using this
        have := hw.1
        rw [← hj2] at this
        exact this
      · have hj2 : j = j / 2 * 2 + 1 := by omega
        have := hg.2
        rw [← hj2, hu] at this
        obtain rfl : u = _ := by simpa using this
        have := hw.2
        rw [Nat.add_assoc, ← hj2] at this
        exact this
    · obtain ⟨i, hi, rfl⟩ := List.mem_iff_getElem.1 hx
      exact (hp i hi).2.1
    · have hE : elems.map (·.1) = l.map labD := by
        apply List.ext_getElem?
        intro i
        by_cases hi : i < l.length
        · rw [(hp i hi).2.2, List.getElem?_map, List.getElem?_eq_getElem hi]; rfl
        · rw [List.getElem?_eq_none (by simp; omega), List.getElem?_eq_none (by simp; omega)]
      rw [hy]
      show DataW.slice (elems.map (·.1)) _ = _
      rw [hE]
theorem labs_sized {H : Type} {d : DataW H} {l : List Lab} (hd : (d = .nil ∧ l = []) ∨ ∃ rest, d = .slice (l.map labD) rest) (hw : ∀ n ∈ d.weights Tryz.prog 36, n ≤ reachBytes) :
    l.length * 32 ≤ reachBytes ∧ ∀ x ∈ l, x.1.size ≤ reachBytes ∧ x.2.size ≤ reachBytes := by
  rcases hd with ⟨_, rfl⟩ | ⟨rest, rfl⟩
  · exact ⟨by simp, fun x hx => by simp at hx⟩
  · have hu : Tryz.prog.underlying 36 = some (.slice 103) := Tryz.underlying36
    have hu1 : Tryz.prog.underlying 103 = some (.struct _) := Tryz.underlying103
    rw [DataW.weights, hu] at hw
    simp only at hw
    have hB : Tryz.prog.bytesOf 103 = 32 := by kernel_rfl
    rw [hB] at hw
    constructor
    · have := hw _ (List.mem_cons_self ..)
      simp at this
      have h2 := Nat.mul_le_mul_right 32 (Nat.le_add_right l.length rest.length)
      omega
    · have hall : ∀ (m : List Lab), (∀ n ∈ DataW.weightsAll Tryz.prog 103 (m.map (labD (H := H))), n ≤ reachBytes) → ∀ x ∈ m, x.1.size ≤ reachBytes ∧ x.2.size ≤ reachBytes := by
        intro m
        induction m with
        | nil => intro _ x hx; simp at hx
        | cons y m ih =>
          intro hm x hx
          rw [List.map_cons, DataW.weightsAll] at hm
          have hy : DataW.weights Tryz.prog 103 (labD (H := H) y) = [y.1.data.toList.length, y.2.data.toList.length] := by
            unfold labD
            rw [DataW.weights, hu1]
            simp [DataW.weightsEach, DataW.weights]
          rw [hy] at hm
          rcases List.mem_cons.1 hx with e | e
          · subst e
            have h1 := hm x.1.data.toList.length (by simp)
            have h2 := hm x.2.data.toList.length (by simp)
            simp at h1 h2
            exact ⟨h1, h2⟩
          · exact ih (fun n hn => hm n (by simp [hn])) x e
      exact hall l (fun n hn => hw n (by simp [hn]))
end Go.Proofs.YtpiegngjpnpohaaGreat.La

namespace Go.Proofs.YtpiegngjpnpohaaGreat.Reg
open Go.RowKit
set_option linter.unusedVariables false
theorem region_below {P : Program} {id : Nat} {Q : Exit → Act → World → Prop} {a : Act} {w : World} {l : List Oper} (hm : P.follows .mixedOrders = true) (hB : Region.lexB .any l.toArray = true)
    (h : ∀ (S : Type) [Nonempty S] (f : S → World), (∀ s, Below w.heap.size w (f s)) → (∀ s w', Below (f s).heap.size (f s) w' → ∃ s', w' = f s') →
      wpQuiet P l.toArray (fun w' => ∃ s, w' = f s) (fun a' => ∀ s, Q .normal a' (f s)) l a) : (Code.region id l.toArray true).wp P Q a w := by
  refine wp_region_quiet (C := fun w' => ∃ s : { w' // Below w.heap.size w w' }, w' = s.1) hm hB ⟨⟨_, below_drewN (Below.refl _ w) 1⟩, rfl⟩ ?_
  have hne : Nonempty { w' // Below w.heap.size w w' } := ⟨⟨w, Below.refl _ w⟩⟩
  have hh := h { w' // Below w.heap.size w w' } Subtype.val (fun s => s.2) (fun s w' hb => ⟨⟨w', s.2.trans (hb.mono s.2.size)⟩, rfl⟩)
  have e : (fun a' => ∀ w', (∃ s : { w' // Below w.heap.size w w' }, w' = s.1) → Q .normal a' w') = (fun a' => ∀ s : { w' // Below w.heap.size w w' }, Q .normal a' s.1) := by
    funext a'
    apply propext
    constructor
    · intro g s; exact g _ ⟨s, rfl⟩
    · rintro g w' ⟨s, rfl⟩; exact g s
  rw [e]
  simpa using hh
theorem keepc {S : Type} {f : S → World} {w : World} {B g o : Nat} {v : Value} (hf : ∀ s, Below B w (f s)) (hg : g < B) (h : w.cell? ⟨g, o, none⟩ = some v) : ∀ s, (f s).cell? ⟨g, o, none⟩ = some v :=
  fun s => ((hf s).cell (p := ⟨g, o, none⟩) hg).trans h
theorem met {S : Type} {f : S → World} {P : Program} {k : FuncId} {args : Array Value} {v : Value} (hs : ∀ s w', Below (f s).heap.size (f s) w' → ∃ s', w' = f s') {s : S}
    (c : Calls P k args (f s) fun e w' => e = .returned v ∧ Below (f s).heap.size (f s) w') : Calls P k args (f s) fun e w' => e = .returned v ∧ ∃ s', w' = f s' :=
  c.mono fun _ _ ⟨he, hb⟩ => ⟨he, hs _ _ hb⟩
theorem metQ {S : Type} {f : S → World} {P : Program} {k : FuncId} {args : Array Value} {v : Value} (hs : ∀ s w', Below (f s).heap.size (f s) w' → ∃ s', w' = f s') {s : S}
    (c : Calls P k args (f s) fun e w' => e = .returned v ∧ ∃ n, w' = (f s).drewN n) : Calls P k args (f s) fun e w' => e = .returned v ∧ ∃ s', w' = f s' :=
  c.mono fun _ w' ⟨he, n, hb⟩ => ⟨he, hs s w' (hb ▸ below_drewN (Below.refl _ _) n)⟩
end Go.Proofs.YtpiegngjpnpohaaGreat.Reg

namespace Go.Proofs.YtpiegngjpnpohaaGreat.Ck
open Go.RowKit Go.Proofs.YtpiegngjpnpohaaGreat.La Go.Proofs.YtpiegngjpnpohaaGreat.Sl
set_option linter.unusedVariables false
def chkR (pre : List Lab) : List Lab → Int
  | [] => 0
  | x :: r => if lnameL x.1.data.toList = false then 9 else if valE x.2 ≠ 0 then valE x.2 else if behE pre x.1 ≠ 0 then behE pre x.1 else chkR (pre ++ [x]) r
def chkD (d : DD) : Int :=
  if d.kind ≠ 1 ∧ d.kind ≠ 2 ∧ d.kind ≠ 3 then 7 else if nameL d.name.data.toList = false then 9 else if valE d.help ≠ 0 then valE d.help else if 16 < d.l.length then 3 else chkR [] d.l
theorem chkR_drop (l : List Lab) (i : Nat) (h : i < l.length) : chkR (l.take i) (l.drop i) =
    if lnameL l[i].1.data.toList = false then 9 else if valE l[i].2 ≠ 0 then valE l[i].2 else if behE (l.take i) l[i].1 ≠ 0 then behE (l.take i) l[i].1 else chkR (l.take (i + 1)) (l.drop (i + 1)) := by
  rw [List.drop_eq_getElem_cons h, chkR, List.take_add_one, List.getElem?_eq_getElem h]
  rfl
theorem labs_take (l : List Lab) (i : Nat) : (labs l).take (i * 2) = labs (l.take i) := by
  induction l generalizing i with
  | nil => simp [labs]
  | cons x l ih =>
    cases i with
    | zero => simp [labs]
    | succ i =>
      have e : (i + 1) * 2 = i * 2 + 1 + 1 := by omega
      have := ih i
      unfold labs at *
      rw [e]
      simp [labV, this]
theorem rd_head {w : World} {B n i : Nat} {A : Option Addr} {l : List Lab} (h : Rd w B 2 A (labs l) n) (hn : n = l.length) (hi : i ≤ n) : Rd w B 2 A (labs (l.take i)) (l.take i).length := by
  have := h.take hi
  rw [labs_take] at this
  rw [List.length_take, Nat.min_eq_left (by omega)]
  exact this
set_option maxRecDepth 100000 in
set_option maxHeartbeats 8000000 in
theorem check_any {w : World} (d : DD) (hin : Rd w w.heap.size 2 d.A (labs d.l) d.l.length) (hc : d.l.length ≤ d.c) (hcm : d.c ≤ 9223372036854775807)
    (hnm : d.name.size ≤ 9223372036854775807) (hhp : d.help.size ≤ 9223372036854775807) (hlx : ∀ x ∈ d.l, x.1.size ≤ 9223372036854775807 ∧ x.2.size ≤ 9223372036854775807) :
    Calls Tryz.prog 45 #[d.v] w fun e w' => e = .returned (.int .i64 (chkD d)) ∧ Below w.heap.size w w' := by
  obtain ⟨k, nm, hp, A, c, l⟩ := d
  unfold chkD DD.v
  dsimp only at *
  have c1 := name_any nm hnm
  have c2 := value_any hp hhp
  obtain ⟨n, hn⟩ : ∃ n, n = l.length := ⟨_, rfl⟩
  have hin2 : ∀ o, Rd (w.alloc o) w.heap.size 2 A (labs l) n := fun o => by rw [hn]; exact hin.below ((Below.refl _ _).alloc (Nat.le_refl _) o)
  have hcI : (n : Int) ≤ (c : Int) := by omega
  have hcmI : (c : Int) ≤ 9223372036854775807 := by omega
  rw [← hn]
  replace c1 := Lib.hid c1
  replace c2 := Lib.hid c2
  replace hlx := Lib.hid hlx
  replace hn := Lib.hid hn
  replace hin2 := Lib.hid hin2
  clear hin hc hcm hnm hhp
  by_cases hk : k ≠ 1 ∧ k ≠ 2 ∧ k ≠ 3
  · rw [if_pos hk]
    obtain ⟨k1, k2, k3⟩ := hk
    have t1 : (k != 1) = true := by simpa using k1
    have t2 : (k != 2) = true := by simpa using k2
    have t3 : (k != 3) = true := by simpa using k3
    clear k1 k2 k3
    go_enter Tryz.func45, Tryz.ntmps45
    go_wp2
    go_ret
    exact ⟨rfl, (Below.refl _ _).alloc (Nat.le_refl _) _⟩
  · rw [if_neg hk]
    obtain ⟨res, hres⟩ : ∃ res, res = (if nameL nm.data.toList = false then 9 else if valE hp ≠ 0 then valE hp else if 16 < n then 3 else chkR [] l) := ⟨_, rfl⟩
    rw [← hres]
    replace hres := Lib.hid hres
    go_enter Tryz.func45, Tryz.ntmps45
    go_upto_region 1 with fail
    go_cut [8] (fun s8 wx => s8 = .bool false ∧ wx = w.alloc (.cells #[.int .i64 k, .string nm, .string hp, .slice A n c] 43))
    case first => as_aux_lemma =>
      have hk3 : k = 1 ∨ k = 2 ∨ k = 3 := by omega
      clear hk
      rcases hk3 with rfl | rfl | rfl
      all_goals
        go_wp2
        go_meet
        case rel => exact ⟨rfl, rfl⟩
    case rest => as_aux_lemma =>
      obtain ⟨rfl, hwc⟩ := hcut
      clear hk
      have bel0 : Below w.heap.size w wc := by rw [hwc]; exact (Below.refl _ _).alloc (Nat.le_refl _) _
      have hblk : wc.heap[w.heap.size]? = some (.cells #[.int .i64 k, .string nm, .string hp, .slice A n c] 43 (0, 0)) := by rw [hwc]; exact heap_alloc_new _ _
      have hrd := hin2.out (.cells #[.int .i64 k, .string nm, .string hp, .slice A n c] 43)
      rw [← hwc] at hrd
      have hwsz : w.heap.size < wc.heap.size := by rw [hwc]; simp
      clear hwc hin2
      have z1 : wc.cell? ⟨w.heap.size, 1, none⟩ = some (.string nm) := by rw [cell_of_row _ _ _ _ _ _ hblk]; rfl
      have z2 : wc.cell? ⟨w.heap.size, 2, none⟩ = some (.string hp) := by rw [cell_of_row _ _ _ _ _ _ hblk]; rfl
      have z3 : wc.cell? ⟨w.heap.size, 3, none⟩ = some (.slice A n c) := by rw [cell_of_row _ _ _ _ _ _ hblk]; rfl
      replace hblk := Lib.hid hblk
      replace hrd := Lib.hid hrd
      cases hnl : nameL nm.data.toList with
      | false =>
        rw [hnl] at c1
        have hres := hres.out
        rw [hnl, if_pos rfl] at hres
        subst hres
        go_wp2_with fail
        refine (c1.out _).mono ?_
        rintro e w' ⟨rfl, hw⟩
        rw [hw]; clear hw w'
        go_wp2
        go_ret
        exact ⟨rfl, bel0⟩
      | true =>
        rw [hnl] at c1
        have hres := hres.out
        rw [hnl, if_neg (by decide)] at hres
        go_wp2_with fail
        refine (c1.out _).mono ?_
        rintro e w' ⟨rfl, hw⟩
        rw [hw]; clear hw w' c1
        go_wp2_with fail
        refine (c2.out _).mono ?_
        rintro e w2 ⟨rfl, hb2⟩
        have bel2 := bel0.trans (hb2.mono (Nat.le_of_lt hwsz))
        have y3 := (hb2.cell (p := ⟨w.heap.size, 3, none⟩) hwsz).trans z3
        have hblk2 := Lib.hid ((hb2.block _ hwsz).trans hblk.out)
        have hrd2 := Lib.hid (hrd.out.below (hb2.mono (Nat.le_of_lt hwsz)))
        have hws2 : w.heap.size < w2.heap.size := Nat.lt_of_lt_of_le hwsz hb2.size
        clear z1 z2 z3 c2 hb2 hblk hrd bel0 hwsz
        obtain ⟨v, hv⟩ : ∃ v, v = valE hp := ⟨_, rfl⟩
        rw [← hv] at hres ⊢
        replace hv := Lib.hid hv
        by_cases hv0 : v ≠ 0
        · rw [if_pos hv0] at hres
          subst hres
          have t1 : (res != 0) = true := by simpa using hv0
          clear hv0
          go_wp2
          go_ret
          exact ⟨rfl, bel2⟩
        · rw [if_neg hv0] at hres
          have t1 : (v != 0) = false := by simpa using hv0
          clear hv0
          by_cases h16 : 16 < n
          · rw [if_pos h16] at hres
            subst hres
            have t2 : (16 : Int) < (n : Int) := by omega
            go_wp2
            go_ret
            exact ⟨rfl, bel2⟩
          · rw [if_neg h16] at hres
            replace hres := Lib.hid hres
            have t2 : ¬ (16 : Int) < (n : Int) := by omega
            go_wp2
            clear h16 hv t1
            have hnI : (n : Int) ≤ 16 := by omega
            have hn16 : n ≤ 16 := by omega
            go_loopw [40] (fun v wr => ∃ i : Nat, v = .int .i64 (i : Int) ∧ i ≤ n ∧ Hid (chkR (l.take i) (l.drop i) = res) ∧ Below (w.heap.size + 1) w2 wr) (fun v _ => n + 1 - natOf' v)
            case atStart => exact ⟨0, rfl, Nat.zero_le _, Lib.hid (by rw [hres.out]; rfl), Below.refl _ _⟩
            case round =>
              obtain ⟨i, rfl, hi, hck, hbr⟩ := hrel
              have hsr := hbr.size
              have y3 := (hbr.cell (p := ⟨w.heap.size, 3, none⟩) (Nat.lt_succ_self _)).trans y3
              have bel3 := bel2.trans (hbr.mono (Nat.le_succ _))
              by_cases hlt : i < n
              · have hil : i < l.length := by rw [← hn.out]; exact hlt
                obtain ⟨b0, off, hA, hb, q0, q1⟩ := rd_lab hrd2.out i hil hn.out
                subst hA
                obtain ⟨x, hx⟩ : ∃ x, x = l[i] := ⟨_, rfl⟩
                rw [← hx] at q0 q1
                have z0 := (hbr.cell (p := ⟨b0, off + i * 2, none⟩) (Nat.lt_succ_of_lt hb)).trans q0
                have z1 := (hbr.cell (p := ⟨b0, off + i * 2 + 1, none⟩) (Nat.lt_succ_of_lt hb)).trans q1
                have g0 : (0 : Int) ≤ (i : Int) := by omega
                have g1 : (i : Int) < (n : Int) := by omega
                have g2 : wrap64 (i : Int) = (i : Int) := by unfold wrap64; omega
                have g3 : (i : Int) ≤ (c : Int) := by omega
                have hxs := hlx.out x (by rw [hx]; exact List.getElem_mem hil)
                have c1 := lname_any x.1 hxs.1
                have c2 := value_any x.2 hxs.2
                clear hxs
                have hrh := rd_head hrd2.out hn.out (Nat.le_of_lt hlt)
                have hli : (l.take i).length = i := by rw [List.length_take]; omega
                have cb := fun (w3 : World) (k : Below (w.heap.size + 1) w2 w3) => behind_any (c := c) x.1 (hrh.below (k.mono (Nat.le_succ _))) (by rw [hli]; omega)
                rw [hli] at cb
                have hck' := hck.out
                rw [chkR_drop l i hil, ← hx] at hck'
                obtain ⟨e1, he1⟩ : ∃ e1, e1 = behE (l.take i) x.1 := ⟨_, rfl⟩
                obtain ⟨e2, he2⟩ : ∃ e2, e2 = valE x.2 := ⟨_, rfl⟩
                rw [← he1] at cb hck'
                rw [← he2] at c2 hck'
                have hlaX : (wr.alloc (.cells #[.string x.1, .string x.2] 103)).heap[wr.heap.size]? = some (.cells #[.string x.1, .string x.2] 103 (0, 0)) := heap_alloc_new _ _
                clear q0 q1 hx hrh hli he1 he2 hck hil
                replace c1 := Lib.hid c1
                replace c2 := Lib.hid c2
                replace cb := Lib.hid cb
                replace hck' := Lib.hid hck'
                replace hlaX := Lib.hid hlaX
                cases hln : lnameL x.1.data.toList with
                | false =>
                  have hr := hck'.out
                  rw [hln, if_pos rfl] at hr
                  subst hr
                  rw [hln] at c1
                  go_wp2_with fail
                  refine (c1.out _).mono ?_
                  rintro e w' ⟨rfl, hw⟩
                  rw [hw]; clear hw w'
                  go_wp2
                  go_ret
                  exact ⟨rfl, bel3.alloc (by omega) _⟩
                | true =>
                  have hr := hck'.out
                  rw [hln, if_neg (by decide)] at hr
                  rw [hln] at c1
                  replace hr := Lib.hid hr
                  clear hck'
                  go_wp2_with fail
                  refine (c1.out _).mono ?_
                  rintro e w' ⟨rfl, hw⟩
                  rw [hw]; clear hw w' c1
                  go_wp2_with fail
                  refine (c2.out _).mono ?_
                  rintro e w4 ⟨rfl, hb4⟩
                  simp only [World.size_alloc] at hb4
                  have hb4' : Below (w.heap.size + 1) w2 w4 := (hbr.alloc (by omega) _).trans (hb4.mono (by omega))
                  have x0 : w4.cell? ⟨wr.heap.size, 0, none⟩ = some (.string x.1) := by
                    rw [cell_of_row _ _ _ _ _ _ ((hb4.block wr.heap.size (Nat.lt_succ_self _)).trans hlaX.out)]; rfl
                  have y4 := (hb4.cell (p := ⟨w.heap.size, 3, none⟩) (by simp; omega)).trans ((World.cell?_alloc_past (w := wr) (.cells #[.string x.1, .string x.2] 103) w.heap.size 3 (by omega)).trans y3)
                  have bel4 := bel2.trans (hb4'.mono (Nat.le_succ _))
                  clear c2 hb4 y3 hbr bel3 z0 z1
                  by_cases he20 : e2 ≠ 0
                  · have hr := hr.out
                    rw [if_pos he20] at hr
                    subst hr
                    have t1 : (e2 != 0) = true := by simpa using he20
                    clear he20
                    go_wp2
                    go_ret
                    exact ⟨rfl, bel4⟩
                  · have hr := hr.out
                    rw [if_neg he20] at hr
                    have t1 : (e2 != 0) = false := by simpa using he20
                    clear he20
                    replace hr := Lib.hid hr
                    go_wp2
                    have hxl : wr.heap.size < w4.heap.size := World.block_lt_of_cell? w4 _ x0
                    have hw4 : w.heap.size < w4.heap.size := by omega
                    have cq := fun (w3 : World) (k : Below w4.heap.size w4 w3) => (cb.out w3 (hb4'.trans (k.mono (by omega)))).mono (R' := fun e w' => e = .returned (.int .i64 e1) ∧ Below w3.heap.size w3 w') (fun _ _ hh => ⟨hh.1, by rw [hh.2]; exact Below.refl _ _⟩)
                    replace cq := Lib.hid cq
                    clear cb
                    refine Reg.region_below (by kernel_rfl) (by kernel_rfl) ?_
                    intro Sx _ f hf hs
                    have y0 := Reg.keepc hf hw4 y4
                    have y1 := Reg.keepc hf hxl x0
                    have q1 := fun s => cq.out (f s) (hf s)
                    clear x0 y4 cq
                    repeat (go_big_quiet_step ((go_at_call 87; with_reducible exact Reg.met hs (q1 _))))
                    refine wpQuiet_nil ?_
                    intro s
                    have hb5 := hf s
                    obtain ⟨w5, hw5⟩ : ∃ w5, w5 = f s := ⟨_, rfl⟩
                    rw [← hw5] at hb5 ⊢
                    clear hw5 hs hf q1 y0 y1
                    have bel5 := bel4.trans (hb5.mono (Nat.le_of_lt hw4))
                    have hb5' := hb4'.trans (hb5.mono hw4)
                    by_cases he10 : e1 ≠ 0
                    · have hr := hr.out
                      rw [if_pos he10] at hr
                      subst hr
                      have t3 : (e1 != 0) = true := by simpa using he10
                      clear he10
                      go_wp2
                      go_ret
                      exact ⟨rfl, bel5⟩
                    · have hr := hr.out
                      rw [if_neg he10] at hr
                      have t3 : (e1 != 0) = false := by simpa using he10
                      clear he10
                      replace hr := Lib.hid hr
                      go_wp2
                      exact ⟨⟨i + 1, by simp, hlt, hr, hb5'⟩, by simp [natOf']; omega⟩
              · obtain rfl : i = n := by omega
                have hge : ¬ (i : Int) < (i : Int) := by omega
                have hr := hck.out
                rw [List.drop_of_length_le (by rw [← hn.out]; exact Nat.le_refl _)] at hr
                have hr0 : res = 0 := by rw [← hr]; rfl
                subst hr0
                clear hr hck
                go_wp2
                go_ret
                exact ⟨rfl, bel3⟩
end Go.Proofs.YtpiegngjpnpohaaGreat.Ck
