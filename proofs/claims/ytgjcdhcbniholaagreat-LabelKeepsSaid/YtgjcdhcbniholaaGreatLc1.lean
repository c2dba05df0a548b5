/- Compare: the walk. -/
import Derived.Test.YtgjcdhcbniholaaGreatLc0
import Derived.Test.YtgjcdhcbniholaaGreatShelf
namespace Go.Proofs.YtgjcdhcbniholaaGreat.La
open Go.RowKit Go.Proofs.YtgjcdhcbniholaaGreat.Sl
set_option linter.unusedVariables false

set_option maxHeartbeats 1000000 in
theorem cmp1_any (x y : Lab) (w : World) :
    Calls Tryz.prog 37 #[.agg #[.string x.1, .string x.2], .agg #[.string y.1, .string y.2]] w fun e w' => e = .returned (.int .i64 (cmpLab x y)) ∧ Below w.heap.size w w' := by
  have c1 := Tryz.strings_Compare x.1 y.1
  have c2 := Tryz.strings_Compare x.2 y.2
  rw [show Lib.compareBytes x.1.data.toList y.1.data.toList = cB x.1 y.1 from rfl] at c1
  rw [show Lib.compareBytes x.2.data.toList y.2.data.toList = cB x.2 y.2 from rfl] at c2
  unfold cmpLab
  have hb : ∀ o1 o2, Below w.heap.size w ((w.alloc o1).alloc o2) := fun o1 o2 => ((Below.refl _ w).alloc (Nat.le_refl _) _).alloc (by simp) _
  replace c1 := Lib.hid c1
  replace c2 := Lib.hid c2
  replace hb := Lib.hid hb
  by_cases h : cB x.1 y.1 ≠ 0
  · rw [if_pos h]
    have t : (cB x.1 y.1 != 0) = true := by simpa using h
    clear h
    go_enter Tryz.func37, Tryz.ntmps37
    go_wp2_with fail
    refine (c1.out _).mono ?_
    rintro e w' ⟨rfl, hw⟩
    rw [hw]; clear hw w'
    go_wp2
    go_ret
    exact ⟨rfl, hb.out _ _⟩
  · rw [if_neg h]
    have t : (cB x.1 y.1 != 0) = false := by simpa using h
    clear h
    go_enter Tryz.func37, Tryz.ntmps37
    go_wp2_with fail
    refine (c1.out _).mono ?_
    rintro e w' ⟨rfl, hw⟩
    rw [hw]; clear hw w'
    go_wp2_with fail
    refine (c2.out _).mono ?_
    rintro e w' ⟨rfl, hw⟩
    rw [hw]; clear hw w'
    go_wp2
    go_ret
    exact ⟨rfl, hb.out _ _⟩

theorem cmpLs_drop (l m : List Lab) (i : Nat) (hl : i < l.length) (hm : i < m.length) : cmpLs (l.drop i) (m.drop i) = if cmpLab l[i] m[i] ≠ 0 then cmpLab l[i] m[i] else cmpLs (l.drop (i + 1)) (m.drop (i + 1)) := by
  rw [List.drop_eq_getElem_cons hl, List.drop_eq_getElem_cons hm]; rfl
theorem cmpLs_more (l m : List Lab) (i : Nat) (hl : i < l.length) (hm : m.length ≤ i) : cmpLs (l.drop i) (m.drop i) = 1 := by
  rw [List.drop_eq_getElem_cons hl, List.drop_eq_nil_of_le hm]; rfl
theorem cmpLs_end (l m : List Lab) (i : Nat) (hl : i = l.length) (hm : i ≤ m.length) : cmpLs (l.drop i) (m.drop i) = if l.length < m.length then -1 else 0 := by
  rw [List.drop_eq_nil_of_le (by omega)]
  by_cases h : l.length < m.length
  · rw [if_pos h, List.drop_eq_getElem_cons (by omega)]; rfl
  · rw [if_neg h, List.drop_eq_nil_of_le (by omega)]; rfl

def natOf' : Value → Nat
  | .int _ n => n.toNat
  | _ => 0

/-- A label's cells at its place. -/
theorem rd_lab {w : World} {B n : Nat} {A : Option Addr} {l : List Lab} (h : Rd w B 2 A (labs l) n) (i : Nat) (hi : i < l.length) (hn : n = l.length) : ∃ b off, A = some ⟨b, off, none⟩ ∧ b < B ∧ w.cell? ⟨b, off + i * 2, none⟩ = some (.string l[i].1) ∧ w.cell? ⟨b, off + i * 2 + 1, none⟩ = some (.string l[i].2) := by
  obtain ⟨b, off, e, hb, hc⟩ := h.cells (by omega)
  have := labs_get l i hi
  exact ⟨b, off, e, hb, hc _ _ this.1, hc _ _ this.2⟩

set_option maxRecDepth 100000 in
set_option maxHeartbeats 4000000 in
theorem cmpf_any {w : World} {c1 c2 : Nat} {A1 A2 : Option Addr} {l m : List Lab} (h1 : Rd w w.heap.size 2 A1 (labs l) l.length) (h2 : Rd w w.heap.size 2 A2 (labs m) m.length) (hl : l.length ≤ 9223372036854775807) (hm : m.length ≤ 9223372036854775807) :
    Calls Tryz.prog 36 #[.slice A1 l.length c1, .slice A2 m.length c2, .func (.func 37) #[] #[]] w fun e w' => e = .returned (.int .i64 (cmpLs l m)) ∧ Below w.heap.size w w' := by
  have hc := cmp1_any
  replace h1 := Lib.hid h1
  replace h2 := Lib.hid h2
  replace hc := Lib.hid hc
  go_enter Tryz.func36, Tryz.ntmps36
  go_wp2
  go_loopw [13] (fun v wr => ∃ i : Nat, v = .int .i64 i ∧ i ≤ l.length ∧ i ≤ m.length ∧ Hid (cmpLs (l.drop i) (m.drop i) = cmpLs l m) ∧ Below w.heap.size w wr) (fun v _ => l.length + 1 - natOf' v)
  case atStart => exact ⟨0, rfl, Nat.zero_le _, Nat.zero_le _, rfl, Below.refl _ _⟩
  case round =>
    obtain ⟨i, rfl, hi1, hi2, hq, hw⟩ := hrel
    have hq' := hq.out
    clear hq
    have g0 : (0 : Int) ≤ (i : Int) := by omega
    have gw : wrap64 (i : Int) = (i : Int) := by unfold wrap64; omega
    by_cases hlt : i < l.length
    · obtain ⟨b1, o1, rfl, hb1, x1, x2⟩ := rd_lab h1.out i hlt rfl
      have x1 := (hw.cell (p := ⟨b1, o1 + i * 2, none⟩) hb1).trans x1
      have x2 := (hw.cell (p := ⟨b1, o1 + i * 2 + 1, none⟩) hb1).trans x2
      have g1 : (i : Int) < (l.length : Int) := by omega
      by_cases hlt2 : i < m.length
      · rw [cmpLs_drop l m i hlt hlt2] at hq'
        obtain ⟨b2, o2, rfl, hb2, y1, y2⟩ := rd_lab h2.out i hlt2 rfl
        have y1 := fun o => ((hw.alloc hw.size o).cell (p := ⟨b2, o2 + i * 2, none⟩) hb2).trans y1
        have y2 := fun o => ((hw.alloc hw.size o).cell (p := ⟨b2, o2 + i * 2 + 1, none⟩) hb2).trans y2
        have g2 : (i : Int) < (m.length : Int) := by omega
        have g3 : ¬ (m.length : Int) ≤ (i : Int) := by omega
        have g4 : ¬ m.length ≤ i := by omega
        obtain ⟨p, hp⟩ : ∃ p, p = l[i] := ⟨_, rfl⟩
        obtain ⟨q, hqq⟩ : ∃ q, q = m[i] := ⟨_, rfl⟩
        rw [← hp] at x1 x2 hq'
        rw [← hqq] at y1 y2 hq'
        clear hp hqq
        have hwa : ∀ a1 a2, Below w.heap.size w ((wr.alloc a1).alloc a2) := fun a1 a2 => (hw.alloc hw.size a1).alloc (by simp; have := hw.size; omega) a2
        by_cases hz : cmpLab p q ≠ 0
        · rw [if_pos hz] at hq'
          have t : (cmpLab p q != 0) = true := by simpa using hz
          clear hz
          replace hq' := Lib.hid hq'
          replace hwa := Lib.hid hwa
          go_wp2_with fail
          refine (hc.out p q _).mono ?_
          rintro e w2 ⟨rfl, hw2⟩
          have hw3 := (hwa.out _ _).trans (hw2.mono (hwa.out _ _).size)
          go_wp2
          go_ret
          exact ⟨by rw [← hq'.out]; rfl, hw3⟩
        · rw [if_neg hz] at hq'
          have t : (cmpLab p q != 0) = false := by simpa using hz
          clear hz
          replace hq' := Lib.hid hq'
          replace hwa := Lib.hid hwa
          go_wp2_with fail
          refine (hc.out p q _).mono ?_
          rintro e w2 ⟨rfl, hw2⟩
          have hw3 := (hwa.out _ _).trans (hw2.mono (hwa.out _ _).size)
          go_wp2
          exact ⟨⟨i + 1, by simp, by omega, by omega, hq', hw3⟩, by simp [natOf']; omega⟩
      · rw [cmpLs_more l m i hlt (by omega)] at hq'
        have g3 : (m.length : Int) ≤ (i : Int) := by omega
        have g4 : m.length ≤ i := by omega
        replace hq' := Lib.hid hq'
        have hwa : ∀ a1, Below w.heap.size w (wr.alloc a1) := fun a1 => hw.alloc hw.size a1
        replace hwa := Lib.hid hwa
        go_wp2
        go_ret
        exact ⟨by rw [← hq'.out]; rfl, hwa.out _⟩
    · rw [cmpLs_end l m i (by omega) hi2] at hq'
      have g1 : ¬ (i : Int) < (l.length : Int) := by omega
      by_cases hs : l.length < m.length
      · rw [if_pos hs] at hq'
        have g2 : (l.length : Int) < (m.length : Int) := by omega
        replace hq' := Lib.hid hq'
        go_wp2
        go_ret
        exact ⟨by rw [← hq'.out]; rfl, hw⟩
      · rw [if_neg hs] at hq'
        have g2 : ¬ (l.length : Int) < (m.length : Int) := by omega
        replace hq' := Lib.hid hq'
        go_wp2
        go_ret
        exact ⟨by rw [← hq'.out]; rfl, hw⟩

end Go.Proofs.YtgjcdhcbniholaaGreat.La
