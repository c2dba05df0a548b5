/- Compare of descriptions. -/
import Derived.Test.YtgjcdhcbniholaaGreatLc1
import Derived.Test.YtgjcdhcbniholaaGreatLaG
namespace Go.Proofs.YtgjcdhcbniholaaGreat.La
open Go.RowKit Go.Proofs.YtgjcdhcbniholaaGreat.Sl
set_option linter.unusedVariables false

/-- A description that came in. -/
structure DD where
  kind : Int
  name : ByteArray
  help : ByteArray
  A : Option Addr
  c : Nat
  l : List Lab
def DD.v (d : DD) : Value := .agg #[.int .i64 d.kind, .string d.name, .string d.help, .slice d.A d.l.length d.c]
structure DD.In (d : DD) (w : World) (B : Nat) : Prop where
  rd : Rd w B 2 d.A (labs d.l) d.l.length
  len : d.l.length ≤ 9223372036854775807
def cmpD (a b : DD) : Int := if cB a.name b.name ≠ 0 then cB a.name b.name else cmpLs a.l b.l

set_option maxRecDepth 100000 in
set_option maxHeartbeats 4000000 in
theorem compare_any {w : World} {B : Nat} (a b : DD) (ha : a.In w B) (hb : b.In w B) (hB : B ≤ w.heap.size) :
    Calls Tryz.prog 15 #[a.v, b.v] w fun e w' => e = .returned (.int .i64 (cmpD a b)) ∧ Below w.heap.size w w' := by
  obtain ⟨k1, n1, h1, A1, c1, l1⟩ := a
  obtain ⟨k2, n2, h2, A2, c2, l2⟩ := b
  obtain ⟨ra, la⟩ := ha
  obtain ⟨rb, lb⟩ := hb
  have cs := Tryz.strings_Compare n1 n2
  rw [show Lib.compareBytes n1.data.toList n2.data.toList = cB n1 n2 from rfl] at cs
  have hal : ∀ o1 o2, Below w.heap.size w ((w.alloc o1).alloc o2) := fun o1 o2 => ((Below.refl _ w).alloc (Nat.le_refl _) _).alloc (by simp) _
  have cf : ∀ o1 o2, Calls _ _ _ ((w.alloc o1).alloc o2) _ := fun o1 o2 => cmpf_any (c1 := c1) (c2 := c2) (((ra.mono hB).below (hal o1 o2)).mono (by simp; omega)) (((rb.mono hB).below (hal o1 o2)).mono (by simp; omega)) la lb
  unfold cmpD DD.v
  dsimp only at *
  replace cs := Lib.hid cs
  replace hal := Lib.hid hal
  replace cf := Lib.hid cf
  clear ra rb
  by_cases h : cB n1 n2 ≠ 0
  · rw [if_pos h]
    have t : (cB n1 n2 != 0) = true := by simpa using h
    clear h
    go_enter Tryz.func15, Tryz.ntmps15
    go_wp2_with fail
    refine (cs.out _).mono ?_
    rintro e w' ⟨rfl, hw⟩
    rw [hw]; clear hw w'
    go_wp2
    go_ret
    exact ⟨rfl, hal.out _ _⟩
  · rw [if_neg h]
    have t : (cB n1 n2 != 0) = false := by simpa using h
    clear h
    go_enter Tryz.func15, Tryz.ntmps15
    go_wp2_with fail
    refine (cs.out _).mono ?_
    rintro e w' ⟨rfl, hw⟩
    rw [hw]; clear hw w'
    go_wp2_with fail
    refine (cf.out _ _).mono ?_
    rintro e w' ⟨rfl, hw⟩
    go_wp2
    go_ret
    exact ⟨rfl, (hal.out _ _).trans (hw.mono (hal.out _ _).size)⟩

theorem cmpD_ord (a b : DD) : cmpD a b = (if cB (a.name, a.l).1 (b.name, b.l).1 ≠ 0 then cB (a.name, a.l).1 (b.name, b.l).1 else cmpLs (a.name, a.l).2 (b.name, b.l).2) := rfl

end Go.Proofs.YtgjcdhcbniholaaGreat.La
