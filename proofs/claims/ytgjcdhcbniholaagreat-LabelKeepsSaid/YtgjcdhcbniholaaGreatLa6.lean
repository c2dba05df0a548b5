/- The reader: its block; fail, must. -/
import Derived.Test.YtgjcdhcbniholaaGreatLa5
import Derived.Deep.OwnRows
import Derived.OwnWalk
import Derived.Laws.AppendOwn
import Derived.Deep.Draws
namespace Go.Proofs.YtgjcdhcbniholaaGreat.La
open Go.RowKit
set_option linter.unusedVariables false

theorem only_drewN {a w : World} {row : Option Nat} (h : a.grownBy w row) (n : Nat) : a.grownBy (w.drewN n) row := ⟨h.os, h.tape, h.output, h.size, h.block⟩
theorem only_drew {a w : World} {row : Option Nat} (h : a.grownBy w row) : a.grownBy w.drew row := ⟨h.os, h.tape, h.output, h.size, h.block⟩
theorem only_alloc {a w : World} {row : Option Nat} (h : a.grownBy w row) (o : Obj) : a.grownBy (w.alloc o) row :=
  ⟨h.os, h.tape, h.output, Nat.le_trans h.size (by simp), fun i hi hne => (Below.heap_alloc w o i (Nat.lt_of_lt_of_le hi h.size)).trans (h.block i hi hne)⟩
theorem only_setCell {a w : World} {g : Nat} (h : a.grownBy w (some g)) {p : Addr} (hp : p.block = g ∨ a.heap.size ≤ p.block) (u : Value) : a.grownBy (w.setCell p u) (some g) :=
  ⟨h.os, h.tape, h.output, by simpa [World.setCell] using h.size, fun i hi hne => (Below.heap_setCell w p u i (by
    rintro rfl
    rcases hp with hp | hp
    · exact hne (by rw [hp])
    · omega)).trans (h.block i hi hne)⟩
theorem only_set {a w : World} {g : Nat} (h : a.grownBy w (some g)) (o : Nat) (u : Value) : a.grownBy (w.setCell ⟨g, o, none⟩ u) (some g) := only_setCell (p := ⟨g, o, none⟩) h (Or.inl rfl) u
theorem only_of_below {a w : World} (h : Below a.heap.size a w) (row : Option Nat) : a.grownBy w row := ⟨h.os, h.tape, h.output, h.size, fun i hi _ => h.block i hi⟩
theorem only_refl (a : World) (row : Option Nat) : a.grownBy a row := World.grownBy.refl a row
theorem only_trans {a b c : World} {row : Option Nat} (h : a.grownBy b row) (k : b.grownBy c row) : a.grownBy c row :=
  ⟨k.os.trans h.os, k.tape.trans h.tape, k.output.trans h.output, Nat.le_trans h.size k.size, fun i hi hne => (k.block i (Nat.lt_of_lt_of_le hi h.size) hne).trans (h.block i hi hne)⟩

/-- The reader's block. -/
structure Rdr (w : World) (g : Nat) (s : ByteArray) (p er bad : Int) : Prop where
  lt : g < w.heap.size
  c0 : w.cell? ⟨g, 0, none⟩ = some (.string s)
  c1 : w.cell? ⟨g, 1, none⟩ = some (.int .i64 p)
  c2 : w.cell? ⟨g, 2, none⟩ = some (.int .i64 er)
  c3 : w.cell? ⟨g, 3, none⟩ = some (.int .i64 bad)
  f1 : w.frozen? ⟨g, 1, none⟩ = false
  f2 : w.frozen? ⟨g, 2, none⟩ = false
  f3 : w.frozen? ⟨g, 3, none⟩ = false

theorem Rdr.stays {w w' : World} {g : Nat} {s : ByteArray} {p er bad : Int} (h : Rdr w g s p er bad) (l : Below w.heap.size w w') : Rdr w' g s p er bad :=
  ⟨Nat.lt_of_lt_of_le h.lt l.size, (l.cell h.lt).trans h.c0, (l.cell h.lt).trans h.c1, (l.cell h.lt).trans h.c2, (l.cell h.lt).trans h.c3, (l.frozen h.lt).trans h.f1, (l.frozen h.lt).trans h.f2, (l.frozen h.lt).trans h.f3⟩
theorem Rdr.drewN {w : World} {g : Nat} {s : ByteArray} {p er bad : Int} (h : Rdr w g s p er bad) (n : Nat) : Rdr (w.drewN n) g s p er bad := h.stays (below_drewN (Below.refl _ _) n)
theorem Rdr.set1 {w : World} {g : Nat} {s : ByteArray} {p er bad : Int} (h : Rdr w g s p er bad) (q : Int) : Rdr (w.setCell ⟨g, 1, none⟩ (.int .i64 q)) g s q er bad := by
  obtain ⟨a, b0, b1, b2, b3, b4, b5, b6⟩ := h
  exact ⟨by simpa using a, by go_cell, by go_cell, by go_cell, by go_cell, by go_cell, by go_cell, by go_cell⟩
theorem Rdr.set23 {w : World} {g : Nat} {s : ByteArray} {p er bad : Int} (h : Rdr w g s p er bad) (q r : Int) : Rdr ((w.setCell ⟨g, 2, none⟩ (.int .i64 q)).setCell ⟨g, 3, none⟩ (.int .i64 r)) g s p q r := by
  obtain ⟨a, b0, b1, b2, b3, b4, b5, b6⟩ := h
  exact ⟨by simpa using a, by go_cell, by go_cell, by go_cell, by go_cell, by go_cell, by go_cell, by go_cell⟩

theorem fail_any {w : World} {g : Nat} {s : ByteArray} {p er bad : Int} (h : Rdr w g s p er bad) (e : Int) (q : Int) :
    Calls Tryz.prog 49 #[.pointer (some ⟨g, 0, none⟩), .int .i64 e, .int .i64 q] w fun e' w' => e' = .returned (.bool false) ∧ Rdr w' g s p e q ∧ w.grownBy w' (some g) := by
  obtain ⟨a, b0, b1, b2, b3, b4, b5, b6⟩ := id h
  have h2 := h.set23 e q
  have h3 : w.grownBy ((w.setCell ⟨g, 2, none⟩ (.int .i64 e)).setCell ⟨g, 3, none⟩ (.int .i64 q)) (some g) := only_set (only_set (only_refl w _) 2 _) 3 _
  replace h2 := Lib.hid h2
  replace h3 := Lib.hid h3
  clear h
  go_enter Tryz.func49, Tryz.ntmps49
  go_wp2
  go_ret
  exact ⟨rfl, h2.out, h3.out⟩

/-- The byte is there: taken. -/
theorem must_yes {w : World} {g : Nat} {s : ByteArray} {p : Nat} {er bad : Int} (h : Rdr w g s p er bad) (c : UInt8) (hp : p < s.size) (hc : s[p] = c) (hs : s.size ≤ 140737488355328) :
    Calls Tryz.prog 50 #[.pointer (some ⟨g, 0, none⟩), .int .u8 (c.toNat : Int)] w fun e' w' => e' = .returned (.bool true) ∧ Rdr w' g s ((p + 1 : Nat) : Int) er bad ∧ w.grownBy w' (some g) := by
  obtain ⟨a, b0, b1, b2, b3, b4, b5, b6⟩ := id h
  have hc' : ((s[p].toNat : Int) != (c.toNat : Int)) = false := by rw [hc]; simp
  have hge : ¬ s.size ≤ p := by omega
  have hpI : (p : Int) ≤ 140737488355328 := by omega
  clear hs hc
  replace h := Lib.hid h
  go_enter Tryz.func50, Tryz.ntmps50
  go_wp2
  go_quiet (fail)
  go_wp2
  go_ret
  have h2 := (h.out.drewN nq).set1 ((p : Int) + 1)
  exact ⟨rfl, h2, only_set (only_drewN (only_refl w _) _) 1 _⟩

/-- It is not: noted. -/
theorem must_no {w : World} {g : Nat} {s : ByteArray} {p : Nat} {er bad : Int} (h : Rdr w g s p er bad) (c : UInt8) (hp : p ≤ s.size) (hc : ∀ h : p < s.size, s[p] ≠ c) (hs : s.size ≤ 140737488355328) :
    Calls Tryz.prog 50 #[.pointer (some ⟨g, 0, none⟩), .int .u8 (c.toNat : Int)] w fun e' w' => e' = .returned (.bool false) ∧ Rdr w' g s p 5 p ∧ w.grownBy w' (some g) := by
  obtain ⟨a, b0, b1, b2, b3, b4, b5, b6⟩ := id h
  by_cases hlt : p < s.size
  · have hc' : ((s[p].toNat : Int) != (c.toNat : Int)) = true := by
      rw [bne_iff_ne]; intro e; exact hc hlt (UInt8.toNat_inj.1 (by omega))
    have hge : ¬ s.size ≤ p := by omega
    have hpI : (p : Int) ≤ 140737488355328 := by omega
    clear hs hc
    replace h := Lib.hid h
    go_enter Tryz.func50, Tryz.ntmps50
    go_wp2
    go_quiet (fail)
    have hf := fail_any (h.out.drewN nq) 5 p
    go_wp2_with fail
    refine hf.mono ?_
    rintro e w' ⟨rfl, h2, h3⟩
    go_wp2
    go_ret
    exact ⟨rfl, h2, only_trans (only_drewN (only_refl w _) _) h3⟩
  · have hge : s.size ≤ p := by omega
    have hpI : (p : Int) ≤ 140737488355328 := by omega
    clear hs hc
    replace h := Lib.hid h
    go_enter Tryz.func50, Tryz.ntmps50
    go_wp2
    go_quiet (fail)
    have hf := fail_any (h.out.drewN nq) 5 p
    go_wp2_with fail
    refine hf.mono ?_
    rintro e w' ⟨rfl, h2, h3⟩
    go_wp2
    go_ret
    exact ⟨rfl, h2, only_trans (only_drewN (only_refl w _) _) h3⟩

end Go.Proofs.YtgjcdhcbniholaaGreat.La
