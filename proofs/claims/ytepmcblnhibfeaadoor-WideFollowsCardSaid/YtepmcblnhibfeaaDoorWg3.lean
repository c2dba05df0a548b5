/- The struct that WideFollows takes. -/
import Derived.Test.YtepmcblnhibfeaaDoorWg1
namespace Go.Proofs.YtepmcblnhibfeaaDoor.Wi
open Go.RowKit Go.ChangeShapes Go.WideShapes
set_option linter.unusedVariables false

set_option maxRecDepth 100000 in
theorem nested128 {H : Type} {enc : TypeId × Value → H} {W : World} {base n : Nat} {spare : Nat → Bool} {held : Bool} {c0 c1 : Value} {y : DataW H × List MemPlace}
    (h : DataW.trod enc Tryd.prog W base spare held n 25 [c0, c1] = some y) : ∃ a, In a ∧ c0 = .int .i64 (hiI a) ∧ c1 = .int .u64 (loI a) := by
  obtain ⟨y0, y1, m, _, _, h0, h1⟩ := trod_struct2 Tryd.underlying25 h
  have k2 : Tryd.prog.cellsOf 2 = 1 := by kernel_rfl
  have k23 : Tryd.prog.cellsOf 23 = 1 := by kernel_rfl
  replace h0 : DataW.trod enc Tryd.prog W base spare held m 2 [c0] = some y0 := by simpa [k2] using h0
  replace h1 : DataW.trod enc Tryd.prog W base spare held m 23 [c1] = some y1 := by simpa [k23] using h1
  obtain ⟨hi, ea, rfl, wa⟩ := DataW.trod_int Tryd.underlying2 h0
  obtain ⟨lo, eb, rfl, wb⟩ := DataW.trod_int Tryd.underlying23 h1
  simp only [List.cons.injEq, and_true] at ea eb
  obtain ⟨a, ha, e, _⟩ := mk128 (bounds_i64 wa) (bounds_u64 wb)
  unfold I128 at e
  injection e with e
  have e' := congrArg Array.toList e
  simp only [List.cons.injEq, and_true] at e'
  exact ⟨a, ha, ea.trans e'.1, eb.trans e'.2⟩

theorem nestedU {H : Type} {enc : TypeId × Value → H} {W : World} {base n : Nat} {spare : Nat → Bool} {held : Bool} {c : Value} {y : DataW H × List MemPlace}
    (h : DataW.trod enc Tryd.prog W base spare held n 23 [c] = some y) : ∃ x : Nat, x ≤ 18446744073709551615 ∧ c = .int .u64 (x : Int) := by
  obtain ⟨lo, eb, rfl, wb⟩ := DataW.trod_int Tryd.underlying23 h
  have hb := bounds_u64 wb
  obtain ⟨x, rfl⟩ := Int.eq_ofNat_of_zero_le hb.1
  simp only [List.cons.injEq, and_true] at eb
  exact ⟨x, by omega, eb⟩

theorem array7 {cs : Array Value} (h : cs.size = 7) : ∃ c0 c1 c2 c3 c4 c5 c6, cs = #[c0, c1, c2, c3, c4, c5, c6] := by
  rcases cs with ⟨l⟩
  match l, h with
  | [c0, c1, c2, c3, c4, c5, c6], _ => exact ⟨c0, c1, c2, c3, c4, c5, c6, rfl⟩

set_option maxRecDepth 100000 in
theorem openParts {H : Type} {enc : TypeId × Value → H} {W : World} {b0 base : Nat} {spare : Nat → Bool} {held : Bool} {r : Reach} {v : Value} {d : DataW H} {p : List MemPlace}
    (k : Value.okWide Tryd.prog W r b0 50 v) (h : DataW.Trod enc Tryd.prog W base spare held 50 v d p) :
    ∃ (a b : Int) (x y z : Nat), In a ∧ In b ∧ x ≤ 18446744073709551615 ∧ y ≤ 18446744073709551615 ∧ z ≤ 18446744073709551615 ∧
      v = .agg #[.int .i64 (hiI a), .int .u64 (loI a), .int .i64 (hiI b), .int .u64 (loI b), .int .u64 x, .int .u64 y, .int .u64 z] := by
  have k25 : Tryd.prog.cellsOf 25 = 2 := by kernel_rfl
  have k23 : Tryd.prog.cellsOf 23 = 1 := by kernel_rfl
  have k50 : Tryd.prog.cellsOf 50 = 7 := by kernel_rfl
  obtain ⟨cs, rfl, hsz⟩ := okWide_struct Tryd.underlying50 k
  rw [k50] at hsz
  obtain ⟨c0, c1, c2, c3, c4, c5, c6, rfl⟩ := array7 hsz
  obtain ⟨fuel, hf⟩ := h
  obtain ⟨xs, n, _, _, hl, hlen, hx⟩ := DataW.trod_struct Tryd.underlying50 hf
  match xs, hlen with
  | [y0, y1, y2, y3, y4], _ =>
    have e0 : DataW.trod enc Tryd.prog W base spare held n 25 [c0, c1] = some y0 := by
      have := hx 0 _ rfl
      simpa [Value.cells, k25] using this
    have e1 : DataW.trod enc Tryd.prog W base spare held n 25 [c2, c3] = some y1 := by
      have := hx 1 _ rfl
      simpa [Value.cells, k25] using this
    have e2 : DataW.trod enc Tryd.prog W base spare held n 23 [c4] = some y2 := by
      have := hx 2 _ rfl
      simpa [Value.cells, k23] using this
    have e3 : DataW.trod enc Tryd.prog W base spare held n 23 [c5] = some y3 := by
      have := hx 3 _ rfl
      simpa [Value.cells, k23] using this
    have e4 : DataW.trod enc Tryd.prog W base spare held n 23 [c6] = some y4 := by
      have := hx 4 _ rfl
      simpa [Value.cells, k23] using this
    obtain ⟨a, ha, rfl, rfl⟩ := nested128 e0
    obtain ⟨b, hb, rfl, rfl⟩ := nested128 e1
    obtain ⟨x, hx', rfl⟩ := nestedU e2
    obtain ⟨y, hy', rfl⟩ := nestedU e3
    obtain ⟨z, hz', rfl⟩ := nestedU e4
    exact ⟨a, b, x, y, z, ha, hb, hx', hy', hz', rfl⟩

end Go.Proofs.YtepmcblnhibfeaaDoor.Wi
