/- Whole numbers of 128 bits, package wide: sums, differences, order, as laws over the integers. -/
import Derived.Test.YtepmcblnhibfeaaDoorProg
import Derived.WalkKit
import Derived.ProofKit
import Derived.Below
import Derived.Handy
import Derived.Laws.Externs
import Derived.Shelf.Spec.BitsCarry
namespace Go.Proofs.YtepmcblnhibfeaaDoor.Wi
open Go.RowKit
set_option linter.unusedVariables false

def loI (n : Int) : Int := n % 18446744073709551616
def hU (n : Int) : Int := n / 18446744073709551616 % 18446744073709551616
def hiI (n : Int) : Int := (n / 18446744073709551616 + 9223372036854775808) % 18446744073709551616 - 9223372036854775808
/-- The value of an integer, brought round at 2^128. -/
def I128 (n : Int) : Value := .agg #[.int .i64 (hiI n), .int .u64 (loI n)]
def cA (a b : Int) : Int := (loI a + loI b) / 18446744073709551616
def cB (a b : Int) : Int := (hU a + hU b + cA a b) / 18446744073709551616
def sA (a b : Int) : Int := if loI a < loI b then 1 else 0
def sB (a b : Int) : Int := if hU a < hU b + sA a b then 1 else 0

theorem wrap_hi (n : Int) : IntKind.u64.wrap (hiI n) = hU n := by rw [IntKind.wrap_u64]; unfold hiI hU; omega
theorem wrap_hU (n : Int) : IntKind.i64.wrap (hU n) = hiI n := by rw [IntKind.wrap_i64]; unfold hiI hU; omega

theorem run_add (x y c : Int) (hx : 0 ≤ x) (hy : 0 ≤ y) (h0 : 0 ≤ c) (h1 : c ≤ 1) (w : World) :
    (callFunc 37 #[.int .u64 x, .int .u64 y, .int .u64 c]).run Tryd.prog w =
      .ok (.value (.tuple #[.int .u64 ((x + y + c) % 18446744073709551616), .int .u64 ((x + y + c) / 18446744073709551616)])) w := by
  rw [run_callFunc_extern Tryd.func37 (by kernel_rfl) (by kernel_rfl) (by kernel_rfl) (e := add64Entry) (by kernel_rfl), run_add64 x y c hx hy h0 h1]
  rfl

theorem run_sub (x y b : Int) (hx : 0 ≤ x) (hx1 : x < 18446744073709551616) (hy : 0 ≤ y) (hy1 : y < 18446744073709551616) (h0 : 0 ≤ b) (h1 : b ≤ 1) (w : World) :
    (callFunc 38 #[.int .u64 x, .int .u64 y, .int .u64 b]).run Tryd.prog w =
      .ok (.value (.tuple #[.int .u64 ((x - y - b) % 18446744073709551616), .int .u64 (if x < y + b then 1 else 0)])) w := by
  obtain ⟨X, rfl⟩ := Int.eq_ofNat_of_zero_le hx
  obtain ⟨Y, rfl⟩ := Int.eq_ofNat_of_zero_le hy
  obtain ⟨B, rfl⟩ := Int.eq_ofNat_of_zero_le h0
  rw [run_callFunc_extern Tryd.func38 (by kernel_rfl) (by kernel_rfl) (by kernel_rfl) (e := sub64Entry) (by kernel_rfl), run_sub64 X Y B (by omega)]
  have e1 : (((X + 18446744073709551616 - Y - B) % 18446744073709551616 : Nat) : Int) = ((X : Int) - Y - B) % 18446744073709551616 := by omega
  have e2 : (((if X < Y + B then 1 else 0 : Nat)) : Int) = if (X : Int) < Y + B then 1 else 0 := by split <;> split <;> omega
  rw [e1, e2]; rfl

theorem add_lo (a b : Int) (w : World) : (callFunc 37 #[.int .u64 (loI a), .int .u64 (loI b), .int .u64 0]).run Tryd.prog w = .ok (.value (.tuple #[.int .u64 (loI (a + b)), .int .u64 (cA a b)])) w := by
  rw [run_add _ _ _ (by unfold loI; omega) (by unfold loI; omega) (by omega) (by omega)]
  have e1 : (loI a + loI b + 0) % 18446744073709551616 = loI (a + b) := by unfold loI; omega
  have e2 : (loI a + loI b + 0) / 18446744073709551616 = cA a b := by unfold cA; omega
  rw [e1, e2]

theorem add_hi (a b : Int) (w : World) : (callFunc 37 #[.int .u64 (hU a), .int .u64 (hU b), .int .u64 (cA a b)]).run Tryd.prog w = .ok (.value (.tuple #[.int .u64 (hU (a + b)), .int .u64 (cB a b)])) w := by
  rw [run_add _ _ _ (by unfold hU; omega) (by unfold hU; omega) (by unfold cA loI; omega) (by unfold cA loI; omega)]
  have e1 : (hU a + hU b + cA a b) % 18446744073709551616 = hU (a + b) := by unfold hU cA loI; omega
  rw [e1]; rfl

theorem sub_lo (a b : Int) (w : World) : (callFunc 38 #[.int .u64 (loI a), .int .u64 (loI b), .int .u64 0]).run Tryd.prog w = .ok (.value (.tuple #[.int .u64 (loI (a - b)), .int .u64 (sA a b)])) w := by
  rw [run_sub _ _ _ (by unfold loI; omega) (by unfold loI; omega) (by unfold loI; omega) (by unfold loI; omega) (by omega) (by omega)]
  have e1 : (loI a - loI b - 0) % 18446744073709551616 = loI (a - b) := by unfold loI; omega
  have e2 : (if loI a < loI b + 0 then 1 else 0 : Int) = sA a b := by rw [Int.add_zero]; rfl
  rw [e1, e2]

theorem sub_hi (a b : Int) (w : World) : (callFunc 38 #[.int .u64 (hU a), .int .u64 (hU b), .int .u64 (sA a b)]).run Tryd.prog w = .ok (.value (.tuple #[.int .u64 (hU (a - b)), .int .u64 (sB a b)])) w := by
  rw [run_sub _ _ _ (by unfold hU; omega) (by unfold hU; omega) (by unfold hU; omega) (by unfold hU; omega) (by unfold sA; split <;> omega) (by unfold sA; split <;> omega)]
  have e1 : (hU a - hU b - sA a b) % 18446744073709551616 = hU (a - b) := by unfold hU sA loI; split <;> omega
  rw [e1]; rfl

theorem add_any (a b : Int) (w : World) :
    Calls Tryd.prog 11 #[I128 a, I128 b] w fun e w' => e = .returned (I128 (a + b)) ∧ Below w.heap.size w w' := by
  have c1 := add_lo a b
  have c2 := add_hi a b
  have e1 := wrap_hi a
  have e2 := wrap_hi b
  have e3 := wrap_hU (a + b)
  unfold I128
  go_enter Tryd.func11, Tryd.ntmps11
  go_wp2
  go_returns
  exact ⟨rfl, by go_grown⟩


theorem sub_any (a b : Int) (w : World) :
    Calls Tryd.prog 13 #[I128 a, I128 b] w fun e w' => e = .returned (I128 (a - b)) ∧ Below w.heap.size w w' := by
  have c1 := sub_lo a b
  have c2 := sub_hi a b
  have e1 := wrap_hi a
  have e2 := wrap_hi b
  have e3 := wrap_hU (a - b)
  unfold I128
  go_enter Tryd.func13, Tryd.ntmps13
  go_wp2
  go_returns
  exact ⟨rfl, by go_grown⟩

theorem I128_zero : I128 0 = .agg #[.int .i64 0, .int .u64 0] := by simp [I128, hiI, loI]

/-- A block of two cells stands behind a call that leaves what was there. -/
theorem kept2 {B : Nat} {w w' : World} (b : Below B w w') {g : Nat} (x y : Value) (hg : g < B) (h0 : w.cell? ⟨g, 0, none⟩ = some x) (h1 : w.cell? ⟨g, 1, none⟩ = some y)
    (f0 : w.frozen? ⟨g, 0, none⟩ = false) (f1 : w.frozen? ⟨g, 1, none⟩ = false) :
    w'.cell? ⟨g, 0, none⟩ = some x ∧ w'.cell? ⟨g, 1, none⟩ = some y ∧ w'.frozen? ⟨g, 0, none⟩ = false ∧ w'.frozen? ⟨g, 1, none⟩ = false :=
  ⟨by rw [b.cell hg]; exact h0, by rw [b.cell hg]; exact h1, by rw [b.frozen hg]; exact f0, by rw [b.frozen hg]; exact f1⟩

/-- A whole struct of two cells stored: the block reads as what was stored. -/
theorem set2 {w : World} {g : Nat} {x y : Value} (h0 : w.cell? ⟨g, 0, none⟩ = some x) (h1 : w.cell? ⟨g, 1, none⟩ = some y) (u v : Value) :
    ((w.setCell ⟨g, 0, none⟩ u).setCell ⟨g, 1, none⟩ v).cell? ⟨g, 0, none⟩ = some u ∧ ((w.setCell ⟨g, 0, none⟩ u).setCell ⟨g, 1, none⟩ v).cell? ⟨g, 1, none⟩ = some v := by
  constructor
  · go_cell
  · go_cell

theorem joined {w w2 w' : World} (h : Below w.heap.size w w2) (b : Below w2.heap.size w2 w') : Below w.heap.size w w' := h.trans (b.mono h.size)

/-- A struct of two cells, read as the one result. -/
theorem ret2 {fn : Func} {p : Tmp} {g : Nat} {x y : Value} {tmps : Array Value} {w : World} (h : fn.results = #[.cell p 25]) (hp : tmps[p]?.getD undef = .pointer (some ⟨g, 0, none⟩))
    (h0 : w.cell? ⟨g, 0, none⟩ = some x) (h1 : w.cell? ⟨g, 1, none⟩ = some y) : (results fn tmps).run Tryd.prog w = .ok (.agg #[x, y]) w := by
  simp [results, h, hp, go_sem, h0, h1]

theorem neg_any (a : Int) (w : World) :
    Calls Tryd.prog 15 #[I128 a] w fun e w' => e = .returned (I128 (-a)) ∧ Below w.heap.size w w' := by
  have c := fun w => sub_any 0 a w
  rw [I128_zero] at c
  rw [show (0 : Int) - a = -a by omega] at c
  unfold I128 at c ⊢
  go_enter Tryd.func15, Tryd.ntmps15
  go_wp2_with fail
  refine (c _).mono ?_
  rintro e w' ⟨rfl, b⟩
  obtain ⟨k1, k2, k3, k4⟩ := kept2 b (g := w.heap.size + 1) (.int .i64 0) (.int .u64 0) (by go_size) (by go_cell) (by go_cell) (by go_cell) (by go_cell)
  obtain ⟨l1, l2⟩ := set2 k1 k2 (.int .i64 (hiI (-a))) (.int .u64 (loI (-a)))
  go_wp2
  try simp only [Exit.inBlock, Exit.then]
  have bw := joined (w := w) (by go_grown) b
  refine bodyPost_ret (ret2 rfl rfl l1 l2) rfl ?_
  exact ⟨rfl, by go_grown⟩

end Go.Proofs.YtepmcblnhibfeaaDoor.Wi
