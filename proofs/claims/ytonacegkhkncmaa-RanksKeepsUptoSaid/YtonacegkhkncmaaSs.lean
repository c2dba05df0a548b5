/- append in a region that draws its order; rows of one's own beside others. -/
import Derived.Test.YtonacegkhkncmaaSl
namespace Go.Proofs.Ytonacegkhkncmaa.Sl
open Go.RowKit
set_option linter.unusedVariables false

section
variable {P : Program} {w : World}
/-- 'append(v, ys...)' at a step of a region that draws its order. -/
theorem step_append_rd {ops : Array Oper} {o : Oper} {a : Act} {K : Act → World → Prop} {Q : Exit → Act → World → Prop} {E : Prop} (hgd : o.guard = none) (x y : Operand) (t : TypeId)
    (ho : o.op = .call { callee := .builtin .append, args := #[x, y], argTypes := #[t, t] })
    (base : Nat) (e : TypeId) {i : TypeInfo} {z : Value} {s bytes : Nat} (ht : P.underlying t = some (.slice e)) (hi : P.info? e = some i) (hz : i.zero = some z)
    (hs : i.size = s) (hby : i.bytes = bytes) (hzs : z.cells.size = s) (hsz : 0 < s) {v : Value} {n : Nat} {xs : List Value} (hx : a.eval x = v) (h : w.ownsRow base e s v n xs)
    {A : Option Addr} {m c : Nat} {ys : List Value} (hy : a.eval y = .slice A m c) (hr : ∃ B, Rd w B s A ys m) (h1 : ∀ u ∈ ys, u.oneCell' = true) (h63 : n + m ≤ maxLen) (hb : (n + m) * bytes ≤ 140737488355328) (hbase : base ≤ w.heap.size)
    (hk : ∀ A' c' w', w'.ownsRow base e s (.slice A' (n + m) c') (n + m) (xs ++ ys) → w.grownBy w' v.ownBlock → w.heap.size ≤ w'.heap.size → K (a.put o.dst (.slice A' (n + m) c')) w') :
    if Region.wanted o (yielded ops a.tmps) = true then Oper.wp P o a w K Q else E := by
  obtain ⟨B, hr⟩ := hr
  have hw : Region.wanted o (yielded ops a.tmps) = true := by simp [Region.wanted, hgd]
  rw [if_pos hw]
  obtain ⟨v', w', x1, x2, x3, x4⟩ := run_append_rd base t o.type e ht hi hz hs hby hzs hsz h c hr h1 h63 hb hbase
  obtain ⟨A', c', rfl, _⟩ := own_form x2
  unfold Oper.wp execOp
  simp only [ho, resolve, invoke, builtin, Sem.run_bind, Sem.run_pure, Result.andThen_ok, List.map_toArray, List.map_cons, List.map_nil, hx, hy, x1]
  exact hk A' c' w' x2 x3 x3.size
/-- 'v = append(v, ys...)', in a walk; which block alone has turned. -/
theorem wpList_append_rg {ops : Array Oper} {rest : List Oper} {o : Oper} {a : Act} {Q : Exit → Act → World → Prop} (hgd : o.guard = none) (x y : Operand) (t : TypeId)
    (ho : o.op = .call { callee := .builtin .append, args := #[x, y], argTypes := #[t, t] })
    (base : Nat) (e : TypeId) {i : TypeInfo} {z : Value} {s bytes : Nat} (ht : P.underlying t = some (.slice e)) (hi : P.info? e = some i) (hz : i.zero = some z)
    (hs : i.size = s) (hby : i.bytes = bytes) (hzs : z.cells.size = s) (hsz : 0 < s) {v : Value} {n : Nat} {xs : List Value} (hx : a.eval x = v) (h : w.ownsRow base e s v n xs)
    {B : Nat} {A : Option Addr} {m c : Nat} {ys : List Value} (hy : a.eval y = .slice A m c) (hr : Rd w B s A ys m) (h1 : ∀ u ∈ ys, u.oneCell' = true) (h63 : n + m ≤ maxLen) (hb : (n + m) * bytes ≤ 140737488355328) (hbase : base ≤ w.heap.size)
    (hk : ∀ A' c' w', w'.ownsRow base e s (.slice A' (n + m) c') (n + m) (xs ++ ys) → w.grownBy w' v.ownBlock → ((Value.slice A' (n + m) c').ownBlock = v.ownBlock ∨ (Value.slice A' (n + m) c').ownBlock = some w.heap.size) → wpList P ops Q rest (a.put o.dst (.slice A' (n + m) c')) w') : wpList P ops Q (o :: rest) a w := by
  refine wpList_plain hgd fun _ hK => ?_
  obtain ⟨v', w', x1, x2, x3, x4⟩ := run_append_rd base t o.type e ht hi hz hs hby hzs hsz h c hr h1 h63 hb hbase
  obtain ⟨A', c', rfl, _⟩ := own_form x2
  unfold Oper.wp execOp
  simp only [ho, resolve, invoke, builtin, Sem.run_bind, Sem.run_pure, Result.andThen_ok, List.map_toArray, List.map_cons, List.map_nil, hx, hy, x1]
  exact hK _ _ (hk A' c' w' x2 x3 x4)
end
/-- Cells read stay through what writes another block. -/
theorem Rd.far {w w' : World} {B s n : Nat} {A : Option Addr} {xs : List Value} {row : Option Nat} (h : Rd w B s A xs n) (hg : w.grownBy w' row) (hB : B ≤ w.heap.size) (hne : ∀ g, A = some g → some g.block ≠ row) : Rd w' B s A xs n :=
  ⟨h.len, fun hn => by
    obtain ⟨b, off, e, h1, hc⟩ := h.cells hn
    refine ⟨b, off, e, h1, fun j u hu => ?_⟩
    exact hg.cell (a := ⟨b, off + j, none⟩) (hc j u hu) (show some b ≠ row from hne ⟨b, off, none⟩ e)⟩
end Go.Proofs.Ytonacegkhkncmaa.Sl
