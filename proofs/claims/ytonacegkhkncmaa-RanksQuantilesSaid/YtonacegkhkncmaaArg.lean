/- Arguments that came in, as what the walks are told of them. -/
import Derived.Test.YtonacegkhkncmaaRkS
import Derived.ProofKit
import Derived.SizedLaws
import Derived.Deep.Slices
namespace Go.Proofs.Ytonacegkhkncmaa.Arg
open Go.RowKit Go.Proofs.Ytonacegkhkncmaa.Sl Go.Proofs.Ytonacegkhkncmaa.Rk Go.ChangeShapes Go.WideShapes
set_option linter.unusedVariables false

theorem add_spot {w : World} {a : Addr} {v : Value} (h : w.cell? a = some v) : a = ⟨a.block, a.off, none⟩ ∧ a.block < w.heap.size := by
  have h1 := World.cell?_spot h
  refine ⟨by cases a; simp at h1; simp [h1], ?_⟩
  unfold World.cell? at h
  cases hh : w.heap[a.block]? with
  | none => rw [hh] at h; simp at h
  | some o => exact (Array.getElem?_eq_some_iff.1 hh).1

theorem rd_ints {w : World} {a : Addr} {zs : List Int} {len : Nat} (hl : len ≤ zs.length) (hcell : ∀ i, i < zs.length → w.cell? (a.add i) = some (.int .i64 (zs.getD i 0))) : Rd w w.heap.size 1 (some a) (ic (zs.take len)) len := by
  refine ⟨by simp [ic]; omega, fun hn => ?_⟩
  have h0 := hcell 0 (by omega)
  simp only [Addr.add, if_true] at h0
  obtain ⟨ha, hb⟩ := add_spot h0
  refine ⟨a.block, a.off, by rw [← ha], hb, fun j u hu => ?_⟩
  unfold ic at hu
  rw [List.getElem?_map, List.getElem?_take] at hu
  by_cases hj : j < len
  · rw [if_pos hj, List.getElem?_eq_getElem (by omega)] at hu
    simp only [Option.map_some, Option.some.injEq] at hu
    have := hcell j (by omega)
    rw [ha] at this
    simp only [Addr.add] at this
    rw [List.getD_eq_getElem?_getD, List.getElem?_eq_getElem (by omega)] at this
    rw [← hu]
    by_cases hz : j = 0
    · subst hz; simpa using this
    · simpa [hz] using this
  · rw [if_neg hj] at hu; simp at hu
end Go.Proofs.Ytonacegkhkncmaa.Arg
