/- Counts that came in; a struct of one-cell fields that came in, however many. -/
import Derived.Test.YtonacegkhkncmaaRk0
import Derived.Test.YtonacegkhkncmaaRows
import Derived.ProofKit
import Derived.SizedLaws
import Derived.ChangeArms
import Derived.ChangeSame
import Derived.Lib.SmallJoins
import Derived.OpenShut
namespace Go.Proofs.Ytonacegkhkncmaa.Ao
open Go.RowKit Go.ChangeShapes Go.WideShapes Go.Deep Go.Proofs.Ytonacegkhkncmaa.Rk
set_option linter.unusedVariables false
set_option maxRecDepth 100000

section
variable {H : Type} {enc : TypeId × Value → H} {W : World} {base : Nat} {spare : Nat → Bool} {held : Bool}
/-- A struct by value, its fields of one cell each. -/
theorem fields_open {P : Program} {r : Reach} {b0 : Nat} {t : TypeId} {fs : Array Field} {v : Value} {d : DataW H} {p : List MemPlace} (hs : P.underlying t = some (.struct fs)) (hone : oneCellFields P fs = true) (hC : P.cellsOf t = fs.size)
    (hv : Value.okWide P W r b0 t v) (h : DataW.Trod enc P W base spare held t v d p) :
    ∃ (cs : List Value) (ys : List (DataW H × List MemPlace)) (n : Nat), v = .agg cs.toArray ∧ d = .agg (ys.map (·.1)) ∧ cs.length = fs.size ∧ ys.length = fs.size ∧
      ∀ (j : Nat) (f : Field), fs[j]? = some f → ∃ (c : Value) (y : DataW H × List MemPlace), cs[j]? = some c ∧ ys[j]? = some y ∧ DataW.trod enc P W base spare held n f.type [c] = some y := by
  obtain ⟨⟨cs⟩, rfl, hsz⟩ := okWide_struct hs hv
  obtain ⟨fuel, hf⟩ := h
  obtain ⟨ys, n, _, hx, _, hlen, hg⟩ := DataW.trod_struct hs hf
  simp only [Prod.mk.injEq] at hx
  have hl : cs.length = fs.size := by rw [← hC, ← hsz]; rfl
  refine ⟨cs, ys, n, rfl, hx.1, hl, hlen, fun j f hj => ?_⟩
  obtain ⟨ho, hk⟩ := hone_of hone j f hj
  have hjl : j < fs.size := (Array.getElem?_eq_some_iff.1 hj).1
  have h1 := hg j f hj
  rw [ho, hk] at h1
  have e : ((Value.agg cs.toArray).cells.toList.drop j).take 1 = [cs[j]'(by omega)] := by
    simp only [Value.cells]
    rw [List.drop_eq_getElem_cons (by omega)]
    rfl
  rw [e] at h1
  exact ⟨_, ys[j]'(by omega), List.getElem?_eq_getElem (by omega), List.getElem?_eq_getElem (by omega), h1.trans (List.getElem?_eq_getElem (by omega))⟩

theorem pick_all {α : Type} {p : Nat → α → Prop} : ∀ n, (∀ i, i < n → ∃ x, p i x) → ∃ l : List α, l.length = n ∧ ∀ i (h : i < l.length), p i l[i]
  | 0, _ => ⟨[], rfl, fun i h => absurd h (by simp)⟩
  | n + 1, hp => by
    obtain ⟨l, hl, h⟩ := pick_all n (fun i hi => hp i (by omega))
    obtain ⟨x, hx⟩ := hp n (by omega)
    refine ⟨l ++ [x], by simp [hl], fun i hi => ?_⟩
    by_cases hi' : i < l.length
    · rw [List.getElem_append_left hi']; exact h i hi'
    · have hi2 : i = l.length := by simp at hi; omega
      subst hi2
      simp [hl, hx]
theorem add_plain (b o k : Nat) : (⟨b, o, none⟩ : Addr).add k = ⟨b, o + k, none⟩ := by
  unfold Addr.add
  by_cases h : k = 0
  · simp [h]
  · simp [h]

/-- A count, as data. -/
def cntD {H : Type} (x : Int × Int) : DataW H := .agg [.lit (.int .i64 x.1), .lit (.int .u64 x.2)]
theorem one_cnt {m : Nat} {cs : List Value} {y : DataW H × List MemPlace} (h : DataW.trod enc Try.prog W base spare held m 55 cs = some y) :
    ∃ x : Int × Int, cs = [.int .i64 x.1, .int .u64 x.2] ∧ okC x ∧ y.1 = cntD x := by
  obtain ⟨y0, y1, n, hy, hl, h0, h1⟩ := trod_struct2 Try.underlying55 h
  have hl2 : cs.length = 2 := hl.trans (by kernel_rfl)
  match cs, hl2 with
  | [c0, c1], _ =>
    obtain ⟨a, e0, z0, b0⟩ := DataW.trod_int (k := .i64) (by kernel_rfl) (show DataW.trod enc Try.prog W base spare held n _ [c0] = some y0 from h0)
    obtain ⟨b, e1, z1, b1⟩ := DataW.trod_int (k := .u64) (by kernel_rfl) (show DataW.trod enc Try.prog W base spare held n _ [c1] = some y1 from h1)
    obtain rfl : c0 = .int .i64 a := by simpa using e0
    obtain rfl : c1 = .int .u64 b := by simpa using e1
    have := bounds_i64 b0
    have := bounds_u64 b1
    exact ⟨(a, b), rfl, by unfold okC; simp only; omega, by rw [hy, z0, z1]; rfl⟩
/-- A list of counts that came in. -/
theorem cnts_open {m : Nat} {c : Value} {y : DataW H × List MemPlace} (h : DataW.trod enc Try.prog W base spare held m 36 [c] = some y) :
    ∃ (A : Option Addr) (cap : Nat) (l : List (Int × Int)), c = .slice A l.length cap ∧ Cs W W.heap.size A l ∧ l.length ≤ cap ∧ cap ≤ maxLen ∧ ((y.1 = .nil ∧ l = []) ∨ ∃ rest, y.1 = .slice (l.map cntD) rest) := by
  rcases DataW.trod_slice Try.underlying36 h with ⟨hc, hy⟩ | ⟨a, len, cap, elems, rest, n, _, hc, hy, hb, hl, hm, hlen, hel, _, _⟩
  · obtain rfl : c = .slice none 0 0 := by simpa using hc
    exact ⟨none, 0, [], rfl, ⟨by decide, fun x hx => by simp at hx, fun h => absurd h (by simp)⟩, Nat.le_refl _, by decide, .inl ⟨by rw [hy], rfl⟩⟩
  · obtain rfl : c = .slice (some a) len cap := by simpa using hc
    have hC : Try.prog.cellsOf 55 = 2 := by kernel_rfl
    rw [hC] at hel
    have key : ∀ i, i < len → ∃ x : Int × Int, (W.cell? (a.add (i * 2)) = some (.int .i64 x.1) ∧ W.cell? ((a.add (i * 2)).add 1) = some (.int .u64 x.2)) ∧ okC x ∧ (elems.map (·.1))[i]? = some (cntD x) := by
      intro i hi
      have he := hel i hi
      rw [List.getElem?_eq_getElem (by omega)] at he
      simp only [Option.bind_eq_some_iff] at he
      obtain ⟨cs, hcs, ht⟩ := he
      obtain ⟨x, rfl, z01, hd⟩ := one_cnt ht
      have hcc := (World.cells?_some hcs).2.2
      refine ⟨x, ⟨?_, hcc 1 (by omega)⟩, z01, by rw [List.getElem?_map, List.getElem?_eq_getElem (by omega), Option.map_some, hd]⟩
      have := hcc 0 (by omega)
      simpa [Addr.add] using this
    obtain ⟨l, hll, hp⟩ := pick_all len key
    refine ⟨some a, cap, l, by rw [hll], ⟨by omega, fun x hx => ?_, fun hn => ?_⟩, by omega, hm, .inr ⟨rest.map (·.1), ?_⟩⟩
    · obtain ⟨i, hi, rfl⟩ := List.mem_iff_getElem.1 hx
      exact (hp i hi).2.1
    · have h0 := (hp 0 hn).1.1
      have ha : a.add (0 * 2) = a := by simp [Addr.add]
      rw [ha] at h0
      have hsp := World.cell?_spot h0
      have hlt := World.block_lt_of_cell? W _ h0
      obtain ⟨ab, ao, at0⟩ := a
      simp only at hsp hlt
      subst hsp
      refine ⟨ab, ao, rfl, hlt, fun i x hx => ?_⟩
      obtain ⟨hi, rfl⟩ := List.getElem?_eq_some_iff.1 hx
      obtain ⟨w1, w2⟩ := (hp i hi).1
      rw [add_plain] at w1 w2
      rw [add_plain] at w2
      exact ⟨w1, w2⟩
    · have hE : elems.map (·.1) = l.map cntD := by
        apply List.ext_getElem?
        intro i
        by_cases hi : i < l.length
        · rw [(hp i hi).2.2, List.getElem?_map, List.getElem?_eq_getElem hi]; rfl
        · rw [List.getElem?_eq_none (by simp; omega), List.getElem?_eq_none (by simp; omega)]
      rw [hy]
      show DataW.slice (elems.map (·.1)) _ = _
      rw [hE]

/-! What the bound gives. -/
theorem one_le (d : DataW H) : 1 ≤ Rows.uptoBulk d := by
  cases d with
  | lit l => cases l <;> simp [Rows.uptoBulk]
  | nil => simp [Rows.uptoBulk]
  | ptr d => simp [Rows.uptoBulk]
  | slice elems spare => simp [Rows.uptoBulk]
  | agg parts => simp [Rows.uptoBulk]
  | iface t d => simp [Rows.uptoBulk]
  | map entries => simp [Rows.uptoBulk]
  | held h => simp [Rows.uptoBulk]
theorem many_le : ∀ l : List (DataW H), l.length ≤ Rows.uptoBulkAll l
  | [] => by simp [Rows.uptoBulkAll]
  | x :: r => by
    have h1 := one_le x
    have h2 := many_le r
    simp only [Rows.uptoBulkAll, List.length_cons]; omega
theorem cnts_bulk {d : DataW H} {l : List (Int × Int)} (h : (d = .nil ∧ l = []) ∨ ∃ rest, d = .slice (l.map cntD) rest) : l.length ≤ Rows.uptoBulk d := by
  rcases h with ⟨rfl, rfl⟩ | ⟨rest, rfl⟩
  · simp
  · have := many_le (l.map (cntD (H := H)))
    simp only [Rows.uptoBulk, List.length_map] at this ⊢; omega
end
end Go.Proofs.Ytonacegkhkncmaa.Ao
