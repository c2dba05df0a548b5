/- Lemmas for the laws of this seat, laid together of Sh. -/
import Derived.Test.YtpiegngjpnpohaaGreatK31

namespace Go.Proofs.YtpiegngjpnpohaaGreat.So
open Go.RowKit Go.ChangeShapes Go.WideShapes Go.Deep Go.Proofs.YtpiegngjpnpohaaGreat.La Go.Proofs.YtpiegngjpnpohaaGreat.Sl Go.Proofs.YtpiegngjpnpohaaGreat.Rk Go.Proofs.YtpiegngjpnpohaaGreat.Wi Go.Proofs.YtpiegngjpnpohaaGreat.Fb Go.Proofs.YtpiegngjpnpohaaGreat.Sn
set_option linter.unusedVariables false
set_option maxRecDepth 100000
def askV (a b : Ss) (nm : ByteArray) (lA : Option Addr) (lc : Nat) (l : List Lab) (num den : Int) : Value :=
  .agg #[.int .i64 a.p, .slice a.A a.vs.length a.c, .int .u64 a.r, .int .i64 b.p, .slice b.A b.vs.length b.c, .int .u64 b.r, .string nm, .slice lA l.length lc, .int .i64 num, .int .i64 den]
theorem asked_open {H : Type} {enc : TypeId × Value → H} {W : World} {base : Nat} {spare : Nat → Bool} {held : Bool} {b0 : Nat} {r : Reach} {v : Value} {d : DataW H} {p : List MemPlace} (hv : Value.okWide Tryz.prog W r b0 38 v) (h : DataW.Trod enc Tryz.prog W base spare held 38 v d p)
    (hw : ∀ n ∈ d.weights Tryz.prog 38, n ≤ reachBytes) :
    ∃ (a b : Ss) (nm : ByteArray) (lA : Option Addr) (lc : Nat) (l : List Lab) (num den : Int), v = askV a b nm lA lc l num den ∧ SAt a W W.heap.size ∧ SSz a ∧ SAt b W W.heap.size ∧ SSz b ∧ QAt nm lA lc l W W.heap.size ∧
      (nm.size ≤ reachBytes ∧ l.length * 32 ≤ reachBytes ∧ ∀ y ∈ l, y.1.size ≤ reachBytes ∧ y.2.size ≤ reachBytes) ∧ (-9223372036854775808 ≤ num ∧ num ≤ 9223372036854775807) ∧ (-9223372036854775808 ≤ den ∧ den ≤ 9223372036854775807) := by
  obtain ⟨⟨cs⟩, rfl, hsz⟩ := okWide_struct Tryz.underlying38 hv
  obtain ⟨fuel, hf0⟩ := h
  obtain ⟨xs, n, _, hy, hl, hlen, hf⟩ := DataW.trod_struct Tryz.underlying38 (show DataW.trod enc Tryz.prog W base spare held fuel _ cs = some (d, p) from hf0)
  have hl2 : cs.length = 10 := hl.trans (by kernel_rfl)
  have hlen2 : xs.length = 6 := hlen
  match cs, hl2, xs, hlen2 with
  | [c0, c1, c2, c3, c4, c5, c6, c7, c8, c9], _, [x0, x1, x2, x3, x4, x5], _ =>
    have hu : Tryz.prog.underlying 38 = some (.struct _) := Tryz.underlying38
    simp only [Prod.mk.injEq] at hy
    rw [hy.1, DataW.weights, hu] at hw
    simp only [List.map_cons, List.map_nil] at hw
    obtain ⟨a, ea, ha, za⟩ := one_snap (show DataW.trod enc Tryz.prog W base spare held n _ [c0, c1, c2] = some x0 from hf 0 _ rfl) (fun k hk => hw k (DataW.weights_mem_each (j := 0) (d := x0.1) rfl rfl k hk))
    obtain ⟨b, eb, hb, zb⟩ := one_snap (show DataW.trod enc Tryz.prog W base spare held n _ [c3, c4, c5] = some x1 from hf 1 _ rfl) (fun k hk => hw k (DataW.weights_mem_each (j := 1) (d := x1.1) rfl rfl k hk))
    obtain ⟨s, e6, z6, f6⟩ := str_sizes (by kernel_rfl) (show DataW.trod enc Tryz.prog W base spare held n _ [c6] = some x2 from hf 2 _ rfl)
    obtain ⟨lA, lc, l, e7, hr, hlc, hm, hz, hd3⟩ := labs_open (show DataW.trod enc Tryz.prog W base spare held n _ [c7] = some x3 from hf 3 _ rfl)
    obtain ⟨num, e8, _, b8⟩ := DataW.trod_int (k := .i64) (by kernel_rfl) (show DataW.trod enc Tryz.prog W base spare held n _ [c8] = some x4 from hf 4 _ rfl)
    obtain ⟨den, e9, _, b9⟩ := DataW.trod_int (k := .i64) (by kernel_rfl) (show DataW.trod enc Tryz.prog W base spare held n _ [c9] = some x5 from hf 5 _ rfl)
    have w6 := hw s.data.toList.length (DataW.weights_mem_each (j := 2) (d := x2.1) rfl rfl _ (by rw [f6]; simp [DataW.weights]))
    obtain ⟨q1, q2⟩ := labs_sized hd3 (fun n hn => hw n (DataW.weights_mem_each (j := 3) (d := x3.1) rfl rfl n hn))
    unfold srow at ea eb
    simp only [List.cons.injEq, and_true] at ea eb e8 e9
    obtain ⟨rfl, rfl, rfl⟩ := ea
    obtain ⟨rfl, rfl, rfl⟩ := eb
    subst e6 e7 e8 e9
    have g8 := bounds_i64 b8
    have g9 := bounds_i64 b9
    have hM : maxLen ≤ 9223372036854775807 := by decide
    have hB : reachBytes ≤ 140737488355328 := by decide
    exact ⟨a, b, s, lA, lc, l, num, den, rfl, ha, za, hb, zb, ⟨hr, hlc, Nat.le_trans hm hM, by omega, Nat.le_trans z6 hM, fun x hx => ⟨Nat.le_trans (hz x hx).1 hM, Nat.le_trans (hz x hx).2 hM⟩⟩, ⟨by simpa using w6, q1, q2⟩, g8, g9⟩
end Go.Proofs.YtpiegngjpnpohaaGreat.So
