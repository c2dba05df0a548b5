/- It is proved that the call of 'gnomon/gnomonlaw05.RanksQuantiles' returns true for every input and leaves its arguments as they were. No other condition. -/
import Derived.Test.YtonacegkhkncmaaRows
import Derived.Test.YtonacegkhkncmaaRkT
import Derived.Test.YtonacegkhkncmaaArg
import Derived.Lib.SmallJoins
import Derived.WalkKit
import Derived.ProofKit
import Derived.OpenShut
import Derived.ShutString
import Derived.ChangeOld
import Derived.Below
namespace Go.Proofs.Ytonacegkhkncmaa.ranksQuantiles
open Go.ChangeShapes Go.WideShapes Go.ChangeAt Go.RowKit
open Go.ChangeMaps (open_string shut_string)
set_option linter.unusedVariables false

theorem own : ownKnob Try.prog.godebug = none := by kernel_rfl
theorem laidOut : laidOutB Try.prog = true := by kernel_rfl

/-- The walk. -/
theorem walk {H : Type} {enc : TypeId × Value → H} (W : World) (base : Nat) (v0 : Value) (d0 : DataW H) (p0 : List MemPlace) (k0 : Value.okWide Try.prog W .any base 34 v0) (h0 : DataW.Trod enc Try.prog W 0 (fun _ => true) true 34 v0 d0 p0) (z0 : ∀ n ∈ d0.weights Try.prog 34, n ≤ reachBytes) :
    Calls Try.prog 8 #[v0] W fun e W' => e = .returned (.bool true) ∧ Below W.heap.size W W' := by
  obtain ⟨c0, c1, c2, c3, y0, y1, y2, y3, m, rfl, rfl, rfl, e0, e1, e2, e3⟩ := Joins.open_agg4 Try.underlying34 (by kernel_rfl) (by kernel_rfl) k0 h0
  obtain ⟨p, ea, rfl, wa⟩ := DataW.trod_int Try.underlying3 e0
  obtain ⟨num, eb, rfl, wb⟩ := DataW.trod_int Try.underlying2 e2
  obtain ⟨den, ec, rfl, wc⟩ := DataW.trod_int Try.underlying2 e3
  simp only [List.cons.injEq, and_true] at ea eb ec
  subst ea eb ec
  have bd := bounds_i64 wc
  rcases open_ints Try.underlying32 Try.underlying2 (by kernel_rfl) e1 with ⟨hcs, hx⟩ | ⟨a, len, cap, zs, hcs, hb, hl, hm, hzl, hx, hcell, hwz⟩
  · simp only [List.cons.injEq, and_true] at hcs
    subst hcs
    exact Rk.quantiles_any W W.heap.size p num den none [] 0 bd.2 (Sl.Rd.nil W _ _ _) (Nat.le_refl _) (by decide) (by decide) (Nat.le_refl _) (by simp)
  · simp only [List.cons.injEq, and_true] at hcs
    subst hcs
    have hzc : zs.length = cap := by simpa using hzl
    have hlen : (zs.take len).length = len := by rw [List.length_take]; omega
    have hreach : zs.length * 8 ≤ reachBytes := by
      refine z0 _ ?_
      have hb8 : Try.prog.bytesOf 2 = 8 := by kernel_rfl
      simp [DataW.weights, Try.underlying34, DataW.weightsEach, hx, Try.underlying32, hb8, lits]
      omega
    have h47 := reachBytes_lt
    have hrd := Arg.rd_ints (w := W) (a := a) (zs := zs) (len := len) (by omega) hcell
    have key := Rk.quantiles_any W W.heap.size p num den (some a) (zs.take len) cap bd.2 (by rw [hlen]; exact hrd) (by omega) hm (by omega) (Nat.le_refl _) (fun x hx' => (bounds_i64 (hwz x (List.mem_of_mem_take hx'))).2)
    rw [hlen] at key
    exact key

set_option maxRecDepth 100000 in
theorem lifted (os : Os) (started : os.Started) (H : Type) (enc : TypeId × Value → H) :
    ReturnsInHanded {} Try.checked os 8 .any (Rows.ranksQuantilesSpec.pre6 enc Try.prog Try.f8 Rows.ranksQuantilesRow.domain false) (Rows.ranksQuantilesSpec.post enc Try.prog Try.f8 false true false false) := by
  refine returnsInHanded_of_change_sized (C := Try.checked) own started (by kernel_rfl) Try.func8
    (ChangeSpec.witness6 (enc := enc) (C := Try.checked) false ⟨#[], #[.agg #[.int .i64 0, .slice none 0 0, .int .i64 0, .int .i64 0]], []⟩ 8 (by kernel_rfl) (by kernel_rfl) (by kernel_rfl) (by kernel_rfl)) ?_
  intro W base args ds gs before hval0 hW hcnd hsz _
  have hval : ∀ (j : Nat) t v, Try.f8.params[j]? = some t → args[j]? = some v → Value.okWide Try.prog W .any base t v := hval0
  have hW' := hW
  obtain ⟨p, q, hA0, hV, rfl, hfz, hnd⟩ := hW
  have hA : DataW.TrodAll enc Try.prog W 0 (fun _ => true) true Try.f8.params.toList args.toList ds p := hA0
  rw [Try.params8] at hA hval hsz
  obtain ⟨v0, vs0, d0, ds0, p0, q0, hargs, rfl, rfl, h0, r0⟩ := trodAll_cons hA
  obtain ⟨rfl, rfl, rfl⟩ := trodAll_nil r0
  obtain rfl : args = #[v0] := by cases args; simp_all
  obtain ⟨rfl, rfl⟩ := trodVars_none hV
  have lt0 : ∀ x ∈ p0, x.block < W.heap.size := by obtain ⟨m, hm⟩ := h0; exact DataW.trod_lt m _ _ _ hm
  have z0 : ∀ n ∈ d0.weights Try.prog 34, n ≤ reachBytes := fun n hn => by simpa using List.all_eq_true.1 hsz n (DataW.weights_mem_each (j := 0) rfl rfl n hn)
  clear hA0 hval0
  refine (walk (enc := enc) W base v0 d0 p0 (hval 0 34 v0 rfl rfl) h0 z0).mono fun e W' ⟨he, bel⟩ => ?_
  subst he
  exact ⟨_, rfl, _, _, _, [], _, [], hW', trodAll_mk1 (shut_bool Try.underlying4 _), (trodAll_cons_mk (Below.trod laidOut (by kernel_rfl) (of_decide_eq_true (by kernel_rfl)) h0 bel lt0) trodAll_mk0), rfl, bel.frame _, fun h => by cases h⟩

theorem over : Rows.ranksQuantilesRow.holds Try.pinned (OpenSpec.ofChange Rows.ranksQuantilesSpec) :=
  OpenClaim.holds_of_wide 8 Try.f8 rfl rfl rfl rfl rfl rfl rfl ⟨rfl, rfl, rfl, rfl, rfl⟩ rfl rfl rfl rfl rfl (by kernel_rfl) Try.func8 (by kernel_rfl)
    (of_decide_eq_true (by kernel_rfl)) (by unfold Func.isWrapper; first | (rw [if_pos (by decide +kernel)]; kernel_rfl) | (rw [if_neg (by decide +kernel)]; exact ⟨rfl, rfl⟩))
    (fun os started H enc _ => lifted os started H enc)

/-- The statement. -/
theorem proved : Rows.RanksQuantilesSaid := over
#print axioms proved
end Go.Proofs.Ytonacegkhkncmaa.ranksQuantiles
