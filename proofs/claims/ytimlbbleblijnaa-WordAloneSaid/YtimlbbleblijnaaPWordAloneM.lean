/- It is proved that the call of 'gnomon/gnomonlaw07.WordAlone' returns true for every input and leaves its arguments as they were. No other condition. -/
import Derived.Test.YtimlbbleblijnaaRows
import Derived.Test.YtimlbbleblijnaaT23
import Derived.WalkKit
import Derived.ProofKit
import Derived.OpenShut
import Derived.ShutString
import Derived.Lib.SmallJoins
import Derived.SizedLaws
import Derived.ChangeOld
import Derived.Below
import Derived.Conc.LeavingOf
namespace Go.Proofs.Ytimlbbleblijnaa.wordAlone
open Go.ChangeShapes Go.WideShapes Go.ChangeAt Go.RowKit Go.Conc Go.Proofs.Ytimlbbleblijnaa.Co
open Go.ChangeMaps (open_string shut_string)
set_option linter.unusedVariables false
set_option maxRecDepth 100000

theorem own : ownKnob Try.prog.godebug = none := by kernel_rfl
theorem laidOut : laidOutB Try.prog = true := by kernel_rfl

/-- The walk. -/
theorem walk {H : Type} {enc : TypeId × Value → H} (W : World) (base : Nat) (v0 : Value) (d0 : DataW H) (p0 : List MemPlace) (k0 : Value.okWide Try.prog W .any base 32 v0) (h0 : DataW.Trod enc Try.prog W 0 (fun _ => true) true 32 v0 d0 p0) (z0 : ∀ n ∈ d0.weights Try.prog 32, n ≤ reachBytes) {F : Machine → Trace → Prop} (hc : ∀ E' w' T todo, Kept 0 none (Env.zero W) W E' w' → Stands (Env.zero W) W E' w' → T[2]? = some (.bool true) → HG Try.prog 0 F E' (Go.Conc.G { (Go.Conc.base 5).at ⟨T, []⟩ todo with mode := .returning } []) w') :
    HG Try.prog 0 F (Env.zero W) (entry 5 Try.f5 #[v0] []) W := by
  obtain ⟨m0, e0⟩ := h0
  obtain ⟨a0, len0, cap0, rfl⟩ := okWide_slice Try.underlying32 k0
  obtain ⟨A, cap, l, la, lo, hv, n1, n2, n3, n4⟩ := ops_open2 (show DataW.trod enc Try.prog W 0 (fun _ => true) true m0 32 [.slice a0 len0 cap0] = some (d0, p0) from e0) z0
  rw [hv]
  exact wordAlone_walk n2 n3 n1 n4 rfl (fun _ => rfl) hc

set_option maxRecDepth 100000 in
theorem lifted (os : Os) (started : os.Started) (H : Type) (enc : TypeId × Value → H) :
    ReturnsInLeavingWide {} Try.checked os 5 .any (Rows.wordAloneSpec.pre6 enc Try.prog Try.f5 Rows.wordAloneRow.domain false) (Rows.wordAloneSpec.post enc Try.prog Try.f5 false true false false) := by
  refine returnsInLeavingWide_of_change_sized (C := Try.checked) own started Try.func5
    (ChangeSpec.witness6 (enc := enc) (C := Try.checked) false ⟨#[], #[.slice none 0 0], []⟩ 8 (by kernel_rfl) (by kernel_rfl) (by kernel_rfl) (by kernel_rfl)) ?_
  intro W base args ds gs before hval0 hW hcnd hsz _
  have hval : ∀ (j : Nat) t v, Try.f5.params[j]? = some t → args[j]? = some v → Value.okWide Try.prog W .any base t v := hval0
  have hW' := hW
  obtain ⟨p, q, hA0, hV, rfl, hfz, hnd⟩ := hW
  have hA : DataW.TrodAll enc Try.prog W 0 (fun _ => true) true Try.f5.params.toList args.toList ds p := hA0
  rw [Try.params5] at hA hval hsz
  obtain ⟨v0, vs0, d0, ds0, p0, q0, hargs, rfl, rfl, h0, r0⟩ := trodAll_cons hA
  obtain ⟨rfl, rfl, rfl⟩ := trodAll_nil r0
  obtain rfl : args = #[v0] := by cases args; simp_all
  obtain ⟨rfl, rfl⟩ := trodVars_none hV
  have lt0 : ∀ x ∈ p0, x.block < W.heap.size := by obtain ⟨m, hm⟩ := h0; exact DataW.trod_lt m _ _ _ hm
  have z0 : ∀ n ∈ d0.weights Try.prog 32, n ≤ reachBytes := fun n hn => by simpa using List.all_eq_true.1 hsz n (DataW.weights_mem_each (j := 0) rfl rfl n hn)
  clear hA0 hval0
  refine law_good (v := .bool true) (t := 2) Try.func5 rfl rfl (by kernel_rfl) (fun F hc => walk (enc := enc) W base v0 d0 p0 (hval 0 32 v0 rfl rfl) h0 z0 hc) (fun w2 bel => post_tape W.tape ?_)
  exact ⟨_, _, _, [], _, [], hW', trodAll_mk1 (shut_bool Try.underlying4 _), (trodAll_cons_mk (Below.trod laidOut (by kernel_rfl) (of_decide_eq_true (by kernel_rfl)) h0 bel lt0) trodAll_mk0), rfl, bel.frame _, fun h => by cases h⟩

theorem over : Rows.wordAloneRow.holds Try.pinned (OpenSpec.ofChange Rows.wordAloneSpec) :=
  OpenClaim.holds_of_wide_leaving 5 Try.f5 rfl rfl rfl rfl rfl rfl rfl ⟨rfl, rfl, rfl, rfl, rfl⟩ rfl rfl rfl rfl rfl (by kernel_rfl) Try.func5 (by kernel_rfl)
    (of_decide_eq_true (by kernel_rfl)) (by unfold Func.isWrapper; first | (rw [if_pos (by decide +kernel)]; kernel_rfl) | (rw [if_neg (by decide +kernel)]; exact ⟨rfl, rfl⟩))
    (fun os started H enc _ => lifted os started H enc)

/-- The statement. -/
theorem proved : Rows.WordAloneSaid := over
#print axioms proved
end Go.Proofs.Ytimlbbleblijnaa.wordAlone
