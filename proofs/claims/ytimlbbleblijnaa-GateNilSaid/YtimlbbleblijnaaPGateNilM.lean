/- It is proved that the call of 'gnomon/gnomonlaw06.GateNil' returns true for every input and leaves its arguments as they were. No other condition. -/
import Derived.Test.YtimlbbleblijnaaRows
import Derived.Test.YtimlbbleblijnaaQ20
import Derived.WalkKit
import Derived.ProofKit
import Derived.OpenShut
import Derived.ShutString
import Derived.Lib.SmallJoins
import Derived.SizedLaws
import Derived.ChangeOld
import Derived.Below
import Derived.Conc.LeavingOf
namespace Go.Proofs.Ytimlbbleblijnaa.gateNil
open Go.ChangeShapes Go.WideShapes Go.ChangeAt Go.RowKit Go.Conc Go.Proofs.Ytimlbbleblijnaa.Co
open Go.ChangeMaps (open_string shut_string)
set_option linter.unusedVariables false
set_option maxRecDepth 100000

theorem own : ownKnob Try.prog.godebug = none := by kernel_rfl
theorem laidOut : laidOutB Try.prog = true := by kernel_rfl

/-- The walk. -/
theorem walk {H : Type} {enc : TypeId × Value → H} (W : World)  {F : Machine → Trace → Prop} (hc : ∀ E' w' T todo, Kept 0 none (Env.zero W) W E' w' → Stands (Env.zero W) W E' w' → T[0]? = some (.bool true) → HG Try.prog 0 F E' (G { (base 6).at ⟨T, []⟩ todo with mode := .returning } []) w') :
    HG Try.prog 0 F (Env.zero W) (entry 6 Try.f6 #[] []) W := by
  exact gateNil_walk rfl (fun _ => rfl) hc

set_option maxRecDepth 100000 in
theorem lifted (os : Os) (started : os.Started) (H : Type) (enc : TypeId × Value → H) :
    ReturnsInLeavingWide {} Try.checked os 6 .any (Rows.gateNilSpec.pre6 enc Try.prog Try.f6 Rows.gateNilRow.domain false) (Rows.gateNilSpec.post enc Try.prog Try.f6 false true false false) := by
  refine returnsInLeavingWide_of_change_sized (C := Try.checked) own started Try.func6
    (ChangeSpec.witness6 (enc := enc) (C := Try.checked) false ⟨#[], #[], []⟩ 8 (by kernel_rfl) (by kernel_rfl) (by kernel_rfl) (by kernel_rfl)) ?_
  intro W base args ds gs before hval0 hW hcnd hsz _
  have hval : ∀ (j : Nat) t v, Try.f6.params[j]? = some t → args[j]? = some v → Value.okWide Try.prog W .any base t v := hval0
  have hW' := hW
  obtain ⟨p, q, hA0, hV, rfl, hfz, hnd⟩ := hW
  have hA : DataW.TrodAll enc Try.prog W 0 (fun _ => true) true Try.f6.params.toList args.toList ds p := hA0
  rw [Try.params6] at hA hval hsz
  obtain ⟨rfl, rfl, rfl⟩ := trodAll_none hA
  obtain ⟨rfl, rfl⟩ := trodVars_none hV
  clear hA0 hval0
  refine law_good (v := .bool true) (t := 0) Try.func6 rfl rfl (by kernel_rfl) (fun F hc => walk (enc := enc) W hc) (fun w2 bel => post_tape W.tape ?_)
  exact ⟨_, _, _, [], [], [], hW', trodAll_mk1 (shut_bool Try.underlying4 _), rfl, rfl, bel.frame _, fun h => by cases h⟩

theorem over : Rows.gateNilRow.holds Try.pinned (OpenSpec.ofChange Rows.gateNilSpec) :=
  OpenClaim.holds_of_wide_leaving 6 Try.f6 rfl rfl rfl rfl rfl rfl rfl ⟨rfl, rfl, rfl, rfl, rfl⟩ rfl rfl rfl rfl rfl (by kernel_rfl) Try.func6 (by kernel_rfl)
    (of_decide_eq_true (by kernel_rfl)) (by unfold Func.isWrapper; first | (rw [if_pos (by decide +kernel)]; kernel_rfl) | (rw [if_neg (by decide +kernel)]; exact ⟨rfl, rfl⟩))
    (fun os started H enc _ => lifted os started H enc)

/-- The statement. -/
theorem proved : Rows.GateNilSaid := over
#print axioms proved
end Go.Proofs.Ytimlbbleblijnaa.gateNil
