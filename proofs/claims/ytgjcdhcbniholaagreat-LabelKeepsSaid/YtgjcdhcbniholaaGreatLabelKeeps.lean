/- It is proved that the call of 'gnomon/gnomonlaw10.LabelKeeps' returns true for every input and leaves its arguments as they were. No other condition. -/
import Derived.Test.YtgjcdhcbniholaaGreatRows
import Derived.Test.YtgjcdhcbniholaaGreatKp
import Derived.WalkKit
import Derived.ProofKit
import Derived.OpenShut
import Derived.ShutString
import Derived.Lib.SmallJoins
import Derived.SizedLaws
import Derived.ChangeOld
import Derived.Below
namespace Go.Proofs.YtgjcdhcbniholaaGreat.labelKeeps
open Go.ChangeShapes Go.WideShapes Go.ChangeAt Go.RowKit
open Go.ChangeMaps (open_string shut_string)
set_option linter.unusedVariables false
set_option maxRecDepth 100000

theorem own : ownKnob Tryz.prog.godebug = none := by kernel_rfl
theorem laidOut : laidOutB Tryz.prog = true := by kernel_rfl

/-- The walk. -/
theorem walk {H : Type} {enc : TypeId × Value → H} (W : World) (base : Nat) (v0 v1 : Value) (d0 d1 : DataW H) (p0 p1 : List MemPlace) (k0 : Value.okWide Tryz.prog W .any base 35 v0) (h0 : DataW.Trod enc Tryz.prog W 0 (fun _ => true) true 35 v0 d0 p0) (z0 : ∀ n ∈ d0.weights Tryz.prog 35, n ≤ reachBytes) (k1 : Value.okWide Tryz.prog W .any base 9 v1) (h1 : DataW.Trod enc Tryz.prog W 0 (fun _ => true) true 9 v1 d1 p1) (z1 : ∀ n ∈ d1.weights Tryz.prog 9, n ≤ reachBytes) :
    Calls Tryz.prog 6 #[v0, v1] W fun e W' => e = .returned (.bool true) ∧ Below W.heap.size W W' := by
  have hM : maxLen ≤ 9223372036854775807 := by decide
  have hB : reachBytes ≤ 140737488355328 := by decide
  have hB2 : reachBytes ≤ 9223372036854775807 := by decide
  have hB3 : reachBytes ≤ 140737488351232 := by decide
  obtain ⟨x0, rfl, i0, a1, a2, a3, a4, a5, a6⟩ := La.desc_sized k0 h0 z0
  obtain ⟨s, rfl, hs⟩ : ∃ s : ByteArray, v1 = .string s ∧ s.size ≤ reachBytes := by
    obtain ⟨s, rfl, hd, _, _⟩ := open_string (by kernel_rfl) k1 h1
    have := z1 s.data.toList.length (by rw [hd]; simp [DataW.weights])
    exact ⟨s, rfl, by simpa using this⟩
  exact Kp.keeps_any x0 s W ⟨i0.rd, a3, Nat.le_trans a4 hM, Nat.le_trans a1 hB2, Nat.le_trans a2 hB2, fun x hx => ⟨Nat.le_trans (a6 x hx).1 hB2, Nat.le_trans (a6 x hx).2 hB2⟩⟩
    (Nat.le_trans hs hB3) (Nat.le_trans a1 hB) (fun x hx => ⟨Nat.le_trans (a6 x hx).1 hB, Nat.le_trans (a6 x hx).2 hB⟩) (by omega)

set_option maxRecDepth 100000 in
theorem lifted (os : Os) (started : os.Started) (H : Type) (enc : TypeId × Value → H) :
    ReturnsInHanded {} Tryz.checked os 6 .any (Rows.labelKeepsSpec.pre6 enc Tryz.prog Tryz.f6 Rows.labelKeepsRow.domain false) (Rows.labelKeepsSpec.post enc Tryz.prog Tryz.f6 false true false false) := by
  refine returnsInHanded_of_change_sized (C := Tryz.checked) own started (by kernel_rfl) Tryz.func6
    (ChangeSpec.witness6 (enc := enc) (C := Tryz.checked) false ⟨#[], #[.agg #[.int .i64 0, .string ⟨#[]⟩, .string ⟨#[]⟩, .slice none 0 0], .string ⟨#[]⟩], []⟩ 8 (by kernel_rfl) (by kernel_rfl) (by kernel_rfl) (by kernel_rfl)) ?_
  intro W base args ds gs before hval0 hW hcnd hsz _
  have hval : ∀ (j : Nat) t v, Tryz.f6.params[j]? = some t → args[j]? = some v → Value.okWide Tryz.prog W .any base t v := hval0
  have hW' := hW
  obtain ⟨p, q, hA0, hV, rfl, hfz, hnd⟩ := hW
  have hA : DataW.TrodAll enc Tryz.prog W 0 (fun _ => true) true Tryz.f6.params.toList args.toList ds p := hA0
  rw [Tryz.params6] at hA hval hsz
  obtain ⟨v0, vs0, d0, ds0, p0, q0, hargs, rfl, rfl, h0, r0⟩ := trodAll_cons hA
  obtain ⟨v1, vs1, d1, ds1, p1, q1, rfl, rfl, rfl, h1, r1⟩ := trodAll_cons r0
  obtain ⟨rfl, rfl, rfl⟩ := trodAll_nil r1
  obtain rfl : args = #[v0, v1] := by cases args; simp_all
  obtain ⟨rfl, rfl⟩ := trodVars_none hV
  have lt0 : ∀ x ∈ p0, x.block < W.heap.size := by obtain ⟨m, hm⟩ := h0; exact DataW.trod_lt m _ _ _ hm
  have lt1 : ∀ x ∈ p1, x.block < W.heap.size := by obtain ⟨m, hm⟩ := h1; exact DataW.trod_lt m _ _ _ hm
  have z0 : ∀ n ∈ d0.weights Tryz.prog 35, n ≤ reachBytes := fun n hn => by simpa using List.all_eq_true.1 hsz n (DataW.weights_mem_each (j := 0) rfl rfl n hn)
  have z1 : ∀ n ∈ d1.weights Tryz.prog 9, n ≤ reachBytes := fun n hn => by simpa using List.all_eq_true.1 hsz n (DataW.weights_mem_each (j := 1) rfl rfl n hn)
  clear hA0 hval0
  refine (walk (enc := enc) W base v0 v1 d0 d1 p0 p1 (hval 0 35 v0 rfl rfl) h0 z0 (hval 1 9 v1 rfl rfl) h1 z1).mono fun e W' ⟨he, bel⟩ => ?_
  subst he
  exact ⟨_, rfl, _, _, _, [], _, [], hW', trodAll_mk1 (shut_bool Tryz.underlying4 _), (trodAll_cons_mk (Below.trod laidOut (by kernel_rfl) (of_decide_eq_true (by kernel_rfl)) h0 bel lt0) (trodAll_cons_mk (Below.trod laidOut (by kernel_rfl) (of_decide_eq_true (by kernel_rfl)) h1 bel lt1) trodAll_mk0)), rfl, bel.frame _, fun h => by cases h⟩

theorem over : Rows.labelKeepsRow.holds Tryz.pinned (OpenSpec.ofChange Rows.labelKeepsSpec) :=
  OpenClaim.holds_of_wide 6 Tryz.f6 rfl rfl rfl rfl rfl rfl rfl ⟨rfl, rfl, rfl, rfl, rfl⟩ rfl rfl rfl rfl rfl (by kernel_rfl) Tryz.func6 (by kernel_rfl)
    (of_decide_eq_true (by kernel_rfl)) (by unfold Func.isWrapper; first | (rw [if_pos (by decide +kernel)]; kernel_rfl) | (rw [if_neg (by decide +kernel)]; exact ⟨rfl, rfl⟩))
    (fun os started H enc _ => lifted os started H enc)

/-- The statement. -/
theorem proved : Rows.LabelKeepsSaid := over
#print axioms proved
end Go.Proofs.YtgjcdhcbniholaaGreat.labelKeeps
