/- It is proved that the call of 'gnomon/gnomonlaw07.WordPlays' returns true for every input of bulk at most 1048576 and leaves its arguments as they were. No other condition. -/
import Derived.Test.YtimlbbleblijnaaRows
import Derived.Test.YtimlbbleblijnaaX31
import Derived.WalkKit
import Derived.ProofKit
import Derived.OpenShut
import Derived.ShutString
import Derived.Lib.SmallJoins
import Derived.SizedLaws
import Derived.ChangeOld
import Derived.Below
import Derived.Conc.LeavingOf
import Derived.Deep.CondSized
import Derived.JoinedCond
namespace Go.Proofs.Ytimlbbleblijnaa.wordPlaysUpto
open Go.ChangeShapes Go.WideShapes Go.ChangeAt Go.RowKit Go.Conc Go.Proofs.Ytimlbbleblijnaa.Co
open Go.ChangeMaps (open_string shut_string)
set_option linter.unusedVariables false
set_option maxRecDepth 100000

theorem own : ownKnob Try.prog.godebug = none := by kernel_rfl
theorem laidOut : laidOutB Try.prog = true := by kernel_rfl

/-- The walk. -/
theorem walk {H : Type} {enc : TypeId × Value → H} (W : World) (base : Nat) (v0 v1 v2 v3 : Value) (d0 d1 d2 d3 : DataW H) (p0 p1 p2 p3 : List MemPlace) (k0 : Value.okWide Try.prog W .any base 3 v0) (h0 : DataW.Trod enc Try.prog W 0 (fun _ => true) true 3 v0 d0 p0) (z0 : ∀ n ∈ d0.weights Try.prog 3, n ≤ reachBytes) (k1 : Value.okWide Try.prog W .any base 22 v1) (h1 : DataW.Trod enc Try.prog W 0 (fun _ => true) true 22 v1 d1 p1) (z1 : ∀ n ∈ d1.weights Try.prog 22, n ≤ reachBytes) (k2 : Value.okWide Try.prog W .any base 23 v2) (h2 : DataW.Trod enc Try.prog W 0 (fun _ => true) true 23 v2 d2 p2) (z2 : ∀ n ∈ d2.weights Try.prog 23, n ≤ reachBytes) (k3 : Value.okWide Try.prog W .any base 4 v3) (h3 : DataW.Trod enc Try.prog W 0 (fun _ => true) true 4 v3 d3 p3) (z3 : ∀ n ∈ d3.weights Try.prog 4, n ≤ reachBytes) (hk : Rows.uptoBulkAll [d0, d1, d2, d3] ≤ 1048576) {F : Machine → Trace → Prop} (hc : ∀ E' w' T todo, Kept 0 none (Env.zero W) W E' w' → Stands (Env.zero W) W E' w' → T[8]? = some (.bool true) → HG Try.prog 0 F E' (Go.Conc.G { (Go.Conc.base 9).at ⟨T, []⟩ todo with mode := .returning } []) w') :
    HG Try.prog 0 F (Env.zero W) (entry 9 Try.f9 #[v0, v1, v2, v3] []) W := by
  obtain ⟨m0, e0⟩ := h0
  obtain ⟨m1, e1⟩ := h1
  obtain ⟨m2, e2⟩ := h2
  obtain ⟨m3, e3⟩ := h3
  obtain ⟨n0, rfl⟩ := okWide_int Try.underlying3 k0
  obtain ⟨a1, len1, cap1, rfl⟩ := okWide_slice Try.underlying22 k1
  obtain ⟨a2, len2, cap2, rfl⟩ := okWide_slice Try.underlying23 k2
  obtain ⟨b, rfl⟩ := okWide_bool Try.underlying4 k3
  obtain ⟨ts, hT, n1, n2, n5⟩ := threads_open3 (show DataW.trod enc Try.prog W 0 (fun _ => true) true m1 22 [.slice a1 len1 cap1] = some (d1, p1) from e1)
  obtain ⟨ps, hP, n3, n4⟩ := ints_open (show DataW.trod enc Try.prog W 0 (fun _ => true) true m2 23 [.slice a2 len2 cap2] = some (d2, p2) from e2)
  dsimp only at n1 n2 n3
  simp only [Rows.uptoBulkAll] at hk
  exact wordPlays_walk hT hP (by omega) (by omega) (fun l hl => by have := n2 l hl; omega) n4 n5 rfl (fun _ => rfl) hc

set_option maxRecDepth 100000 in
theorem contract (H : Type) (enc : TypeId × Value → H) (W : World) (base : Nat) (args : Array Value) (ds gs : List (DataW H)) (before : List MemPlace)
    (hval0 : ∀ (j : Nat) t v, Try.f9.params[j]? = some t → args[j]? = some v → Value.okWide Try.prog W .any base t v)
    (hW : DataW.Whole enc Try.prog Try.f9.params.toList Rows.wordPlaysSpec.vars false W args.toList ds gs before) (hk0 : Rows.uptoSmall H (ds ++ gs) = true)
    (hsz : (DataW.weightsEach Try.prog (Try.f9.params.toList ++ (Rows.OpenSpec.upto Rows.wordPlaysSpec).bare.plain.varTypes Try.prog) (ds ++ gs)).all (· ≤ reachBytes) = true) :
    ∃ M last o w' t', runNT Try.prog (M + 1) (solo (Go.Conc.G (Frame.enter Try.prog 9 args .normal) []) W) #[] = (.ended o w', t') ∧ runN Try.prog M (solo (Go.Conc.G (Frame.enter Try.prog 9 args .normal) []) W) = .next last ∧ step Try.prog last = .ended o w' ∧ Go.Conc.Good Try.prog (fun v W' => Rows.wordPlaysSpec.post enc Try.prog Try.f9 false true false false W args v W') last o w' t' := by
  have hval : ∀ (j : Nat) t v, Try.f9.params[j]? = some t → args[j]? = some v → Value.okWide Try.prog W .any base t v := hval0
  have hW' := hW
  obtain ⟨p, q, hA0, hV, rfl, hfz, hnd⟩ := hW
  have hA : DataW.TrodAll enc Try.prog W 0 (fun _ => true) true Try.f9.params.toList args.toList ds p := hA0
  rw [Try.params9] at hA hval hsz
  obtain ⟨v0, vs0, d0, ds0, p0, q0, hargs, rfl, rfl, h0, r0⟩ := trodAll_cons hA
  obtain ⟨v1, vs1, d1, ds1, p1, q1, rfl, rfl, rfl, h1, r1⟩ := trodAll_cons r0
  obtain ⟨v2, vs2, d2, ds2, p2, q2, rfl, rfl, rfl, h2, r2⟩ := trodAll_cons r1
  obtain ⟨v3, vs3, d3, ds3, p3, q3, rfl, rfl, rfl, h3, r3⟩ := trodAll_cons r2
  obtain ⟨rfl, rfl, rfl⟩ := trodAll_nil r3
  obtain rfl : args = #[v0, v1, v2, v3] := by cases args; simp_all
  obtain ⟨rfl, rfl⟩ := trodVars_none hV
  have lt0 : ∀ x ∈ p0, x.block < W.heap.size := by obtain ⟨m, hm⟩ := h0; exact DataW.trod_lt m _ _ _ hm
  have lt1 : ∀ x ∈ p1, x.block < W.heap.size := by obtain ⟨m, hm⟩ := h1; exact DataW.trod_lt m _ _ _ hm
  have lt2 : ∀ x ∈ p2, x.block < W.heap.size := by obtain ⟨m, hm⟩ := h2; exact DataW.trod_lt m _ _ _ hm
  have lt3 : ∀ x ∈ p3, x.block < W.heap.size := by obtain ⟨m, hm⟩ := h3; exact DataW.trod_lt m _ _ _ hm
  have z0 : ∀ n ∈ d0.weights Try.prog 3, n ≤ reachBytes := fun n hn => by simpa using List.all_eq_true.1 hsz n (DataW.weights_mem_each (j := 0) rfl rfl n hn)
  have z1 : ∀ n ∈ d1.weights Try.prog 22, n ≤ reachBytes := fun n hn => by simpa using List.all_eq_true.1 hsz n (DataW.weights_mem_each (j := 1) rfl rfl n hn)
  have z2 : ∀ n ∈ d2.weights Try.prog 23, n ≤ reachBytes := fun n hn => by simpa using List.all_eq_true.1 hsz n (DataW.weights_mem_each (j := 2) rfl rfl n hn)
  have z3 : ∀ n ∈ d3.weights Try.prog 4, n ≤ reachBytes := fun n hn => by simpa using List.all_eq_true.1 hsz n (DataW.weights_mem_each (j := 3) rfl rfl n hn)
  have hk : Rows.uptoBulkAll [d0, d1, d2, d3] ≤ 1048576 := of_decide_eq_true hk0
  clear hA0 hval0
  refine law_good (v := .bool true) (t := 8) Try.func9 rfl rfl (by kernel_rfl) (fun F hc => walk (enc := enc) W base v0 v1 v2 v3 d0 d1 d2 d3 p0 p1 p2 p3 (hval 0 3 v0 rfl rfl) h0 z0 (hval 1 22 v1 rfl rfl) h1 z1 (hval 2 23 v2 rfl rfl) h2 z2 (hval 3 4 v3 rfl rfl) h3 z3 hk hc) (fun w2 bel => post_tape W.tape ?_)
  exact ⟨_, _, _, [], _, [], hW', trodAll_mk1 (shut_bool Try.underlying4 _), (trodAll_cons_mk (Below.trod laidOut (by kernel_rfl) (of_decide_eq_true (by kernel_rfl)) h0 bel lt0) (trodAll_cons_mk (Below.trod laidOut (by kernel_rfl) (of_decide_eq_true (by kernel_rfl)) h1 bel lt1) (trodAll_cons_mk (Below.trod laidOut (by kernel_rfl) (of_decide_eq_true (by kernel_rfl)) h2 bel lt2) (trodAll_cons_mk (Below.trod laidOut (by kernel_rfl) (of_decide_eq_true (by kernel_rfl)) h3 bel lt3) trodAll_mk0)))), rfl, bel.frame _, fun h => by cases h⟩

set_option maxRecDepth 100000 in
theorem lifted (os : Os) (started : os.Started) (H : Type) (enc : TypeId × Value → H) (F : Stop.Interp) :
    ReturnsInLeavingWide {} Try.checked os 9 .any ((Rows.OpenSpec.upto Rows.wordPlaysSpec).pre6 enc Try.prog Try.f9 Rows.wordPlaysUptoRow.domain false) (((Rows.OpenSpec.upto Rows.wordPlaysSpec).at F).post enc Try.prog Try.f9 false true false false) := by
  refine leaving_of_cond (C := Try.checked) (s := Rows.OpenSpec.upto Rows.wordPlaysSpec) (k := Rows.uptoSmall) rfl own started Try.func9
    (OpenSpec.witness (enc := enc) (C := Try.checked) (s := Rows.OpenSpec.upto Rows.wordPlaysSpec) (k := Rows.uptoSmall) rfl false ⟨#[], #[.int .i64 0, .slice none 0 0, .slice none 0 0, .bool true], []⟩ 8 (by kernel_rfl) (by kernel_rfl) (by kernel_rfl)
      (x := ([.lit (.int .i64 0), .nil, .nil, .lit (.bool true)], [], [])) (by kernel_rfl) rfl (by kernel_rfl)) ?_
  intro W base args ds gs before hval hW hk hsz
  exact contract H enc W base args ds gs before hval hW hk hsz

/-- The statement. -/
theorem proved : Rows.WordPlaysUptoSaid :=
  holds_leaving 9 Try.f9 rfl rfl rfl rfl rfl rfl rfl ⟨rfl, rfl, rfl, rfl, rfl⟩ rfl rfl rfl rfl rfl (by kernel_rfl) Try.func9 (by kernel_rfl)
    (of_decide_eq_true (by kernel_rfl)) (by unfold Func.isWrapper; first | (rw [if_pos (by decide +kernel)]; kernel_rfl) | (rw [if_neg (by decide +kernel)]; exact ⟨rfl, rfl⟩))
    (fun os started H enc _ F => lifted os started H enc F)
#print axioms proved
end Go.Proofs.Ytimlbbleblijnaa.wordPlaysUpto
