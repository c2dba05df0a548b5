/- It is proved that the call of 'gnomon/gnomonlaw05.RanksMerges' returns true for every input of bulk at most 1048576 and leaves its arguments as they were. No other condition. -/
import Derived.Test.YtonacegkhkncmaaRows
import Derived.Test.YtonacegkhkncmaaRd5
import Derived.Test.YtonacegkhkncmaaAo
import Derived.WalkKit
import Derived.ProofKit
import Derived.OpenShut
import Derived.ShutString
import Derived.Lib.SmallJoins
import Derived.SizedLaws
import Derived.ChangeOld
import Derived.Below
import Derived.Deep.CondSized
import Derived.JoinedCond
namespace Go.Proofs.Ytonacegkhkncmaa.ranksMergesUpto
open Go.ChangeShapes Go.WideShapes Go.ChangeAt Go.RowKit
open Go.ChangeMaps (open_string shut_string)
set_option linter.unusedVariables false
set_option maxRecDepth 100000

theorem own : ownKnob Try.prog.godebug = none := by kernel_rfl
theorem laidOut : laidOutB Try.prog = true := by kernel_rfl

/-- The walk. -/
theorem walk {H : Type} {enc : TypeId × Value → H} (W : World) (base : Nat) (v0 : Value) (d0 : DataW H) (p0 : List MemPlace) (k0 : Value.okWide Try.prog W .any base 48 v0) (h0 : DataW.Trod enc Try.prog W 0 (fun _ => true) true 48 v0 d0 p0) (z0 : ∀ n ∈ d0.weights Try.prog 48, n ≤ reachBytes) (hk : Rows.uptoBulkAll [d0] ≤ 1048576) :
    Calls Try.prog 10 #[v0] W fun e W' => e = .returned (.bool true) ∧ Below W.heap.size W W' := by
  obtain ⟨cs, ys, m, rfl, rfl, hl, hy, hf⟩ := Ao.fields_open Try.underlying48 (by kernel_rfl) (by kernel_rfl) k0 h0
  match cs, ys, hl, hy, hf with
  | [c0, c1, c2, c3, c4, c5, c6, c7], [y0, y1, y2, y3, y4, y5, y6, y7], _, _, hf =>
    have g : ∀ (j : Nat) (f : Field) (c : Value) (y : DataW H × List MemPlace), _ → _ → _ → DataW.trod enc Try.prog W 0 (fun _ => true) true m f.type [c] = some y := fun j f c y (h1 : _ = some f) (h2 : [c0, c1, c2, c3, c4, c5, c6, c7][j]? = some c) (h3 : [y0, y1, y2, y3, y4, y5, y6, y7][j]? = some y) => by
      obtain ⟨c', y', e1, e2, e3⟩ := hf j f h1
      rw [h2] at e1; rw [h3] at e2
      cases e1; cases e2; exact e3
    obtain ⟨p, e0, _, b0⟩ := DataW.trod_int (k := .i64) (by kernel_rfl) (g 0 _ c0 y0 rfl rfl rfl)
    obtain ⟨A1, k1, l, rfl, r1, _, _, d1⟩ := Ao.cnts_open (g 1 _ c1 y1 rfl rfl rfl)
    obtain ⟨A2, k2, m2, rfl, r2, _, _, d2⟩ := Ao.cnts_open (g 2 _ c2 y2 rfl rfl rfl)
    obtain ⟨rk, e3, _, b3⟩ := DataW.trod_int (k := .u64) (by kernel_rfl) (g 3 _ c3 y3 rfl rfl rfl)
    obtain ⟨n, e4, _, b4⟩ := DataW.trod_int (k := .u64) (by kernel_rfl) (g 4 _ c4 y4 rfl rfl rfl)
    obtain ⟨num, e5, _, b5⟩ := DataW.trod_int (k := .i64) (by kernel_rfl) (g 5 _ c5 y5 rfl rfl rfl)
    obtain ⟨den, e6, _, b6⟩ := DataW.trod_int (k := .i64) (by kernel_rfl) (g 6 _ c6 y6 rfl rfl rfl)
    obtain ⟨v, e7, _, b7⟩ := DataW.trod_int (k := .i64) (by kernel_rfl) (g 7 _ c7 y7 rfl rfl rfl)
    obtain rfl : c0 = .int .i64 p := by simpa using e0
    obtain rfl : c3 = .int .u64 rk := by simpa using e3
    obtain rfl : c4 = .int .u64 n := by simpa using e4
    obtain rfl : c5 = .int .i64 num := by simpa using e5
    obtain rfl : c6 = .int .i64 den := by simpa using e6
    obtain rfl : c7 = .int .i64 v := by simpa using e7
    have s1 := Ao.cnts_bulk d1
    have s2 := Ao.cnts_bulk d2
    simp only [Rows.uptoBulkAll, Rows.uptoBulk, List.map_cons, List.map_nil] at hk
    exact Rk.merges_any W p v _ _ _ _ A1 A2 l m2 k1 k2 r1 r2 (by omega)

set_option maxRecDepth 100000 in
theorem contract (H : Type) (enc : TypeId × Value → H) (W : World) (base : Nat) (args : Array Value) (ds gs : List (DataW H)) (before : List MemPlace)
    (hval0 : ∀ (j : Nat) t v, Try.f10.params[j]? = some t → args[j]? = some v → Value.okWide Try.prog W .any base t v)
    (hW : DataW.Whole enc Try.prog Try.f10.params.toList Rows.ranksMergesSpec.vars false W args.toList ds gs before) (hk0 : Rows.uptoSmall H (ds ++ gs) = true)
    (hsz : (DataW.weightsEach Try.prog (Try.f10.params.toList ++ (Rows.OpenSpec.upto Rows.ranksMergesSpec).bare.plain.varTypes Try.prog) (ds ++ gs)).all (· ≤ reachBytes) = true) :
    Calls Try.prog 10 args W fun e W' => ∃ v, e = .returned v ∧ Rows.ranksMergesSpec.post enc Try.prog Try.f10 false true false false W args v W' := by
  have hval : ∀ (j : Nat) t v, Try.f10.params[j]? = some t → args[j]? = some v → Value.okWide Try.prog W .any base t v := hval0
  have hW' := hW
  obtain ⟨p, q, hA0, hV, rfl, hfz, hnd⟩ := hW
  have hA : DataW.TrodAll enc Try.prog W 0 (fun _ => true) true Try.f10.params.toList args.toList ds p := hA0
  rw [Try.params10] at hA hval hsz
  obtain ⟨v0, vs0, d0, ds0, p0, q0, hargs, rfl, rfl, h0, r0⟩ := trodAll_cons hA
  obtain ⟨rfl, rfl, rfl⟩ := trodAll_nil r0
  obtain rfl : args = #[v0] := by cases args; simp_all
  obtain ⟨rfl, rfl⟩ := trodVars_none hV
  have lt0 : ∀ x ∈ p0, x.block < W.heap.size := by obtain ⟨m, hm⟩ := h0; exact DataW.trod_lt m _ _ _ hm
  have z0 : ∀ n ∈ d0.weights Try.prog 48, n ≤ reachBytes := fun n hn => by simpa using List.all_eq_true.1 hsz n (DataW.weights_mem_each (j := 0) rfl rfl n hn)
  have hk : Rows.uptoBulkAll [d0] ≤ 1048576 := of_decide_eq_true hk0
  clear hA0 hval0
  refine (walk (enc := enc) W base v0 d0 p0 (hval 0 48 v0 rfl rfl) h0 z0 hk).mono fun e W' ⟨he, bel⟩ => ?_
  subst he
  exact ⟨_, rfl, _, _, _, [], _, [], hW', trodAll_mk1 (shut_bool Try.underlying4 _), (trodAll_cons_mk (Below.trod laidOut (by kernel_rfl) (of_decide_eq_true (by kernel_rfl)) h0 bel lt0) trodAll_mk0), rfl, bel.frame _, fun h => by cases h⟩

set_option maxRecDepth 100000 in
theorem lifted (os : Os) (started : os.Started) (H : Type) (enc : TypeId × Value → H) (F : Stop.Interp) :
    ReturnsInHanded {} Try.checked os 10 .any ((Rows.OpenSpec.upto Rows.ranksMergesSpec).pre6 enc Try.prog Try.f10 Rows.ranksMergesUptoRow.domain false) (((Rows.OpenSpec.upto Rows.ranksMergesSpec).at F).post enc Try.prog Try.f10 false true false false) := by
  refine returnsInHanded_of_cond_sized (C := Try.checked) (s := Rows.OpenSpec.upto Rows.ranksMergesSpec) (k := Rows.uptoSmall) rfl own started (by kernel_rfl) Try.func10
    (OpenSpec.witness (enc := enc) (C := Try.checked) (s := Rows.OpenSpec.upto Rows.ranksMergesSpec) (k := Rows.uptoSmall) rfl false ⟨#[], #[.agg #[.int .i64 0, .slice none 0 0, .slice none 0 0, .int .u64 0, .int .u64 0, .int .i64 0, .int .i64 0, .int .i64 0]], []⟩ 8 (by kernel_rfl) (by kernel_rfl) (by kernel_rfl)
      (x := ([.agg [.lit (.int .i64 0), .nil, .nil, .lit (.int .u64 0), .lit (.int .u64 0), .lit (.int .i64 0), .lit (.int .i64 0), .lit (.int .i64 0)]], [], [])) (by kernel_rfl) rfl (by kernel_rfl)) ?_
  intro W base args ds gs before hval hW _ hk hsz _
  exact contract H enc W base args ds gs before hval hW hk hsz

/-- The statement. -/
theorem proved : Rows.RanksMergesUptoSaid :=
  OpenClaim.holds_of_cond 10 Try.f10 rfl rfl rfl rfl rfl rfl rfl ⟨rfl, rfl, rfl, rfl, rfl⟩ rfl rfl rfl rfl rfl (by kernel_rfl) Try.func10 (by kernel_rfl)
    (of_decide_eq_true (by kernel_rfl)) (by unfold Func.isWrapper; first | (rw [if_pos (by decide +kernel)]; kernel_rfl) | (rw [if_neg (by decide +kernel)]; exact ⟨rfl, rfl⟩))
    (fun os started H enc _ F => lifted os started H enc F)
#print axioms proved
end Go.Proofs.Ytonacegkhkncmaa.ranksMergesUpto
