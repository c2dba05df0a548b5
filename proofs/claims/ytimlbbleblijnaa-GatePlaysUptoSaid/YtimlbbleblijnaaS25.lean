/- Lemmas for the laws of this seat, laid together of PGdf, PGdg. -/
import Derived.Test.YtimlbbleblijnaaS19
import Derived.Test.YtimlbbleblijnaaS22
import Derived.Test.YtimlbbleblijnaaRows
import Derived.ProofKit
import Derived.SizedLaws
import Derived.ChangeArms
import Derived.ChangeSame
import Derived.Lib.SmallJoins
import Derived.OpenShut
import Derived.Deep.Strs
import Derived.Deep.CondSized

namespace Go.Proofs.Ytimlbbleblijnaa.Co
open Go Go.Conc Go.RowKit Go.ChangeShapes Go.WideShapes Go.Deep
set_option linter.unusedVariables false
set_option maxRecDepth 100000
theorem bulk_one {H : Type} (d : DataW H) : 1 ≤ Rows.uptoBulk d := by
  cases d with
  | lit l => cases l <;> simp [Rows.uptoBulk]
  | nil => simp [Rows.uptoBulk]
  | ptr d => simp [Rows.uptoBulk]
  | slice elems spare => simp [Rows.uptoBulk]
  | agg parts => simp [Rows.uptoBulk]
  | iface t d => simp [Rows.uptoBulk]
  | map entries => simp [Rows.uptoBulk]
  | held h => simp [Rows.uptoBulk]
theorem bulk_many {H : Type} : ∀ l : List (DataW H), l.length ≤ Rows.uptoBulkAll l
  | [] => by simp [Rows.uptoBulkAll]
  | x :: r => by
    have h1 := bulk_one x
    have h2 := bulk_many r
    simp only [Rows.uptoBulkAll, List.length_cons]; omega
theorem bulk_mem {H : Type} : ∀ {l : List (DataW H)} {x : DataW H}, x ∈ l → Rows.uptoBulk x ≤ Rows.uptoBulkAll l
  | y :: r, x, h => by
    simp only [Rows.uptoBulkAll]
    rcases List.mem_cons.1 h with rfl | h
    · omega
    · have := bulk_mem h
      omega
theorem pick_list {α : Type} {p : Nat → α → Prop} : ∀ n, (∀ i, i < n → ∃ x, p i x) → ∃ l : List α, l.length = n ∧ ∀ i (h : i < l.length), p i l[i]
  | 0, _ => ⟨[], rfl, fun i h => absurd h (by simp)⟩
  | n + 1, hp => by
    obtain ⟨l, hl, h⟩ := pick_list n (fun i hi => hp i (by omega))
    obtain ⟨x, hx⟩ := hp n (by omega)
    refine ⟨l ++ [x], by simp [hl], fun i hi => ?_⟩
    by_cases hi' : i < l.length
    · rw [List.getElem_append_left hi']; exact h i hi'
    · have hi2 : i = l.length := by simp at hi; omega
      subst hi2
      simp [hl, hx]
theorem add_at (b o k : Nat) : (⟨b, o, none⟩ : Addr).add k = ⟨b, o + k, none⟩ := by
  unfold Addr.add
  by_cases h : k = 0
  · simp [h]
  · simp [h]
theorem vis_cell {W : World} {a : Addr} {v : Value} (h : W.cell? a = some v) : (Env.zero W).H a.block = none := by
  show H0 W a.block = none
  unfold H0
  unfold World.cell? at h
  cases e : W.heap[a.block]? with
  | none => rfl
  | some o =>
    rw [e] at h
    cases o <;> first | rfl | (exfalso; simp at h)
section
variable {H : Type} {enc : TypeId × Value → H} {W : World} {base : Nat} {spare : Nat → Bool} {held : Bool}
theorem one_op {m : Nat} {cs : List Value} {y : DataW H × List MemPlace} (h : DataW.trod enc Try.prog W base spare held m 34 cs = some y) : ∃ x : Op3, cs = [.int .i64 x.1, .int .i64 x.2.1, .int .i64 x.2.2] := by
  obtain ⟨y0, y1, y2, n, hy, hl, h0, h1, h2⟩ := trod_struct3 Try.underlying34 h
  have hl2 : cs.length = 3 := hl.trans (by kernel_rfl)
  match cs, hl2 with
  | [c0, c1, c2], _ =>
    obtain ⟨a, e0, z0, b0⟩ := DataW.trod_int (k := .i64) (by kernel_rfl) (show DataW.trod enc Try.prog W base spare held n _ [c0] = some y0 from h0)
    obtain ⟨b, e1, z1, b1⟩ := DataW.trod_int (k := .i64) (by kernel_rfl) (show DataW.trod enc Try.prog W base spare held n _ [c1] = some y1 from h1)
    obtain ⟨c, e2, z2, b2⟩ := DataW.trod_int (k := .i64) (by kernel_rfl) (show DataW.trod enc Try.prog W base spare held n _ [c2] = some y2 from h2)
    obtain rfl : c0 = .int .i64 a := by simpa using e0
    obtain rfl : c1 = .int .i64 b := by simpa using e1
    obtain rfl : c2 = .int .i64 c := by simpa using e2
    exact ⟨(a, b, c), rfl⟩
theorem ops_open {m : Nat} {c : Value} {y : DataW H × List MemPlace} (h : DataW.trod enc Try.prog W base spare held m 32 [c] = some y) :
    ∃ (A : Option Addr) (cap : Nat) (l : List Op3), c = .slice A l.length cap ∧ l.length ≤ Rows.uptoBulk y.1 ∧ (l ≠ [] → ∃ la lo, A = some ⟨la, lo, none⟩ ∧ ∀ j op, l[j]? = some op →
      W.cell? ⟨la, lo + j * 3, none⟩ = some (.int .i64 op.1) ∧ W.cell? ⟨la, lo + j * 3 + 1, none⟩ = some (.int .i64 op.2.1) ∧ W.cell? ⟨la, lo + j * 3 + 2, none⟩ = some (.int .i64 op.2.2)) := by
  rcases DataW.trod_slice Try.underlying32 h with ⟨hc, hy⟩ | ⟨a, len, cap, elems, rest, n, _, hc, hy, hb, hl, hm, hlen, hel, _, _⟩
  · obtain rfl : c = .slice none 0 0 := by simpa using hc
    exact ⟨none, 0, [], rfl, Nat.zero_le _, fun h => absurd rfl h⟩
  · obtain rfl : c = .slice (some a) len cap := by simpa using hc
    have hC : Try.prog.cellsOf 34 = 3 := by kernel_rfl
    rw [hC] at hel
    have key : ∀ i, i < len → ∃ x : Op3, W.cell? (a.add (i * 3)) = some (.int .i64 x.1) ∧ W.cell? ((a.add (i * 3)).add 1) = some (.int .i64 x.2.1) ∧ W.cell? ((a.add (i * 3)).add 2) = some (.int .i64 x.2.2) := by
      intro i hi
      have he := hel i hi
      rw [List.getElem?_eq_getElem (by omega)] at he
      simp only [Option.bind_eq_some_iff] at he
      obtain ⟨cs, hcs, ht⟩ := he
      obtain ⟨x, rfl⟩ := one_op ht
      have hcc := (World.cells?_some hcs).2.2
      refine ⟨x, ?_, hcc 1 (by omega), hcc 2 (by omega)⟩
      have := hcc 0 (by omega)
      simpa [Addr.add] using this
    obtain ⟨l, hll, hp⟩ := pick_list len key
    refine ⟨some a, cap, l, by rw [hll], ?_, fun hne => ?_⟩
    · have h1 := bulk_many (elems.map (·.1))
      rw [hy]
      simp only [Rows.uptoBulk]
      rw [List.length_map] at h1
      omega
    · have hn : 0 < l.length := List.length_pos_iff.2 hne
      have h0 := (hp 0 hn).1
      have ha : a.add (0 * 3) = a := by simp [Addr.add]
      rw [ha] at h0
      have hsp := World.cell?_spot h0
      obtain ⟨ab, ao, at0⟩ := a
      simp only at hsp
      subst hsp
      refine ⟨ab, ao, rfl, fun i x hx => ?_⟩
      obtain ⟨hi, rfl⟩ := List.getElem?_eq_some_iff.1 hx
      obtain ⟨w1, w2, w3⟩ := hp i hi
      rw [add_at] at w1 w2 w3
      rw [add_at] at w2 w3
      exact ⟨w1, w2, w3⟩
theorem threads_open {m : Nat} {c : Value} {y : DataW H × List MemPlace} (h : DataW.trod enc Try.prog W base spare held m 22 [c] = some y) :
    ∃ ts : List (List Op3), OpsAt (Env.zero W) W c ts ∧ ts.length ≤ Rows.uptoBulk y.1 ∧ ∀ l ∈ ts, l.length ≤ Rows.uptoBulk y.1 := by
  rcases DataW.trod_slice Try.underlying22 h with ⟨hc, hy⟩ | ⟨a, len, cap, elems, rest, n, _, hc, hy, hb, hl, hm, hlen, hel, _, _⟩
  · obtain rfl : c = .slice none 0 0 := by simpa using hc
    exact ⟨[], ⟨none, 0, 0, 0, fun _ => none, fun _ => 0, rfl, fun h => absurd h (by simp), fun i l hi => by simp at hi⟩, Nat.zero_le _, fun l hl => by cases hl⟩
  · obtain rfl : c = .slice (some a) len cap := by simpa using hc
    have hC : Try.prog.cellsOf 32 = 1 := by kernel_rfl
    rw [hC] at hel
    have key : ∀ i, i < len → ∃ z : Option Addr × Nat × List Op3, W.cell? (a.add (i * 1)) = some (.slice z.1 z.2.2.length z.2.1) ∧ z.2.2.length ≤ Rows.uptoBulk y.1 ∧ (z.2.2 ≠ [] → ∃ la lo, z.1 = some ⟨la, lo, none⟩ ∧ ∀ j op, z.2.2[j]? = some op →
        W.cell? ⟨la, lo + j * 3, none⟩ = some (.int .i64 op.1) ∧ W.cell? ⟨la, lo + j * 3 + 1, none⟩ = some (.int .i64 op.2.1) ∧ W.cell? ⟨la, lo + j * 3 + 2, none⟩ = some (.int .i64 op.2.2)) := by
      intro i hi
      have he := hel i hi
      rw [List.getElem?_eq_getElem (by omega)] at he
      simp only [Option.bind_eq_some_iff] at he
      obtain ⟨cs, hcs, ht⟩ := he
      have hcc := World.cells?_some hcs
      have hl1 : cs.length = 1 := hcc.2.1
      match cs, hl1 with
      | [c0], _ =>
        obtain ⟨A, cap', l, rfl, hb', hops⟩ := ops_open ht
        refine ⟨(A, cap', l), ?_, ?_, hops⟩
        · have := hcc.2.2 0 (by omega)
          simpa [Addr.add] using this
        · have h1 := bulk_mem (l := elems.map (·.1)) (x := elems[i].1) (List.mem_map.2 ⟨elems[i], List.getElem_mem _, rfl⟩)
          rw [hy]
          simp only [Rows.uptoBulk]
          omega
    obtain ⟨zs, hzl, hp⟩ := pick_list len key
    have hlen2 : (zs.map (·.2.2)).length = len := by rw [List.length_map, hzl]
    refine ⟨zs.map (·.2.2), ⟨some a, a.block, a.off, cap, fun i => (zs.getD i (none, 0, [])).1, fun i => (zs.getD i (none, 0, [])).2.1, by rw [hlen2], fun hn => ?_, fun i l hi => ?_⟩, ?_, fun l hl' => ?_⟩
    · rw [hlen2] at hn
      have h0 := (hp 0 (by omega)).1
      have ha : a.add (0 * 1) = a := by simp [Addr.add]
      rw [ha] at h0
      have hsp := World.cell?_spot h0
      obtain ⟨ab, ao, at0⟩ := a
      simp only at hsp
      subst hsp
      rfl
    · have hi' : i < zs.length := by have := (List.getElem?_eq_some_iff.1 hi).1; simpa using this
      have h0 := (hp 0 (by omega)).1
      have ha : a.add (0 * 1) = a := by simp [Addr.add]
      rw [ha] at h0
      have hsp := World.cell?_spot h0
      obtain ⟨ab, ao, at0⟩ := a
      simp only at hsp
      subst hsp
      obtain ⟨w1, w2, w3⟩ := hp i hi'
      rw [add_at, Nat.mul_one] at w1
      have hz : zs.getD i (none, 0, []) = zs[i] := by simp [List.getD, List.getElem?_eq_getElem hi']
      have hl : l = zs[i].2.2 := by
        rw [List.getElem?_map, List.getElem?_eq_getElem hi'] at hi
        exact (Option.some.inj hi).symm
      dsimp only
      rw [hz, hl]
      have hv := vis_cell w1
      refine ⟨⟨w1, hv⟩, fun hne => ?_⟩
      obtain ⟨la, lo, e1, e2⟩ := w3 hne
      refine ⟨la, lo, e1, ?_, e2⟩
      cases hzz : zs[i].2.2 with
      | nil => exact absurd hzz hne
      | cons op r => exact vis_cell (e2 0 op (by rw [hzz]; rfl)).1
    · rw [hlen2]
      have h1 := bulk_many (elems.map (·.1))
      rw [hy]
      simp only [Rows.uptoBulk]
      rw [List.length_map] at h1
      omega
    · obtain ⟨z, hz, rfl⟩ := List.mem_map.1 hl'
      obtain ⟨i, hi, rfl⟩ := List.mem_iff_getElem.1 hz
      exact (hp i hi).2.1
theorem ints_open {m : Nat} {c : Value} {y : DataW H × List MemPlace} (h : DataW.trod enc Try.prog W base spare held m 23 [c] = some y) :
    ∃ ps : List Int, IntsAt (Env.zero W) W c ps ∧ ps.length ≤ Rows.uptoBulk y.1 ∧ ∀ p ∈ ps, -9223372036854775808 ≤ p ∧ p ≤ 9223372036854775807 := by
  rcases DataW.trod_slice Try.underlying23 h with ⟨hc, hy⟩ | ⟨a, len, cap, elems, rest, n, _, hc, hy, hb, hl, hm, hlen, hel, _, _⟩
  · obtain rfl : c = .slice none 0 0 := by simpa using hc
    exact ⟨[], ⟨none, 0, 0, 0, rfl, fun h => absurd rfl h, fun i l hi => by simp at hi⟩, Nat.zero_le _, fun l hl => by cases hl⟩
  · obtain rfl : c = .slice (some a) len cap := by simpa using hc
    have hC : Try.prog.cellsOf 3 = 1 := by kernel_rfl
    rw [hC] at hel
    have key : ∀ i, i < len → ∃ z : Int, W.cell? (a.add (i * 1)) = some (.int .i64 z) ∧ -9223372036854775808 ≤ z ∧ z ≤ 9223372036854775807 := by
      intro i hi
      have he := hel i hi
      rw [List.getElem?_eq_getElem (by omega)] at he
      simp only [Option.bind_eq_some_iff] at he
      obtain ⟨cs, hcs, ht⟩ := he
      have hcc := World.cells?_some hcs
      have hl1 : cs.length = 1 := hcc.2.1
      match cs, hl1 with
      | [c0], _ =>
        obtain ⟨z, e0, z0, b0⟩ := DataW.trod_int (k := .i64) (by kernel_rfl) ht
        obtain rfl : c0 = .int .i64 z := by simpa using e0
        have hbb := bounds_i64 b0
        refine ⟨z, ?_, by omega, by omega⟩
        have := hcc.2.2 0 (by omega)
        simpa [Addr.add] using this
    obtain ⟨zs, hzl, hp⟩ := pick_list len key
    refine ⟨zs, ⟨some a, a.block, a.off, cap, by rw [hzl], fun hn => ?_, fun i p hi => ?_⟩, ?_, fun p hp' => ?_⟩
    · have h0 := (hp 0 (List.length_pos_iff.2 hn)).1
      have ha : a.add (0 * 1) = a := by simp [Addr.add]
      rw [ha] at h0
      have hsp := World.cell?_spot h0
      obtain ⟨ab, ao, at0⟩ := a
      simp only at hsp
      subst hsp
      rfl
    · have hi' : i < zs.length := (List.getElem?_eq_some_iff.1 hi).1
      have h0 := (hp 0 (by omega)).1
      have ha : a.add (0 * 1) = a := by simp [Addr.add]
      rw [ha] at h0
      have hsp := World.cell?_spot h0
      obtain ⟨ab, ao, at0⟩ := a
      simp only at hsp
      subst hsp
      obtain ⟨w1, _⟩ := hp i hi'
      rw [add_at, Nat.mul_one] at w1
      obtain ⟨_, rfl⟩ := List.getElem?_eq_some_iff.1 hi
      have hv := vis_cell w1
      exact ⟨w1, hv⟩
    · rw [hzl]
      have h1 := bulk_many (elems.map (·.1))
      rw [hy]
      simp only [Rows.uptoBulk]
      rw [List.length_map] at h1
      omega
    · obtain ⟨i, hi, rfl⟩ := List.mem_iff_getElem.1 hp'
      exact (hp i hi).2
end
#print axioms threads_open
end Go.Proofs.Ytimlbbleblijnaa.Co

namespace Go.Proofs.Ytimlbbleblijnaa.Co
open Go Go.Conc Go.RowKit Go.ChangeShapes
set_option linter.unusedVariables false
section
variable {H : Type} {enc : TypeId × Value → H}
theorem leaving_of_cond {a : Assume} {C : Checked} {os : Os} {f : FuncId} {fn : Func} {s : OpenSpec} {k : (H : Type) → List (DataW H) → Bool} (hk : s.cond = some k) {F : Stop.Interp} {conds : List PathCond} {apart fresh handsOn again : Bool}
    (own : ownKnob C.prog.godebug = none) (started : os.Started) (hfn : C.prog.funcs[f]? = some fn)
    (witness : ∃ (w : World) (tape : Tape) (i : Input), w.os = os ∧ (w.forCall tape i).Shaped C.prog ∧ i.vars = [] ∧ Input.okWide C.prog (w.forCall tape i) .any w.heap.size f i ∧
      s.pre6 enc C.prog fn conds apart (w.forCall tape i).memory i.args ∧ a.holds C.prog (lone (Frame.enter C.prog f i.args .normal) [] (w.forCall tape i)))
    (runs : ∀ (W : World) (base : Nat) (args : Array Value) (ds gs : List (DataW H)) (before : List MemPlace),
      (∀ (j : Nat) t v, fn.params[j]? = some t → args[j]? = some v → Value.okWide C.prog W .any base t v) →
      DataW.Whole enc C.prog fn.params.toList s.vars apart W args.toList ds gs before → k H (ds ++ gs) = true →
      (DataW.weightsEach C.prog (fn.params.toList ++ s.bare.plain.varTypes C.prog) (ds ++ gs)).all (· ≤ reachBytes) = true →
      ∃ M last o w' t', runNT C.prog (M + 1) (solo (G (Frame.enter C.prog f args .normal) []) W) #[] = (.ended o w', t') ∧ runN C.prog M (solo (G (Frame.enter C.prog f args .normal) []) W) = .next last ∧
        step C.prog last = .ended o w' ∧ Go.Conc.Good C.prog (fun v W' => (s.at F).post enc C.prog fn apart fresh handsOn again W args v W') last o w' t') :
    ReturnsInLeavingWide a C os f .any (s.pre6 enc C.prog fn conds apart) ((s.at F).post enc C.prog fn apart fresh handsOn again) := by
  refine returnsInLeavingWide_of_good own started witness ?_
  intro w tape i _ _ _ hok hpre hholds
  obtain ⟨_, _, _, fn', hfn', _, _, _, _, hval⟩ := hok
  obtain rfl : fn' = fn := Option.some.inj (hfn'.symm.trans hfn)
  obtain ⟨ds, gs, before, hw, _, hkk⟩ := (OpenSpec.pre_some hk conds apart _ _).1 hpre.1
  obtain ⟨M, last, o, w', t', h1, h2, h3, h4⟩ := runs (w.forCall tape i) w.heap.size i.args ds gs before hval (DataW.Whole.of_heap (w' := w.forCall tape i) (by rfl) hw) hkk (hpre.2.weights hw)
  exact ⟨M, last, o, w', t', h1, h2, h3, h4.mono fun v hp => ChangeSpec.post_blind hp⟩
end
theorem holds_leaving {p : Pinned} {s : OpenSpec} {c : OpenClaim} (f : FuncId) (fn : Func)
    (hn : c.program = p.name) (hs : c.sum = p.sum) (hsp : c.spec = s.name)
    (hstart : c.start = .entering) (hout : c.outside = []) (hin : c.inits = []) (hun : c.under = none) (hi4 : c.initsInPlace = [] ∧ c.initsUnfollowed = false ∧ c.initsRecurse = false ∧ c.initsNamed = [] ∧ c.initsPassed = []) (hnb : c.noBlocks = false) (hlv : c.leaving = true) (hfo : c.followed = none) (hnar : c.narrowed = s.cond.isSome) (hstill : c.still = false)
    (hfn : p.checked.prog.funcNamed c.func = some f) (hf : p.checked.prog.funcs[f]? = some fn)
    (closed : joinedFacts p.checked.prog f fn s.bare c = true)
    (hinst : fn.isInstance p.checked.prog c.origin c.targs) (hwrap : fn.isWrapper p.checked.prog c.wrapper c.mainSum)
    (h : ∀ os : Os, os.Started → ∀ (H : Type) (enc : TypeId × Value → H), (∀ a b, enc a = enc b → a = b) → ∀ F : Stop.Interp,
      ReturnsInLeavingWide c.assume p.checked os f .any (c.pre enc p.checked.prog fn s) ((s.at F).post enc p.checked.prog fn c.apart c.fresh c.handsOn c.again)) : c.holds p s := by
  simp only [joinedFacts, Bool.and_eq_true, beq_iff_eq, Array.all_eq_true_iff_forall_mem, List.all_eq_true, decide_eq_true_eq] at closed
  obtain ⟨⟨⟨⟨⟨⟨⟨⟨⟨⟨⟨⟨⟨⟨⟨⟨⟨⟨⟨⟨⟨⟨⟨⟨⟨⟨⟨⟨⟨⟨⟨k1, k2⟩, k3⟩, k4⟩, k5⟩, k6⟩, k7⟩, k8⟩, k9⟩, k10⟩, k11⟩, k12⟩, k13⟩, k14⟩, k15⟩, k16⟩, k17⟩, k17b⟩, k18⟩, k19⟩, k20⟩, k21⟩, k22⟩, k23⟩, k23b⟩, k24⟩, k24b⟩, k24c⟩, k25⟩, k26⟩, k27⟩, k28⟩ := closed
  have hq : ∀ os : Os, Stop.quiet p.checked.prog os := fun os k hk => by rw [k9] at hk; cases hk
  refine ⟨k1, hn, hs, hsp, k2, k3, by unfold OpenClaim.startFits; rw [hstart]; exact k24, by unfold OpenClaim.startTold; rw [hstart]; exact ⟨hin, hun, hi4⟩, f, fn, hfn, hf, ⟨k4, k19⟩, (fun hb => by rw [hnb] at hb; cases hb), by unfold OpenClaim.namedList; rw [hfo]; exact k5, hinst, hwrap,
    k6.trans k7.symm, ⟨k8.trans k9.symm, by unfold Program.envWorded; rw [k9]; rfl, k23b⟩, k10, k11, k12, k13, k14, ⟨k15, k27, k28⟩, ⟨k16, k20⟩, ⟨k17, k21, k25, k26⟩, ⟨k22, k24b, k24c, k17b⟩, (by rw [hout, hnar]; cases hsh : c.shortTexts with | none => simp | some _ => rw [hsh] at k23; cases k23), fun n hn' => varReadable_some (k18 n hn'),
    ⟨_, by unfold OpenClaim.world; rw [hout, hstart]; exact WideRow.started_initial, hq _⟩, [], by unfold OpenClaim.lists; rw [hfo], fun os st _ H enc inj => ?_⟩
  have st' : os.Started := by unfold OpenClaim.world at st; rw [hout, hstart] at st; exact st
  rw [OpenClaim.post_not_still hstill]
  unfold OpenClaim.form
  rw [hstart, k6]
  intro F
  have e1 : c.okInput = Input.okWide := by unfold OpenClaim.okInput; rw [hnb]
  have e2 : c.atReturn p.checked.prog = leavingAtReturn p.checked.prog := by unfold OpenClaim.atReturn; rw [hlv]
  have e3 : c.always p.checked.prog [] = nothingAlways := by unfold OpenClaim.always; rw [hfo]
  have e4 : s.post enc p.checked.prog fn F c.outside c.apart c.fresh c.handsOn c.again = (s.at F).post enc p.checked.prog fn c.apart c.fresh c.handsOn c.again := by rw [hout]; rfl
  rw [e1, e2, e3]
  show ReturnsInOpen _ _ _ _ _ _ _ _ (s.post enc p.checked.prog fn F c.outside c.apart c.fresh c.handsOn c.again) _ _
  rw [e4]
  exact h os st' H enc inj F k24
#print axioms holds_leaving
end Go.Proofs.Ytimlbbleblijnaa.Co
