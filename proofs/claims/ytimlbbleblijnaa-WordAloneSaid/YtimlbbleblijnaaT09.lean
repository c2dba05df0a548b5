/- Lemmas for the laws of this seat, laid together of PGac, PGad, PGae. -/
import Derived.Test.YtimlbbleblijnaaT08

namespace Go.Proofs.Ytimlbbleblijnaa.Co
open Go.Conc
open Go.ConcN (sumTo upd sumTo_upd upd_ne upd_same sumTo_congr le_sumTo)
set_option linter.unusedVariables false
set_option linter.unusedSimpArgs false
def Emptied (h b : Nat) (K : Env → World → Prop) (E : Env) (w : World) : Prop := ∃ E0 w0, K E0 w0 ∧ E0.Eq h E ∧ Aw E0.W w0 w ∧ ∀ x, E.wg x ≠ some b
theorem Emptied.bears {h b : Nat} {K : Env → World → Prop} : Bears h (Emptied h b K) := fun E E1 w w1 hE hA ⟨E0, w0, k, e1, e2, e3⟩ =>
  ⟨E0, w0, k, e1.trans hE, e2.trans _ _ _ (by have : E.W = E0.W := e1.W'; rw [← this]; exact hA), fun x hx => e3 x (hE.wg x b hx)⟩
theorem holds_acq {P : Program} {h d : Nat} {K : Env → World → Prop} {F : Machine → Trace → Prop} {g g' : Goroutine} (hK : Bears h K) {b : Nat} (hW : ∀ E w, K E w → E.W b = true) (hs : g.status = .running) (hst : ∀ w, stepG P (h == 0) g w = .go g' w #[mkE (.acquire (stZ b))]) (hg : Holds P h d K F g') : Holds P h d K F g :=
  Holds.own hK hs (fun E w gs T q sl k C ha => by
    have hG := C.groups b (hW E w k)
    obtain ⟨C', ha'⟩ := C.own (a' := g') (w' := w) (es := #[mkE (.acquire (stZ b))]) ha ⟨Nat.le_refl _, fun _ _ => rfl, fun _ _ => rfl, fun _ _ x _ _ _ e => ⟨x, e⟩, fun h => h, fun e he => by
      obtain rfl : e = mkE (.acquire (stZ b)) := by simpa using he
      refine ⟨fun t ht => ?_, by simp [mkE], by simp [mkE], ?_⟩
      · simp [mkE, MemAct.ofEvent, MemAct.touch?] at ht
      · show (stZ b).block < w.heap.size
        exact hG.lt, ⟨rfl, rfl⟩⟩
    exact ⟨_, _, _, _, E, q, runT_crowd_go ha (hst w), k, C', ha'⟩) hg
def AnchW (L : Go.Conc.Lib.WgLink) (b : Nat) (W : Nat → Bool) (w0 : World) (c : Frame) (cs : List Frame) (g : Goroutine) (w : World) : Prop :=
  ∃ T : Array Value, g = G ((Go.Conc.base L.wait).at ⟨T, []⟩ [.code (Go.ConcR.Gen.L7 L), .inLoop (Go.ConcR.Gen.L7 L), .inBlock 0]) (c :: cs) ∧ T.size = 84 ∧ T[0]? = some (.pointer (some (stZ b))) ∧ Live b w ∧ Aw W w0 w
def FinW (P : Program) (h b : Nat) (K : Env → World → Prop) (F : Machine → Trace → Prop) (W : Nat → Bool) (w0 : World) (g : Goroutine) (w : World) : Prop := Aw W w0 w ∧ Holds P h 1 (Emptied h b K) F g
#print axioms holds_acq
end Go.Proofs.Ytimlbbleblijnaa.Co

namespace Go.Proofs.Ytimlbbleblijnaa.Co
open Go.Conc
open Go.ConcN (sumTo upd sumTo_upd upd_ne upd_same sumTo_congr le_sumTo)
set_option linter.unusedVariables false
set_option linter.unusedSimpArgs false
theorem emptied_W {h b : Nat} {K : Env → World → Prop} (hKW : ∀ E w, K E w → E.W b = true) : ∀ E w, Emptied h b K E w → E.W b = true := fun E w ⟨E0, w0, k, e1, _⟩ => by
  have : E.W = E0.W := e1.W'
  rw [this]; exact hKW _ _ k
open Go.Conc.Lib Go.ConcR.Gen in
set_option maxRecDepth 100000 in
set_option maxHeartbeats 8000000 in
theorem wait_round {P : Program} {L : WgLink} (H : WgLib P L) {h b : Nat} {K : Env → World → Prop} {F : Machine → Trace → Prop} (hKW : ∀ E w, K E w → E.W b = true)
    {b₀ : Frame} {a₀ : Act} {ops₀ : Array Oper} {i₀ : Nat} {rest₀ : List Nat} {k₀ : List Item} {cs : List Frame}
    (hT : Holds P h 0 (Emptied h b K) F (G (b₀.at (a₀.put ((ops₀[i₀]?).bind (·.dst)) (.tuple #[])) (.inRegion ops₀ rest₀ :: k₀)) cs))
    (E : Env) (w0 : World) (hW : E.W b = true) (hS : ∀ a, E.S a → E.W a.block = false)
    (g : Goroutine) (w : World) (hA : AnchW L b E.W w0 (b₀.at a₀ (.inRegion ops₀ (i₀ :: rest₀) :: k₀)) cs g w) :
    GW P (h == 0) E.W E.D (AtW1 P (h == 0) E.W E.D b (FinW P h b K F E.W w0) (AnchW L b E.W w0 (b₀.at a₀ (.inRegion ops₀ (i₀ :: rest₀) :: k₀)) cs)) g w := by
  lib_facts
  have hKe : ∀ E w, Emptied h b K E w → E.W b = true := emptied_W hKW
  have hB : Bears h (Emptied h b K) := Emptied.bears
  have hconv : ∀ w st sm, GroupAt b w st sm → (∀ es, (convert L.tWgP L.tUP (.pointer (some (stZ b)))).events P w es = es) ∧ (convert L.tWgP L.tUP (.pointer (some (stZ b)))).run P w = .ok (.pointer (some (stZ b))) w := fun w st sm hG =>
    ⟨fun es => events_convert_to_unsafe (P := P) H.underlying_tWgP H.underlying_tUP H.room_tWg hG.st es, run_convert_to_unsafe (P := P) H.underlying_tWgP H.underlying_tUP H.room_tWg hG.st⟩
  obtain ⟨T, rfl, hT84, t0, hL, hAw⟩ := hA
  obtain ⟨v0, v1, v2, v3, v4, v5, v6, v7, v8, v9, v10, v11, v12, v13, v14, v15, v16, v17, v18, v19, v20, v21, v22, v23, v24, v25, v26, v27, v28, v29, v30, v31, v32, v33, v34, v35, v36, v37, v38, v39, v40, v41, v42, v43, v44, v45, v46, v47, v48, v49, v50, v51, v52, v53, v54, v55, v56, v57, v58, v59, v60, v61, v62, v63, v64, v65, v66, v67, v68, v69, v70, v71, v72, v73, v74, v75, v76, v77, v78, v79, v80, v81, v82, v83, rfl⟩ := array84 T hT84
  simp only [List.getElem?_toArray, List.getElem?_cons_zero, Option.some.injEq] at t0
  subst t0
  simp only [L7, body_wait, waitFn, Option.getD_some]
  change GWn P (h == 0) E.W E.D _ w 100 _
  refine Idl.step (idl_gw P (h == 0) E _ w) _ _ _ rfl (fun _ => stepG_block) ?_
  refine Idl.step (idl_gw P (h == 0) E _ w) _ _ _ rfl (fun _ => stepG_seq) ?_
  refine Idl.step (idl_gw P (h == 0) E _ w) _ _ _ rfl (fun _ => stepG_region) ?_
  simp only [List.size_toArray, List.length_cons, List.length_nil, Nat.reduceAdd, Nat.zero_add, List.range, List.range.loop]
  apply Idl.value (idl_gw P (h == 0) E _ w) rfl rfl (by first | decide | exact Go.ConcR.Gen.base_kind _ | exact Go.ConcR.Gen.baseD_kind _ | assumption)
  focus (intro w; go_simp; (try w_num); first | done | rfl)
  focus (intro w; simp [go_sem, *])
  walk_nrm
  apply Idl.value (idl_gw P (h == 0) E _ w) rfl rfl (by first | decide | exact Go.ConcR.Gen.base_kind _ | exact Go.ConcR.Gen.baseD_kind _ | assumption)
  focus (intro w; go_simp; (try w_num); first | done | rfl)
  focus (intro w; simp [go_sem, *])
  walk_nrm
  apply Idl.value (idl_gw P (h == 0) E _ w) rfl rfl (by first | decide | exact Go.ConcR.Gen.base_kind _ | exact Go.ConcR.Gen.baseD_kind _ | assumption)
  focus (intro w; go_simp; (try w_num); first | done | rfl)
  focus (intro w; simp [go_sem, *])
  walk_nrm
  refine Idl.call (idl_gw P (h == 0) E _ w) rfl rfl (by first | decide | exact Go.ConcR.Gen.base_kind _ | exact Go.ConcR.Gen.baseD_kind _ | assumption) rfl H.f_uLoad (nm_uLoad L) rfl ?_
  walk_nrmf uLoadFn
  refine Idl.step (idl_gw P (h == 0) E _ w) _ _ _ rfl (fun _ => stepG_seq) ?_
  refine Idl.step (idl_gw P (h == 0) E _ w) _ _ _ rfl (fun _ => stepG_region) ?_
  simp only [List.size_toArray, List.length_cons, List.length_nil, Nat.reduceAdd, Nat.zero_add, List.range, List.range.loop]
  apply Idl.value (idl_gw P (h == 0) E _ w) rfl rfl (by first | decide | exact Go.ConcR.Gen.base_kind _ | exact Go.ConcR.Gen.baseD_kind _ | assumption)
  focus (intro w; go_simp; (try w_num); first | done | rfl)
  focus (intro w; simp [go_sem, *])
  walk_nrm
  refine Idl.step (idl_gw P (h == 0) E _ w) _ _ _ rfl (fun _ => stepG_region_end) ?_
  refine Idl.step (idl_gw P (h == 0) E _ w) _ _ _ rfl (fun _ => stepG_seq) ?_
  refine Idl.step (idl_gw P (h == 0) E _ w) _ _ _ rfl (fun _ => stepG_region) ?_
  simp only [List.size_toArray, List.length_cons, List.length_nil, Nat.reduceAdd, Nat.zero_add, List.range, List.range.loop]
  apply Idl.value (idl_gw P (h == 0) E _ w) rfl rfl (by first | decide | exact Go.ConcR.Gen.base_kind _ | exact Go.ConcR.Gen.baseD_kind _ | assumption)
  focus (intro w; go_simp; (try w_num); first | done | rfl)
  focus (intro w; simp [go_sem, *])
  walk_nrm
  apply Idl.value (idl_gw P (h == 0) E _ w) rfl rfl (by first | decide | exact Go.ConcR.Gen.base_kind _ | exact Go.ConcR.Gen.baseD_kind _ | assumption)
  focus (intro w; go_simp; (try w_num); first | done | rfl)
  focus (intro w; simp [go_sem, *])
  walk_nrm
  apply Idl.value (idl_gw P (h == 0) E _ w) rfl rfl (by first | decide | exact Go.ConcR.Gen.base_kind _ | exact Go.ConcR.Gen.baseD_kind _ | assumption)
  focus (intro w; go_simp; (try w_num); first | done | rfl)
  focus (intro w; simp [go_sem, *])
  walk_nrm
  refine GoesW.stop (fun w₁ h₁ => ?_)
  have hL1 := aw_live hW h₁ hL
  have hA1 := hAw.trans _ _ _ h₁
  clear hL hAw h₁
  refine ⟨rfl, fun v hv hw => ?_⟩
  rcases Nat.eq_zero_or_pos v with rfl | hvp
  · refine ⟨_, stepG_load_atomic (v := 0) rfl rfl (by k_ne) rfl H.f_loadU64 (x_loadU64_n L) (x_loadU64_b L) (x_loadU64_x L) .u64 (x_loadU64_f L) rfl (by simpa using hw.st), fun _ => GoesW.stop (fun w₂ h₂ => ⟨hA1.trans _ _ _ h₂, ?_⟩), fun h => absurd rfl h⟩
    clear hw hL1 hA1
    walk_nrm
    change HoldN P h 1 (Emptied h b K) F 100 _
    apply Idl.value (idl_holdN hB 1) rfl rfl (by first | decide | exact Go.ConcR.Gen.base_kind _ | exact Go.ConcR.Gen.baseD_kind _ | assumption)
    focus (intro w; go_simp; (try w_num); first | done | rfl)
    focus (intro w; simp [go_sem, *])
    walk_nrm
    refine Idl.step (idl_holdN hB 1) _ _ _ rfl (fun _ => stepG_region_end) ?_
    refine Idl.step (idl_holdN hB 1) _ _ _ rfl (fun _ => stepG_ret') ?_
    refine Idl.leave1 (idl_holdN hB 1) rfl rfl H.f_uLoad rfl ?_
    walk_nrm
    apply Idl.value (idl_holdN hB 1) rfl rfl (by first | decide | exact Go.ConcR.Gen.base_kind _ | exact Go.ConcR.Gen.baseD_kind _ | assumption)
    focus (intro w; go_simp; (try w_num); first | done | rfl)
    focus (intro w; simp [go_sem, *])
    walk_nrm
    refine Idl.step (idl_holdN hB 1) _ _ _ rfl (fun _ => stepG_region_end) ?_
    refine Idl.step (idl_holdN hB 1) _ _ _ rfl (fun _ => stepG_seq) ?_
    refine Idl.step (idl_holdN hB 1) _ _ _ rfl (fun _ => stepG_region) ?_
    simp only [List.size_toArray, List.length_cons, List.length_nil, Nat.reduceAdd, Nat.zero_add, List.range, List.range.loop]
    apply Idl.value (idl_holdN hB 1) rfl rfl (by first | decide | exact Go.ConcR.Gen.base_kind _ | exact Go.ConcR.Gen.baseD_kind _ | assumption)
    focus (intro w; go_simp; (try w_num); first | done | rfl)
    focus (intro w; simp [go_sem, *])
    walk_nrm
    apply Idl.value (idl_holdN hB 1) rfl rfl (by first | decide | exact Go.ConcR.Gen.base_kind _ | exact Go.ConcR.Gen.baseD_kind _ | assumption)
    focus (intro w; go_simp; (try w_num); first | done | rfl)
    focus (intro w; simp [go_sem, *])
    walk_nrm
    apply Idl.value (idl_holdN hB 1) rfl rfl (by first | decide | exact Go.ConcR.Gen.base_kind _ | exact Go.ConcR.Gen.baseD_kind _ | assumption)
    focus (intro w; go_simp; (try w_num); first | done | rfl)
    focus (intro w; simp [go_sem, *])
    walk_nrm
    apply Idl.value (idl_holdN hB 1) rfl rfl (by first | decide | exact Go.ConcR.Gen.base_kind _ | exact Go.ConcR.Gen.baseD_kind _ | assumption)
    focus (intro w; go_simp; (try w_num); first | done | rfl)
    focus (intro w; simp [go_sem, *])
    walk_nrm
    refine Idl.step (idl_holdN hB 1) _ _ _ rfl (fun _ => stepG_region_end) ?_
    refine Idl.step (idl_holdN hB 1) _ _ _ rfl (fun _ => stepG_seq) ?_
    refine Idl.step (idl_holdN hB 1) _ _ _ rfl (fun _ => stepG_region) ?_
    simp only [List.size_toArray, List.length_cons, List.length_nil, Nat.reduceAdd, Nat.zero_add, List.range, List.range.loop]
    apply Idl.value (idl_holdN hB 1) rfl rfl (by first | decide | exact Go.ConcR.Gen.base_kind _ | exact Go.ConcR.Gen.baseD_kind _ | assumption)
    focus (intro w; go_simp; (try w_num); first | done | rfl)
    focus (intro w; simp [go_sem, *])
    walk_nrm
    apply Idl.value (idl_holdN hB 1) rfl rfl (by first | decide | exact Go.ConcR.Gen.base_kind _ | exact Go.ConcR.Gen.baseD_kind _ | assumption)
    focus (intro w; go_simp; (try w_num); first | done | rfl)
    focus (intro w; simp [go_sem, *])
    walk_nrm
    apply Idl.value (idl_holdN hB 1) rfl rfl (by first | decide | exact Go.ConcR.Gen.base_kind _ | exact Go.ConcR.Gen.baseD_kind _ | assumption)
    focus (intro w; go_simp; (try w_num); first | done | rfl)
    focus (intro w; simp [go_sem, *])
    walk_nrm
    apply Idl.value (idl_holdN hB 1) rfl rfl (by first | decide | exact Go.ConcR.Gen.base_kind _ | exact Go.ConcR.Gen.baseD_kind _ | assumption)
    focus (intro w; go_simp; (try w_num); first | done | rfl)
    focus (intro w; simp [go_sem, *])
    walk_nrm
    refine Idl.step (idl_holdN hB 1) _ _ _ rfl (fun _ => stepG_region_end) ?_
    refine Idl.step (idl_holdN hB 1) _ _ _ rfl (fun _ => stepG_seq) ?_
    refine Idl.step (idl_holdN hB 1) _ _ _ rfl (fun _ => stepG_seq) ?_
    refine Idl.step (idl_holdN hB 1) _ _ _ rfl (fun _ => stepG_region) ?_
    simp only [List.size_toArray, List.length_cons, List.length_nil, Nat.reduceAdd, Nat.zero_add, List.range, List.range.loop]
    apply Idl.value (idl_holdN hB 1) rfl rfl (by first | decide | exact Go.ConcR.Gen.base_kind _ | exact Go.ConcR.Gen.baseD_kind _ | assumption)
    focus (intro w; go_simp; (try w_num); first | done | rfl)
    focus (intro w; simp [go_sem, *])
    walk_nrm
    apply Idl.value (idl_holdN hB 1) rfl rfl (by first | decide | exact Go.ConcR.Gen.base_kind _ | exact Go.ConcR.Gen.baseD_kind _ | assumption)
    focus (intro w; go_simp; (try w_num); first | done | rfl)
    focus (intro w; simp [go_sem, *])
    walk_nrm
    refine Idl.step (idl_holdN hB 1) _ _ _ rfl (fun _ => stepG_region_end) ?_
    refine Idl.cond (idl_holdN hB 1) true rfl ?_
    simp only [if_true, if_false, Bool.false_eq_true, ↓reduceIte]
    refine Idl.step (idl_holdN hB 1) _ _ _ rfl (fun _ => stepG_seq) ?_
    refine Idl.cond (idl_holdN hB 1) true rfl ?_
    simp only [if_true, if_false, Bool.false_eq_true, ↓reduceIte]
    refine Idl.step (idl_holdN hB 1) _ _ _ rfl (fun _ => stepG_seq) ?_
    refine Idl.step (idl_holdN hB 1) _ _ _ rfl (fun _ => stepG_region) ?_
    simp only [List.size_toArray, List.length_cons, List.length_nil, Nat.reduceAdd, Nat.zero_add, List.range, List.range.loop]
    refine holds_mark hB (d' := 0) .enable (.inr ⟨rfl, rfl⟩) rfl (fun w => stepG_mark0 .enable (by simp) rfl rfl (by k_ne) rfl H.f_enable (x_enable_n L) (x_enable_b L) (x_enable_x L) (x_enable_f L)) ?_
    walk_nrm
    change HoldN P h 0 (Emptied h b K) F 60 _
    refine Idl.step (idl_holdN hB 0) _ _ _ rfl (fun _ => stepG_region_end) ?_
    refine Idl.step (idl_holdN hB 0) _ _ _ rfl (fun _ => stepG_region) ?_
    simp only [List.size_toArray, List.length_cons, List.length_nil, Nat.reduceAdd, Nat.zero_add, List.range, List.range.loop]
    apply Idl.value (idl_holdN hB 0) rfl rfl (by first | decide | exact Go.ConcR.Gen.base_kind _ | exact Go.ConcR.Gen.baseD_kind _ | assumption)
    focus (intro w; go_simp; (try w_num); first | done | rfl)
    focus (intro w; simp [go_sem, *])
    walk_nrm
    refine holds_live hB hKe (.pointer (some (stZ b))) rfl rfl (by k_ne) (fun w st sm hG => ?_) ?_
    · obtain ⟨hce, hcv⟩ := hconv w st sm hG
      exact ⟨by go_simp, by simp [go_sem, hce]⟩
    walk_nrm
    refine holds_acq hB hKe rfl (fun w => stepG_markAt .acquire (by simp) rfl rfl (by k_ne) rfl H.f_acquire (x_acquire_n L) (x_acquire_b L) (x_acquire_x L) (x_acquire_f L) (by simp [Act.eval])) ?_
    walk_nrm
    change HoldN P h 0 (Emptied h b K) F 60 _
    refine Idl.step (idl_holdN hB 0) _ _ _ rfl (fun _ => stepG_region_end) ?_
    refine Idl.step (idl_holdN hB 0) _ _ _ rfl (fun _ => stepG_seq) ?_
    refine Idl.step (idl_holdN hB 0) _ _ _ rfl (fun _ => stepG_seq) ?_
    refine Idl.step (idl_holdN hB 0) _ _ _ rfl (fun _ => stepG_region) ?_
    simp only [List.size_toArray, List.length_cons, List.length_nil, Nat.reduceAdd, Nat.zero_add, List.range, List.range.loop]
    apply Idl.value (idl_holdN hB 0) rfl rfl (by first | decide | exact Go.ConcR.Gen.base_kind _ | exact Go.ConcR.Gen.baseD_kind _ | assumption)
    focus (intro w; go_simp; (try w_num); first | done | rfl)
    focus (intro w; simp [go_sem, *])
    walk_nrm
    apply Idl.value (idl_holdN hB 0) rfl rfl (by first | decide | exact Go.ConcR.Gen.base_kind _ | exact Go.ConcR.Gen.baseD_kind _ | assumption)
    focus (intro w; go_simp; (try w_num); first | done | rfl)
    focus (intro w; simp [go_sem, *])
    walk_nrm
    apply Idl.value (idl_holdN hB 0) rfl rfl (by first | decide | exact Go.ConcR.Gen.base_kind _ | exact Go.ConcR.Gen.baseD_kind _ | assumption)
    focus (intro w; go_simp; (try w_num); first | done | rfl)
    focus (intro w; simp [go_sem, *])
    walk_nrm
    apply Idl.value (idl_holdN hB 0) rfl rfl (by first | decide | exact Go.ConcR.Gen.base_kind _ | exact Go.ConcR.Gen.baseD_kind _ | assumption)
    focus (intro w; go_simp; (try w_num); first | done | rfl)
    focus (intro w; simp [go_sem, *])
    walk_nrm
    apply Idl.value (idl_holdN hB 0) rfl rfl (by first | decide | exact Go.ConcR.Gen.base_kind _ | exact Go.ConcR.Gen.baseD_kind _ | assumption)
    focus (intro w; go_simp; (try w_num); first | done | rfl)
    focus (intro w; simp [go_sem, *])
    walk_nrm
    apply Idl.value (idl_holdN hB 0) rfl rfl (by first | decide | exact Go.ConcR.Gen.base_kind _ | exact Go.ConcR.Gen.baseD_kind _ | assumption)
    focus (intro w; go_simp; (try w_num); first | done | rfl)
    focus (intro w; simp [go_sem, *])
    walk_nrm
    apply Idl.value (idl_holdN hB 0) rfl rfl (by first | decide | exact Go.ConcR.Gen.base_kind _ | exact Go.ConcR.Gen.baseD_kind _ | assumption)
    focus (intro w; go_simp; (try w_num); first | done | rfl)
    focus (intro w; simp [go_sem, *])
    walk_nrm
    apply Idl.value (idl_holdN hB 0) rfl rfl (by first | decide | exact Go.ConcR.Gen.base_kind _ | exact Go.ConcR.Gen.baseD_kind _ | assumption)
    focus (intro w; go_simp; (try w_num); first | done | rfl)
    focus (intro w; simp [go_sem, *])
    walk_nrm
    refine Idl.unwanted (idl_holdN hB 0) rfl rfl ?_
    walk_nrm
    refine Idl.unwanted (idl_holdN hB 0) rfl rfl ?_
    walk_nrm
    apply Idl.value (idl_holdN hB 0) rfl rfl (by first | decide | exact Go.ConcR.Gen.base_kind _ | exact Go.ConcR.Gen.baseD_kind _ | assumption)
    focus (intro w; go_simp; (try w_num); first | done | rfl)
    focus (intro w; simp [go_sem, *])
    walk_nrm
    refine Idl.step (idl_holdN hB 0) _ _ _ rfl (fun _ => stepG_region_end) ?_
    refine Idl.cond (idl_holdN hB 0) false rfl ?_
    simp only [if_true, if_false, Bool.false_eq_true, ↓reduceIte]
    refine Idl.step (idl_holdN hB 0) _ _ _ rfl (fun _ => stepG_skip) ?_
    refine Idl.step (idl_holdN hB 0) _ _ _ rfl (fun _ => stepG_ret') ?_
    refine Idl.leave0 (n := 1) (idl_holdN hB 0) rfl rfl H.f_wait rfl ?_
    exact hT
  · obtain ⟨S, hSS⟩ : ∃ S : Int, (v : Int) * KK = S := ⟨_, rfl⟩
    have a1 : S / 4294967296 = (v : Int) := by rw [← hSS]; simp only [KK]; omega
    have b1 : bits .and .u64 S 2147483648 = 0 := by rw [← hSS]; have := Go.ConcN.st_flag v 0 (by omega) (by omega); simpa [KK] using this
    have b2 : bits .and .u64 S 2147483647 = 0 := by rw [← hSS]; have := Go.ConcN.st_waiters v 0 (by omega) (by omega); simpa [KK] using this
    have c1 : IntKind.i32.wrap (v : Int) = (v : Int) := by rw [IntKind.wrap_i32]; omega
    have w1 : IntKind.u64.wrap (S + 1) = S + 1 := by rw [IntKind.wrap_u64, ← hSS]; simp only [KK]; omega
    have q3 : decide ((v : Int) < 0) = false := decide_eq_false (by omega)
    have q4 : decide (0 < (v : Int)) = true := decide_eq_true (by omega)
    have q5 : ((v : Int) == 0) = false := by simp; omega
    have q6 : decide ((v : Int) = 0) = false := decide_eq_false (by omega)
    rw [hSS] at hw
    refine ⟨_, stepG_load_atomic (v := S) rfl rfl (by k_ne) rfl H.f_loadU64 (x_loadU64_n L) (x_loadU64_b L) (x_loadU64_x L) .u64 (x_loadU64_f L) rfl hw.st, fun h0 => absurd h0 (by omega), fun _ => ?_⟩
    clear hw
    replace hSS := Lib.hid hSS
    walk_nrm
    change GWn P (h == 0) E.W E.D _ w₁ 100 _
    apply Idl.value (idl_gw P (h == 0) E _ w₁) rfl rfl (by first | decide | exact Go.ConcR.Gen.base_kind _ | exact Go.ConcR.Gen.baseD_kind _ | assumption)
    focus (intro w; go_simp; (try w_num); first | done | rfl)
    focus (intro w; simp [go_sem, *])
    walk_nrm
    refine Idl.step (idl_gw P (h == 0) E _ w₁) _ _ _ rfl (fun _ => stepG_region_end) ?_
    refine Idl.step (idl_gw P (h == 0) E _ w₁) _ _ _ rfl (fun _ => stepG_ret') ?_
    refine Idl.leave1 (idl_gw P (h == 0) E _ w₁) rfl rfl H.f_uLoad rfl ?_
    walk_nrm
    apply Idl.value (idl_gw P (h == 0) E _ w₁) rfl rfl (by first | decide | exact Go.ConcR.Gen.base_kind _ | exact Go.ConcR.Gen.baseD_kind _ | assumption)
    focus (intro w; go_simp; (try w_num); first | done | rfl)
    focus (intro w; simp [go_sem, *])
    walk_nrm
    refine Idl.step (idl_gw P (h == 0) E _ w₁) _ _ _ rfl (fun _ => stepG_region_end) ?_
    refine Idl.step (idl_gw P (h == 0) E _ w₁) _ _ _ rfl (fun _ => stepG_seq) ?_
    refine Idl.step (idl_gw P (h == 0) E _ w₁) _ _ _ rfl (fun _ => stepG_region) ?_
    simp only [List.size_toArray, List.length_cons, List.length_nil, Nat.reduceAdd, Nat.zero_add, List.range, List.range.loop]
    apply Idl.value (idl_gw P (h == 0) E _ w₁) rfl rfl (by first | decide | exact Go.ConcR.Gen.base_kind _ | exact Go.ConcR.Gen.baseD_kind _ | assumption)
    focus (intro w; go_simp; (try w_num); first | done | rfl)
    focus (intro w; simp [go_sem, *])
    walk_nrm
    apply Idl.value (idl_gw P (h == 0) E _ w₁) rfl rfl (by first | decide | exact Go.ConcR.Gen.base_kind _ | exact Go.ConcR.Gen.baseD_kind _ | assumption)
    focus (intro w; go_simp; (try w_num); first | done | rfl)
    focus (intro w; simp [go_sem, *])
    walk_nrm
    apply Idl.value (idl_gw P (h == 0) E _ w₁) rfl rfl (by first | decide | exact Go.ConcR.Gen.base_kind _ | exact Go.ConcR.Gen.baseD_kind _ | assumption)
    focus (intro w; go_simp; (try w_num); first | done | rfl)
    focus (intro w; simp [go_sem, *])
    walk_nrm
    apply Idl.value (idl_gw P (h == 0) E _ w₁) rfl rfl (by first | decide | exact Go.ConcR.Gen.base_kind _ | exact Go.ConcR.Gen.baseD_kind _ | assumption)
    focus (intro w; go_simp; (try w_num); first | done | rfl)
    focus (intro w; simp [go_sem, *])
    walk_nrm
    refine Idl.step (idl_gw P (h == 0) E _ w₁) _ _ _ rfl (fun _ => stepG_region_end) ?_
    refine Idl.step (idl_gw P (h == 0) E _ w₁) _ _ _ rfl (fun _ => stepG_seq) ?_
    refine Idl.step (idl_gw P (h == 0) E _ w₁) _ _ _ rfl (fun _ => stepG_region) ?_
    simp only [List.size_toArray, List.length_cons, List.length_nil, Nat.reduceAdd, Nat.zero_add, List.range, List.range.loop]
    apply Idl.value (idl_gw P (h == 0) E _ w₁) rfl rfl (by first | decide | exact Go.ConcR.Gen.base_kind _ | exact Go.ConcR.Gen.baseD_kind _ | assumption)
    focus (intro w; go_simp; (try w_num); first | done | rfl)
    focus (intro w; simp [go_sem, *])
    walk_nrm
    apply Idl.value (idl_gw P (h == 0) E _ w₁) rfl rfl (by first | decide | exact Go.ConcR.Gen.base_kind _ | exact Go.ConcR.Gen.baseD_kind _ | assumption)
    focus (intro w; go_simp; (try w_num); first | done | rfl)
    focus (intro w; simp [go_sem, *])
    walk_nrm
    apply Idl.value (idl_gw P (h == 0) E _ w₁) rfl rfl (by first | decide | exact Go.ConcR.Gen.base_kind _ | exact Go.ConcR.Gen.baseD_kind _ | assumption)
    focus (intro w; go_simp; (try w_num); first | done | rfl)
    focus (intro w; simp [go_sem, *])
    walk_nrm
    apply Idl.value (idl_gw P (h == 0) E _ w₁) rfl rfl (by first | decide | exact Go.ConcR.Gen.base_kind _ | exact Go.ConcR.Gen.baseD_kind _ | assumption)
    focus (intro w; go_simp; (try w_num); first | done | rfl)
    focus (intro w; simp [go_sem, *])
    walk_nrm
    refine Idl.step (idl_gw P (h == 0) E _ w₁) _ _ _ rfl (fun _ => stepG_region_end) ?_
    refine Idl.step (idl_gw P (h == 0) E _ w₁) _ _ _ rfl (fun _ => stepG_seq) ?_
    refine Idl.step (idl_gw P (h == 0) E _ w₁) _ _ _ rfl (fun _ => stepG_seq) ?_
    refine Idl.step (idl_gw P (h == 0) E _ w₁) _ _ _ rfl (fun _ => stepG_region) ?_
    simp only [List.size_toArray, List.length_cons, List.length_nil, Nat.reduceAdd, Nat.zero_add, List.range, List.range.loop]
    apply Idl.value (idl_gw P (h == 0) E _ w₁) rfl rfl (by first | decide | exact Go.ConcR.Gen.base_kind _ | exact Go.ConcR.Gen.baseD_kind _ | assumption)
    focus (intro w; go_simp; (try w_num); first | done | rfl)
    focus (intro w; simp [go_sem, *])
    walk_nrm
    apply Idl.value (idl_gw P (h == 0) E _ w₁) rfl rfl (by first | decide | exact Go.ConcR.Gen.base_kind _ | exact Go.ConcR.Gen.baseD_kind _ | assumption)
    focus (intro w; go_simp; (try w_num); first | done | rfl)
    focus (intro w; simp [go_sem, *])
    walk_nrm
    refine Idl.step (idl_gw P (h == 0) E _ w₁) _ _ _ rfl (fun _ => stepG_region_end) ?_
    refine Idl.cond (idl_gw P (h == 0) E _ w₁) false rfl ?_
    simp only [if_true, if_false, Bool.false_eq_true, ↓reduceIte]
    refine Idl.step (idl_gw P (h == 0) E _ w₁) _ _ _ rfl (fun _ => stepG_skip) ?_
    refine Idl.step (idl_gw P (h == 0) E _ w₁) _ _ _ rfl (fun _ => stepG_seq) ?_
    refine Idl.step (idl_gw P (h == 0) E _ w₁) _ _ _ rfl (fun _ => stepG_region) ?_
    simp only [List.size_toArray, List.length_cons, List.length_nil, Nat.reduceAdd, Nat.zero_add, List.range, List.range.loop]
    apply Idl.value (idl_gw P (h == 0) E _ w₁) rfl rfl (by first | decide | exact Go.ConcR.Gen.base_kind _ | exact Go.ConcR.Gen.baseD_kind _ | assumption)
    focus (intro w; go_simp; (try w_num); first | done | rfl)
    focus (intro w; simp [go_sem, *])
    walk_nrm
    apply Idl.value (idl_gw P (h == 0) E _ w₁) rfl rfl (by first | decide | exact Go.ConcR.Gen.base_kind _ | exact Go.ConcR.Gen.baseD_kind _ | assumption)
    focus (intro w; go_simp; (try w_num); first | done | rfl)
    focus (intro w; simp [go_sem, *])
    walk_nrm
    apply Idl.value (idl_gw P (h == 0) E _ w₁) rfl rfl (by first | decide | exact Go.ConcR.Gen.base_kind _ | exact Go.ConcR.Gen.baseD_kind _ | assumption)
    focus (intro w; go_simp; (try w_num); first | done | rfl)
    focus (intro w; simp [go_sem, *])
    walk_nrm
    apply Idl.value (idl_gw P (h == 0) E _ w₁) rfl rfl (by first | decide | exact Go.ConcR.Gen.base_kind _ | exact Go.ConcR.Gen.baseD_kind _ | assumption)
    focus (intro w; go_simp; (try w_num); first | done | rfl)
    focus (intro w; simp [go_sem, *])
    walk_nrm
    apply Idl.value (idl_gw P (h == 0) E _ w₁) rfl rfl (by first | decide | exact Go.ConcR.Gen.base_kind _ | exact Go.ConcR.Gen.baseD_kind _ | assumption)
    focus (intro w; go_simp; (try w_num); first | done | rfl)
    focus (intro w; simp [go_sem, *])
    walk_nrm
    apply Idl.value (idl_gw P (h == 0) E _ w₁) rfl rfl (by first | decide | exact Go.ConcR.Gen.base_kind _ | exact Go.ConcR.Gen.baseD_kind _ | assumption)
    focus (intro w; go_simp; (try w_num); first | done | rfl)
    focus (intro w; simp [go_sem, *])
    walk_nrm
    refine Idl.call (idl_gw P (h == 0) E _ w₁) rfl rfl (by first | decide | exact Go.ConcR.Gen.base_kind _ | exact Go.ConcR.Gen.baseD_kind _ | assumption) rfl H.f_uCas (nm_uCas L) rfl ?_
    walk_nrmf uCasFn
    refine Idl.step (idl_gw P (h == 0) E _ w₁) _ _ _ rfl (fun _ => stepG_seq) ?_
    refine Idl.step (idl_gw P (h == 0) E _ w₁) _ _ _ rfl (fun _ => stepG_region) ?_
    simp only [List.size_toArray, List.length_cons, List.length_nil, Nat.reduceAdd, Nat.zero_add, List.range, List.range.loop]
    apply Idl.value (idl_gw P (h == 0) E _ w₁) rfl rfl (by first | decide | exact Go.ConcR.Gen.base_kind _ | exact Go.ConcR.Gen.baseD_kind _ | assumption)
    focus (intro w; go_simp; (try w_num); first | done | rfl)
    focus (intro w; simp [go_sem, *])
    walk_nrm
    refine Idl.step (idl_gw P (h == 0) E _ w₁) _ _ _ rfl (fun _ => stepG_region_end) ?_
    refine Idl.step (idl_gw P (h == 0) E _ w₁) _ _ _ rfl (fun _ => stepG_seq) ?_
    refine Idl.step (idl_gw P (h == 0) E _ w₁) _ _ _ rfl (fun _ => stepG_region) ?_
    simp only [List.size_toArray, List.length_cons, List.length_nil, Nat.reduceAdd, Nat.zero_add, List.range, List.range.loop]
    apply Idl.value (idl_gw P (h == 0) E _ w₁) rfl rfl (by first | decide | exact Go.ConcR.Gen.base_kind _ | exact Go.ConcR.Gen.baseD_kind _ | assumption)
    focus (intro w; go_simp; (try w_num); first | done | rfl)
    focus (intro w; simp [go_sem, *])
    walk_nrm
    apply Idl.value (idl_gw P (h == 0) E _ w₁) rfl rfl (by first | decide | exact Go.ConcR.Gen.base_kind _ | exact Go.ConcR.Gen.baseD_kind _ | assumption)
    focus (intro w; go_simp; (try w_num); first | done | rfl)
    focus (intro w; simp [go_sem, *])
    walk_nrm
    apply Idl.value (idl_gw P (h == 0) E _ w₁) rfl rfl (by first | decide | exact Go.ConcR.Gen.base_kind _ | exact Go.ConcR.Gen.baseD_kind _ | assumption)
    focus (intro w; go_simp; (try w_num); first | done | rfl)
    focus (intro w; simp [go_sem, *])
    walk_nrm
    apply Idl.value (idl_gw P (h == 0) E _ w₁) rfl rfl (by first | decide | exact Go.ConcR.Gen.base_kind _ | exact Go.ConcR.Gen.baseD_kind _ | assumption)
    focus (intro w; go_simp; (try w_num); first | done | rfl)
    focus (intro w; simp [go_sem, *])
    walk_nrm
    apply Idl.value (idl_gw P (h == 0) E _ w₁) rfl rfl (by first | decide | exact Go.ConcR.Gen.base_kind _ | exact Go.ConcR.Gen.baseD_kind _ | assumption)
    focus (intro w; go_simp; (try w_num); first | done | rfl)
    focus (intro w; simp [go_sem, *])
    walk_nrm
    refine GoesW.stop (fun w₂ h₂ => ?_)
    have hL2 := aw_live hW h₂ hL1
    have hA2 := hA1.trans _ _ _ h₂
    clear hL1 hA1 h₂
    refine ⟨rfl, fun v' hv' hw => ⟨fun e => ?_, fun e => ?_⟩⟩
    · subst e
      rw [hSS.out] at hw ⊢
      refine ⟨_, (stepG_cas_hit (v := S) (n := S + 1) rfl rfl (by k_ne) rfl H.f_casU64 (x_casU64_n L) (x_casU64_b L) (x_casU64_x L) .u64 (x_casU64_f L) rfl rfl rfl hw.st (hw.thaw 1)).trans (by rfl), ?_⟩
      obtain ⟨w₃, hw3⟩ : ∃ w₃, w₃ = w₂.setCell (stZ b) (.int .u64 (S + 1)) := ⟨_, rfl⟩
      have hAs : Aw E.W w₂ w₃ := by rw [hw3]; exact aw_set hw hW _ (.inl ⟨rfl, _, rfl⟩)
      have hL3 := aw_live hW hAs hL2
      have hA3 := hA2.trans _ _ _ hAs
      rw [← hw3]
      clear hw hL2 hA2 hAs hw3
      walk_nrm
      change GWn P (h == 0) E.W E.D _ w₃ 100 _
      apply Idl.value (idl_gw P (h == 0) E _ w₃) rfl rfl (by first | decide | exact Go.ConcR.Gen.base_kind _ | exact Go.ConcR.Gen.baseD_kind _ | assumption)
      focus (intro w; go_simp; (try w_num); first | done | rfl)
      focus (intro w; simp [go_sem, *])
      walk_nrm
      refine Idl.step (idl_gw P (h == 0) E _ w₃) _ _ _ rfl (fun _ => stepG_region_end) ?_
      refine Idl.step (idl_gw P (h == 0) E _ w₃) _ _ _ rfl (fun _ => stepG_ret') ?_
      refine Idl.leave1 (idl_gw P (h == 0) E _ w₃) rfl rfl H.f_uCas rfl ?_
      walk_nrm
      refine Idl.step (idl_gw P (h == 0) E _ w₃) _ _ _ rfl (fun _ => stepG_region_end) ?_
      refine Idl.cond (idl_gw P (h == 0) E _ w₃) true rfl ?_
      simp only [if_true, if_false, Bool.false_eq_true, ↓reduceIte]
      refine Idl.step (idl_gw P (h == 0) E _ w₃) _ _ _ rfl (fun _ => stepG_seq) ?_
      refine Idl.step (idl_gw P (h == 0) E _ w₃) _ _ _ rfl (fun _ => stepG_seq) ?_
      refine Idl.step (idl_gw P (h == 0) E _ w₃) _ _ _ rfl (fun _ => stepG_region) ?_
      simp only [List.size_toArray, List.length_cons, List.length_nil, Nat.reduceAdd, Nat.zero_add, List.range, List.range.loop]
      apply Idl.value (idl_gw P (h == 0) E _ w₃) rfl rfl (by first | decide | exact Go.ConcR.Gen.base_kind _ | exact Go.ConcR.Gen.baseD_kind _ | assumption)
      focus (intro w; go_simp; (try w_num); first | done | rfl)
      focus (intro w; simp [go_sem, *])
      walk_nrm
      apply Idl.value (idl_gw P (h == 0) E _ w₃) rfl rfl (by first | decide | exact Go.ConcR.Gen.base_kind _ | exact Go.ConcR.Gen.baseD_kind _ | assumption)
      focus (intro w; go_simp; (try w_num); first | done | rfl)
      focus (intro w; simp [go_sem, *])
      walk_nrm
      apply Idl.value (idl_gw P (h == 0) E _ w₃) rfl rfl (by first | decide | exact Go.ConcR.Gen.base_kind _ | exact Go.ConcR.Gen.baseD_kind _ | assumption)
      focus (intro w; go_simp; (try w_num); first | done | rfl)
      focus (intro w; simp [go_sem, *])
      walk_nrm
      apply Idl.value (idl_gw P (h == 0) E _ w₃) rfl rfl (by first | decide | exact Go.ConcR.Gen.base_kind _ | exact Go.ConcR.Gen.baseD_kind _ | assumption)
      focus (intro w; go_simp; (try w_num); first | done | rfl)
      focus (intro w; simp [go_sem, *])
      walk_nrm
      refine Idl.step (idl_gw P (h == 0) E _ w₃) _ _ _ rfl (fun _ => stepG_region_end) ?_
      refine Idl.cond (idl_gw P (h == 0) E _ w₃) true rfl ?_
      simp only [if_true, if_false, Bool.false_eq_true, ↓reduceIte]
      refine Idl.step (idl_gw P (h == 0) E _ w₃) _ _ _ rfl (fun _ => stepG_region) ?_
      simp only [List.size_toArray, List.length_cons, List.length_nil, Nat.reduceAdd, Nat.zero_add, List.range, List.range.loop]
      apply Idl.value (idl_gw P (h == 0) E _ w₃) rfl rfl (by first | decide | exact Go.ConcR.Gen.base_kind _ | exact Go.ConcR.Gen.baseD_kind _ | assumption)
      focus (intro w; go_simp; (try w_num); first | done | rfl)
      focus (intro w; simp [go_sem, *])
      walk_nrm
      apply Idl.value (idl_gw P (h == 0) E _ w₃) rfl rfl (by first | decide | exact Go.ConcR.Gen.base_kind _ | exact Go.ConcR.Gen.baseD_kind _ | assumption)
      focus (intro w; go_simp; (try w_num); first | done | rfl)
      focus (intro w; simp [go_sem, *])
      walk_nrm
      apply Idl.value (idl_gw P (h == 0) E _ w₃) rfl rfl (by first | decide | exact Go.ConcR.Gen.base_kind _ | exact Go.ConcR.Gen.baseD_kind _ | assumption)
      focus (intro w; go_simp; (try w_num); first | done | rfl)
      focus (intro w; simp [go_sem, *])
      walk_nrm
      refine gw_live (n := 50) hW hL3 (.pointer (some (smZ b))) rfl rfl (by k_ne) (fun w st sm hG => ?_) ?_
      · have hcv : (convert L.tPU32 L.tUP (.pointer (some { block := (stZ b).block, off := (stZ b).off + 1 }))).run P w = .ok (.pointer (some (smZ b))) w := run_convert_to_unsafe (P := P) (a := smZ b) H.underlying_tPU32 H.underlying_tUP H.room_tU32 hG.sm
        have hce : ∀ es, (convert L.tPU32 L.tUP (.pointer (some { block := (stZ b).block, off := (stZ b).off + 1 }))).events P w es = es := fun es => events_convert_to_unsafe (P := P) (a := smZ b) H.underlying_tPU32 H.underlying_tUP H.room_tU32 hG.sm es
        exact ⟨by go_simp, by simp [go_sem, hce]⟩
      walk_nrm
      refine gw_said (n := 50) (b := b) hL3 hW hS rfl (fun w => stepG_markAt .write (by simp) rfl rfl (by k_ne) rfl H.f_raceWrite (x_raceWrite_n L) (x_raceWrite_b L) (x_raceWrite_x L) (x_raceWrite_f L) (by simp [Act.eval])) ?_
      walk_nrm
      refine Idl.step (idl_gw P (h == 0) E _ w₃) _ _ _ rfl (fun _ => stepG_region_end) ?_
      refine Idl.step (idl_gw P (h == 0) E _ w₃) _ _ _ rfl (fun _ => stepG_seq) ?_
      refine Idl.step (idl_gw P (h == 0) E _ w₃) _ _ _ rfl (fun _ => stepG_region) ?_
      simp only [List.size_toArray, List.length_cons, List.length_nil, Nat.reduceAdd, Nat.zero_add, List.range, List.range.loop]
      apply Idl.value (idl_gw P (h == 0) E _ w₃) rfl rfl (by first | decide | exact Go.ConcR.Gen.base_kind _ | exact Go.ConcR.Gen.baseD_kind _ | assumption)
      focus (intro w; go_simp; (try w_num); first | done | rfl)
      focus (intro w; simp [go_sem, *])
      walk_nrm
      refine Idl.step (idl_gw P (h == 0) E _ w₃) _ _ _ rfl (fun _ => stepG_region_end) ?_
      refine Idl.step (idl_gw P (h == 0) E _ w₃) _ _ _ rfl (fun _ => stepG_seq) ?_
      refine Idl.step (idl_gw P (h == 0) E _ w₃) _ _ _ rfl (fun _ => stepG_seq) ?_
      refine Idl.step (idl_gw P (h == 0) E _ w₃) _ _ _ rfl (fun _ => stepG_region) ?_
      simp only [List.size_toArray, List.length_cons, List.length_nil, Nat.reduceAdd, Nat.zero_add, List.range, List.range.loop]
      apply Idl.value (idl_gw P (h == 0) E _ w₃) rfl rfl (by first | decide | exact Go.ConcR.Gen.base_kind _ | exact Go.ConcR.Gen.baseD_kind _ | assumption)
      focus (intro w; go_simp; (try w_num); first | done | rfl)
      focus (intro w; simp [go_sem, *])
      walk_nrm
      apply Idl.value (idl_gw P (h == 0) E _ w₃) rfl rfl (by first | decide | exact Go.ConcR.Gen.base_kind _ | exact Go.ConcR.Gen.baseD_kind _ | assumption)
      focus (intro w; go_simp; (try w_num); first | done | rfl)
      focus (intro w; simp [go_sem, *])
      walk_nrm
      apply Idl.value (idl_gw P (h == 0) E _ w₃) rfl rfl (by first | decide | exact Go.ConcR.Gen.base_kind _ | exact Go.ConcR.Gen.baseD_kind _ | assumption)
      focus (intro w; go_simp; (try w_num); first | done | rfl)
      focus (intro w; simp [go_sem, *])
      walk_nrm
      apply Idl.value (idl_gw P (h == 0) E _ w₃) rfl rfl (by first | decide | exact Go.ConcR.Gen.base_kind _ | exact Go.ConcR.Gen.baseD_kind _ | assumption)
      focus (intro w; go_simp; (try w_num); first | done | rfl)
      focus (intro w; simp [go_sem, *])
      walk_nrm
      refine Idl.unwanted (idl_gw P (h == 0) E _ w₃) rfl rfl ?_
      walk_nrm
      apply Idl.value (idl_gw P (h == 0) E _ w₃) rfl rfl (by first | decide | exact Go.ConcR.Gen.base_kind _ | exact Go.ConcR.Gen.baseD_kind _ | assumption)
      focus (intro w; go_simp; (try w_num); first | done | rfl)
      focus (intro w; simp [go_sem, *])
      walk_nrm
      refine Idl.step (idl_gw P (h == 0) E _ w₃) _ _ _ rfl (fun _ => stepG_region_end) ?_
      refine Idl.cond (idl_gw P (h == 0) E _ w₃) false rfl ?_
      simp only [if_true, if_false, Bool.false_eq_true, ↓reduceIte]
      refine Idl.step (idl_gw P (h == 0) E _ w₃) _ _ _ rfl (fun _ => stepG_skip) ?_
      refine Idl.step (idl_gw P (h == 0) E _ w₃) _ _ _ rfl (fun _ => stepG_seq) ?_
      refine Idl.step (idl_gw P (h == 0) E _ w₃) _ _ _ rfl (fun _ => stepG_region) ?_
      simp only [List.size_toArray, List.length_cons, List.length_nil, Nat.reduceAdd, Nat.zero_add, List.range, List.range.loop]
      apply Idl.value (idl_gw P (h == 0) E _ w₃) rfl rfl (by first | decide | exact Go.ConcR.Gen.base_kind _ | exact Go.ConcR.Gen.baseD_kind _ | assumption)
      focus (intro w; go_simp; (try w_num); first | done | rfl)
      focus (intro w; simp [go_sem, *])
      walk_nrm
      apply Idl.value (idl_gw P (h == 0) E _ w₃) rfl rfl (by first | decide | exact Go.ConcR.Gen.base_kind _ | exact Go.ConcR.Gen.baseD_kind _ | assumption)
      focus (intro w; go_simp; (try w_num); first | done | rfl)
      focus (intro w; simp [go_sem, *])
      walk_nrm
      apply Idl.value (idl_gw P (h == 0) E _ w₃) rfl rfl (by first | decide | exact Go.ConcR.Gen.base_kind _ | exact Go.ConcR.Gen.baseD_kind _ | assumption)
      focus (intro w; go_simp; (try w_num); first | done | rfl)
      focus (intro w; simp [go_sem, *])
      walk_nrm
      apply Idl.value (idl_gw P (h == 0) E _ w₃) rfl rfl (by first | decide | exact Go.ConcR.Gen.base_kind _ | exact Go.ConcR.Gen.baseD_kind _ | assumption)
      focus (intro w; go_simp; (try w_num); first | done | rfl)
      focus (intro w; simp [go_sem, *])
      walk_nrm
      refine GoesW.stop (fun w₄ h₄ => ?_)
      have hL4 := aw_live hW h₄ hL3
      have hA4 := hA3.trans _ _ _ h₄
      clear hL3 hA3 h₄
      refine ⟨rfl, rfl, fun ⟨st, hw⟩ => stepG_semacquire_wait rfl rfl rfl H.f_semacquire (x_semacquire_n L) (x_semacquire_b L) (x_semacquire_x L) (x_semacquire_f L) (ad := smZ b) (by simp [Act.eval, smZ, stZ]) hw.sm, fun hf => ?_⟩
      refine ⟨_, (stepG_semacquire (n := 1) rfl rfl (by k_ne) rfl H.f_semacquire (x_semacquire_n L) (x_semacquire_b L) (x_semacquire_x L) (x_semacquire_f L) (ad := smZ b) (by simp [Act.eval, smZ, stZ]) hf.sm (by k_ne) (hf.thaw 2)).trans (by rfl), ?_⟩
      obtain ⟨w₅, hw5⟩ : ∃ w₅, w₅ = w₄.setCell (smZ b) (.int .u32 0) := ⟨_, rfl⟩
      have hAs : Aw E.W w₄ w₅ := by rw [hw5]; exact aw_set hf hW _ (.inr ⟨rfl, _, rfl⟩)
      have hL5 := aw_live hW hAs hL4
      have hA5 := hA4.trans _ _ _ hAs
      rw [← hw5]
      clear hf hL4 hA4 hAs hw5
      walk_nrm
      change GWn P (h == 0) E.W E.D _ w₅ 100 _
      refine Idl.step (idl_gw P (h == 0) E _ w₅) _ _ _ rfl (fun _ => stepG_region_end) ?_
      refine Idl.step (idl_gw P (h == 0) E _ w₅) _ _ _ rfl (fun _ => stepG_seq) ?_
      refine Idl.step (idl_gw P (h == 0) E _ w₅) _ _ _ rfl (fun _ => stepG_region) ?_
      simp only [List.size_toArray, List.length_cons, List.length_nil, Nat.reduceAdd, Nat.zero_add, List.range, List.range.loop]
      apply Idl.value (idl_gw P (h == 0) E _ w₅) rfl rfl (by first | decide | exact Go.ConcR.Gen.base_kind _ | exact Go.ConcR.Gen.baseD_kind _ | assumption)
      focus (intro w; go_simp; (try w_num); first | done | rfl)
      focus (intro w; simp [go_sem, *])
      walk_nrm
      apply Idl.value (idl_gw P (h == 0) E _ w₅) rfl rfl (by first | decide | exact Go.ConcR.Gen.base_kind _ | exact Go.ConcR.Gen.baseD_kind _ | assumption)
      focus (intro w; go_simp; (try w_num); first | done | rfl)
      focus (intro w; simp [go_sem, *])
      walk_nrm
      apply Idl.value (idl_gw P (h == 0) E _ w₅) rfl rfl (by first | decide | exact Go.ConcR.Gen.base_kind _ | exact Go.ConcR.Gen.baseD_kind _ | assumption)
      focus (intro w; go_simp; (try w_num); first | done | rfl)
      focus (intro w; simp [go_sem, *])
      walk_nrm
      refine Idl.call (idl_gw P (h == 0) E _ w₅) rfl rfl (by first | decide | exact Go.ConcR.Gen.base_kind _ | exact Go.ConcR.Gen.baseD_kind _ | assumption) rfl H.f_uLoad (nm_uLoad L) rfl ?_
      walk_nrmf uLoadFn
      refine Idl.step (idl_gw P (h == 0) E _ w₅) _ _ _ rfl (fun _ => stepG_seq) ?_
      refine Idl.step (idl_gw P (h == 0) E _ w₅) _ _ _ rfl (fun _ => stepG_region) ?_
      simp only [List.size_toArray, List.length_cons, List.length_nil, Nat.reduceAdd, Nat.zero_add, List.range, List.range.loop]
      apply Idl.value (idl_gw P (h == 0) E _ w₅) rfl rfl (by first | decide | exact Go.ConcR.Gen.base_kind _ | exact Go.ConcR.Gen.baseD_kind _ | assumption)
      focus (intro w; go_simp; (try w_num); first | done | rfl)
      focus (intro w; simp [go_sem, *])
      walk_nrm
      refine Idl.step (idl_gw P (h == 0) E _ w₅) _ _ _ rfl (fun _ => stepG_region_end) ?_
      refine Idl.step (idl_gw P (h == 0) E _ w₅) _ _ _ rfl (fun _ => stepG_seq) ?_
      refine Idl.step (idl_gw P (h == 0) E _ w₅) _ _ _ rfl (fun _ => stepG_region) ?_
      simp only [List.size_toArray, List.length_cons, List.length_nil, Nat.reduceAdd, Nat.zero_add, List.range, List.range.loop]
      apply Idl.value (idl_gw P (h == 0) E _ w₅) rfl rfl (by first | decide | exact Go.ConcR.Gen.base_kind _ | exact Go.ConcR.Gen.baseD_kind _ | assumption)
      focus (intro w; go_simp; (try w_num); first | done | rfl)
      focus (intro w; simp [go_sem, *])
      walk_nrm
      apply Idl.value (idl_gw P (h == 0) E _ w₅) rfl rfl (by first | decide | exact Go.ConcR.Gen.base_kind _ | exact Go.ConcR.Gen.baseD_kind _ | assumption)
      focus (intro w; go_simp; (try w_num); first | done | rfl)
      focus (intro w; simp [go_sem, *])
      walk_nrm
      apply Idl.value (idl_gw P (h == 0) E _ w₅) rfl rfl (by first | decide | exact Go.ConcR.Gen.base_kind _ | exact Go.ConcR.Gen.baseD_kind _ | assumption)
      focus (intro w; go_simp; (try w_num); first | done | rfl)
      focus (intro w; simp [go_sem, *])
      walk_nrm
      refine GoesW.stop (fun w₆ h₆ => ?_)
      have hA6 := hA5.trans _ _ _ h₆
      clear hL5 hA5 h₆
      refine ⟨rfl, fun hw => ⟨_, stepG_load_atomic (v := 0) rfl rfl (by k_ne) rfl H.f_loadU64 (x_loadU64_n L) (x_loadU64_b L) (x_loadU64_x L) .u64 (x_loadU64_f L) rfl hw.st, GoesW.stop (fun w₇ h₇ => ⟨hA6.trans _ _ _ h₇, ?_⟩)⟩⟩
      clear hw
      walk_nrm
      change HoldN P h 1 (Emptied h b K) F 100 _
      apply Idl.value (idl_holdN hB 1) rfl rfl (by first | decide | exact Go.ConcR.Gen.base_kind _ | exact Go.ConcR.Gen.baseD_kind _ | assumption)
      focus (intro w; go_simp; (try w_num); first | done | rfl)
      focus (intro w; simp [go_sem, *])
      walk_nrm
      refine Idl.step (idl_holdN hB 1) _ _ _ rfl (fun _ => stepG_region_end) ?_
      refine Idl.step (idl_holdN hB 1) _ _ _ rfl (fun _ => stepG_ret') ?_
      refine Idl.leave1 (idl_holdN hB 1) rfl rfl H.f_uLoad rfl ?_
      walk_nrm
      apply Idl.value (idl_holdN hB 1) rfl rfl (by first | decide | exact Go.ConcR.Gen.base_kind _ | exact Go.ConcR.Gen.baseD_kind _ | assumption)
      focus (intro w; go_simp; (try w_num); first | done | rfl)
      focus (intro w; simp [go_sem, *])
      walk_nrm
      apply Idl.value (idl_holdN hB 1) rfl rfl (by first | decide | exact Go.ConcR.Gen.base_kind _ | exact Go.ConcR.Gen.baseD_kind _ | assumption)
      focus (intro w; go_simp; (try w_num); first | done | rfl)
      focus (intro w; simp [go_sem, *])
      walk_nrm
      refine Idl.step (idl_holdN hB 1) _ _ _ rfl (fun _ => stepG_region_end) ?_
      refine Idl.step (idl_holdN hB 1) _ _ _ rfl (fun _ => stepG_seq) ?_
      refine Idl.cond (idl_holdN hB 1) true rfl ?_
      simp only [if_true, if_false, Bool.false_eq_true, ↓reduceIte]
      refine Idl.step (idl_holdN hB 1) _ _ _ rfl (fun _ => stepG_seq) ?_
      refine Idl.step (idl_holdN hB 1) _ _ _ rfl (fun _ => stepG_region) ?_
      simp only [List.size_toArray, List.length_cons, List.length_nil, Nat.reduceAdd, Nat.zero_add, List.range, List.range.loop]
      refine holds_mark hB (d' := 0) .enable (.inr ⟨rfl, rfl⟩) rfl (fun w => stepG_mark0 .enable (by simp) rfl rfl (by k_ne) rfl H.f_enable (x_enable_n L) (x_enable_b L) (x_enable_x L) (x_enable_f L)) ?_
      walk_nrm
      change HoldN P h 0 (Emptied h b K) F 60 _
      refine Idl.step (idl_holdN hB 0) _ _ _ rfl (fun _ => stepG_region_end) ?_
      refine Idl.step (idl_holdN hB 0) _ _ _ rfl (fun _ => stepG_region) ?_
      simp only [List.size_toArray, List.length_cons, List.length_nil, Nat.reduceAdd, Nat.zero_add, List.range, List.range.loop]
      apply Idl.value (idl_holdN hB 0) rfl rfl (by first | decide | exact Go.ConcR.Gen.base_kind _ | exact Go.ConcR.Gen.baseD_kind _ | assumption)
      focus (intro w; go_simp; (try w_num); first | done | rfl)
      focus (intro w; simp [go_sem, *])
      walk_nrm
      refine holds_live hB hKe (.pointer (some (stZ b))) rfl rfl (by k_ne) (fun w st sm hG => ?_) ?_
      · obtain ⟨hce, hcv⟩ := hconv w st sm hG
        exact ⟨by go_simp, by simp [go_sem, hce]⟩
      walk_nrm
      refine holds_acq hB hKe rfl (fun w => stepG_markAt .acquire (by simp) rfl rfl (by k_ne) rfl H.f_acquire (x_acquire_n L) (x_acquire_b L) (x_acquire_x L) (x_acquire_f L) (by simp [Act.eval])) ?_
      walk_nrm
      change HoldN P h 0 (Emptied h b K) F 60 _
      refine Idl.step (idl_holdN hB 0) _ _ _ rfl (fun _ => stepG_region_end) ?_
      refine Idl.step (idl_holdN hB 0) _ _ _ rfl (fun _ => stepG_seq) ?_
      refine Idl.step (idl_holdN hB 0) _ _ _ rfl (fun _ => stepG_seq) ?_
      refine Idl.step (idl_holdN hB 0) _ _ _ rfl (fun _ => stepG_region) ?_
      simp only [List.size_toArray, List.length_cons, List.length_nil, Nat.reduceAdd, Nat.zero_add, List.range, List.range.loop]
      apply Idl.value (idl_holdN hB 0) rfl rfl (by first | decide | exact Go.ConcR.Gen.base_kind _ | exact Go.ConcR.Gen.baseD_kind _ | assumption)
      focus (intro w; go_simp; (try w_num); first | done | rfl)
      focus (intro w; simp [go_sem, *])
      walk_nrm
      refine Idl.step (idl_holdN hB 0) _ _ _ rfl (fun _ => stepG_region_end) ?_
      refine Idl.cond (idl_holdN hB 0) false rfl ?_
      simp only [if_true, if_false, Bool.false_eq_true, ↓reduceIte]
      refine Idl.step (idl_holdN hB 0) _ _ _ rfl (fun _ => stepG_skip) ?_
      refine Idl.step (idl_holdN hB 0) _ _ _ rfl (fun _ => stepG_ret') ?_
      refine Idl.leave0 (n := 1) (idl_holdN hB 0) rfl rfl H.f_wait rfl ?_
      exact hT
    · refine ⟨_, stepG_cas_miss (v := (v' : Int) * KK) (old := S) (n := S + 1) rfl rfl (by k_ne) rfl H.f_casU64 (x_casU64_n L) (x_casU64_b L) (x_casU64_x L) .u64 (x_casU64_f L) rfl rfl rfl hw.st (hw.thaw 1) (by rw [← hSS.out]; simp only [KK]; omega), ?_⟩
      clear hw
      walk_nrm
      change GWn P (h == 0) E.W E.D _ w₂ 100 _
      apply Idl.value (idl_gw P (h == 0) E _ w₂) rfl rfl (by first | decide | exact Go.ConcR.Gen.base_kind _ | exact Go.ConcR.Gen.baseD_kind _ | assumption)
      focus (intro w; go_simp; (try w_num); first | done | rfl)
      focus (intro w; simp [go_sem, *])
      walk_nrm
      refine Idl.step (idl_gw P (h == 0) E _ w₂) _ _ _ rfl (fun _ => stepG_region_end) ?_
      refine Idl.step (idl_gw P (h == 0) E _ w₂) _ _ _ rfl (fun _ => stepG_ret') ?_
      refine Idl.leave1 (idl_gw P (h == 0) E _ w₂) rfl rfl H.f_uCas rfl ?_
      walk_nrm
      refine Idl.step (idl_gw P (h == 0) E _ w₂) _ _ _ rfl (fun _ => stepG_region_end) ?_
      refine Idl.cond (idl_gw P (h == 0) E _ w₂) false rfl ?_
      simp only [if_true, if_false, Bool.false_eq_true, ↓reduceIte]
      refine Idl.step (idl_gw P (h == 0) E _ w₂) _ _ _ rfl (fun _ => stepG_skip) ?_
      refine Idl.step (idl_gw P (h == 0) E _ w₂) _ _ _ rfl (fun _ => stepG_inBlock) ?_
      refine Idl.step (idl_gw P (h == 0) E _ w₂) _ _ _ rfl (fun _ => stepG_inLoop) ?_
      exact GoesW.stop (fun w₃ h₃ => ⟨_, rfl, by simp, by simp, aw_live hW h₃ hL2, hA2.trans _ _ _ h₃⟩)
end Go.Proofs.Ytimlbbleblijnaa.Co

namespace Go.Proofs.Ytimlbbleblijnaa.Co
open Go.Conc
open Go.ConcN (sumTo upd sumTo_upd upd_ne upd_same sumTo_congr le_sumTo)
set_option linter.unusedVariables false
set_option linter.unusedSimpArgs false
theorem cnt_zero {E : Env} {b : Nat} {n : Nat} (h : cnt E n b = 0) : ∀ x, x < n → E.wg x ≠ some b := by
  induction n with
  | zero => intro x hx; omega
  | succ n ih =>
    intro x hx
    have h' : cnt E n b + (if E.wg n = some b then 1 else 0) = 0 := h
    by_cases e : x = n
    · subst e
      intro hw
      rw [if_pos hw] at h'
      omega
    · exact ih (by omega) x (by omega)
open Go.Conc.Lib Go.ConcR.Gen in
set_option maxRecDepth 100000 in
set_option maxHeartbeats 4000000 in
theorem wait_holds {P : Program} {L : WgLink} (H : WgLib P L) {h b : Nat} {K : Env → World → Prop} {F : Machine → Trace → Prop} (hK : Bears h K)
    (hKs : ∀ E w, K E w → E.W b = true ∧ E.ex b = 0 ∧ E.mode b = 0 ∧ E.wg h ≠ some b ∧ ∀ x, x ≠ h → (E.role x).sits = true → E.wg x ≠ some b)
    {b₀ : Frame} {a₀ : Act} {ops₀ : Array Oper} {i₀ : Nat} {rest₀ : List Nat} {k₀ : List Item} {cs : List Frame}
    (hT : Holds P h 0 (Emptied h b K) F (G (b₀.at (a₀.put ((ops₀[i₀]?).bind (·.dst)) (.tuple #[])) (.inRegion ops₀ rest₀ :: k₀)) cs)) :
    HoldN P h 0 K F 400 (G ((base L.wait).at ⟨#[.pointer (some (stZ b))] ++ Array.replicate 83 undef, []⟩ [.code ((waitFn L).body.getD .skip)]) (b₀.at a₀ (.inRegion ops₀ (i₀ :: rest₀) :: k₀) :: cs)) := by
  lib_facts
  simp only [waitFn, Option.getD_some]
  walk_nrm
  refine Idl.step (idl_holdN hK 0) _ _ _ rfl (fun _ => stepG_seq) ?_
  refine Idl.cond (idl_holdN hK 0) true rfl ?_
  simp only [if_true, if_false, Bool.false_eq_true, ↓reduceIte]
  refine Idl.step (idl_holdN hK 0) _ _ _ rfl (fun _ => stepG_region) ?_
  simp only [List.size_toArray, List.length_cons, List.length_nil, Nat.reduceAdd, Nat.zero_add, List.range, List.range.loop]
  refine holds_mark hK (d' := 1) .disable (.inl ⟨rfl, rfl⟩) rfl (fun w => stepG_mark0 .disable (by simp) rfl rfl (by k_ne) rfl H.f_disable (x_disable_n L) (x_disable_b L) (x_disable_x L) (x_disable_f L)) ?_
  walk_nrm
  change HoldN P h 1 K F 300 _
  refine Idl.step (idl_holdN hK 1) _ _ _ rfl (fun _ => stepG_region_end) ?_
  refine Idl.step (idl_holdN hK 1) _ _ _ rfl (fun _ => stepG_block) ?_
  refine Idl.step (idl_holdN hK 1) _ _ _ rfl (fun _ => stepG_loop) ?_
  intro E w gs T q sl k C ha
  obtain ⟨k1, k2, k3, k4, k5⟩ := hKs E w k
  have hEnd := Co.wait (P := P) (E := E) (h := h) (dh := 1) (b := b) (wait_round H (fun E w k => (hKs E w k).1) hT E w k1 C.S_dis) (cnt E gs.size b) (sl := sl) (.refl h E) ⟨k1, k2, k3, k4, fun x hx _ hs => k5 x hx hs⟩ (Nat.le_refl _) C ha
    (GoesW.stop (fun w₁ h₁ => ⟨_, rfl, by simp, by simp, aw_live k1 h₁ ⟨_, _, C.groups b k1⟩, h₁⟩))
  obtain ⟨N, gs', a', w', sl', T', E', q', e1, e2, e3, ⟨e4, e5⟩, e6, e7, e8⟩ := hEnd
  obtain ⟨N2, m2, T2, f1, f2⟩ := e5 E' w' gs' T' q' sl' ⟨E, w, k, e6, e4, fun x => by
    by_cases hx : x < gs.size
    · exact cnt_zero e8 x hx
    · rw [(e7.fresh x (by omega)).2.1]
      simp⟩ e7 e3
  exact ⟨N + N2, m2, T2, runNT_cat e1 f1, f2⟩
#print axioms wait_holds
end Go.Proofs.Ytimlbbleblijnaa.Co
