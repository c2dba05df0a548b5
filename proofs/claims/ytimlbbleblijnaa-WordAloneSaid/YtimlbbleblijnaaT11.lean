/- Lemmas for the laws of this seat, laid together of PGaj, PGak, PGal, PGam. -/
import Derived.Test.YtimlbbleblijnaaT10

namespace Go.Proofs.Ytimlbbleblijnaa.Co
open Go Go.Conc
set_option linter.unusedVariables false
set_option linter.unusedSimpArgs false
structure AtWait (gb : Nat) (b₀ : Frame) (a₀ : Act) (ops₀ : Array Oper) (i₀ : Nat) (rest₀ : List Nat) (k₀ : List Item) (cl : List Frame) (g₂ : Goroutine) : Prop where
  go : ∀ {j rb ct cs : Nat} {en fr : Bool} {s p q : Int} {ty : TypeId} {E : Env} {w : World} {F : Machine → Trace → Prop} (v : Bool), w.heap[gb]? = some (gateObj rb ct cs en fr s p q ty) → E.W gb = false → E.role j = .gone → (∀ i o, 3 ≤ o → E.St i ⟨gb, o, none⟩ = none) →
    HG Try.prog j F E (G (b₀.at (a₀.put ((ops₀[i₀]?).bind (·.dst)) (.tuple #[])) (.inRegion ops₀ rest₀ :: k₀)) cl) (w.setCell ⟨gb, 3, none⟩ (.bool !v)) → HG Try.prog j F E (Go.Conc.served g₂ (.bool v)) w
theorem live_thaw {b : Nat} {w : World} (h : Live b w) (o : Nat) : w.frozen? ⟨b, o, none⟩ = false := by
  obtain ⟨st, sm, hG⟩ := h
  exact hG.thaw o
section
variable {h j gb rb ct cs : Nat} {en fr : Bool} {s p q : Int} {ty : TypeId} {E : Env} {w : World} {F : Machine → Trace → Prop}
  {b₀ : Frame} {a₀ : Act} {ops₀ : Array Oper} {i₀ : Nat} {rest₀ : List Nat} {k₀ : List Item} {cl : List Frame}
set_option maxRecDepth 100000 in
set_option maxHeartbeats 4000000 in
theorem wait_seat {m : Nat} {main : Bool} {S : Addr → Option Value} {home : Goroutine → Prop} (hS : S ⟨gb, 2, none⟩ = some (.chan (some cs))) (hhome : ∀ g₂, AtWait gb b₀ a₀ ops₀ i₀ rest₀ k₀ cl g₂ → home g₂) :
    SitsN Try.prog main S (fun g _ => ∃ g₂, AtSeat Try.prog main S cs home g g₂) w (m + 60) (entry 74 Try.f74 #[.pointer (some ⟨gb, 0, none⟩)] (b₀.at a₀ (.inRegion ops₀ (i₀ :: rest₀) :: k₀) :: cl)) := by
  simp only [entry, Try.f74, Option.getD_some]
  walk_nrm
  refine Idl.step (idl_sitsN Try.prog main S _ w) _ _ _ rfl (fun _ => stepG_region) ?_
  simp only [List.size_toArray, List.length_cons, List.length_nil, Nat.reduceAdd, Nat.zero_add, List.range, List.range.loop]
  apply Idl.value (idl_sitsN Try.prog main S _ w) rfl rfl (by first | decide | exact Go.ConcR.Gen.base_kind _ | exact Go.ConcR.Gen.baseD_kind _ | assumption)
  focus (intro w; go_simp; (try w_num); first | done | rfl)
  focus (intro w; simp [go_sem, *])
  walk_nrm
  apply Idl.value (idl_sitsN Try.prog main S _ w) rfl rfl (by first | decide | exact Go.ConcR.Gen.base_kind _ | exact Go.ConcR.Gen.baseD_kind _ | assumption)
  focus (intro w; go_simp; (try w_num); first | done | rfl)
  focus (intro w; simp [go_sem, *])
  walk_nrm
  apply Idl.value (idl_sitsN Try.prog main S _ w) rfl rfl (by first | decide | exact Go.ConcR.Gen.base_kind _ | exact Go.ConcR.Gen.baseD_kind _ | assumption)
  focus (intro w; go_simp; (try w_num); first | done | rfl)
  focus (intro w; simp [go_sem, *])
  walk_nrm
  apply Idl.value (idl_sitsN Try.prog main S _ w) rfl rfl (by first | decide | exact Go.ConcR.Gen.base_kind _ | exact Go.ConcR.Gen.baseD_kind _ | assumption)
  focus (intro w; go_simp; (try w_num); first | done | rfl)
  focus (intro w; simp [go_sem, *])
  walk_nrm
  refine SitsN.ld hS rfl rfl (by first | decide | exact Go.ConcR.Gen.base_kind _ | exact Go.ConcR.Gen.baseD_kind _ | assumption) (fun w₁ hc₁ => ⟨by go_simp, fun e he => by (have he' := he; simp [go_sem, hc₁] at he'; exact he')⟩) ?_
  walk_nrm
  refine Goes.stop (fun w₁ h₁ => ⟨_, rfl, rfl, rfl, rfl, hhome _ ⟨?_⟩, #[], by simp, fun w _ => stepG_recv106 rfl rfl (by k_ne) rfl rfl⟩)
  intro j rb ct cs en fr s p q ty E w F v hG hW hrole hS hg
  rw [served_G]
  walk_nrm
  change HGn Try.prog j F E w 60 _
  apply Idl.value (idl_hg Try.prog j F E w) rfl rfl (by first | decide | exact Go.ConcR.Gen.base_kind _ | exact Go.ConcR.Gen.baseD_kind _ | assumption)
  focus (intro w; go_simp; (try w_num); first | done | rfl)
  focus (intro w; simp [go_sem, *])
  walk_nrm
  apply Idl.value (idl_hg Try.prog j F E w) rfl rfl (by first | decide | exact Go.ConcR.Gen.base_kind _ | exact Go.ConcR.Gen.baseD_kind _ | assumption)
  focus (intro w; go_simp; (try w_num); first | done | rfl)
  focus (intro w; simp [go_sem, *])
  walk_nrm
  apply Idl.value (idl_hg Try.prog j F E w) rfl rfl (by first | decide | exact Go.ConcR.Gen.base_kind _ | exact Go.ConcR.Gen.baseD_kind _ | assumption)
  focus (intro w; go_simp; (try w_num); first | done | rfl)
  focus (intro w; simp [go_sem, *])
  walk_nrm
  refine HGn.st (obj_cell hG (o := 3) rfl) (fun z => by rw [hW] at z; cases z) (obj_thaw hG 3) (fun i => hS i 3 (by decide)) hrole rfl rfl (by first | decide | exact Go.ConcR.Gen.base_kind _ | exact Go.ConcR.Gen.baseD_kind _ | assumption) rfl (fun w₁ hc₁ hz₁ => ⟨by go_simp; first | done | rfl, fun e he => by (have he' := he; simp [go_sem, ev_st_int, ev_st_bool, ev_st_ptr, ev_st_slice, evSt_at hc₁ hz₁] at he'; exact he')⟩) ?_
  try walk_nrm
  refine Idl.re (idl_hg Try.prog j F E (w.setCell ⟨gb, 3, none⟩ (.bool !v))) (Idl.en (idl_hg Try.prog j F E (w.setCell ⟨gb, 3, none⟩ (.bool !v))) ?_)
  refine Idl.leave0 (n := 1) (idl_hg Try.prog j F E (w.setCell ⟨gb, 3, none⟩ (.bool !v))) rfl rfl Try.func74 rfl ?_
  exact hg
set_option maxRecDepth 100000 in
set_option maxHeartbeats 4000000 in
theorem pick_over {k : Int} (hG : w.heap[gb]? = some (gateObj rb ct cs true fr s p q ty)) (hW : E.W gb = false) (hk : w.cell? ⟨rb, 0, none⟩ = some (.int .i64 k)) (hWr : E.W rb = true) (hL : Live rb w) (hSr : ∀ i, E.St i ⟨rb, 0, none⟩ = none) (hrole : E.role h = .gone)
    (hg : HG Try.prog h F E (G (b₀.at (a₀.put ((ops₀[i₀]?).bind (·.dst)) (.tuple #[])) (.inRegion ops₀ rest₀ :: k₀)) cl) (w.setCell ⟨rb, 0, none⟩ (.int .i64 (IntKind.i64.wrap (k + 1))))) :
    HGn Try.prog h F E w 100 (entry 75 Try.f75 #[.pointer (some ⟨gb, 0, none⟩)] (b₀.at a₀ (.inRegion ops₀ (i₀ :: rest₀) :: k₀) :: cl)) := by
  have hne : rb ≠ gb := fun e => by rw [e, hW] at hWr; cases hWr
  simp only [entry, Try.f75, Option.getD_some]
  walk_nrm
  refine Idl.q (idl_hg Try.prog h F E w) (Idl.rg (idl_hg Try.prog h F E w) [0, 1, 2, 3, 4, 5, 6, 7, 8, 9, 10] rfl ?_)
  apply Idl.value (idl_hg Try.prog h F E w) rfl rfl (by first | decide | exact Go.ConcR.Gen.base_kind _ | exact Go.ConcR.Gen.baseD_kind _ | assumption)
  focus (intro w; go_simp; (try w_num); first | done | rfl)
  focus (intro w; simp [go_sem, *])
  walk_nrm
  apply Idl.value (idl_hg Try.prog h F E w) rfl rfl (by first | decide | exact Go.ConcR.Gen.base_kind _ | exact Go.ConcR.Gen.baseD_kind _ | assumption)
  focus (intro w; go_simp; (try w_num); first | done | rfl)
  focus (intro w; simp [go_sem, *])
  walk_nrm
  apply Idl.value (idl_hg Try.prog h F E w) rfl rfl (by first | decide | exact Go.ConcR.Gen.base_kind _ | exact Go.ConcR.Gen.baseD_kind _ | assumption)
  focus (intro w; go_simp; (try w_num); first | done | rfl)
  focus (intro w; simp [go_sem, *])
  walk_nrm
  refine HGn.ld (obj_cell hG (o := 0) rfl) (fun z => by rw [hW] at z; cases z) rfl rfl (by first | decide | exact Go.ConcR.Gen.base_kind _ | exact Go.ConcR.Gen.baseD_kind _ | assumption) (fun w₁ hc₁ => ⟨by go_simp, fun e he => by (have he' := he; simp [go_sem, hc₁] at he'; exact he')⟩) ?_
  walk_nrm
  apply Idl.value (idl_hg Try.prog h F E w) rfl rfl (by first | decide | exact Go.ConcR.Gen.base_kind _ | exact Go.ConcR.Gen.baseD_kind _ | assumption)
  focus (intro w; go_simp; (try w_num); first | done | rfl)
  focus (intro w; simp [go_sem, *])
  walk_nrm
  apply Idl.value (idl_hg Try.prog h F E w) rfl rfl (by first | decide | exact Go.ConcR.Gen.base_kind _ | exact Go.ConcR.Gen.baseD_kind _ | assumption)
  focus (intro w; go_simp; (try w_num); first | done | rfl)
  focus (intro w; simp [go_sem, *])
  walk_nrm
  refine HGn.ld hk (fun _ => ⟨rfl, hL⟩) rfl rfl (by first | decide | exact Go.ConcR.Gen.base_kind _ | exact Go.ConcR.Gen.baseD_kind _ | assumption) (fun w₁ hc₁ => ⟨by go_simp, fun e he => by (have he' := he; simp [go_sem, hc₁] at he'; exact he')⟩) ?_
  walk_nrm
  apply Idl.value (idl_hg Try.prog h F E w) rfl rfl (by first | decide | exact Go.ConcR.Gen.base_kind _ | exact Go.ConcR.Gen.baseD_kind _ | assumption)
  focus (intro w; go_simp; (try w_num); first | done | rfl)
  focus (intro w; simp [go_sem, *])
  walk_nrm
  apply Idl.value (idl_hg Try.prog h F E w) rfl rfl (by first | decide | exact Go.ConcR.Gen.base_kind _ | exact Go.ConcR.Gen.baseD_kind _ | assumption)
  focus (intro w; go_simp; (try w_num); first | done | rfl)
  focus (intro w; simp [go_sem, *])
  walk_nrm
  apply Idl.value (idl_hg Try.prog h F E w) rfl rfl (by first | decide | exact Go.ConcR.Gen.base_kind _ | exact Go.ConcR.Gen.baseD_kind _ | assumption)
  focus (intro w; go_simp; (try w_num); first | done | rfl)
  focus (intro w; simp [go_sem, *])
  walk_nrm
  refine HGn.st hk (fun _ => ⟨rfl, hL⟩) (live_thaw hL 0) hSr hrole rfl rfl (by first | decide | exact Go.ConcR.Gen.base_kind _ | exact Go.ConcR.Gen.baseD_kind _ | assumption) rfl (fun w₁ hc₁ hz₁ => ⟨by go_simp; first | done | rfl, fun e he => by (have he' := he; simp [go_sem, ev_st_int, ev_st_bool, ev_st_ptr, ev_st_slice, evSt_at hc₁ hz₁] at he'; exact he')⟩) ?_
  try walk_nrm
  have hG' : (w.setCell ⟨rb, 0, none⟩ (.int .i64 (IntKind.i64.wrap (k + 1)))).heap[gb]? = some (gateObj rb ct cs true fr s p q ty) := by rw [heap_setCell_ne hne]; exact hG
  generalize w.setCell ⟨rb, 0, none⟩ (.int .i64 (IntKind.i64.wrap (k + 1))) = w' at hG' hg ⊢
  refine Idl.re (idl_hg Try.prog h F E w') (Idl.q (idl_hg Try.prog h F E w') (Idl.rg (idl_hg Try.prog h F E w') [0, 1, 2, 3, 4] rfl ?_))
  apply Idl.value (idl_hg Try.prog h F E w') rfl rfl (by first | decide | exact Go.ConcR.Gen.base_kind _ | exact Go.ConcR.Gen.baseD_kind _ | assumption)
  focus (intro w; go_simp; (try w_num); first | done | rfl)
  focus (intro w; simp [go_sem, *])
  walk_nrm
  apply Idl.value (idl_hg Try.prog h F E w') rfl rfl (by first | decide | exact Go.ConcR.Gen.base_kind _ | exact Go.ConcR.Gen.baseD_kind _ | assumption)
  focus (intro w; go_simp; (try w_num); first | done | rfl)
  focus (intro w; simp [go_sem, *])
  walk_nrm
  apply Idl.value (idl_hg Try.prog h F E w') rfl rfl (by first | decide | exact Go.ConcR.Gen.base_kind _ | exact Go.ConcR.Gen.baseD_kind _ | assumption)
  focus (intro w; go_simp; (try w_num); first | done | rfl)
  focus (intro w; simp [go_sem, *])
  walk_nrm
  refine HGn.ld (obj_cell hG' (o := 3) rfl) (fun z => by rw [hW] at z; cases z) rfl rfl (by first | decide | exact Go.ConcR.Gen.base_kind _ | exact Go.ConcR.Gen.baseD_kind _ | assumption) (fun w₁ hc₁ => ⟨by go_simp, fun e he => by (have he' := he; simp [go_sem, hc₁] at he'; exact he')⟩) ?_
  walk_nrm
  apply Idl.value (idl_hg Try.prog h F E w') rfl rfl (by first | decide | exact Go.ConcR.Gen.base_kind _ | exact Go.ConcR.Gen.baseD_kind _ | assumption)
  focus (intro w; go_simp; (try w_num); first | done | rfl)
  focus (intro w; simp [go_sem, *])
  walk_nrm
  refine Idl.re (idl_hg Try.prog h F E w') (Idl.cf (idl_hg Try.prog h F E w') rfl (Idl.sk (idl_hg Try.prog h F E w') (Idl.en (idl_hg Try.prog h F E w') ?_)))
  refine Idl.leave0 (n := 1) (idl_hg Try.prog h F E w') rfl rfl Try.func75 rfl ?_
  exact hg
set_option maxRecDepth 100000 in
set_option maxHeartbeats 4000000 in
theorem pick_go {k : Int} {k' : Nat} {home home' : Goroutine → Prop} (hG : w.heap[gb]? = some (gateObj rb ct cs false fr s p q ty)) (hW : E.W gb = false) (hk : w.cell? ⟨rb, 0, none⟩ = some (.int .i64 k)) (hWr : E.W rb = true) (hL : Live rb w) (hSr : ∀ i, E.St i ⟨rb, 0, none⟩ = none) (hrole : E.role h = .gone)
    (hj : E.role j = .seat ct home) (hne : j ≠ h) (hSt : E.St h ⟨gb, 2, none⟩ = some (.chan (some cs))) (hcs : w.heap[cs]? = some (.chan 0 #[] false k' k' false)) (hH : E.H cs = some 0) (hno : ∀ x home'', x ≠ h → E.role x ≠ .seat cs home'')
    (hhome : ∀ g₂, AtWait gb b₀ a₀ ops₀ i₀ rest₀ k₀ cl g₂ → home' g₂)
    (hnext : ∀ E1 w1 n g₂, AtE h E (w.setCell ⟨rb, 0, none⟩ (.int .i64 (IntKind.i64.wrap (k + 1)))) E1 w1 → w1.heap[ct]? = some (.chan 0 #[] false n n false) → home g₂ → HG Try.prog j F (E1.setRole h (.seat cs home')) (Go.Conc.served g₂ (.bool true)) (w1.setChan ct 0 #[] false (n + 1) (n + 1) false)) :
    HGn Try.prog h F E w 100 (entry 75 Try.f75 #[.pointer (some ⟨gb, 0, none⟩)] (b₀.at a₀ (.inRegion ops₀ (i₀ :: rest₀) :: k₀) :: cl)) := by
  have hne' : rb ≠ gb := fun e => by rw [e, hW] at hWr; cases hWr
  simp only [entry, Try.f75, Option.getD_some]
  walk_nrm
  refine Idl.q (idl_hg Try.prog h F E w) (Idl.rg (idl_hg Try.prog h F E w) [0, 1, 2, 3, 4, 5, 6, 7, 8, 9, 10] rfl ?_)
  apply Idl.value (idl_hg Try.prog h F E w) rfl rfl (by first | decide | exact Go.ConcR.Gen.base_kind _ | exact Go.ConcR.Gen.baseD_kind _ | assumption)
  focus (intro w; go_simp; (try w_num); first | done | rfl)
  focus (intro w; simp [go_sem, *])
  walk_nrm
  apply Idl.value (idl_hg Try.prog h F E w) rfl rfl (by first | decide | exact Go.ConcR.Gen.base_kind _ | exact Go.ConcR.Gen.baseD_kind _ | assumption)
  focus (intro w; go_simp; (try w_num); first | done | rfl)
  focus (intro w; simp [go_sem, *])
  walk_nrm
  apply Idl.value (idl_hg Try.prog h F E w) rfl rfl (by first | decide | exact Go.ConcR.Gen.base_kind _ | exact Go.ConcR.Gen.baseD_kind _ | assumption)
  focus (intro w; go_simp; (try w_num); first | done | rfl)
  focus (intro w; simp [go_sem, *])
  walk_nrm
  refine HGn.ld (obj_cell hG (o := 0) rfl) (fun z => by rw [hW] at z; cases z) rfl rfl (by first | decide | exact Go.ConcR.Gen.base_kind _ | exact Go.ConcR.Gen.baseD_kind _ | assumption) (fun w₁ hc₁ => ⟨by go_simp, fun e he => by (have he' := he; simp [go_sem, hc₁] at he'; exact he')⟩) ?_
  walk_nrm
  apply Idl.value (idl_hg Try.prog h F E w) rfl rfl (by first | decide | exact Go.ConcR.Gen.base_kind _ | exact Go.ConcR.Gen.baseD_kind _ | assumption)
  focus (intro w; go_simp; (try w_num); first | done | rfl)
  focus (intro w; simp [go_sem, *])
  walk_nrm
  apply Idl.value (idl_hg Try.prog h F E w) rfl rfl (by first | decide | exact Go.ConcR.Gen.base_kind _ | exact Go.ConcR.Gen.baseD_kind _ | assumption)
  focus (intro w; go_simp; (try w_num); first | done | rfl)
  focus (intro w; simp [go_sem, *])
  walk_nrm
  refine HGn.ld hk (fun _ => ⟨rfl, hL⟩) rfl rfl (by first | decide | exact Go.ConcR.Gen.base_kind _ | exact Go.ConcR.Gen.baseD_kind _ | assumption) (fun w₁ hc₁ => ⟨by go_simp, fun e he => by (have he' := he; simp [go_sem, hc₁] at he'; exact he')⟩) ?_
  walk_nrm
  apply Idl.value (idl_hg Try.prog h F E w) rfl rfl (by first | decide | exact Go.ConcR.Gen.base_kind _ | exact Go.ConcR.Gen.baseD_kind _ | assumption)
  focus (intro w; go_simp; (try w_num); first | done | rfl)
  focus (intro w; simp [go_sem, *])
  walk_nrm
  apply Idl.value (idl_hg Try.prog h F E w) rfl rfl (by first | decide | exact Go.ConcR.Gen.base_kind _ | exact Go.ConcR.Gen.baseD_kind _ | assumption)
  focus (intro w; go_simp; (try w_num); first | done | rfl)
  focus (intro w; simp [go_sem, *])
  walk_nrm
  apply Idl.value (idl_hg Try.prog h F E w) rfl rfl (by first | decide | exact Go.ConcR.Gen.base_kind _ | exact Go.ConcR.Gen.baseD_kind _ | assumption)
  focus (intro w; go_simp; (try w_num); first | done | rfl)
  focus (intro w; simp [go_sem, *])
  walk_nrm
  refine HGn.st hk (fun _ => ⟨rfl, hL⟩) (live_thaw hL 0) hSr hrole rfl rfl (by first | decide | exact Go.ConcR.Gen.base_kind _ | exact Go.ConcR.Gen.baseD_kind _ | assumption) rfl (fun w₁ hc₁ hz₁ => ⟨by go_simp; first | done | rfl, fun e he => by (have he' := he; simp [go_sem, ev_st_int, ev_st_bool, ev_st_ptr, ev_st_slice, evSt_at hc₁ hz₁] at he'; exact he')⟩) ?_
  try walk_nrm
  have hG' : (w.setCell ⟨rb, 0, none⟩ (.int .i64 (IntKind.i64.wrap (k + 1)))).heap[gb]? = some (gateObj rb ct cs false fr s p q ty) := by rw [heap_setCell_ne hne']; exact hG
  have hcs' : (w.setCell ⟨rb, 0, none⟩ (.int .i64 (IntKind.i64.wrap (k + 1)))).heap[cs]? = some (.chan 0 #[] false k' k' false) := heap_set_chan hcs
  generalize w.setCell ⟨rb, 0, none⟩ (.int .i64 (IntKind.i64.wrap (k + 1))) = w' at hG' hcs' hnext ⊢
  refine Idl.re (idl_hg Try.prog h F E w') (Idl.q (idl_hg Try.prog h F E w') (Idl.rg (idl_hg Try.prog h F E w') [0, 1, 2, 3, 4] rfl ?_))
  apply Idl.value (idl_hg Try.prog h F E w') rfl rfl (by first | decide | exact Go.ConcR.Gen.base_kind _ | exact Go.ConcR.Gen.baseD_kind _ | assumption)
  focus (intro w; go_simp; (try w_num); first | done | rfl)
  focus (intro w; simp [go_sem, *])
  walk_nrm
  apply Idl.value (idl_hg Try.prog h F E w') rfl rfl (by first | decide | exact Go.ConcR.Gen.base_kind _ | exact Go.ConcR.Gen.baseD_kind _ | assumption)
  focus (intro w; go_simp; (try w_num); first | done | rfl)
  focus (intro w; simp [go_sem, *])
  walk_nrm
  apply Idl.value (idl_hg Try.prog h F E w') rfl rfl (by first | decide | exact Go.ConcR.Gen.base_kind _ | exact Go.ConcR.Gen.baseD_kind _ | assumption)
  focus (intro w; go_simp; (try w_num); first | done | rfl)
  focus (intro w; simp [go_sem, *])
  walk_nrm
  refine HGn.ld (obj_cell hG' (o := 3) rfl) (fun z => by rw [hW] at z; cases z) rfl rfl (by first | decide | exact Go.ConcR.Gen.base_kind _ | exact Go.ConcR.Gen.baseD_kind _ | assumption) (fun w₁ hc₁ => ⟨by go_simp, fun e he => by (have he' := he; simp [go_sem, hc₁] at he'; exact he')⟩) ?_
  walk_nrm
  apply Idl.value (idl_hg Try.prog h F E w') rfl rfl (by first | decide | exact Go.ConcR.Gen.base_kind _ | exact Go.ConcR.Gen.baseD_kind _ | assumption)
  focus (intro w; go_simp; (try w_num); first | done | rfl)
  focus (intro w; simp [go_sem, *])
  walk_nrm
  refine Idl.re (idl_hg Try.prog h F E w') (Idl.ct (idl_hg Try.prog h F E w') rfl (Idl.q (idl_hg Try.prog h F E w') (Idl.rg (idl_hg Try.prog h F E w') [0, 1, 2, 3, 4] rfl ?_)))
  apply Idl.value (idl_hg Try.prog h F E w') rfl rfl (by first | decide | exact Go.ConcR.Gen.base_kind _ | exact Go.ConcR.Gen.baseD_kind _ | assumption)
  focus (intro w; go_simp; (try w_num); first | done | rfl)
  focus (intro w; simp [go_sem, *])
  walk_nrm
  apply Idl.value (idl_hg Try.prog h F E w') rfl rfl (by first | decide | exact Go.ConcR.Gen.base_kind _ | exact Go.ConcR.Gen.baseD_kind _ | assumption)
  focus (intro w; go_simp; (try w_num); first | done | rfl)
  focus (intro w; simp [go_sem, *])
  walk_nrm
  apply Idl.value (idl_hg Try.prog h F E w') rfl rfl (by first | decide | exact Go.ConcR.Gen.base_kind _ | exact Go.ConcR.Gen.baseD_kind _ | assumption)
  focus (intro w; go_simp; (try w_num); first | done | rfl)
  focus (intro w; simp [go_sem, *])
  walk_nrm
  refine HGn.ld (obj_cell hG' (o := 1) rfl) (fun z => by rw [hW] at z; cases z) rfl rfl (by first | decide | exact Go.ConcR.Gen.base_kind _ | exact Go.ConcR.Gen.baseD_kind _ | assumption) (fun w₁ hc₁ => ⟨by go_simp, fun e he => by (have he' := he; simp [go_sem, hc₁] at he'; exact he')⟩) ?_
  walk_nrm
  skip
  refine HG.give_seat (n' := 101) (k' := k') (es := #[]) hne hj rfl (fun w' _ => stepG_send rfl rfl (by k_ne) rfl rfl rfl) (by simp) ?_ hcs' hH hno hnext
  rw [served_G]
  walk_nrm
  refine .inl ⟨100, w', rfl, ?_⟩
  change SitsN Try.prog (h == 0) (E.St h) (fun g _ => ∃ g₂, AtSeat Try.prog (h == 0) (E.St h) cs home' g g₂) w' 100 _
  refine Idl.step (idl_sitsN Try.prog (h == 0) (E.St h) _ w') _ _ _ rfl (fun _ => stepG_region_end) ?_
  refine Idl.step (idl_sitsN Try.prog (h == 0) (E.St h) _ w') _ _ _ rfl (fun _ => stepG_region) ?_
  simp only [List.size_toArray, List.length_cons, List.length_nil, Nat.reduceAdd, Nat.zero_add, List.range, List.range.loop]
  apply Idl.value (idl_sitsN Try.prog (h == 0) (E.St h) _ w') rfl rfl (by first | decide | exact Go.ConcR.Gen.base_kind _ | exact Go.ConcR.Gen.baseD_kind _ | assumption)
  focus (intro w; go_simp; (try w_num); first | done | rfl)
  focus (intro w; simp [go_sem, *])
  walk_nrm
  refine Idl.callE (fn := Try.f74) (vs := #[.pointer (some ⟨gb, 0, none⟩)]) (idl_sitsN Try.prog (h == 0) (E.St h) _ w') rfl rfl (by k_ne) rfl Try.func74 rfl rfl (by simp [Act.eval]) ?_
  refine wait_seat hSt (fun g₂ hA => hhome g₂ ⟨fun v hG hW hrole hS hg => hA.go v hG hW hrole hS ?_⟩)
  rename_i j2 _ _ _ _ _ _ _ _ _ E2 w2 F2
  walk_nrm
  change HGn Try.prog j2 F2 E2 (w2.setCell ⟨gb, 3, none⟩ (.bool !v)) 20 _
  refine Idl.re (idl_hg Try.prog j2 F2 E2 (w2.setCell ⟨gb, 3, none⟩ (.bool !v))) (Idl.en (idl_hg Try.prog j2 F2 E2 (w2.setCell ⟨gb, 3, none⟩ (.bool !v))) ?_)
  refine Idl.leave0 (n := 1) (idl_hg Try.prog j2 F2 E2 (w2.setCell ⟨gb, 3, none⟩ (.bool !v))) rfl rfl Try.func75 rfl ?_
  exact hg
end
#print axioms pick_go
end Go.Proofs.Ytimlbbleblijnaa.Co

namespace Go.Proofs.Ytimlbbleblijnaa.Co
open Go Go.Conc
open Go.ConcN (sumTo upd sumTo_upd upd_ne upd_same sumTo_congr le_sumTo)
set_option linter.unusedVariables false
set_option linter.unusedSimpArgs false
def pseudo (P : Program) : Frame := { (default : Frame) with fn := P.funcs.size, defers := [], mode := .panicking [goexitEntry] }
section
variable {P : Program} {main : Bool} {b : Frame} {a : Act} {k : List Item} {cs : List Frame} {w : World} {todo : List Item} {f : FuncId} {fn : Func} {args : Array Value}
theorem stepG_born {c : Code} (hf : P.funcs[f]? = some fn) (hname : (fn.name == "runtime.NumGoroutine") = false) (hb : fn.body = some c) :
    stepG P main (born P (dcall f args)) w = .go (entryD f fn args [pseudo P]) w #[] := by
  have h := stepG_unwind_clo (P := P) (main := main) (b := { (default : Frame) with fn := P.funcs.size }) (a := ⟨#[], [dcall f args]⟩) (todo := []) (ds := []) (caps := #[]) (args := args) (cs := []) (w := w) (md := .panicking [goexitEntry]) (by simp) rfl hf hname hb
  have e1 : born P (dcall f args) = G { ({ (default : Frame) with fn := P.funcs.size } : Frame).at ⟨#[], [dcall f args]⟩ [] with mode := .panicking [goexitEntry] } [] := rfl
  rw [e1, h]
  unfold entryD
  rw [hb]
  simp only [Array.append_empty, Option.getD_some]
  rfl
theorem stepG_leave_pseudo {v : Value} (hn : b.kind = .deferred) (hd : a.defers = []) (hf : P.funcs[b.fn]? = some fn) (hr : (results fn a.tmps).run P w = .ok v w) (he : (results fn a.tmps).events P w #[] = #[]) :
    stepG P main (G { b.at a todo with mode := .returning } [pseudo P]) w = .go (G (pseudo P) []) w #[] := by
  simp [G, stepG, unwind, doReturn, Frame.at, hn, hd, hf, hr, he, seen, GStep.after, pseudo, goexitEntry]
theorem stepG_gone : ∃ g', g'.status = .finished ∧ ∀ w, stepG P main (G (pseudo P) []) w = .go g' w #[] :=
  ⟨{ frame := pseudo P, callers := [], status := .finished, dying := none }, rfl, fun w => by
    simp [G, stepG, unwind, pseudo, goexitEntry, Frame.catches]
    rfl⟩
theorem quits_pseudo : QuitsD P 1 0 (G (pseudo P) []) := by
  obtain ⟨g', h1, h2⟩ := @stepG_gone P false
  exact .inr ⟨rfl, g', #[], by simp, h2, ⟨h1, rfl⟩⟩
end
abbrev liveB : Frame := baseD 73
set_option maxRecDepth 100000 in
theorem quits_live {t1 t2 : Array Value} {d1 d2 : List Item} : QuitsD Try.prog 3 0 (G { (baseD 117).at ⟨t1, []⟩ d1 with mode := .returning } [{ liveB.at ⟨t2, []⟩ d2 with mode := .returning }, pseudo Try.prog]) := by
  have h1 : ∀ w, stepG Try.prog false (G { (baseD 117).at ⟨t1, []⟩ d1 with mode := .returning } [{ liveB.at ⟨t2, []⟩ d2 with mode := .returning }, pseudo Try.prog]) w = .go (G { liveB.at ⟨t2, []⟩ d2 with mode := .returning } [pseudo Try.prog]) w #[] := fun w =>
    stepG_leave_deferred rfl rfl (wgLib.f_done) (results_none rfl _ Try.prog w) (events_results_none rfl _ _) rfl
  have h2 : ∀ w, stepG Try.prog false (G { liveB.at ⟨t2, []⟩ d2 with mode := .returning } [pseudo Try.prog]) w = .go (G (pseudo Try.prog) []) w #[] := fun w =>
    stepG_leave_pseudo rfl rfl Try.func73 (results_none rfl _ Try.prog w) (events_results_none rfl _ _)
  exact .inr ⟨rfl, _, #[], by simp, h1, .inr ⟨rfl, _, #[], by simp, h2, quits_pseudo⟩⟩
set_option maxRecDepth 100000 in
theorem ends_live_out {rb : Nat} {t2 : Array Value} {d2 : List Item} : Ends Try.prog rb 344 0 (G { liveB.at ⟨t2, [dcall 117 #[.pointer (some (stZ rb))]]⟩ d2 with mode := .returning } [pseudo Try.prog]) := by
  refine Idl.step (n := 343) (idl_ends Try.prog rb 0) _ _ rfl (fun w => stepG_unwind_enter rfl wgLib.f_done (by kernel_rfl) rfl) ?_
  exact done_ends (L := wgLink) wgLib (qt := 3) quits_live
theorem ends_live1 {rb : Nat} {t1 t2 : Array Value} {d1 d2 : List Item} {md : FrameMode} (hmd : md = .returning ∨ ∃ x, md = .panicking [{ v := x, recovered := true }]) :
    Ends Try.prog rb 345 0 (G { (baseD 118).at ⟨t1, []⟩ d1 with mode := .returning } [{ liveB.at ⟨t2, [dcall 117 #[.pointer (some (stZ rb))]]⟩ d2 with mode := md }, pseudo Try.prog]) := by
  rcases hmd with rfl | ⟨x, rfl⟩
  · refine Idl.step (n := 344) (idl_ends Try.prog rb 0) _ _ rfl (fun w => stepG_leave_deferred rfl rfl Try.func118 (results_none rfl _ Try.prog w) (events_results_none rfl _ _) rfl) ?_
    exact ends_live_out
  · refine Idl.step (n := 344) (idl_ends Try.prog rb 0) _ _ rfl (fun w => stepG_leave_recovered rfl rfl Try.func118 (results_none rfl _ Try.prog w) (events_results_none rfl _ _) rfl) ?_
    exact ends_live_out
#print axioms ends_live1
end Go.Proofs.Ytimlbbleblijnaa.Co

namespace Go.Proofs.Ytimlbbleblijnaa.Co
open Go Go.Conc
open Go.ConcN (sumTo upd sumTo_upd upd_ne upd_same sumTo_congr le_sumTo)
set_option linter.unusedVariables false
set_option linter.unusedSimpArgs false
theorem alloc_heap (w : World) (o : Obj) : (w.alloc o).heap = w.heap.push o := rfl
theorem alloc_old {w : World} {o : Obj} {b : Nat} (hb : b < w.heap.size) : (w.alloc o).heap[b]? = w.heap[b]? := by rw [alloc_heap, Array.getElem?_push, if_neg (Nat.ne_of_lt hb)]
theorem alloc_new {w : World} {o : Obj} : (w.alloc o).heap[w.heap.size]? = some o := by rw [alloc_heap, Array.getElem?_push, if_pos rfl]
theorem alloc_size {w : World} {o : Obj} : (w.alloc o).heap.size = w.heap.size + 1 := by rw [alloc_heap, Array.size_push]
theorem fit_alloc {H : Nat → Option Nat} {W : Nat → Bool} {w : World} {c : Array Value} {e : TypeId} (hf : Fit H W w) : Fit H W (w.alloc (.cells c e)) := by
  have hget : ∀ b, b < w.heap.size → (w.alloc (.cells c e)).heap[b]? = w.heap[b]? := fun b hb => alloc_old hb
  have hnew : (w.alloc (.cells c e)).heap[w.heap.size]? = some (.cells c e) := alloc_new
  have hsz : (w.alloc (.cells c e)).heap.size = w.heap.size + 1 := alloc_size
  have hlt : ∀ b o, (w.alloc (.cells c e)).heap[b]? = some o → b = w.heap.size ∨ b < w.heap.size := fun b o ho => by
    have := (Array.getElem?_eq_some_iff.1 ho).1
    omega
  refine ⟨fun b o ho => ?_, fun b hb => hf.bound b (by omega), fun b n o hD ho => ?_, fun b hb => ?_, hf.sub⟩
  · rw [vw_get] at ho
    cases hx : (w.alloc (.cells c e)).heap[b]? with
    | none => rw [hx] at ho; cases ho
    | some y =>
      rcases hlt b y hx with rfl | hl
      · rw [hnew] at ho
        simp only [Option.map_some, Option.some.injEq] at ho
        subst ho
        unfold hideAt
        cases H w.heap.size <;> rfl
      · rw [hget b hl] at ho
        exact hf.fair b o (by rw [vw_get]; exact ho)
  · rcases hlt b o ho with rfl | hl
    · rw [hnew] at ho
      simp only [Option.some.injEq] at ho
      subst ho
      exact .inl ⟨_, _, _, rfl⟩
    · rw [hget b hl] at ho
      exact hf.hides b n o hD ho
  · obtain ⟨x, st, sm, e', hx⟩ := hf.ok b hb
    exact ⟨x, st, sm, e', by rw [hget b (Array.getElem?_eq_some_iff.1 hx).1]; exact hx⟩
theorem aw_alloc {W : Nat → Bool} {w w1 : World} {o : Obj} (hA : Aw W w w1) (hW : W w.heap.size = false) : Aw W (w.alloc o) (w1.alloc o) := by
  refine ⟨hA.tape, hA.os, hA.output, by rw [alloc_size, alloc_size, hA.size], fun b hb => ?_, fun b hb x st sm e hx => ?_⟩
  · rw [alloc_heap, alloc_heap, Array.getElem?_push, Array.getElem?_push, hA.size, hA.heap b hb]
  · have hne : b ≠ w.heap.size := fun z => by rw [z, hW] at hb; cases hb
    rw [alloc_heap, Array.getElem?_push, if_neg hne] at hx
    obtain ⟨st', sm', h1⟩ := hA.run b hb x st sm e hx
    refine ⟨st', sm', ?_⟩
    rw [alloc_heap, Array.getElem?_push, if_neg (by rw [hA.size]; exact hne)]
    exact h1
section
variable {P : Program} {h : Nat} {F : Machine → Trace → Prop} {E : Env} {w : World} {n : Nat} {fr : Frame} {a : Act} {k : List Item} {cs : List Frame} {ops : Array Oper} {i : Nat} {rest : List Nat} {o : Oper}
theorem HGn.mk {c : Array Value} {t : TypeId} (hrole : E.role h = .gone) (hWn : E.W w.heap.size = false) (ho : ops[i]? = some o) (hw : Region.wanted o (yielded ops a.tmps) = true) (hk : fr.kind ≠ .early)
    (hr : ∀ w₁ : World, (execOp a.eval o).run P w₁ = .ok (.value (.pointer (some ⟨w₁.heap.size, 0, none⟩))) (w₁.alloc (.cells c t)) ∧ (execOp a.eval o).events P w₁ #[] = #[]) (hg : HGn P h F E (w.alloc (.cells c t)) n (G (fr.at (a.put o.dst (.pointer (some ⟨w.heap.size, 0, none⟩))) (.inRegion ops rest :: k)) cs)) :
    HGn P h F E w (n + 1) (G (fr.at a (.inRegion ops (i :: rest) :: k)) cs) := by
  refine HG.open fun E1 w1 hA ⟨gs, T, q, C, _⟩ => ?_
  have hAw := hA.2
  have hW1 : E1.W = E.W := hA.1.W'
  refine (HG.clo P h F E1).own rfl fun w₂ h2 => ?_
  obtain ⟨e1, e2⟩ := hr w₂
  have hsz : w₂.heap.size = w.heap.size := h2.size.trans hAw.size
  have hget : ∀ b, b < w₂.heap.size → (w₂.alloc (.cells c t)).heap[b]? = w₂.heap[b]? := fun b hb => alloc_old hb
  refine ⟨G (fr.at (a.put o.dst (.pointer (some ⟨w.heap.size, 0, none⟩))) (.inRegion ops rest :: k)) cs, w₂.alloc (.cells c t), #[], ?_, ⟨by rw [alloc_size]; omega, fun a' ⟨i, hi⟩ => ?_, fun c' ⟨i, home, hi⟩ => ?_, fun b hb x st sm e' hx => ?_, fit_alloc, fun ev he => by simp at he, ⟨rfl, rfl⟩⟩, ?_⟩
  · rw [stepG_value ho hw hk e1]
    unfold listed
    rw [e2, seen_none, hsz]
  · have hl : a'.block < w₂.heap.size := by rw [h2.size]; exact C.S_lt hi
    unfold World.cell?
    rw [hget _ hl]
  · have hih : i ≠ h := fun z => by
      subst z
      have := hA.1.roleH
      rw [hi, hrole] at this
      cases this
    obtain ⟨k', hk'⟩ := C.chans i c' home hih (C.seat_lt hi) hi
    exact hget _ (by rw [h2.size]; exact (Array.getElem?_eq_some_iff.1 hk').1)
  · exact ⟨x, by rw [hget _ (Array.getElem?_eq_some_iff.1 hx).1]; exact hx⟩
  · have hA2 : Aw E.W (w.alloc (.cells c t)) (w₂.alloc (.cells c t)) := aw_alloc (hAw.trans _ _ _ (by rw [← hW1]; exact h2)) hWn
    exact (show HG P h F E _ _ from hg).at ⟨hA.1, hA2⟩
end
theorem Idl.none {P : Program} {main : Bool} {A : Nat → Goroutine → Prop} {n : Nat} {b : Frame} {a : Act} {k : List Item} {cs : List Frame} {ops : Array Oper} {i : Nat} {rest : List Nat} {o : Oper} (I : Idl P main A) (ho : ops[i]? = some o) (hw : Region.wanted o (yielded ops a.tmps) = true) (hk : b.kind ≠ .early)
    (hr : ∀ w, (execOp a.eval o).run P w = .ok .skip w) (he : ∀ w, (execOp a.eval o).events P w #[] = #[]) (hg : A n (G (b.at (a.put o.dst undef) (.inRegion ops rest :: k)) cs)) : A (n + 1) (G (b.at a (.inRegion ops (i :: rest) :: k)) cs) :=
  I.step _ _ _ rfl (fun w => by rw [stepG_none ho hw hk (hr w)]; unfold listed; rw [he w, seen_none]) hg
theorem ev_neq_any (w : World) (es : Array Event) : (binOp .neq 20 .nilIface .nilIface).events Try.prog w es = es := by kernel_rfl
theorem run_neq_any (w : World) : (binOp .neq 20 .nilIface .nilIface).run Try.prog w = .ok (.bool false) w := by kernel_rfl
theorem ev_neq_letGo (w : World) (es : Array Event) : (binOp .neq 20 letGoV .nilIface).events Try.prog w es = es := by kernel_rfl
theorem run_neq_letGo (w : World) : (binOp .neq 20 letGoV .nilIface).run Try.prog w = .ok (.bool true) w := by kernel_rfl
section
variable {j hr gb rb ct cs box : Nat} {en fr : Bool} {s p q : Int} {ty : TypeId} {E : Env} {w : World} {F : Machine → Trace → Prop} {home : Goroutine → Prop} {t2 : Array Value} {d2 : List Item}
set_option maxRecDepth 100000 in
set_option maxHeartbeats 4000000 in
theorem live1_ret (hG : w.heap[gb]? = some (gateObj rb ct cs en fr s p q ty)) (hW : E.W gb = false) (hbox : w.cell? ⟨box, 0, none⟩ = some (.pointer (some ⟨gb, 0, none⟩))) (hWb : E.W box = false) (hrun : E.role hr = .seat cs home) (hne : hr ≠ j) (h0 : 0 < j) (hwg : E.wg j = some rb)
    (hnext : ∀ E1 w1 k g₂, AtE j E w E1 w1 → w1.heap[cs]? = some (.chan 0 #[] false k k false) → home g₂ → HG Try.prog hr F (E1.setRole j (.ender rb)) (Go.Conc.served g₂ (.bool false)) (w1.setChan cs 0 #[] false (k + 1) (k + 1) false)) :
    HGn Try.prog j F E w 100 (entryD 118 Try.f118 #[.pointer (some ⟨box, 0, none⟩)] [{ liveB.at ⟨t2, [dcall 117 #[.pointer (some (stZ rb))]]⟩ d2 with mode := .returning }, pseudo Try.prog]) := by
  simp only [entryD, Try.f118, Option.getD_some]
  walk_nrm
  have ev1 := ev_neq_any
  have ru1 := run_neq_any
  refine Idl.q (idl_hg Try.prog j F E w) (Idl.q (idl_hg Try.prog j F E w) (Idl.rg (idl_hg Try.prog j F E w) [0, 1] rfl ?_))
  refine Idl.step (idl_hg Try.prog j F E w) _ _ _ rfl (fun _ => (stepG_recover_none rfl rfl rfl rfl rfl rfl)) ?_
  walk_nrm
  apply Idl.value (idl_hg Try.prog j F E w) rfl rfl (by first | decide | exact Go.ConcR.Gen.base_kind _ | exact Go.ConcR.Gen.baseD_kind _ | assumption)
  focus (intro w; go_simp; (try w_num); first | done | rfl)
  focus (intro w; simp [go_sem, *])
  walk_nrm
  refine Idl.re (idl_hg Try.prog j F E w) (Idl.q (idl_hg Try.prog j F E w) (Idl.rg (idl_hg Try.prog j F E w) [0, 1] rfl ?_))
  apply Idl.value (idl_hg Try.prog j F E w) rfl rfl (by first | decide | exact Go.ConcR.Gen.base_kind _ | exact Go.ConcR.Gen.baseD_kind _ | assumption)
  focus (intro w; go_simp; (try w_num); first | done | rfl)
  focus (intro w; simp [go_sem, *])
  walk_nrm
  apply Idl.value (idl_hg Try.prog j F E w) rfl rfl (by first | decide | exact Go.ConcR.Gen.base_kind _ | exact Go.ConcR.Gen.baseD_kind _ | assumption)
  focus (intro w; go_simp; (try w_num); first | done | rfl)
  focus (intro w; simp [go_sem, *])
  walk_nrm
  refine Idl.re (idl_hg Try.prog j F E w) (Idl.cf (idl_hg Try.prog j F E w) rfl (Idl.sk (idl_hg Try.prog j F E w) (Idl.rg (idl_hg Try.prog j F E w) [0, 1, 2, 3, 4] rfl ?_)))
  refine HGn.ld hbox (fun z => by rw [hWb] at z; cases z) rfl rfl (by first | decide | exact Go.ConcR.Gen.base_kind _ | exact Go.ConcR.Gen.baseD_kind _ | assumption) (fun w₁ hc₁ => ⟨by go_simp, fun e he => by (have he' := he; simp [go_sem, hc₁] at he'; exact he')⟩) ?_
  walk_nrm
  apply Idl.value (idl_hg Try.prog j F E w) rfl rfl (by first | decide | exact Go.ConcR.Gen.base_kind _ | exact Go.ConcR.Gen.baseD_kind _ | assumption)
  focus (intro w; go_simp; (try w_num); first | done | rfl)
  focus (intro w; simp [go_sem, *])
  walk_nrm
  apply Idl.value (idl_hg Try.prog j F E w) rfl rfl (by first | decide | exact Go.ConcR.Gen.base_kind _ | exact Go.ConcR.Gen.baseD_kind _ | assumption)
  focus (intro w; go_simp; (try w_num); first | done | rfl)
  focus (intro w; simp [go_sem, *])
  walk_nrm
  refine HGn.ld (obj_cell hG (o := 2) rfl) (fun z => by rw [hW] at z; cases z) rfl rfl (by first | decide | exact Go.ConcR.Gen.base_kind _ | exact Go.ConcR.Gen.baseD_kind _ | assumption) (fun w₁ hc₁ => ⟨by go_simp, fun e he => by (have he' := he; simp [go_sem, hc₁] at he'; exact he')⟩) ?_
  walk_nrm
  skip
  refine HG.give_end (n' := 347) (es := #[]) hne hrun rfl (fun w' _ => stepG_send rfl rfl (by exact Go.ConcR.Gen.baseD_kind _) rfl rfl rfl) (by simp) h0 hwg ?_ hnext
  rw [served_G]
  walk_nrm
  refine Idl.step (idl_ends Try.prog rb 0) _ _ _ rfl (fun _ => stepG_region_end) ?_
  refine Idl.step (idl_ends Try.prog rb 0) _ _ _ rfl (fun _ => stepG_end) ?_
  exact ends_live1 (.inl rfl)
set_option maxRecDepth 100000 in
set_option maxHeartbeats 4000000 in
theorem live1_off (hG : w.heap[gb]? = some (gateObj rb ct cs en fr s p q ty)) (hW : E.W gb = false) (hbox : w.cell? ⟨box, 0, none⟩ = some (.pointer (some ⟨gb, 0, none⟩))) (hWb : E.W box = false) (hrole : E.role j = .gone) (hWn : E.W w.heap.size = false) (hrun : E.role hr = .seat cs home) (hne : hr ≠ j) (h0 : 0 < j) (hwg : E.wg j = some rb)
    (hnext : ∀ E1 w1 k g₂, AtE j E (w.alloc (.cells #[] 111)) E1 w1 → w1.heap[cs]? = some (.chan 0 #[] false k k false) → home g₂ → HG Try.prog hr F (E1.setRole j (.ender rb)) (Go.Conc.served g₂ (.bool false)) (w1.setChan cs 0 #[] false (k + 1) (k + 1) false)) :
    HGn Try.prog j F E w 100 (entryD 118 Try.f118 #[.pointer (some ⟨box, 0, none⟩)] [{ liveB.at ⟨t2, [dcall 117 #[.pointer (some (stZ rb))]]⟩ d2 with mode := .panicking [{ v := letGoV, recovered := false }] }, pseudo Try.prog]) := by
  simp only [entryD, Try.f118, Option.getD_some]
  walk_nrm
  have ev1 := ev_neq_letGo
  have ru1 := run_neq_letGo
  refine Idl.q (idl_hg Try.prog j F E w) (Idl.q (idl_hg Try.prog j F E w) (Idl.rg (idl_hg Try.prog j F E w) [0, 1] rfl ?_))
  refine Idl.step (idl_hg Try.prog j F E w) _ _ _ rfl (fun _ => (stepG_recover rfl rfl rfl rfl rfl rfl)) ?_
  walk_nrm
  apply Idl.value (idl_hg Try.prog j F E w) rfl rfl (by first | decide | exact Go.ConcR.Gen.base_kind _ | exact Go.ConcR.Gen.baseD_kind _ | assumption)
  focus (intro w; go_simp; (try w_num); first | done | rfl)
  focus (intro w; simp [go_sem, *])
  walk_nrm
  refine Idl.re (idl_hg Try.prog j F E w) (Idl.q (idl_hg Try.prog j F E w) (Idl.rg (idl_hg Try.prog j F E w) [0, 1] rfl ?_))
  apply Idl.value (idl_hg Try.prog j F E w) rfl rfl (by first | decide | exact Go.ConcR.Gen.base_kind _ | exact Go.ConcR.Gen.baseD_kind _ | assumption)
  focus (intro w; go_simp; (try w_num); first | done | rfl)
  focus (intro w; simp [go_sem, *])
  walk_nrm
  refine Idl.value (v := .bool true) (idl_hg Try.prog j F E w) rfl rfl (by exact Go.ConcR.Gen.baseD_kind _) (fun w => by kernel_rfl) (fun w => by kernel_rfl) ?_
  walk_nrm
  refine Idl.re (idl_hg Try.prog j F E w) (Idl.ct (idl_hg Try.prog j F E w) rfl (Idl.q (idl_hg Try.prog j F E w) (Idl.rg (idl_hg Try.prog j F E w) [0, 1, 2, 3, 4, 5, 6, 7] rfl ?_)))
  apply Idl.value (idl_hg Try.prog j F E w) rfl rfl (by first | decide | exact Go.ConcR.Gen.base_kind _ | exact Go.ConcR.Gen.baseD_kind _ | assumption)
  focus (intro w; go_simp; (try w_num); first | done | rfl)
  focus (intro w; simp [go_sem, *])
  walk_nrm
  refine Idl.value (v := .tuple #[.agg #[], .bool true]) (idl_hg Try.prog j F E w) rfl rfl (by exact Go.ConcR.Gen.baseD_kind _) (fun w => by kernel_rfl) (fun w => by kernel_rfl) ?_
  walk_nrm
  apply Idl.value (idl_hg Try.prog j F E w) rfl rfl (by first | decide | exact Go.ConcR.Gen.base_kind _ | exact Go.ConcR.Gen.baseD_kind _ | assumption)
  focus (intro w; go_simp; (try w_num); first | done | rfl)
  focus (intro w; simp [go_sem, *])
  walk_nrm
  apply Idl.value (idl_hg Try.prog j F E w) rfl rfl (by first | decide | exact Go.ConcR.Gen.base_kind _ | exact Go.ConcR.Gen.baseD_kind _ | assumption)
  focus (intro w; go_simp; (try w_num); first | done | rfl)
  focus (intro w; simp [go_sem, *])
  walk_nrm
  apply Idl.value (idl_hg Try.prog j F E w) rfl rfl (by first | decide | exact Go.ConcR.Gen.base_kind _ | exact Go.ConcR.Gen.baseD_kind _ | assumption)
  focus (intro w; go_simp; (try w_num); first | done | rfl)
  focus (intro w; simp [go_sem, *])
  walk_nrm
  refine HGn.mk (c := #[]) (t := 111) hrole hWn rfl rfl (by exact Go.ConcR.Gen.baseD_kind _) (fun w₁ => ⟨by kernel_rfl, by kernel_rfl⟩) ?_
  walk_nrm
  have hG' : (w.alloc (.cells #[] 111)).heap[gb]? = some (gateObj rb ct cs en fr s p q ty) := by rw [alloc_old (Array.getElem?_eq_some_iff.1 hG).1]; exact hG
  have hbox' : (w.alloc (.cells #[] 111)).cell? ⟨box, 0, none⟩ = some (.pointer (some ⟨gb, 0, none⟩)) := by
    have hl : box < w.heap.size := lt_of_cell hbox
    unfold World.cell? at hbox ⊢
    rw [alloc_old hl]; exact hbox
  generalize w.alloc (.cells #[] 111) = w' at hG' hbox' hnext ⊢
  refine Idl.none (idl_hg Try.prog j F E w') rfl rfl (by exact Go.ConcR.Gen.baseD_kind _) (fun w => by kernel_rfl) (fun w => by kernel_rfl) ?_
  walk_nrm
  apply Idl.value (idl_hg Try.prog j F E w') rfl rfl (by first | decide | exact Go.ConcR.Gen.base_kind _ | exact Go.ConcR.Gen.baseD_kind _ | assumption)
  focus (intro w; go_simp; (try w_num); first | done | rfl)
  focus (intro w; simp [go_sem, *])
  walk_nrm
  refine Idl.re (idl_hg Try.prog j F E w') (Idl.q (idl_hg Try.prog j F E w') (Idl.rg (idl_hg Try.prog j F E w') [0, 1] rfl ?_))
  apply Idl.value (idl_hg Try.prog j F E w') rfl rfl (by first | decide | exact Go.ConcR.Gen.base_kind _ | exact Go.ConcR.Gen.baseD_kind _ | assumption)
  focus (intro w; go_simp; (try w_num); first | done | rfl)
  focus (intro w; simp [go_sem, *])
  walk_nrm
  apply Idl.value (idl_hg Try.prog j F E w') rfl rfl (by first | decide | exact Go.ConcR.Gen.base_kind _ | exact Go.ConcR.Gen.baseD_kind _ | assumption)
  focus (intro w; go_simp; (try w_num); first | done | rfl)
  focus (intro w; simp [go_sem, *])
  walk_nrm
  refine Idl.re (idl_hg Try.prog j F E w') (Idl.cf (idl_hg Try.prog j F E w') rfl (Idl.sk (idl_hg Try.prog j F E w') (Idl.rg (idl_hg Try.prog j F E w') [0, 1, 2, 3, 4] rfl ?_)))
  refine HGn.ld hbox' (fun z => by rw [hWb] at z; cases z) rfl rfl (by first | decide | exact Go.ConcR.Gen.base_kind _ | exact Go.ConcR.Gen.baseD_kind _ | assumption) (fun w₁ hc₁ => ⟨by go_simp, fun e he => by (have he' := he; simp [go_sem, hc₁] at he'; exact he')⟩) ?_
  walk_nrm
  apply Idl.value (idl_hg Try.prog j F E w') rfl rfl (by first | decide | exact Go.ConcR.Gen.base_kind _ | exact Go.ConcR.Gen.baseD_kind _ | assumption)
  focus (intro w; go_simp; (try w_num); first | done | rfl)
  focus (intro w; simp [go_sem, *])
  walk_nrm
  apply Idl.value (idl_hg Try.prog j F E w') rfl rfl (by first | decide | exact Go.ConcR.Gen.base_kind _ | exact Go.ConcR.Gen.baseD_kind _ | assumption)
  focus (intro w; go_simp; (try w_num); first | done | rfl)
  focus (intro w; simp [go_sem, *])
  walk_nrm
  refine HGn.ld (obj_cell hG' (o := 2) rfl) (fun z => by rw [hW] at z; cases z) rfl rfl (by first | decide | exact Go.ConcR.Gen.base_kind _ | exact Go.ConcR.Gen.baseD_kind _ | assumption) (fun w₁ hc₁ => ⟨by go_simp, fun e he => by (have he' := he; simp [go_sem, hc₁] at he'; exact he')⟩) ?_
  walk_nrm
  skip
  refine HG.give_end (n' := 347) (es := #[]) hne hrun rfl (fun w' _ => stepG_send rfl rfl (by exact Go.ConcR.Gen.baseD_kind _) rfl rfl rfl) (by simp) h0 hwg ?_ hnext
  rw [served_G]
  walk_nrm
  refine Idl.step (idl_ends Try.prog rb 0) _ _ _ rfl (fun _ => stepG_region_end) ?_
  refine Idl.step (idl_ends Try.prog rb 0) _ _ _ rfl (fun _ => stepG_end) ?_
  exact ends_live1 (.inr ⟨_, rfl⟩)
end
#print axioms live1_off
end Go.Proofs.Ytimlbbleblijnaa.Co

namespace Go.Proofs.Ytimlbbleblijnaa.Co
open Go Go.Conc
open Go.ConcN (sumTo upd sumTo_upd upd_ne upd_same sumTo_congr le_sumTo)
set_option linter.unusedVariables false
set_option linter.unusedSimpArgs false
section
variable {P : Program} {main : Bool} {A : Nat → Goroutine → Prop} {n : Nat} {b : Frame} {a : Act} {k : List Item} {cs : List Frame} {ops : Array Oper} {i : Nat} {rest : List Nat} {o : Oper} {f : FuncId} {fn : Func}
theorem Idl.unwindClo (I : Idl P main A) {todo : List Item} {ds : List Deferred} {args caps vs : Array Value} {md : FrameMode} (hmd : md ≠ .run) (hd : a.defers = { target := .fn (.func f) caps, args := args } :: ds) (hf : P.funcs[f]? = some fn) (hname : (fn.name == "runtime.NumGoroutine") = false) (hb : fn.body.isSome = true) (hv : args ++ caps = vs)
    (hg : A n (entryD f fn vs ({ b.at ⟨a.tmps, ds⟩ todo with mode := md } :: cs))) : A (n + 1) (G { b.at a todo with mode := md } cs) := by
  subst hv
  cases hb' : fn.body with
  | none => rw [hb'] at hb; cases hb
  | some c =>
    refine I.step _ _ _ rfl (fun w => stepG_unwind_clo hmd hd hf hname hb') ?_
    unfold entryD at hg
    rw [hb'] at hg
    exact hg
theorem Idl.callClo (I : Idl P main A) {x : Operand} {as' : Array Operand} {caps vs : Array Value} {ats : Array TypeId} (ho : ops[i]? = some o) (hw : Region.wanted o (yielded ops a.tmps) = true) (hk : b.kind ≠ .early) (hop : o.op = .call { callee := .value x, args := as', argTypes := ats }) (hx : a.eval x = .func (.func f) #[] caps)
    (hf : P.funcs[f]? = some fn) (hname : (fn.name == "runtime.NumGoroutine") = false) (hb : fn.body.isSome = true) (hv : as'.map a.eval ++ caps = vs)
    (hg : A n (entry f fn vs (b.at a (.inRegion ops (i :: rest) :: k) :: cs))) : A (n + 1) (G (b.at a (.inRegion ops (i :: rest) :: k)) cs) := by
  subst hv
  cases hb' : fn.body with
  | none => rw [hb'] at hb; cases hb
  | some c =>
    refine I.step _ _ _ rfl (fun w => stepG_call_clo ho hw hk hop hx hf hname hb') ?_
    unfold entry at hg
    rw [hb'] at hg
    exact hg
end
section
variable {P : Program} {h : Nat} {F : Machine → Trace → Prop} {E : Env} {w : World} {g : Goroutine}
theorem HG.hide {H' : Nat → Option Nat} {S' : Addr → Option Value} (hH : ∀ b n, E.H b = some n → H' b = some n)
    (h2 : ∀ b n, H' b = some n → E.H b = some n ∨ (E.W b = false ∧ ((∃ c e f, w.heap[b]? = some (.cells c e f)) ∨ ∃ c bf l s r m, w.heap[b]? = some (.chan c bf l s r m)))) (hS : ∀ a v, E.St h a = some v → S' a = some v)
    (hS2 : ∀ a v, S' a = some v → E.St h a = some v ∨ (w.cell? a = some v ∧ E.W a.block = false ∧ ∃ n, H' a.block = some n ∧ n ≤ a.off)) (hg : HG P h F { E with H := H', St := upd E.St h S' } g w) : HG P h F E g w := by
  intro E' w' gs T q sl ⟨hE, hA⟩ C ha
  have hC := C.grow (H' := H') (S' := S') (by rw [hE.H']; exact hH) (by
    rw [hE.W']
    refine fit_grow (H := E.H) (by have := C.fit; rw [hE.H', hE.W'] at this; exact this) hH (fun b n e => ?_)
    rcases h2 b n e with z | ⟨z1, z2⟩
    · exact .inl z
    · rw [hA.heap b z1]; exact .inr z2) (by rw [hE.St']; exact hS) (fun a v e => by
    rcases hS2 a v e with z | ⟨z1, z2, z3⟩
    · have z' : E'.St h a = some v := by rw [hE.St']; exact z
      obtain ⟨n, n1, n2⟩ := C.hidS h a (by rw [z']; rfl)
      exact ⟨C.keep h a v z', C.dis h a (by rw [z']; rfl), n, hH _ _ (by rw [← hE.H']; exact n1), n2⟩
    · refine ⟨?_, by rw [hE.W']; exact z2, z3⟩
      unfold World.cell?
      rw [hA.heap _ z2]
      exact z1)
  refine hg _ w' gs T q sl ⟨?_, hA⟩ hC ha
  have e1 : upd E'.St h S' = upd E.St h S' := by rw [hE.St']
  exact ⟨⟨hE.seat, hE.gone, hE.roleH, fun x a v e => (by rw [show (upd E'.St h S') = upd E.St h S' from e1]; exact e), hE.W, fun _ _ e => e, hE.wg, hE.wgH, hE.wgS, hE.ex, hE.mode, hE.modeUp, hE.io⟩, hE.W', e1, rfl⟩
end
structure LiveRet (gb box rb : Nat) (b₀ : Frame) (a₀ : Act) (ops₀ : Array Oper) (i₀ : Nat) (rest₀ : List Nat) (k₀ : List Item) (cl : List Frame) : Prop where
  ret : ∀ {j hr ct cs : Nat} {en fr : Bool} {s p q : Int} {ty : TypeId} {E : Env} {w : World} {F : Machine → Trace → Prop} {home : Goroutine → Prop}, w.heap[gb]? = some (gateObj rb ct cs en fr s p q ty) → E.W gb = false → w.cell? ⟨box, 0, none⟩ = some (.pointer (some ⟨gb, 0, none⟩)) → E.W box = false → E.role hr = .seat cs home → hr ≠ j → 0 < j → E.wg j = some rb →
    (∀ E1 w1 k g₂, AtE j E w E1 w1 → w1.heap[cs]? = some (.chan 0 #[] false k k false) → home g₂ → HG Try.prog hr F (E1.setRole j (.ender rb)) (Go.Conc.served g₂ (.bool false)) (w1.setChan cs 0 #[] false (k + 1) (k + 1) false)) →
    HG Try.prog j F E (G (b₀.at (a₀.put ((ops₀[i₀]?).bind (·.dst)) (.tuple #[])) (.inRegion ops₀ rest₀ :: k₀)) cl) w
  off : ∀ {j hr ct cs : Nat} {en fr : Bool} {s p q : Int} {ty : TypeId} {E : Env} {w : World} {F : Machine → Trace → Prop} {home : Goroutine → Prop}, w.heap[gb]? = some (gateObj rb ct cs en fr s p q ty) → E.W gb = false → w.cell? ⟨box, 0, none⟩ = some (.pointer (some ⟨gb, 0, none⟩)) → E.W box = false → E.role hr = .seat cs home → hr ≠ j → 0 < j → E.wg j = some rb →
    E.role j = .gone → E.W w.heap.size = false →
    (∀ E1 w1 k g₂, AtE j E (w.alloc (.cells #[] 111)) E1 w1 → w1.heap[cs]? = some (.chan 0 #[] false k k false) → home g₂ → HG Try.prog hr F (E1.setRole j (.ender rb)) (Go.Conc.served g₂ (.bool false)) (w1.setChan cs 0 #[] false (k + 1) (k + 1) false)) →
    HG Try.prog j F E (G { b₀.at a₀ (.inRegion ops₀ (i₀ :: rest₀) :: k₀) with mode := .panicking [{ v := letGoV, recovered := false }] } cl) w
section
variable {j hr gb rb ct cs fb : Nat} {fn : Func} {caps : Array Value} {en fr : Bool} {s p q : Int} {ty : TypeId} {E : Env} {w : World} {F : Machine → Trace → Prop}
set_option maxRecDepth 100000 in
set_option maxHeartbeats 4000000 in
theorem live_start (hG : w.heap[gb]? = some (gateObj rb ct cs en fr s p q ty)) (hW : E.W gb = false) (hrole : E.role j = .gone) (hWn : E.W w.heap.size = false) (hf : Try.prog.funcs[fb]? = some fn) (hname : (fn.name == "runtime.NumGoroutine") = false) (hb : fn.body.isSome = true)
    (hbody : ∀ {b₀ : Frame} {a₀ : Act} {ops₀ : Array Oper} {i₀ : Nat} {rest₀ : List Nat} {k₀ : List Item} {cl : List Frame}, LiveRet gb w.heap.size rb b₀ a₀ ops₀ i₀ rest₀ k₀ cl → HG Try.prog j F E (entry fb fn (#[.pointer (some ⟨gb, 0, none⟩)] ++ caps) (b₀.at a₀ (.inRegion ops₀ (i₀ :: rest₀) :: k₀) :: cl)) (w.alloc (.cells #[.pointer (some ⟨gb, 0, none⟩)] 49))) :
    HGn Try.prog j F E w 100 (born Try.prog (dcall 73 #[.pointer (some ⟨gb, 0, none⟩), .func (.func fb) #[] caps])) := by
  refine Idl.step (n := 99) (idl_hg Try.prog j F E w) _ _ rfl (fun w => stepG_born Try.func73 (by kernel_rfl) (by rfl)) ?_
  simp only [entryD, Try.f73, Option.getD_some]
  walk_nrm
  refine Idl.q (idl_hg Try.prog j F E w) (Idl.rg (idl_hg Try.prog j F E w) [0] rfl ?_)
  refine HGn.mk (c := #[.pointer (some ⟨gb, 0, none⟩)]) (t := 49) hrole hWn rfl rfl (by exact Go.ConcR.Gen.baseD_kind _) (fun w₁ => ⟨by kernel_rfl, by kernel_rfl⟩) ?_
  walk_nrm
  have hG' : (w.alloc (.cells #[.pointer (some ⟨gb, 0, none⟩)] 49)).heap[gb]? = some (gateObj rb ct cs en fr s p q ty) := by rw [alloc_old (Array.getElem?_eq_some_iff.1 hG).1]; exact hG
  have hbox' : (w.alloc (.cells #[.pointer (some ⟨gb, 0, none⟩)] 49)).cell? ⟨w.heap.size, 0, none⟩ = some (.pointer (some ⟨gb, 0, none⟩)) := obj_cell alloc_new rfl
  generalize w.alloc (.cells #[.pointer (some ⟨gb, 0, none⟩)] 49) = w' at hG' hbox' hbody ⊢
  generalize w.heap.size = box at *
  refine Idl.re (idl_hg Try.prog j F E w') (Idl.q (idl_hg Try.prog j F E w') (Idl.rg (idl_hg Try.prog j F E w') [0, 1, 2, 3, 4, 5, 6] rfl ?_))
  refine HGn.ld hbox' (fun z => by rw [hWn] at z; cases z) rfl rfl (by first | decide | exact Go.ConcR.Gen.base_kind _ | exact Go.ConcR.Gen.baseD_kind _ | assumption) (fun w₁ hc₁ => ⟨by go_simp, fun e he => by (have he' := he; simp [go_sem, hc₁] at he'; exact he')⟩) ?_
  walk_nrm
  apply Idl.value (idl_hg Try.prog j F E w') rfl rfl (by first | decide | exact Go.ConcR.Gen.base_kind _ | exact Go.ConcR.Gen.baseD_kind _ | assumption)
  focus (intro w; go_simp; (try w_num); first | done | rfl)
  focus (intro w; simp [go_sem, *])
  walk_nrm
  apply Idl.value (idl_hg Try.prog j F E w') rfl rfl (by first | decide | exact Go.ConcR.Gen.base_kind _ | exact Go.ConcR.Gen.baseD_kind _ | assumption)
  focus (intro w; go_simp; (try w_num); first | done | rfl)
  focus (intro w; simp [go_sem, *])
  walk_nrm
  refine HGn.ld (obj_cell hG' (o := 0) rfl) (fun z => by rw [hW] at z; cases z) rfl rfl (by first | decide | exact Go.ConcR.Gen.base_kind _ | exact Go.ConcR.Gen.baseD_kind _ | assumption) (fun w₁ hc₁ => ⟨by go_simp, fun e he => by (have he' := he; simp [go_sem, hc₁] at he'; exact he')⟩) ?_
  walk_nrm
  apply Idl.value (idl_hg Try.prog j F E w') rfl rfl (by first | decide | exact Go.ConcR.Gen.base_kind _ | exact Go.ConcR.Gen.baseD_kind _ | assumption)
  focus (intro w; go_simp; (try w_num); first | done | rfl)
  focus (intro w; simp [go_sem, *])
  walk_nrm
  apply Idl.value (idl_hg Try.prog j F E w') rfl rfl (by first | decide | exact Go.ConcR.Gen.base_kind _ | exact Go.ConcR.Gen.baseD_kind _ | assumption)
  focus (intro w; go_simp; (try w_num); first | done | rfl)
  focus (intro w; simp [go_sem, *])
  walk_nrm
  refine Idl.step (idl_hg Try.prog j F E w') _ _ _ rfl (fun _ => (stepG_defer rfl rfl (by exact Go.ConcR.Gen.baseD_kind _) rfl)) ?_
  walk_nrm
  refine Idl.re (idl_hg Try.prog j F E w') (Idl.q (idl_hg Try.prog j F E w') (Idl.rg (idl_hg Try.prog j F E w') [0, 1] rfl ?_))
  apply Idl.value (idl_hg Try.prog j F E w') rfl rfl (by first | decide | exact Go.ConcR.Gen.base_kind _ | exact Go.ConcR.Gen.baseD_kind _ | assumption)
  focus (intro w; go_simp; (try w_num); first | done | rfl)
  focus (intro w; simp [go_sem, *])
  walk_nrm
  refine Idl.step (idl_hg Try.prog j F E w') _ _ _ rfl (fun _ => (stepG_defer_clo rfl rfl (by exact Go.ConcR.Gen.baseD_kind _) rfl rfl)) ?_
  walk_nrm
  refine Idl.re (idl_hg Try.prog j F E w') (Idl.q (idl_hg Try.prog j F E w') (Idl.rg (idl_hg Try.prog j F E w') [0, 1] rfl ?_))
  apply Idl.value (idl_hg Try.prog j F E w') rfl rfl (by first | decide | exact Go.ConcR.Gen.base_kind _ | exact Go.ConcR.Gen.baseD_kind _ | assumption)
  focus (intro w; go_simp; (try w_num); first | done | rfl)
  focus (intro w; simp [go_sem, *])
  walk_nrm
  refine Idl.value (v := .bool true) (idl_hg Try.prog j F E w') rfl rfl (by exact Go.ConcR.Gen.baseD_kind _) (fun w => by kernel_rfl) (fun w => by kernel_rfl) ?_
  walk_nrm
  refine Idl.re (idl_hg Try.prog j F E w') (Idl.ct (idl_hg Try.prog j F E w') rfl (Idl.rg (idl_hg Try.prog j F E w') [0, 1, 2] rfl ?_))
  apply Idl.value (idl_hg Try.prog j F E w') rfl rfl (by first | decide | exact Go.ConcR.Gen.base_kind _ | exact Go.ConcR.Gen.baseD_kind _ | assumption)
  focus (intro w; go_simp; (try w_num); first | done | rfl)
  focus (intro w; simp [go_sem, *])
  walk_nrm
  refine HGn.ld hbox' (fun z => by rw [hWn] at z; cases z) rfl rfl (by first | decide | exact Go.ConcR.Gen.base_kind _ | exact Go.ConcR.Gen.baseD_kind _ | assumption) (fun w₁ hc₁ => ⟨by go_simp, fun e he => by (have he' := he; simp [go_sem, hc₁] at he'; exact he')⟩) ?_
  walk_nrm
  refine Idl.callClo (fn := fn) (vs := #[.pointer (some ⟨gb, 0, none⟩)] ++ caps) (idl_hg Try.prog j F E w') rfl rfl (by exact Go.ConcR.Gen.baseD_kind _) rfl rfl hf hname hb (by simp [Act.eval]) ?_
  refine hbody ⟨?_, ?_⟩
  · intro j hr ct cs en fr s p q ty E w F home hG hW hbox hWb hrun hne h0 hwg hnext
    walk_nrm
    change HGn Try.prog j F E w 120 _
    refine Idl.re (idl_hg Try.prog j F E w) (Idl.en (idl_hg Try.prog j F E w) ?_)
    refine Idl.unwindClo (fn := Try.f118) (vs := #[.pointer (some ⟨box, 0, none⟩)]) (idl_hg Try.prog j F E w) (by simp) rfl Try.func118 (by kernel_rfl) (by rfl) (by simp) ?_
    exact live1_ret hG hW hbox hWb hrun hne h0 hwg hnext
  · intro j hr ct cs en fr s p q ty E w F home hG hW hbox hWb hrun hne h0 hwg hrole hWn hnext
    change HGn Try.prog j F E w (119 + 1) _
    refine Idl.unwindClo (fn := Try.f118) (vs := #[.pointer (some ⟨box, 0, none⟩)]) (idl_hg Try.prog j F E w) (by simp) rfl Try.func118 (by kernel_rfl) (by rfl) (by simp) ?_
    exact live1_off hG hW hbox hWb hrole hWn hrun hne h0 hwg hnext
end
#print axioms live_start
end Go.Proofs.Ytimlbbleblijnaa.Co
