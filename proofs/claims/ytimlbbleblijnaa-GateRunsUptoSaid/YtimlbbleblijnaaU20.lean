/- Lemmas for the laws of this seat, laid together of PIa, PHo, PIb, PGda, PGdb. -/
import Derived.Test.YtimlbbleblijnaaU17
import Derived.Test.YtimlbbleblijnaaU18
import Derived.Test.YtimlbbleblijnaaU19
import Derived.BigQuiet
import Derived.Deep.QuietTactic

open Go.ConcR.Gen (base_kind baseD_kind)
set_option linter.unusedVariables false
set_option linter.unusedSimpArgs false
namespace Go.Proofs.Ytimlbbleblijnaa.Co
open Go Go.Conc
section
variable {σ Λ : Type} {D : Prot σ Λ} {h rb : Nat} {home : Goroutine → Prop} {k : Int} {th : Th} {F : Machine → Trace → Prop} {E : Env} {w : World} {s : σ} {b₀ : Frame} {a₀ : Act} {ops₀ : Array Oper} {i₀ : Nat} {rest₀ : List Nat} {k₀ : List Item} {cl : List Frame} {st po pt : Int}
theorem ga_cell {en fr : Bool} (g : GA w rb th en fr (st, po, pt)) : w.cell? ⟨th.gb, 0, none⟩ = some (.pointer (some ⟨rb, 0, none⟩)) ∧ w.cell? ⟨th.gb, 5, none⟩ = some (.int .i64 st) ∧ w.cell? ⟨th.gb, 6, none⟩ = some (.int .i64 po) ∧ w.cell? ⟨th.gb, 7, none⟩ = some (.int .i64 pt) ∧ ∀ o, w.frozen? ⟨th.gb, o, none⟩ = false := by
  unfold GA gateObj at g
  exact ⟨obj_cell g rfl, obj_cell g rfl, obj_cell g rfl, obj_cell g rfl, fun o => obj_thaw g o⟩
set_option maxRecDepth 100000 in
set_option maxHeartbeats 2000000 in
theorem begin_own {en fr : Bool} (T : TKn h rb home k th E w) (g : GA w rb th en fr (st, po, pt)) (M : D.M s E w)
    (hc : ∀ w', Kept th.j (some th.gb) E w E w' → TKn h rb home k th E w' → GA w' rb th en fr (0, 0, 0) → D.M s E w' → HG Try.prog th.j F E (G (b₀.at (a₀.put ((ops₀[i₀]?).bind (·.dst)) (.tuple #[])) (.inRegion ops₀ rest₀ :: k₀)) cl) w') :
    HGn Try.prog th.j F E w 100 (entry 34 Try.f34 #[.pointer (some ⟨th.gb, 0, none⟩)] (b₀.at a₀ (.inRegion ops₀ (i₀ :: rest₀) :: k₀) :: cl)) := by
  obtain ⟨w1, hw1⟩ : ∃ w1, w1 = w.setCell ⟨th.gb, 5, none⟩ (.int .i64 0) := ⟨_, rfl⟩
  obtain ⟨w2, hw2⟩ : ∃ w2, w2 = w1.setCell ⟨th.gb, 6, none⟩ (.int .i64 0) := ⟨_, rfl⟩
  obtain ⟨w3, hw3⟩ : ∃ w3, w3 = w2.setCell ⟨th.gb, 7, none⟩ (.int .i64 0) := ⟨_, rfl⟩
  have g1 : GA w1 rb th en fr (0, po, pt) := by rw [hw1]; exact heap_set (a := ⟨th.gb, 5, none⟩) (w := w) rfl g
  have g2 : GA w2 rb th en fr (0, 0, pt) := by rw [hw2]; exact heap_set (a := ⟨th.gb, 6, none⟩) (w := w1) rfl g1
  have g3 : GA w3 rb th en fr (0, 0, 0) := by rw [hw3]; exact heap_set (a := ⟨th.gb, 7, none⟩) (w := w2) rfl g2
  have k1 : Kept th.j (some th.gb) E w E w1 := by rw [hw1]; exact kept_set T.gW
  have k2 : Kept th.j (some th.gb) E w1 E w2 := by rw [hw2]; exact kept_set T.gW
  have k3 : Kept th.j (some th.gb) E w2 E w3 := by rw [hw3]; exact kept_set T.gW
  have kk := (k1.trans k2).trans k3
  have M1 : D.M s E w1 := by rw [hw1]; exact Prot.set M T.gH
  have M2 : D.M s E w2 := by rw [hw2]; exact Prot.set M1 T.gH
  have M3 : D.M s E w3 := by rw [hw3]; exact Prot.set M2 T.gH
  have hc' := hc w3 kk (T.kept kk T.gct) g3 M3
  obtain ⟨_, c5, _, _, z0⟩ := ga_cell g
  obtain ⟨_, _, c6, _, z1⟩ := ga_cell g1
  obtain ⟨_, _, _, c7, z2⟩ := ga_cell g2
  have y0 := z0 5
  have y1 := z1 6
  have y2 := z2 7
  have W := T.gW
  have V5 := fun i => T.noSt i 5 (by decide)
  have V6 := fun i => T.noSt i 6 (by decide)
  have V7 := fun i => T.noSt i 7 (by decide)
  have hrole := T.role
  clear hc M1 M2 M3 kk k1 k2 k3 g1 g2 g3 g M T z0 z1 z2
  replace hc' := Lib.hid hc'
  replace hw1 := Lib.hid hw1
  replace hw2 := Lib.hid hw2
  replace hw3 := Lib.hid hw3
  unfold entry
  simp only [Try.f34, Option.getD_some]
  walk_nrm
  refine Idl.q (idl_hg Try.prog th.j F E w) (Idl.rg (idl_hg Try.prog th.j F E w) [0, 1] rfl ?_)
  apply Idl.value (idl_hg Try.prog th.j F E w) rfl rfl (by first | decide | exact base_kind _ | exact baseD_kind _ | assumption)
  focus (intro w; go_simp; (try w_num); first | done | rfl)
  focus (intro w; simp [go_sem, *])
  walk_nrm
  refine Idl.value (v := .bool true) (idl_hg Try.prog th.j F E w) rfl rfl (by k_ne) (fun w => by kernel_rfl) (fun w => by kernel_rfl) ?_
  walk_nrm
  refine Idl.re (idl_hg Try.prog th.j F E w) (Idl.ct (idl_hg Try.prog th.j F E w) rfl (Idl.rg (idl_hg Try.prog th.j F E w) [0, 1, 2, 3, 4, 5, 6, 7, 8, 9, 10, 11] rfl ?_))
  iterate 5 (apply Idl.value (idl_hg Try.prog th.j F E w) rfl rfl (by first | decide | exact base_kind _ | exact baseD_kind _ | assumption); (focus (intro w; go_simp; (try w_num); first | done | rfl)); (focus (intro w; simp [go_sem, *])); walk_nrm)
  refine HGn.st c5 (fun z => by rw [W] at z; cases z) y0 V5 hrole rfl rfl (by first | decide | exact base_kind _ | exact baseD_kind _ | assumption) rfl (fun w₁ hc₁ hz₁ => ⟨by go_simp; first | done | rfl, fun e he => by (have he' := he; simp [go_sem, ev_st_int, ev_st_bool, ev_st_ptr, ev_st_slice, evSt_at hc₁ hz₁] at he'; exact he')⟩) ?_
  try walk_nrm
  rw [← hw1.out]
  iterate 2 (apply Idl.value (idl_hg Try.prog th.j F E w1) rfl rfl (by first | decide | exact base_kind _ | exact baseD_kind _ | assumption); (focus (intro w; go_simp; (try w_num); first | done | rfl)); (focus (intro w; simp [go_sem, *])); walk_nrm)
  refine HGn.st c6 (fun z => by rw [W] at z; cases z) y1 V6 hrole rfl rfl (by first | decide | exact base_kind _ | exact baseD_kind _ | assumption) rfl (fun w₁ hc₁ hz₁ => ⟨by go_simp; first | done | rfl, fun e he => by (have he' := he; simp [go_sem, ev_st_int, ev_st_bool, ev_st_ptr, ev_st_slice, evSt_at hc₁ hz₁] at he'; exact he')⟩) ?_
  try walk_nrm
  rw [← hw2.out]
  iterate 2 (apply Idl.value (idl_hg Try.prog th.j F E w2) rfl rfl (by first | decide | exact base_kind _ | exact baseD_kind _ | assumption); (focus (intro w; go_simp; (try w_num); first | done | rfl)); (focus (intro w; simp [go_sem, *])); walk_nrm)
  refine HGn.st c7 (fun z => by rw [W] at z; cases z) y2 V7 hrole rfl rfl (by first | decide | exact base_kind _ | exact baseD_kind _ | assumption) rfl (fun w₁ hc₁ hz₁ => ⟨by go_simp; first | done | rfl, fun e he => by (have he' := he; simp [go_sem, ev_st_int, ev_st_bool, ev_st_ptr, ev_st_slice, evSt_at hc₁ hz₁] at he'; exact he')⟩) ?_
  try walk_nrm
  rw [← hw3.out]
  refine Idl.re (idl_hg Try.prog th.j F E w3) (Idl.en (idl_hg Try.prog th.j F E w3) ?_)
  refine Idl.leave0 (n := 1) (idl_hg Try.prog th.j F E w3) rfl rfl Try.func34 rfl ?_
  exact hc'.out
set_option maxRecDepth 100000 in
set_option maxHeartbeats 2000000 in
theorem poll_own {en fr : Bool} (T : TKn h rb home k th E w) (g : GA w rb th en fr (st, po, pt)) (M : D.M s E w)
    (hc : ∀ w', Kept th.j (some th.gb) E w E w' → TKn h rb home k th E w' → GA w' rb th en fr (st, IntKind.i64.wrap (po + 1), pt) → D.M s E w' → HG Try.prog th.j F E (G (b₀.at (a₀.put ((ops₀[i₀]?).bind (·.dst)) (.tuple #[])) (.inRegion ops₀ rest₀ :: k₀)) cl) w') :
    HGn Try.prog th.j F E w 100 (entry 35 Try.f35 #[.pointer (some ⟨th.gb, 0, none⟩)] (b₀.at a₀ (.inRegion ops₀ (i₀ :: rest₀) :: k₀) :: cl)) := by
  obtain ⟨w1, hw1⟩ : ∃ w1, w1 = w.setCell ⟨th.gb, 6, none⟩ (.int .i64 (IntKind.i64.wrap (po + 1))) := ⟨_, rfl⟩
  have g1 : GA w1 rb th en fr (st, IntKind.i64.wrap (po + 1), pt) := by rw [hw1]; exact heap_set (a := ⟨th.gb, 6, none⟩) (w := w) rfl g
  have k1 : Kept th.j (some th.gb) E w E w1 := by rw [hw1]; exact kept_set T.gW
  have M1 : D.M s E w1 := by rw [hw1]; exact Prot.set M T.gH
  have hc' := hc w1 k1 (T.kept k1 T.gct) g1 M1
  obtain ⟨_, _, c6, _, z0⟩ := ga_cell g
  have y0 := z0 6
  have W := T.gW
  have V6 := fun i => T.noSt i 6 (by decide)
  have hrole := T.role
  clear hc M1 k1 g1 g M T z0
  replace hc' := Lib.hid hc'
  replace hw1 := Lib.hid hw1
  unfold entry
  simp only [Try.f35, Option.getD_some]
  walk_nrm
  refine Idl.q (idl_hg Try.prog th.j F E w) (Idl.rg (idl_hg Try.prog th.j F E w) [0, 1] rfl ?_)
  apply Idl.value (idl_hg Try.prog th.j F E w) rfl rfl (by first | decide | exact base_kind _ | exact baseD_kind _ | assumption)
  focus (intro w; go_simp; (try w_num); first | done | rfl)
  focus (intro w; simp [go_sem, *])
  walk_nrm
  refine Idl.value (v := .bool true) (idl_hg Try.prog th.j F E w) rfl rfl (by k_ne) (fun w => by kernel_rfl) (fun w => by kernel_rfl) ?_
  walk_nrm
  refine Idl.re (idl_hg Try.prog th.j F E w) (Idl.ct (idl_hg Try.prog th.j F E w) rfl (Idl.rg (idl_hg Try.prog th.j F E w) [0, 1, 2, 3, 4, 5, 6, 7] rfl ?_))
  iterate 3 (apply Idl.value (idl_hg Try.prog th.j F E w) rfl rfl (by first | decide | exact base_kind _ | exact baseD_kind _ | assumption); (focus (intro w; go_simp; (try w_num); first | done | rfl)); (focus (intro w; simp [go_sem, *])); walk_nrm)
  refine HGn.ld c6 (fun z => by rw [W] at z; cases z) rfl rfl (by first | decide | exact base_kind _ | exact baseD_kind _ | assumption) (fun w₁ hc₁ => ⟨by go_simp, fun e he => by (have he' := he; simp [go_sem, hc₁] at he'; exact he')⟩) ?_
  walk_nrm
  iterate 3 (apply Idl.value (idl_hg Try.prog th.j F E w) rfl rfl (by first | decide | exact base_kind _ | exact baseD_kind _ | assumption); (focus (intro w; go_simp; (try w_num); first | done | rfl)); (focus (intro w; simp [go_sem, *])); walk_nrm)
  refine HGn.st c6 (fun z => by rw [W] at z; cases z) y0 V6 hrole rfl rfl (by first | decide | exact base_kind _ | exact baseD_kind _ | assumption) rfl (fun w₁ hc₁ hz₁ => ⟨by go_simp; first | done | rfl, fun e he => by (have he' := he; simp [go_sem, ev_st_int, ev_st_bool, ev_st_ptr, ev_st_slice, evSt_at hc₁ hz₁] at he'; exact he')⟩) ?_
  try walk_nrm
  rw [← hw1.out]
  refine Idl.re (idl_hg Try.prog th.j F E w1) (Idl.en (idl_hg Try.prog th.j F E w1) ?_)
  refine Idl.leave0 (n := 1) (idl_hg Try.prog th.j F E w1) rfl rfl Try.func35 rfl ?_
  exact hc'.out
set_option maxRecDepth 100000 in
set_option maxHeartbeats 2000000 in
theorem point_own {en fr : Bool} (T : TKn h rb home k th E w) (g : GA w rb th en fr (st, po, pt)) (M : D.M s E w)
    (hc : ∀ w', Kept th.j (some th.gb) E w E w' → TKn h rb home k th E w' → GA w' rb th en fr (st, po, k) → D.M s E w' → HG Try.prog th.j F E (G (b₀.at (a₀.put ((ops₀[i₀]?).bind (·.dst)) (.tuple #[])) (.inRegion ops₀ rest₀ :: k₀)) cl) w') :
    HGn Try.prog th.j F E w 100 (entry 36 Try.f36 #[.pointer (some ⟨th.gb, 0, none⟩)] (b₀.at a₀ (.inRegion ops₀ (i₀ :: rest₀) :: k₀) :: cl)) := by
  obtain ⟨w1, hw1⟩ : ∃ w1, w1 = w.setCell ⟨th.gb, 7, none⟩ (.int .i64 k) := ⟨_, rfl⟩
  have g1 : GA w1 rb th en fr (st, po, k) := by rw [hw1]; exact heap_set (a := ⟨th.gb, 7, none⟩) (w := w) rfl g
  have k1 : Kept th.j (some th.gb) E w E w1 := by rw [hw1]; exact kept_set T.gW
  have M1 : D.M s E w1 := by rw [hw1]; exact Prot.set M T.gH
  have hc' := hc w1 k1 (T.kept k1 T.gct) g1 M1
  obtain ⟨c0, _, _, c7, z0⟩ := ga_cell g
  have y0 := z0 7
  have W := T.gW
  have V7 := fun i => T.noSt i 7 (by decide)
  have hrole := T.role
  have cp := T.pick
  have hL := T.rL
  clear hc M1 k1 g1 g M T z0
  replace hc' := Lib.hid hc'
  replace hw1 := Lib.hid hw1
  unfold entry
  simp only [Try.f36, Option.getD_some]
  walk_nrm
  refine Idl.q (idl_hg Try.prog th.j F E w) (Idl.rg (idl_hg Try.prog th.j F E w) [0, 1] rfl ?_)
  apply Idl.value (idl_hg Try.prog th.j F E w) rfl rfl (by first | decide | exact base_kind _ | exact baseD_kind _ | assumption)
  focus (intro w; go_simp; (try w_num); first | done | rfl)
  focus (intro w; simp [go_sem, *])
  walk_nrm
  refine Idl.value (v := .bool true) (idl_hg Try.prog th.j F E w) rfl rfl (by k_ne) (fun w => by kernel_rfl) (fun w => by kernel_rfl) ?_
  walk_nrm
  refine Idl.re (idl_hg Try.prog th.j F E w) (Idl.ct (idl_hg Try.prog th.j F E w) rfl (Idl.rg (idl_hg Try.prog th.j F E w) [0, 1, 2, 3, 4, 5, 6, 7, 8, 9, 10] rfl ?_))
  iterate 4 (apply Idl.value (idl_hg Try.prog th.j F E w) rfl rfl (by first | decide | exact base_kind _ | exact baseD_kind _ | assumption); (focus (intro w; go_simp; (try w_num); first | done | rfl)); (focus (intro w; simp [go_sem, *])); walk_nrm)
  refine HGn.ld c0 (fun z => by rw [W] at z; cases z) rfl rfl (by first | decide | exact base_kind _ | exact baseD_kind _ | assumption) (fun w₁ hc₁ => ⟨by go_simp, fun e he => by (have he' := he; simp [go_sem, hc₁] at he'; exact he')⟩) ?_
  walk_nrm
  iterate 2 (apply Idl.value (idl_hg Try.prog th.j F E w) rfl rfl (by first | decide | exact base_kind _ | exact baseD_kind _ | assumption); (focus (intro w; go_simp; (try w_num); first | done | rfl)); (focus (intro w; simp [go_sem, *])); walk_nrm)
  refine HGn.ld cp (fun _ => ⟨rfl, hL⟩) rfl rfl (by first | decide | exact base_kind _ | exact baseD_kind _ | assumption) (fun w₁ hc₁ => ⟨by go_simp, fun e he => by (have he' := he; simp [go_sem, hc₁] at he'; exact he')⟩) ?_
  walk_nrm
  iterate 2 (apply Idl.value (idl_hg Try.prog th.j F E w) rfl rfl (by first | decide | exact base_kind _ | exact baseD_kind _ | assumption); (focus (intro w; go_simp; (try w_num); first | done | rfl)); (focus (intro w; simp [go_sem, *])); walk_nrm)
  refine HGn.st c7 (fun z => by rw [W] at z; cases z) y0 V7 hrole rfl rfl (by first | decide | exact base_kind _ | exact baseD_kind _ | assumption) rfl (fun w₁ hc₁ hz₁ => ⟨by go_simp; first | done | rfl, fun e he => by (have he' := he; simp [go_sem, ev_st_int, ev_st_bool, ev_st_ptr, ev_st_slice, evSt_at hc₁ hz₁] at he'; exact he')⟩) ?_
  try walk_nrm
  rw [← hw1.out]
  refine Idl.re (idl_hg Try.prog th.j F E w1) (Idl.en (idl_hg Try.prog th.j F E w1) ?_)
  refine Idl.leave0 (n := 1) (idl_hg Try.prog th.j F E w1) rfl rfl Try.func36 rfl ?_
  exact hc'.out
set_option maxRecDepth 100000 in
set_option maxHeartbeats 2000000 in
theorem picks_own {en fr : Bool} (T : TKn h rb home k th E w) (g : GA w rb th en fr (st, po, pt))
    (hc : HG Try.prog th.j F E (G (b₀.at (a₀.put ((ops₀[i₀]?).bind (·.dst)) (.int .i64 k)) (.inRegion ops₀ rest₀ :: k₀)) cl) w) :
    HGn Try.prog th.j F E w 100 (entry 37 Try.f37 #[.pointer (some ⟨th.gb, 0, none⟩)] (b₀.at a₀ (.inRegion ops₀ (i₀ :: rest₀) :: k₀) :: cl)) := by
  obtain ⟨c0, _, _, _, _⟩ := ga_cell g
  have W := T.gW
  have cp := T.pick
  have hL := T.rL
  clear g T
  replace hc := Lib.hid hc
  unfold entry
  simp only [Try.f37, Option.getD_some]
  walk_nrm
  refine Idl.q (idl_hg Try.prog th.j F E w) (Idl.rg (idl_hg Try.prog th.j F E w) [0] rfl ?_)
  apply Idl.value (idl_hg Try.prog th.j F E w) rfl rfl (by first | decide | exact base_kind _ | exact baseD_kind _ | assumption)
  focus (intro w; go_simp; (try w_num); first | done | rfl)
  focus (intro w; simp [go_sem, *])
  walk_nrm
  refine Idl.re (idl_hg Try.prog th.j F E w) (Idl.q (idl_hg Try.prog th.j F E w) (Idl.q (idl_hg Try.prog th.j F E w) (Idl.rg (idl_hg Try.prog th.j F E w) [0, 1] rfl ?_)))
  apply Idl.value (idl_hg Try.prog th.j F E w) rfl rfl (by first | decide | exact base_kind _ | exact baseD_kind _ | assumption)
  focus (intro w; go_simp; (try w_num); first | done | rfl)
  focus (intro w; simp [go_sem, *])
  walk_nrm
  refine Idl.value (v := .bool false) (idl_hg Try.prog th.j F E w) rfl rfl (by k_ne) (fun w => by kernel_rfl) (fun w => by kernel_rfl) ?_
  walk_nrm
  refine Idl.re (idl_hg Try.prog th.j F E w) (Idl.cf (idl_hg Try.prog th.j F E w) rfl (Idl.sk (idl_hg Try.prog th.j F E w) (Idl.q (idl_hg Try.prog th.j F E w) (Idl.rg (idl_hg Try.prog th.j F E w) [0, 1, 2, 3, 4, 5, 6, 7] rfl ?_))))
  iterate 3 (apply Idl.value (idl_hg Try.prog th.j F E w) rfl rfl (by first | decide | exact base_kind _ | exact baseD_kind _ | assumption); (focus (intro w; go_simp; (try w_num); first | done | rfl)); (focus (intro w; simp [go_sem, *])); walk_nrm)
  refine HGn.ld c0 (fun z => by rw [W] at z; cases z) rfl rfl (by first | decide | exact base_kind _ | exact baseD_kind _ | assumption) (fun w₁ hc₁ => ⟨by go_simp, fun e he => by (have he' := he; simp [go_sem, hc₁] at he'; exact he')⟩) ?_
  walk_nrm
  iterate 2 (apply Idl.value (idl_hg Try.prog th.j F E w) rfl rfl (by first | decide | exact base_kind _ | exact baseD_kind _ | assumption); (focus (intro w; go_simp; (try w_num); first | done | rfl)); (focus (intro w; simp [go_sem, *])); walk_nrm)
  refine HGn.ld cp (fun _ => ⟨rfl, hL⟩) rfl rfl (by first | decide | exact base_kind _ | exact baseD_kind _ | assumption) (fun w₁ hc₁ => ⟨by go_simp, fun e he => by (have he' := he; simp [go_sem, hc₁] at he'; exact he')⟩) ?_
  walk_nrm
  apply Idl.value (idl_hg Try.prog th.j F E w) rfl rfl (by first | decide | exact base_kind _ | exact baseD_kind _ | assumption)
  focus (intro w; go_simp; (try w_num); first | done | rfl)
  focus (intro w; simp [go_sem, *])
  walk_nrm
  refine Idl.re (idl_hg Try.prog th.j F E w) (Idl.rt (idl_hg Try.prog th.j F E w) ?_)
  refine Idl.leaveV (n := 1) (v := .int .i64 k) (fn := Try.f37) (idl_hg Try.prog th.j F E w) rfl rfl Try.func37 (fun w => by simp [results, Try.f37, go_sem]) (fun w => by simp [results, Try.f37, go_sem]) ?_
  exact hc.out
theorem tally_th {en fr : Bool} (T : TKn h rb home k th E w) (g : GA w rb th en fr (st, po, pt)) (M : D.M s E w)
    (hc : ∀ E' w', Kept th.j (some th.gb) E w E' w' → TKn h rb home k th E' w' → GA w' rb th en fr (st, po, pt) → D.M s E' w' → HG Try.prog th.j F E' (G (b₀.at (a₀.put ((ops₀[i₀]?).bind (·.dst)) (.tuple #[.int .i64 st, .int .i64 po, .int .i64 pt])) (.inRegion ops₀ rest₀ :: k₀)) cl) w') :
    HGn Try.prog th.j F E w 100 (entry 31 Try.f31 #[.pointer (some ⟨th.gb, 0, none⟩)] (b₀.at a₀ (.inRegion ops₀ (i₀ :: rest₀) :: k₀) :: cl)) := by
  refine HG.withH fun hWH _ => ?_
  refine tally_own (by unfold GA at g; exact g) T.gW (fun E1 w1 hA => ?_)
  have kk : Kept th.j (some th.gb) E w E1 w1 := Kept.of_at hA
  exact hc E1 w1 kk (T.kept kk T.gct) (GA.at g T.gW hA) (Prot.at M hWH hA)
end
def lastT (md : Region.Mode) (ops : Array Oper) (n : Nat) : Bool :=
  (n + 1 == ops.size) && ((List.range n).all fun j => (List.range (n + 1)).any fun i => decide (j < i) && ((ops[i]?).map fun o : Oper => o.after.any fun e => Region.binds md e && e.on == j).getD false) && ops.all (fun o => o.guard.isNone) && (List.range ops.size).all fun j => ((ops[j]?).map fun o : Oper => o.after.all fun e => decide (e.on < j)).getD false
section
variable {P : Program} {main : Bool} {R : World → World → Prop} {D : World → World → Array Event → Prop} {fn : FuncId} {ops : Array Oper} {Q : Exit → Act → World → Prop} {md : Region.Mode} {S : World → Prop} {Stop : Goroutine → World → Prop} {b : Frame} {k : List Item} {cs : List Frame}
theorem goes_last {n : Nat} {o : Oper} (ho : ops[n]? = some o) (hB : lastT md ops n = true) (hrefl : ∀ w, R w w) (hb : b.fn = fn) (hk : b.kind ≠ .early) (hstop : ∀ a w, Q .normal a w → Stop (G (b.at a (.inRegion ops [n] :: k)) cs) w) :
    ∀ (fuel t : Nat) (listed : Array Bool) (a : Act) (w : World), AnyCH P R D fn md (ops.setIfInBounds n (nopOf o)) Q S fuel listed a w → listed.size = ops.size → listed.getD n true = false → (∀ (j : Nat) (oj : Oper), ops[j]? = some oj → listed.getD j true = true → ∀ e ∈ oj.after, Region.binds md e = true → listed.getD e.on false = true) →
      GoesW P main R D Stop (G (b.at a (.inRegion ops (Region.linearise.go md ops fuel t listed []) :: k)) cs) w := by
  simp only [lastT, Bool.and_eq_true, beq_iff_eq, List.all_eq_true, List.any_eq_true, List.mem_range, Array.all_eq_true, decide_eq_true_eq] at hB
  obtain ⟨⟨⟨hn, hall⟩, hg⟩, hback⟩ := hB
  have hnl : n < ops.size := by omega
  have hsz : (ops.setIfInBounds n (nopOf o)).size = ops.size := by simp
  have haft : ∀ i : Nat, ((ops.setIfInBounds n (nopOf o))[i]?).map Oper.after = (ops[i]?).map Oper.after := fun i => by
    rw [Array.getElem?_setIfInBounds]
    by_cases hi : n = i
    · subst hi
      rw [if_pos rfl, if_pos hnl, ho]; rfl
    · rw [if_neg hi]
  have hready := fun listed => ready_set (md := md) hsz haft listed
  have hguard : ∀ (i : Nat) (oi : Oper), ops[i]? = some oi → oi.guard = none := fun i oi e => by
    obtain ⟨h1, h2⟩ := Array.getElem?_eq_some_iff.1 e
    have := hg i h1
    rw [h2] at this
    simpa using this
  have hne : ∀ (listed : Array Bool), listed.size = ops.size → ∀ i, listed.getD i true = false → Region.ready md ops listed ≠ [] := fun listed hsl i => by
    induction i using Nat.strongRecOn with
    | _ i ih =>
      intro hun
      have hil : i < ops.size := by
        rcases Nat.lt_or_ge i ops.size with z | z
        · exact z
        · rw [← hsl] at z
          simp [Array.getD, Nat.not_lt.2 z] at hun
      by_cases hr : i ∈ Region.ready md ops listed
      · exact fun e => by rw [e] at hr; cases hr
      · have hoi : ops[i]? = some ops[i] := Array.getElem?_eq_getElem hil
        have hnr := fun z => hr (mem_ready.2 ⟨hun, _, hoi, z⟩)
        have hb := hback i hil
        rw [hoi] at hb
        simp only [Option.map_some, Option.getD_some, Array.all_eq_true, decide_eq_true_eq] at hb
        apply Classical.byContradiction
        intro hemp
        refine hnr fun e he hbd => ?_
        cases hl : listed.getD e.on false with
        | true => rfl
        | false =>
          obtain ⟨j, hj, rfl⟩ := Array.mem_iff_getElem.1 he
          have hlt := hb j hj
          refine absurd (ih _ hlt ?_) hemp
          have : ops[i].after[j].on < listed.size := by omega
          simp only [Array.getD, this, dif_pos] at hl ⊢
          exact hl
  intro fuel
  induction fuel with
  | zero =>
    intro t listed a w h hsl hun hdc
    obtain ⟨h1, h2⟩ := h
    rw [hready] at h1
    exact absurd h1 (hne listed hsl n hun)
  | succ fuel ih =>
    intro t listed a w h hsl hun hdc
    obtain ⟨h1, h2⟩ := h
    rw [hready] at h1 h2
    have hnil := hne listed hsl n hun
    simp only [Region.linearise.go]
    change GoesW P main R D Stop (G (b.at a (.inRegion ops (match (Region.ready md ops listed)[t % (Region.ready md ops listed).length]? with
      | some i => Region.linearise.go md ops fuel (t / (Region.ready md ops listed).length) (listed.setIfInBounds i true) [i]
      | none => [].reverse) :: k)) cs) w
    cases hi : (Region.ready md ops listed)[t % (Region.ready md ops listed).length]? with
    | none =>
      refine absurd ?_ hnil
      cases hr : Region.ready md ops listed with
      | nil => rfl
      | cons x xs =>
        rw [hr] at hi
        have hlt : t % (x :: xs).length < (x :: xs).length := Nat.mod_lt _ (by simp)
        simp at hi
        simp at hlt
        omega
    | some i =>
      simp only []
      rw [linearise_go_acc, List.reverse_singleton, List.singleton_append]
      have hmem := List.mem_of_getElem? hi
      have h3 := h2 i hmem
      have hir := mem_ready.1 hmem
      by_cases hin : i = n
      · subst hin
        have hemp : Region.ready md ops (listed.setIfInBounds i true) = [] := by
          apply List.eq_nil_iff_forall_not_mem.2
          intro j hj
          obtain ⟨hju, oj, hoj, hje⟩ := mem_ready.1 hj
          have hjl : j < ops.size := (Array.getElem?_eq_some_iff.1 hoj).1
          by_cases hji : i = j
          · subst hji
            simp [Array.getD, hsl, hnl] at hju
          · have hjn : j < i := by omega
            have key : ∀ d j, j + d = i → j ≠ i → listed.getD j true = true := by
              intro d
              induction d using Nat.strongRecOn with
              | _ d ihd =>
                intro j hjd hne'
                obtain ⟨u, hu1, hu2, hu3⟩ := hall j (by omega)
                have hul : u < ops.size := by omega
                rw [Array.getElem?_eq_getElem hul] at hu3
                simp only [Option.map_some, Option.getD_some, Array.any_eq_true] at hu3
                obtain ⟨q, hq, h7⟩ := hu3
                simp only [Bool.and_eq_true, beq_iff_eq] at h7
                have h8 : listed.getD (ops[u].after[q]).on false = true := by
                  by_cases hui : u = i
                  · obtain ⟨_, o2, ho2, hedge⟩ := hir
                    subst hui
                    rw [Array.getElem?_eq_getElem hul] at ho2
                    obtain rfl := Option.some.inj ho2
                    exact hedge _ (Array.getElem_mem hq) h7.1
                  · exact hdc u _ (Array.getElem?_eq_getElem hul) (ihd (i - u) (by omega) u (by omega) hui) _ (Array.getElem_mem hq) h7.1
                rw [h7.2] at h8
                have hjs : j < listed.size := by omega
                simp only [Array.getD, hjs, dif_pos] at h8 ⊢
                exact h8
            rw [getD_set_ne true hji] at hju
            rw [key (i - j) j (by omega) (by omega)] at hju
            cases hju
        have hend : Region.linearise.go md ops fuel (t / (Region.ready md ops listed).length) (listed.setIfInBounds i true) [] = [] := by
          cases fuel with
          | zero => rfl
          | succ f =>
            simp only [Region.linearise.go]
            change (match (Region.ready md ops (listed.setIfInBounds i true))[(t / (Region.ready md ops listed).length) % (Region.ready md ops (listed.setIfInBounds i true)).length]? with
              | some j => Region.linearise.go md ops f ((t / (Region.ready md ops listed).length) / (Region.ready md ops (listed.setIfInBounds i true)).length) ((listed.setIfInBounds i true).setIfInBounds j true) [j]
              | none => [].reverse) = []
            rw [hemp]
            rfl
        rw [hend]
        refine GoesW.stop (fun w₁ hR => ?_)
        unfold OpC at h3
        rw [Array.getElem?_setIfInBounds, if_pos rfl, if_pos hnl] at h3
        dsimp only at h3
        have g0 := hguard i o ho
        rw [if_pos (show Region.wanted (nopOf o) (yielded (ops.setIfInBounds i (nopOf o)) a.tmps) = true by simp [Region.wanted, nopOf, g0])] at h3
        have h4 := h3 w₁ hR
        have hr : (execOp a.eval (nopOf o)).run P w₁ = .ok (.value undef) w₁ := by simp [nopOf, execOp, go_sem, Act.eval]
        rw [hr] at h4
        obtain ⟨_, _, h5⟩ := h4
        have hr0 := (hready (listed.setIfInBounds i true)).trans hemp
        refine hstop a w₁ ?_
        cases fuel with
        | zero => exact h5.2
        | succ f => exact h5.1 hr0
      · unfold OpC at h3
        rw [Array.getElem?_setIfInBounds, if_neg (Ne.symm hin)] at h3
        obtain ⟨hun', oi, hoi, hedge⟩ := hir
        rw [hoi] at h3
        have g0 := hguard i oi hoi
        have w1 : ∀ (ops2 : Array Oper) (t : Array Value), Region.wanted oi (yielded ops2 t) = true := fun ops2 t => by simp [Region.wanted, g0]
        dsimp only at h3
        rw [if_pos (w1 _ _)] at h3
        have hun2 : (listed.setIfInBounds i true).getD n true = false := by
          rw [getD_set_ne true hin]; exact hun
        have hdc2 : ∀ (j : Nat) (oj : Oper), ops[j]? = some oj → (listed.setIfInBounds i true).getD j true = true → ∀ e ∈ oj.after, Region.binds md e = true → (listed.setIfInBounds i true).getD e.on false = true := fun j oj hoj hl e he hb => by
          have h8 : listed.getD e.on false = true := by
            by_cases hji : i = j
            · subst hji
              rw [hoi] at hoj
              obtain rfl := Option.some.inj hoj
              exact hedge e he hb
            · rw [getD_set_ne true hji] at hl
              exact hdc j oj hoj hl e he hb
          by_cases hei : i = e.on
          · subst hei
            have : e.on < listed.size := by
              rcases Nat.lt_or_ge e.on listed.size with z | z
              · exact z
              · simp [Array.getD, Nat.not_lt.2 z] at h8
            simp [Array.getD, this]
          · have : e.on < listed.size := by
              rcases Nat.lt_or_ge e.on listed.size with z | z
              · exact z
              · simp [Array.getD, Nat.not_lt.2 z] at h8
            simp only [Array.getD, this, dif_pos, Array.size_setIfInBounds] at h8 ⊢
            simp only [Array.getInternal_eq_getElem] at h8 ⊢
            rw [Array.getElem_setIfInBounds, if_neg hei]
            exact h8
        refine GoesW.step' rfl fun w₁ h₁ => ?_
        have h4 := h3 w₁ h₁
        have h5 : (stepG P main (G (b.at a (.inRegion ops (i :: Region.linearise.go md ops fuel (t / (Region.ready md ops listed).length) (listed.setIfInBounds i true) []) :: k)) cs) w₁).goes (fun g' w' es => D w₁ w' es ∧ GoesW P main R D Stop g' w') := by
          refine goes_oper hoi (w1 _ _) hk ?_
          revert h4
          cases (execOp a.eval oi).run P w₁ with
          | ok x w' => cases x <;> first | exact fun ⟨d, _, g⟩ => ⟨hb ▸ d, ih _ _ _ _ g (by simp [hsl]) hun2 hdc2⟩ | exact id
          | halt _ _ => exact id
        cases hg : stepG P main (G (b.at a (.inRegion ops (i :: Region.linearise.go md ops fuel (t / (Region.ready md ops listed).length) (listed.setIfInBounds i true) []) :: k)) cs) w₁ with
        | go g' w' es => rw [hg, goes_go] at h5; exact ⟨g', w', es, rfl, h5.1, h5.2⟩
        | _ => rw [hg] at h5; exact h5.elim
end
section
variable {P : Program} {h : Nat} {F : Machine → Trace → Prop} {E : Env} {w : World}
theorem HG.looksTo {fr : Frame} {a aF : Act} {k : List Item} {cs : List Frame} {rid n : Nat} {o : Oper} {ops : Array Oper} {S : World → Prop} (hm : P.follows .mixedOrders = true) (hk : fr.kind = .normal) (ho : ops[n]? = some o) (hB : lastT .any ops n = true)
    (hany : ∀ w₁, Aw E.W w w₁ → AnyCH P (Aw E.W) E.D fr.fn .any (ops.setIfInBounds n (nopOf o)) (fun e a' w' => e = .normal ∧ a' = aF ∧ Aw E.W w w') S ops.size (Array.replicate ops.size false) a { w₁ with drawn := w₁.drawn + 1 })
    (hg : ∀ w', Aw E.W w w' → HG P h F E (G (fr.at aF (.inRegion ops [n] :: k)) cs) w') : HG P h F E (G (fr.at a (.code (.region rid ops true) :: k)) cs) w := by
  refine (HG.clo P h F E).own rfl (fun w₁ hA => ⟨_, _, _, stepG_region_draw, ⟨Nat.le_refl _, fun _ _ => rfl, fun _ _ => rfl, fun _ _ x _ _ _ h => ⟨x, h⟩, fun f => (by cases f; constructor <;> assumption), fun e he => by simp at he, SameIo.refl _⟩, ?_⟩)
  simp only [Region.schedule, hm, Bool.true_or, if_true]
  refine (HG.clo P h F E).goes _ _ ?_
  have hs : (ops[n]?).isSome = true := by rw [ho]; rfl
  have hnl : n < ops.size := (Array.getElem?_eq_some_iff.1 ho).1
  refine goes_last (fn := fr.fn) (Q := fun e a' w' => e = .normal ∧ a' = aF ∧ Aw E.W w w') (S := S) ho hB (Aw.refl _) rfl (by rw [hk]; decide) (fun a' w' ⟨_, q2, q3⟩ => ?_) _ _ _ _ _ (hany w₁ hA) (by simp) (by simp [Array.getD, hnl]) (fun j oj hoj hl => by
    have : j < ops.size := (Array.getElem?_eq_some_iff.1 hoj).1
    simp [Array.getD, this] at hl)
  subst q2
  exact hg w' q3
end
end Go.Proofs.Ytimlbbleblijnaa.Co

namespace Go.Proofs.Ytimlbbleblijnaa.Co
open Go Go.Conc Go.RowKit
open Go.ConcN (sumTo upd sumTo_upd upd_ne upd_same sumTo_congr le_sumTo)
abbrev Tld := Int × Int × Int × Int × Int
abbrev Tl3 := Int × Int × Int
def actT (c k : Int) (tl : Tl3) : Tl3 := if c = 2 then (0, 0, 0) else if c = 3 then (tl.1, IntKind.i64.wrap (tl.2.1 + 1), tl.2.2) else if c = 4 then (tl.1, tl.2.1, k) else tl
def actL (c : Int) (t : Nat) (k : Int) (tl : Tl3) (L : List Tld) : List Tld := if c = 5 then L ++ [((t : Int), k, tl.1, tl.2.1, tl.2.2)] else L
structure RL where
  t : Nat
  i : Nat
  tl : Tl3
structure RSt where
  told : List Tld
  cnt : Nat → Nat
def actS (c : Int) (t : Nat) (k : Int) (tl : Tl3) (i : Nat) (s : RSt) : RSt := ⟨actL c t k tl s.told, upd s.cnt t (i + 1)⟩
inductive AdvR (ops : List Int) (t : Nat) (k : Int) : Nat → Tl3 → RSt → RSt × Option RL → Prop
  | stop {i tl s} (h : ops.length ≤ i) : AdvR ops t k i tl s (s, none)
  | step {i tl s} (h : ops[i]? = some 1) : AdvR ops t k i tl s (s, some ⟨t, i, tl⟩)
  | act {i tl s c z} (h : ops[i]? = some c) (hc : c ≠ 1) (hz : AdvR ops t k (i + 1) (actT c k tl) (actS c t k tl i s) z) : AdvR ops t k i tl s z
theorem AdvR.who {ops : List Int} {t : Nat} {k : Int} {i : Nat} {tl : Tl3} {L : RSt} {z : RSt × Option RL} (h : AdvR ops t k i tl L z) : ∀ {s' : RSt} {l' : RL}, z = (s', some l') → l'.t = t ∧ (L.cnt t = i → s'.cnt t = l'.i) := by
  induction h with
  | stop => intro s' l' e; cases e
  | step => intro s' l' e; cases e; exact ⟨rfl, id⟩
  | act _ _ _ ih => exact fun e => ⟨(ih e).1, fun _ => (ih e).2 (upd_same ..)⟩
theorem AdvR.other {ops : List Int} {t : Nat} {k : Int} {i : Nat} {tl : Tl3} {L : RSt} {z : RSt × Option RL} (h : AdvR ops t k i tl L z) {t' : Nat} (hne : t' ≠ t) : z.1.cnt t' = L.cnt t' := by
  induction h with
  | stop => rfl
  | step => rfl
  | act _ _ _ ih => exact ih.trans (upd_ne _ _ hne)
structure RT where
  la : Nat
  lo : Nat
  A : Option Addr
  cap : Nat
  ops : List Int
def opsR (L : List RT) (t : Nat) : List Int := ((L[t]?).map (·.ops)).getD []
def tldV (m : Tld) : List Value := [.int .i64 m.1, .int .i64 m.2.1, .int .i64 m.2.2.1, .int .i64 m.2.2.2.1, .int .i64 m.2.2.2.2]
def tldsV (l : List Tld) : List Value := (l.map tldV).flatten
theorem tldsV_snoc (l : List Tld) (m : Tld) : tldsV (l ++ [m]) = tldsV l ++ tldV m := by simp [tldsV]
structure RunM (bb : Nat) (K : Nat → Obj → Prop) (L : List RT) (s : RSt) (E : Env) (w : World) : Prop where
  bbH : E.H bb = none
  kobj : ∀ b o, K b o → w.heap[b]? = some o ∧ E.H b = none ∧ b ≠ bb
  row : ∃ mv, w.heap[bb]? = some (.cells #[mv] 63) ∧ w.ownsRow (bb + 1) 117 5 mv s.told.length (tldsV s.told) ∧ ∀ g, mv.ownBlock = some g → E.H g = none ∧ ∀ b o, K b o → b ≠ g
  len : s.told.length ≤ sumTo L.length s.cnt
  cnt : ∀ t, s.cnt t ≤ (opsR L t).length
theorem RunM.konst {bb : Nat} {K : Nat → Obj → Prop} {L : List RT} {s : RSt} {E : Env} {w : World} (m : RunM bb K L s E w) (a : Addr) (v : Value) (h : KC K a v) : w.cell? a = some v ∧ E.H a.block = none ∧ a.block ≠ bb := by
  obtain ⟨o, h1, h2⟩ := h
  obtain ⟨k1, k2, k3⟩ := m.kobj _ _ h1
  exact ⟨h2 w k1, k2, k3⟩
theorem RunM.move {bb : Nat} {K : Nat → Obj → Prop} {L : List RT} {s : RSt} {E E' : Env} {w w' : World} (m : RunM bb K L s E w) (hb : ∀ b, b < w.heap.size → E.H b = none → E'.H b = none ∧ w'.heap[b]? = w.heap[b]?) : RunM bb K L s E' w' := by
  obtain ⟨mv, r1, r2, r3⟩ := m.row
  have hl := (Array.getElem?_eq_some_iff.1 r1).1
  refine ⟨(hb bb hl m.bbH).1, fun b o hk => ?_, ⟨mv, by rw [(hb bb hl m.bbH).2]; exact r1, ownsRow_same r2 (fun g hg => (hb g (r2.lt g hg).2 (r3 g hg).1).2), fun g hg => ⟨(hb g (r2.lt g hg).2 (r3 g hg).1).1, (r3 g hg).2⟩⟩, m.len, m.cnt⟩
  obtain ⟨k1, k2, k3⟩ := m.kobj b o hk
  have hl := (Array.getElem?_eq_some_iff.1 k1).1
  exact ⟨(hb b hl k2).2.trans k1, (hb b hl k2).1, k3⟩
theorem RunM.still {bb j : Nat} {K : Nat → Obj → Prop} {L : List RT} {s : RSt} {E E' : Env} {w w' : World} (m : RunM bb K L s E w) (S : Still j E w E' w') : RunM bb K L s E' w' :=
  m.move fun b hb hn => by
    obtain ⟨s1, s2⟩ := S.st b _ hn (Array.getElem?_eq_getElem hb)
    exact ⟨s1, by rw [s2, Array.getElem?_eq_getElem hb]⟩
theorem RunM.step {bb : Nat} {K : Nat → Obj → Prop} {L : List RT} {s : RSt} {E : Env} {w : World} (m : RunM bb K L s E w) {t i : Nat} (hi : s.cnt t = i) (hl : i < (opsR L t).length) (ht : t < L.length) {tl : List Tld} (e : tl = s.told) : RunM bb K L ⟨tl, upd s.cnt t (i + 1)⟩ E w := by
  subst e
  refine ⟨m.bbH, m.kobj, m.row, ?_, fun t' => ?_⟩
  · have h1 := sumTo_upd s.cnt (i + 1) (fun x => x) (j := L.length) (i := t) ht
    have h2 := m.len
    have h3 : sumTo L.length (fun a => upd s.cnt t (i + 1) a) = sumTo L.length (upd s.cnt t (i + 1)) := rfl
    have h4 : sumTo L.length (fun a => s.cnt a) = sumTo L.length s.cnt := rfl
    show s.told.length ≤ sumTo L.length (upd s.cnt t (i + 1))
    omega
  · show upd s.cnt t (i + 1) t' ≤ _
    by_cases e : t' = t
    · subst e
      rw [upd_same]; exact hl
    · rw [upd_ne _ _ e]; exact m.cnt t'
def runD (bb : Nat) (K : Nat → Obj → Prop) (L : List RT) : Prot RSt RL where
  M := RunM bb K L
  next ℓ k s z := AdvR (opsR L ℓ.t) ℓ.t k (ℓ.i + 1) (IntKind.i64.wrap (ℓ.tl.1 + 1), ℓ.tl.2.1, ℓ.tl.2.2) ⟨s.told, upd s.cnt ℓ.t (ℓ.i + 1)⟩ z
  fits ℓ s := s.cnt ℓ.t = ℓ.i
  who ℓ := ℓ.t
  init t s := ∀ t', t ≤ t' → s.cnt t' = 0
  mono := fun ℓ k s s' o l2 h1 h2 hw hn => by
    have := hn.other (t' := l2.t) hw
    exact (this.trans (upd_ne _ _ hw)).trans h2
  fresh := fun ℓ k s s' l' _ h => by
    obtain ⟨h1, h2⟩ := h.who rfl
    exact ⟨by show s'.cnt l'.t = l'.i; rw [h1]; exact h2 (upd_same ..), h1⟩
  tal ℓ := ℓ.tl
  closed := fun s E w E' w' m hb => m.move hb
theorem run_startOk {bb : Nat} {K : Nat → Obj → Prop} {L : List RT} (t : Nat) : StartOk (runD bb K L) t (AdvR (opsR L t) t 0 0 (0, 0, 0)) := by
  refine ⟨fun s s' o l2 hi ha hw hf => ?_, fun s s' l' hi ha => ?_, fun s s' o hi ha t' ht => ?_⟩
  · have hw' : l2.t ≠ t := Nat.ne_of_lt hw
    exact (ha.other (t' := l2.t) hw').trans hf
  · obtain ⟨h1, h2⟩ := ha.who rfl
    exact ⟨by show s'.cnt l'.t = l'.i; rw [h1]; exact h2 (hi t (Nat.le_refl _)), h1⟩
  · exact (ha.other (t' := t') (by omega)).trans (hi t' (by omega))
theorem info117 : ∃ i : TypeInfo, Try.prog.info? 117 = some i ∧ i.zero = some (.agg #[.int .i64 0, .int .i64 0, .int .i64 0, .int .i64 0, .int .i64 0]) ∧ i.size = 5 ∧ i.bytes = 40 := by
  have h : (Try.prog.info? 117).isSome = true := by kernel_rfl
  obtain ⟨i, hi⟩ := Option.isSome_iff_exists.1 h
  have h2 : (Try.prog.info? 117).map (fun i => (i.zero, i.size, i.bytes)) = some (some (.agg #[.int .i64 0, .int .i64 0, .int .i64 0, .int .i64 0, .int .i64 0]), 5, 40) := by kernel_rfl
  rw [hi] at h2
  simp only [Option.map_some, Option.some.injEq, Prod.mk.injEq] at h2
  exact ⟨i, hi, h2.1, h2.2.1, h2.2.2⟩
structure Told1 (bb : Nat) (mv : Value) (xs : List Value) (n : Nat) (x x' : World) : Prop where
  size : x.heap.size ≤ x'.heap.size
  old : ∀ c, c < x.heap.size → c ≠ bb → mv.ownBlock ≠ some c → x'.heap[c]? = x.heap[c]?
  new : ∃ mv', x'.heap[bb]? = some (.cells #[mv'] 63) ∧ x'.ownsRow (bb + 1) 117 5 mv' n xs ∧ ∀ g, mv'.ownBlock = some g → mv.ownBlock = some g ∨ x.heap.size ≤ g
theorem runM_told {bb : Nat} {K : Nat → Obj → Prop} {L : List RT} {s : RSt} {E E1 : Env} {w w1 x x' : World} {mv : Value} {m : Tld} (M : RunM bb K L s E w) (hmv : w.heap[bb]? = some (.cells #[mv] 63)) (hE : E1.H = E.H) (hxs : x.heap.size = w.heap.size) (hx : ∀ b, E.H b = none → x.heap[b]? = w.heap[b]?) (hx' : ∀ b, E.H b = none → w1.heap[b]? = x'.heap[b]?) (hB : ∀ b, w.heap.size ≤ b → E.H b = none)
    (T : Told1 bb mv (tldsV s.told ++ tldV m) (s.told.length + 1) x x') {s' : RSt} (hs : s'.told = s.told ++ [m]) (hln : s'.told.length ≤ sumTo L.length s'.cnt) (hcn : ∀ t, s'.cnt t ≤ (opsR L t).length) : RunM bb K L s' E1 w1 := by
  obtain ⟨mv0, r1, r2, r3⟩ := M.row
  have e0 : mv0 = mv := by
    rw [hmv] at r1
    simpa using r1.symm
  subst e0
  obtain ⟨mv', v1, v2, v3⟩ := T.new
  have hg' : ∀ g, mv'.ownBlock = some g → E.H g = none := fun g hg => by
    rcases v3 g hg with z | z
    · exact (r3 g z).1
    · exact hB g (by omega)
  refine ⟨by rw [hE]; exact M.bbH, fun b o hka => ?_, ⟨mv', by rw [hx' bb M.bbH]; exact v1, ?_, fun g hg => ⟨by rw [hE]; exact hg' g hg, fun b o hka => ?_⟩⟩, hln, hcn⟩
  · obtain ⟨k1, k2, k3⟩ := M.kobj b o hka
    have hl := (Array.getElem?_eq_some_iff.1 k1).1
    refine ⟨?_, by rw [hE]; exact k2, k3⟩
    rw [hx' b k2, T.old b (by omega) k3 (fun e => (r3 _ e).2 b o hka rfl), hx b k2]
    exact k1
  · have e1 : s'.told.length = s.told.length + 1 := by rw [hs]; simp
    rw [e1, hs, tldsV_snoc]
    exact ownsRow_same v2 (fun g hg => hx' g (hg' g hg))
  · rcases v3 g hg with z | z
    · exact (r3 g z).2 b o hka
    · have := (Array.getElem?_eq_some_iff.1 (M.kobj b o hka).1).1
      omega
def cntT (l : List Mk) (t : Nat) : Nat := (l.filter (fun m => m.1 == (t : Int))).length
def lastK (l : List Mk) : Int := (l.getLast?.map (·.2.1)).getD 0
theorem cntT_snoc (l : List Mk) (m : Mk) (t : Nat) : cntT (l ++ [m]) t = cntT l t + if m.1 = (t : Int) then 1 else 0 := by
  unfold cntT
  rw [List.filter_append, List.length_append]
  by_cases h : m.1 = (t : Int)
  · simp [h]
  · simp [h]
theorem lastK_snoc (l : List Mk) (m : Mk) : lastK (l ++ [m]) = m.2.1 := by simp [lastK]
def okMk (ts : List (List Op3)) (picks : List Int) (l : List Mk) (m : Mk) : Prop :=
  ∃ t q : Nat, t < ts.length ∧ m = ((t : Int), ((q + 1 : Nat) : Int), (cntT l t : Int), nOf ts t (cntT l t)) ∧ cntT l t < lenOf ts t ∧ lastK l < ((q + 1 : Nat) : Int) ∧ ∀ p, picks[q]? = some p → pickIx p ts.length = t
def okMs (ts : List (List Op3)) (picks : List Int) (ms : List Mk) : Prop := ∀ i m, ms[i]? = some m → okMk ts picks (ms.take i) m
theorem okMs_snoc {ts : List (List Op3)} {picks : List Int} {ms : List Mk} {m : Mk} (h : okMs ts picks ms) (hm : okMk ts picks ms m) : okMs ts picks (ms ++ [m]) := by
  intro i x hx
  rcases Nat.lt_or_ge i ms.length with z | z
  · rw [List.getElem?_append_left z] at hx
    rw [List.take_append_of_le_length (Nat.le_of_lt z)]
    exact h i x hx
  · have hi : i = ms.length := by
      have := (List.getElem?_eq_some_iff.1 hx).1
      simp at this; omega
    subst hi
    rw [List.getElem?_append_right (Nat.le_refl _)] at hx
    simp at hx
    subst hx
    simpa using hm
structure GI (ts : List (List Op3)) (picks : List Int) (a : PA) (k : Nat) : Prop where
  ms : okMs ts picks a.ms
  cnt : ∀ t, cntT a.ms t = a.cnt t
  le : ∀ t, a.cnt t ≤ lenOf ts t
  last : lastK a.ms ≤ (k : Int)
theorem GI.up {ts : List (List Op3)} {picks : List Int} {a : PA} {k : Nat} (h : GI ts picks a k) : GI ts picks a (k + 1) := ⟨h.ms, h.cnt, h.le, by have := h.last; push_cast; omega⟩
theorem GI.pick {ts : List (List Op3)} {picks : List Int} {a : PA} {k t : Nat} (h : GI ts picks a k) (ht : t < ts.length) (ha : (playG ts).alive a t = true) (hp : ∀ p, picks[k]? = some p → pickIx p ts.length = t) : GI ts picks ((playG ts).pick a t ((k : Int) + 1)) (k + 1) := by
  have ha' : a.cnt t < lenOf ts t := of_decide_eq_true ha
  have hl := h.last
  refine ⟨?_, fun t' => ?_, fun t' => ?_, ?_⟩
  · show okMs ts picks (a.ms ++ [_])
    refine okMs_snoc h.ms ⟨t, k, ht, ?_, by rw [h.cnt]; exact ha', by push_cast; omega, hp⟩
    rw [h.cnt]
    push_cast
    rfl
  · show cntT (a.ms ++ [_]) t' = upd a.cnt t (a.cnt t + 1) t'
    rw [cntT_snoc, h.cnt]
    dsimp only
    by_cases e : t' = t
    · subst e
      rw [upd_same, if_pos rfl]
    · rw [upd_ne _ _ e, if_neg (by omega), Nat.add_zero]
  · show upd a.cnt t (a.cnt t + 1) t' ≤ _
    by_cases e : t' = t
    · subst e
      rw [upd_same]; exact ha'
    · rw [upd_ne _ _ e]; exact h.le t'
  · show lastK (a.ms ++ [_]) ≤ _
    rw [lastK_snoc]
    push_cast
    exact Int.le_refl _
end Go.Proofs.Ytimlbbleblijnaa.Co

namespace Go.Proofs.Ytimlbbleblijnaa.Co
open Go Go.Conc Go.RowKit
theorem round_eq (p : Int) (n : Nat) (hn : 0 < n) : (if p.tmod n < 0 then p.tmod n + n else p.tmod n) = (pickIx p n : Int) := by
  unfold pickIx
  have h1 : -(n : Int) < p.tmod n := Int.lt_tmod_of_pos p (by omega)
  have h2 : p.tmod n < n := Int.tmod_lt_of_pos p (by omega)
  split
  · have e : (p.tmod n + n).tmod n = p.tmod n + n := Int.tmod_eq_of_lt (by omega) (by omega)
    rw [e]
    omega
  · have e : (p.tmod n + n).tmod n = p.tmod n := by
      rw [Int.tmod_eq_emod_of_nonneg (by omega), Int.add_emod_right, Int.emod_eq_of_lt (by omega) h2]
    rw [e]
    omega
set_option maxHeartbeats 400000 in
theorem round_any (p : Int) (n : Nat) (hn : 0 < n) (hn2 : n ≤ 1000000000000) (hp : -9223372036854775808 ≤ p ∧ p ≤ 9223372036854775807) (w : World) :
    Calls Try.prog 26 #[.int .i64 p, .int .i64 (n : Int)] w fun e w' => e = .returned (.int .i64 (pickIx p n : Int)) ∧ w' = w := by
  have h1 : -(n : Int) < p.tmod n := Int.lt_tmod_of_pos p (by omega)
  have h2 : p.tmod n < n := Int.tmod_lt_of_pos p (by omega)
  have h0 : ¬ (n : Int) = 0 := by omega
  have hr := round_eq p n hn
  obtain ⟨r, hr'⟩ : ∃ r, r = p.tmod n := ⟨_, rfl⟩
  obtain ⟨z, hz⟩ : ∃ z : Int, z = (pickIx p n : Int) := ⟨_, rfl⟩
  rw [← hz] at hr ⊢
  rw [← hr'] at hr h1 h2
  replace hz := Lib.hid hz
  have hrr : p.tmod n = r := hr'.symm
  clear hr'
  by_cases hneg : r < 0
  · rw [if_pos hneg] at hr
    have hw : IntKind.i64.wrap (r + n) = z := by rw [IntKind.wrap_i64]; omega
    replace hr := Lib.hid hr
    go_enter Try.func26, Try.ntmps26
    go_wp2
    go_ret
    exact ⟨rfl, rfl⟩
  · rw [if_neg hneg] at hr
    subst hr
    go_enter Try.func26, Try.ntmps26
    go_wp2
    go_ret
    exact ⟨rfl, rfl⟩
theorem mksV_get : ∀ {ms : List Mk} {i : Nat} {m : Mk}, ms[i]? = some m → ∀ {j : Nat}, j < 4 → (mksV ms)[i * 4 + j]? = (mkV m)[j]?
  | m0 :: ms, 0, m, h, j, hj => by
    cases h
    have e : mksV (m0 :: ms) = mkV m0 ++ mksV ms := by simp [mksV]
    rw [e, List.getElem?_append_left (by simp [mkV]; omega), Nat.zero_mul, Nat.zero_add]
  | m0 :: ms, i + 1, m, h, j, hj => by
    have e : mksV (m0 :: ms) = mkV m0 ++ mksV ms := by simp [mksV]
    have hl : (mkV m0).length = 4 := rfl
    rw [e, List.getElem?_append_right (by rw [hl]; omega), hl, show (i + 1) * 4 + j - 4 = i * 4 + j by omega]
    exact mksV_get (by simpa using h) hj
  | [], _, _, h, _, _ => by simp at h
structure AtRow (x wr : World) (ab n : Nat) (c : Nat → Nat) : Prop where
  size : wr.heap.size = x.heap.size
  old : ∀ b, b ≠ ab → wr.heap[b]? = x.heap[b]?
  row : wr.heap[ab]? = some (.cells ((List.range n).map fun t => .int .i64 (c t : Int)).toArray 3)
theorem AtRow.cell {x wr : World} {ab n t : Nat} {c : Nat → Nat} (h : AtRow x wr ab n c) (ht : t < n) : wr.cell? ⟨ab, t, none⟩ = some (.int .i64 (c t : Int)) := by
  refine obj_cell h.row ?_
  simp [ht]
theorem AtRow.set {x wr : World} {ab n t : Nat} {c : Nat → Nat} (h : AtRow x wr ab n c) (ht : t < n) : AtRow x (wr.setCell ⟨ab, t, none⟩ (.int .i64 ((c t + 1 : Nat) : Int))) ab n (fun t' => c t' + if t' = t then 1 else 0) := by
  refine ⟨by rw [← h.size]; simp [World.setCell], fun b hb => by rw [heap_setCell_ne (a := ⟨ab, t, none⟩) (fun e => hb e.symm)]; exact h.old b hb, ?_⟩
  have hl := (Array.getElem?_eq_some_iff.1 h.row).1
  have e : (wr.setCell ⟨ab, t, none⟩ (.int .i64 ((c t + 1 : Nat) : Int))).heap[ab]? = some (.cells ((((List.range n).map fun t => Value.int .i64 (c t : Int)).toArray).setIfInBounds t (.int .i64 ((c t + 1 : Nat) : Int))) 3) := heap_set (a := ⟨ab, t, none⟩) (w := wr) rfl h.row
  rw [e]
  congr 2
  refine Array.ext_getElem? fun i => ?_
  rw [Array.getElem?_setIfInBounds]
  by_cases hi : t = i
  · subst hi
    simp [ht]
  · have hi' : ¬ i = t := fun e => hi e.symm
    rw [if_neg hi]
    by_cases hin : i < n
    · simp [hin, hi']
    · simp [hin]
end Go.Proofs.Ytimlbbleblijnaa.Co
