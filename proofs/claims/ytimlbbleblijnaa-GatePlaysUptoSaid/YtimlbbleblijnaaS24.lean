/- Lemmas for the laws of this seat, laid together of PGci, PGeq, PGer, PGes, PGet. -/
import Derived.Test.YtimlbbleblijnaaS19
import Derived.Test.YtimlbbleblijnaaS22
import Derived.Test.YtimlbbleblijnaaS23

namespace Go.Proofs.Ytimlbbleblijnaa.Co
open Go Go.Conc Go.RowKit
open Go.ConcN (sumTo upd sumTo_upd upd_ne upd_same sumTo_congr le_sumTo)
set_option linter.unusedVariables false
set_option linter.unusedSimpArgs false
noncomputable def fxBody : Code := Try.f17.body.getD .skip
noncomputable def fx0 : Code := match fxBody with | .seq x _ => x | _ => .skip
noncomputable def fx1 : Code := match fxBody with | .seq _ (.seq x _) => x | _ => .skip
noncomputable def fx2 : Code := match fxBody with | .seq _ (.seq _ (.seq x _)) => x | _ => .skip
noncomputable def fx3 : Code := match fxBody with | .seq _ (.seq _ (.seq _ (.seq x _))) => x | _ => .skip
theorem fx_parts : fxBody = .seq fx0 (.seq fx1 (.seq fx2 (.seq fx3 .ret))) := by kernel_rfl
noncomputable def xf0 : Code := fx0
noncomputable def xf1 : Code := fx1
set_option maxRecDepth 100000 in
set_option maxHeartbeats 4000000 in
theorem fx3_wp {f : Nat → Value} {x : World} {g cap : Nat} {Q : Exit → Act → World → Prop} (h1 : f 1 = .slice (some ⟨g, 0, none⟩) 3 cap) (h2 : f 2 = .int .i64 0)
    (c0 : x.cell? ⟨g, 0, none⟩ = some (.int .i64 1)) (c1 : x.cell? ⟨g, 1, none⟩ = some (.int .i64 1)) (c2 : x.cell? ⟨g, 2, none⟩ = some (.int .i64 0)) (c3 : x.cell? ⟨g, 3, none⟩ = some (.int .i64 7))
    (c8 : x.cell? ⟨g, 8, none⟩ = some (.int .i64 0)) (c9 : x.cell? ⟨g, 9, none⟩ = some (.int .i64 3)) (c10 : x.cell? ⟨g, 10, none⟩ = some (.int .i64 1)) (c11 : x.cell? ⟨g, 11, none⟩ = some (.int .i64 6))
    (hQ : ∀ T', T'.size = 34 → T'[0]? = some (.bool true) → Q .normal ⟨T', []⟩ x) :
    fx3.wp Try.prog Q ⟨(List.map f (List.range 34)).toArray, []⟩ x := by
  simp only [List.range, List.range.loop, List.map_cons, List.map_nil, h1, h2]
  simp only [fx3, fxBody, Try.f17, Option.getD_some]
  go_wp2
  exact hQ _ (by simp) (by simp)
theorem fx3_wpT {T : Array Value} {x : World} {g cap : Nat} {Q : Exit → Act → World → Prop} (hs : T.size = 34) (h1 : T[1]? = some (.slice (some ⟨g, 0, none⟩) 3 cap)) (h2 : T[2]? = some (.int .i64 0))
    (hcs : ∀ i u, (mksV [((1 : Int), (1 : Int), (0 : Int), (7 : Int)), (0, 2, 0, 5), (0, 3, 1, 6)])[i]? = some u → x.cell? ⟨g, i, none⟩ = some u)
    (hQ : ∀ T', T'.size = 34 → T'[0]? = some (.bool true) → Q .normal ⟨T', []⟩ x) : fx3.wp Try.prog Q ⟨T, []⟩ x := by
  obtain ⟨f, hf, fz⟩ := arrfv T hs
  rw [hf]
  exact fx3_wp (fz 1 _ h1) (fz 2 _ h2) (hcs 0 _ rfl) (hcs 1 _ rfl) (hcs 2 _ rfl) (hcs 3 _ rfl) (hcs 8 _ rfl) (hcs 9 _ rfl) (hcs 10 _ rfl) (hcs 11 _ rfl) hQ
theorem fixed06_game {a' : PA} {k : Int} (h : (playG [[((0 : Int), (0 : Int), (5 : Int)), (0, 0, 6)], [(0, 0, 7)]]).Run [1, 0] true pa0 (a', k)) : a'.ms = [((1 : Int), (1 : Int), (0 : Int), (7 : Int)), (0, 2, 0, 5), (0, 3, 1, 6)] := by
  have hx : (playG [[((0 : Int), (0 : Int), (5 : Int)), (0, 0, 6)], [(0, 0, 7)]]).Run [1, 0] true pa0 (⟨[((1 : Int), (1 : Int), (0 : Int), (7 : Int)), (0, 2, 0, 5), (0, 3, 1, 6)], upd (upd (upd (fun _ => 0) 1 1) 0 1) 0 2⟩, 3) := by
    unfold Game.Run
    rw [if_neg (by decide)]
    simp only [if_true]
    refine Game.Drn.go (t := 0) (by decide) ?_
    exact Game.Drn.stop (by rfl)
  have := h.det hx
  simp only [Prod.mk.injEq] at this
  rw [this.1]
theorem row_cells {x : World} {B e n : Nat} {g cap : Nat} {xs : List Value} {sz : Nat} (h : x.ownsRow B e sz (.slice (some ⟨g, 0, none⟩) n cap) n xs) : ∀ i u, xs[i]? = some u → x.cell? ⟨g, i, none⟩ = some u := by
  obtain ⟨h1, h2⟩ := h
  rcases h2 with ⟨h2, _⟩ | ⟨g', cap', cur, e1, hb, hg, c1, c2, c3, c4⟩
  · cases h2
  · intro i u hu
    cases e1
    refine obj_cell hg ?_
    rw [← c4, List.getElem?_take] at hu
    split at hu
    · simpa using hu
    · cases hu
theorem row_some {x : World} {B e n : Nat} {v : Value} {xs : List Value} {sz : Nat} (h : x.ownsRow B e sz v n xs) (hn : 0 < n) : ∃ g cap, v = .slice (some ⟨g, 0, none⟩) n cap := by
  obtain ⟨h1, h2⟩ := h
  rcases h2 with ⟨rfl, rfl⟩ | ⟨g, cap, cur, rfl, _⟩
  · exact absurd hn (by omega)
  · exact ⟨g, cap, rfl⟩
noncomputable def xf2 : Code := fx2
section
variable {h : Nat} {F : Machine → Trace → Prop} {E : Env} {w : World} {b₀ : Frame} {a₀ : Act} {ops₀ : Array Oper} {i₀ : Nat} {rest₀ : List Nat} {k₀ : List Item} {cl : List Frame}
set_option maxRecDepth 100000 in
set_option maxHeartbeats 4000000 in
theorem fixed06_holds (hrole : E.role h = .gone) (hmode : ∀ b, E.mode b = 0)
    (hc : ∀ E' w', Kept h none E w E' w' → Stands E w E' w' → HG Try.prog h F E' (G (b₀.at (a₀.put ((ops₀[i₀]?).bind (·.dst)) (.bool true)) (.inRegion ops₀ rest₀ :: k₀)) cl) w') :
    HGn Try.prog h F E w 100 (entry 17 Try.f17 #[] (b₀.at a₀ (.inRegion ops₀ (i₀ :: rest₀) :: k₀) :: cl)) := by
  unfold entry
  rw [show Try.f17.body.getD .skip = .seq xf0 (.seq xf1 (.seq fx2 (.seq fx3 .ret))) from fx_parts, show Try.f17.ntmps = 34 from rfl]
  generalize hG2 : fx2 = L2
  generalize hG3 : fx3 = L3
  simp only [xf0, xf1, fx0, fx1, fxBody, Try.f17, Option.getD_some]
  walk_nrm
  refine Idl.q (idl_hg Try.prog h F E w) (Idl.rg (idl_hg Try.prog h F E w) [0] rfl ?_)
  apply Idl.value (idl_hg Try.prog h F E w) rfl rfl (by first | decide | exact Go.ConcR.Gen.base_kind _ | exact Go.ConcR.Gen.baseD_kind _ | assumption)
  focus (intro w; go_simp; (try w_num); first | done | rfl)
  focus (intro w; simp [go_sem, *])
  walk_nrm
  refine Idl.re (idl_hg Try.prog h F E w) (Idl.q (idl_hg Try.prog h F E w) (Idl.rg (idl_hg Try.prog h F E w) [0, 1, 2, 3, 4, 5, 6, 7, 8] rfl ?_))
  apply Idl.value (idl_hg Try.prog h F E w) rfl rfl (by first | decide | exact Go.ConcR.Gen.base_kind _ | exact Go.ConcR.Gen.baseD_kind _ | assumption)
  focus (intro w; go_simp; (try w_num); first | done | rfl)
  focus (intro w; simp [go_sem, *])
  walk_nrm
  apply Idl.value (idl_hg Try.prog h F E w) rfl rfl (by first | decide | exact Go.ConcR.Gen.base_kind _ | exact Go.ConcR.Gen.baseD_kind _ | assumption)
  focus (intro w; go_simp; (try w_num); first | done | rfl)
  focus (intro w; simp [go_sem, *])
  walk_nrm
  refine HGn.mkV (c := #[.int .i64 0, .int .i64 0, .int .i64 5, .int .i64 0, .int .i64 0, .int .i64 6]) (t := 34) (fun s => .slice (some ⟨s, 0, none⟩) 2 2) hrole rfl rfl (by k_ne) (fun w₁ => ⟨by kernel_rfl, by kernel_rfl⟩) (fun B1 _ => ?_)
  walk_nrm
  obtain ⟨w1, e1⟩ : ∃ w1, w1 = w.alloc (.cells #[.int .i64 0, .int .i64 0, .int .i64 5, .int .i64 0, .int .i64 0, .int .i64 6] 34) := ⟨_, rfl⟩
  rw [← e1]
  apply Idl.value (idl_hg Try.prog h F E w1) rfl rfl (by first | decide | exact Go.ConcR.Gen.base_kind _ | exact Go.ConcR.Gen.baseD_kind _ | assumption)
  focus (intro w; go_simp; (try w_num); first | done | rfl)
  focus (intro w; simp [go_sem, *])
  walk_nrm
  refine HGn.mkV (c := #[.int .i64 0, .int .i64 0, .int .i64 7]) (t := 34) (fun s => .slice (some ⟨s, 0, none⟩) 1 1) hrole rfl rfl (by k_ne) (fun w₁ => ⟨by kernel_rfl, by kernel_rfl⟩) (fun B2 _ => ?_)
  walk_nrm
  obtain ⟨w2, e2⟩ : ∃ w2, w2 = w1.alloc (.cells #[.int .i64 0, .int .i64 0, .int .i64 7] 34) := ⟨_, rfl⟩
  rw [← e2]
  skip
  refine HGn.mkV (c := #[.slice (some ⟨w.heap.size, 0, none⟩) 2 2, .slice (some ⟨w1.heap.size, 0, none⟩) 1 1]) (t := 32) (fun s => .slice (some ⟨s, 0, none⟩) 2 2) hrole rfl rfl (by k_ne) (fun w₁ => ⟨by kernel_rfl, by kernel_rfl⟩) (fun B3 _ => ?_)
  walk_nrm
  obtain ⟨w3, e3⟩ : ∃ w3, w3 = w2.alloc (.cells #[.slice (some ⟨w.heap.size, 0, none⟩) 2 2, .slice (some ⟨w1.heap.size, 0, none⟩) 1 1] 32) := ⟨_, rfl⟩
  rw [← e3]
  skip
  refine HGn.mkV (c := #[.int .i64 1, .int .i64 0]) (t := 3) (fun s => .slice (some ⟨s, 0, none⟩) 2 2) hrole rfl rfl (by k_ne) (fun w₁ => ⟨by kernel_rfl, by kernel_rfl⟩) (fun B4 _ => ?_)
  walk_nrm
  obtain ⟨w4, e4⟩ : ∃ w4, w4 = w3.alloc (.cells #[.int .i64 1, .int .i64 0] 3) := ⟨_, rfl⟩
  rw [← e4]
  skip
  refine Idl.callE (fn := Try.f21) (vs := #[.slice (some ⟨w2.heap.size, 0, none⟩) 2 2, .slice (some ⟨w3.heap.size, 0, none⟩) 2 2, .bool true]) (idl_hg Try.prog h F E w4) rfl rfl (by k_ne) rfl Try.func21 rfl rfl (by simp [Act.eval]) ?_
  have s1 : w1.heap.size = w.heap.size + 1 := by rw [e1, alloc_size]
  have s2 : w2.heap.size = w.heap.size + 2 := by rw [e2, alloc_size, s1]
  have s3 : w3.heap.size = w.heap.size + 3 := by rw [e3, alloc_size, s2]
  have s4 : w4.heap.size = w.heap.size + 4 := by rw [e4, alloc_size, s3]
  have g1 : w4.heap[w.heap.size]? = some (.cells #[.int .i64 0, .int .i64 0, .int .i64 5, .int .i64 0, .int .i64 0, .int .i64 6] 34) := by
    rw [e4, alloc_old (by omega), e3, alloc_old (by omega), e2, alloc_old (by omega), e1]; exact alloc_new
  have g2 : w4.heap[w1.heap.size]? = some (.cells #[.int .i64 0, .int .i64 0, .int .i64 7] 34) := by
    rw [e4, alloc_old (by omega), e3, alloc_old (by omega), e2]; exact alloc_new
  have g3 : w4.heap[w2.heap.size]? = some (.cells #[.slice (some ⟨w.heap.size, 0, none⟩) 2 2, .slice (some ⟨w1.heap.size, 0, none⟩) 1 1] 32) := by
    rw [e4, alloc_old (by omega), e3]; exact alloc_new
  have g4 : w4.heap[w3.heap.size]? = some (.cells #[.int .i64 1, .int .i64 0] 3) := by rw [e4]; exact alloc_new
  have hK4 : Kept h none E w E w4 := by
    have k1 : Kept h none E w E w1 := by rw [e1]; exact kept_alloc
    have k2 : Kept h none E w1 E w2 := by rw [e2]; exact kept_alloc
    have k3 : Kept h none E w2 E w3 := by rw [e3]; exact kept_alloc
    have k4 : Kept h none E w3 E w4 := by rw [e4]; exact kept_alloc
    exact ((k1.trans k2).trans k3).trans k4
  have hS4 : Stands E w E w4 := by
    have k1 : Stands E w E w1 := by rw [e1]; exact stands_alloc
    have k2 : Stands E w1 E w2 := by rw [e2]; exact stands_alloc
    have k3 : Stands E w2 E w3 := by rw [e3]; exact stands_alloc
    have k4 : Stands E w3 E w4 := by rw [e4]; exact stands_alloc
    exact ((k1.trans k2).trans k3).trans k4
  have hOps : OpsAt E w4 (.slice (some ⟨w2.heap.size, 0, none⟩) 2 2) [[((0 : Int), (0 : Int), (5 : Int)), (0, 0, 6)], [(0, 0, 7)]] := by
    refine ⟨_, w2.heap.size, 0, 2, fun i => if i = 0 then some ⟨w.heap.size, 0, none⟩ else some ⟨w1.heap.size, 0, none⟩, fun i => if i = 0 then 2 else 1, rfl, fun _ => rfl, fun i l hi => ?_⟩
    match i, hi with
    | 0, hi =>
      cases hi
      refine ⟨⟨obj_cell g3 rfl, B1 _ (by omega)⟩, fun _ => ⟨w.heap.size, 0, rfl, B1 _ (by omega), fun j op hj => ?_⟩⟩
      match j, hj with
      | 0, hj => cases hj; exact ⟨obj_cell g1 rfl, obj_cell g1 rfl, obj_cell g1 rfl⟩
      | 1, hj => cases hj; exact ⟨obj_cell g1 rfl, obj_cell g1 rfl, obj_cell g1 rfl⟩
      | j + 2, hj => cases hj
    | 1, hi =>
      cases hi
      refine ⟨⟨obj_cell g3 rfl, B1 _ (by omega)⟩, fun _ => ⟨w1.heap.size, 0, rfl, B1 _ (by omega), fun j op hj => ?_⟩⟩
      match j, hj with
      | 0, hj => cases hj; exact ⟨obj_cell g2 rfl, obj_cell g2 rfl, obj_cell g2 rfl⟩
      | j + 1, hj => cases hj
    | i + 2, hi => cases hi
  have hInts : IntsAt E w4 (.slice (some ⟨w3.heap.size, 0, none⟩) 2 2) [1, 0] := by
    refine ⟨_, w3.heap.size, 0, 2, rfl, fun _ => rfl, fun i p hi => ?_⟩
    match i, hi with
    | 0, hi => cases hi; exact ⟨obj_cell g4 rfl, B1 _ (by omega)⟩
    | 1, hi => cases hi; exact ⟨obj_cell g4 rfl, B1 _ (by omega)⟩
    | i + 2, hi => cases hi
  clear e1 e2 e3 e4 g1 g2 g3 g4
  refine play_holds hOps hInts (by decide) (by decide) (by decide) (by decide) hrole hmode (fun E5 w5 mv ms po => ?_)
  obtain ⟨a', k', hg, hms⟩ := po.game (by decide)
  have hms2 := fixed06_game hg
  rw [hms] at hms2
  subst hms2
  have hrole5 : E5.role h = .gone := po.kept.le.roleH.trans hrole
  have hmode5 : ∀ b, E5.mode b = 0 := fun b => po.kept.le.mode b (hmode b)
  have hH5 := po.rowH
  have hrow := po.row
  obtain ⟨g, cap, rfl⟩ := row_some hrow (by decide)
  have hcs := row_cells hrow
  have hgH := hH5 g rfl
  have hK5 := hK4.trans po.kept
  have hS5 := hS4.trans po.stands
  clear hH5 hrow po hg hms hOps hInts
  change HGn Try.prog h F E5 w5 100 _
  walk_nrm
  apply Idl.value (idl_hg Try.prog h F E5 w5) rfl rfl (by first | decide | exact Go.ConcR.Gen.base_kind _ | exact Go.ConcR.Gen.baseD_kind _ | assumption)
  focus (intro w; go_simp; (try w_num); first | done | rfl)
  focus (intro w; simp [go_sem, *])
  walk_nrm
  refine Idl.re (idl_hg Try.prog h F E5 w5) (Idl.q (idl_hg Try.prog h F E5 w5) ?_)
  rw [← hG2]
  rw [show fx2 = xf2 from rfl]
  simp only [xf2, fx2, fxBody, Try.f17, Option.getD_some]
  refine Idl.rg (idl_hg Try.prog h F E5 w5) [0, 1, 2] rfl ?_
  refine HGn.mkV (c := #[.int .i64 1, .int .i64 2, .int .i64 3]) (t := 3) (fun s => .slice (some ⟨s, 0, none⟩) 3 3) hrole5 rfl rfl (by k_ne) (fun w₁ => ⟨by kernel_rfl, by kernel_rfl⟩) (fun B5 _ => ?_)
  walk_nrm
  obtain ⟨w6, e6⟩ : ∃ w6, w6 = w5.alloc (.cells #[.int .i64 1, .int .i64 2, .int .i64 3] 3) := ⟨_, rfl⟩
  rw [← e6]
  have g6 : w6.heap[w5.heap.size]? = some (.cells #[.int .i64 1, .int .i64 2, .int .i64 3] 3) := by rw [e6]; exact alloc_new
  have hK6 : Kept h none E w E5 w6 := hK5.trans (by rw [e6]; exact kept_alloc)
  have hS56 : Stands E5 w5 E5 w6 := by rw [e6]; exact stands_alloc
  have hS6 := hS5.trans hS56
  have hcs6 : ∀ i u, (mksV [((1 : Int), (1 : Int), (0 : Int), (7 : Int)), (0, 2, 0, 5), (0, 3, 1, 6)])[i]? = some u → w6.cell? ⟨g, i, none⟩ = some u := fun i u hu => (hS56.cell (hcs i u hu) hgH).1
  clear e6 hcs
  skip
  refine Idl.callE (fn := Try.f29) (vs := #[.slice none 0 0, .slice (some ⟨w5.heap.size, 0, none⟩) 3 3, .bool true]) (idl_hg Try.prog h F E5 w6) rfl rfl (by k_ne) rfl Try.func29 rfl rfl (by simp [Act.eval]) ?_
  refine run_empty (picks := [1, 2, 3]) ⟨_, w5.heap.size, 0, 3, rfl, fun _ => rfl, fun i p hi => ?_⟩ (by decide) (by decide) hrole5 hmode5 (fun E7 w7 hK7 hS67 => ?_)
  · match i, hi with
    | 0, hi => cases hi; exact ⟨obj_cell g6 rfl, B5 _ (by omega)⟩
    | 1, hi => cases hi; exact ⟨obj_cell g6 rfl, B5 _ (by omega)⟩
    | 2, hi => cases hi; exact ⟨obj_cell g6 rfl, B5 _ (by omega)⟩
    | i + 3, hi => cases hi
  have hS7 := hS6.trans hS67
  have hcs7 : ∀ i u, (mksV [((1 : Int), (1 : Int), (0 : Int), (7 : Int)), (0, 2, 0, 5), (0, 3, 1, 6)])[i]? = some u → w7.cell? ⟨g, i, none⟩ = some u ∧ E7.H g = none := fun i u hu => hS67.cell (hcs6 i u hu) hgH
  have hgH7 := (hcs7 0 _ rfl).2
  clear g6 hcs6
  change HGn Try.prog h F E7 w7 100 _
  walk_nrm
  apply Idl.value (idl_hg Try.prog h F E7 w7) rfl rfl (by first | decide | exact Go.ConcR.Gen.base_kind _ | exact Go.ConcR.Gen.baseD_kind _ | assumption)
  focus (intro w; go_simp; (try w_num); first | done | rfl)
  focus (intro w; simp [go_sem, *])
  walk_nrm
  refine Idl.re (idl_hg Try.prog h F E7 w7) (Idl.q (idl_hg Try.prog h F E7 w7) ?_)
  refine HG.quietS (fun _ => False) (fun _ z => z.elim) (closed_none _) (Q := fun a' x x' => a'.tmps.size = 34 ∧ a'.tmps[0]? = some (.bool true) ∧ x' = x) (by rw [← hG3]; kernel_rfl) (by rfl) rfl (fun x hxs hx => ?_) (fun E8 w8 a8 x x' hE hd hxs hx hxs' hx' hK8 hB hS hq => ?_)
  · rw [← hG3]
    refine fx3_wpT (g := g) (cap := cap) (by simp) (by simp) (by simp) (fun i u hu => (World.cell?_of_block (hx g hgH7)).trans (hcs7 i u hu).1) (fun T' q1 q2 => ⟨rfl, rfl, fun _ _ _ => rfl, q1, q2, rfl⟩)
  · obtain ⟨Ta, df⟩ := a8
    have hd' : df = [] := hd
    subst hd'
    obtain ⟨q1, q2, rfl⟩ := hq
    have hS8 : Stands E7 w7 E8 w8 := fun b o h1 h2 => ⟨by rw [hE.H']; exact h1, by rw [hx' b h1, hx b h1]; exact h2⟩
    have hcc := hc E8 w8 ((hK6.trans hK7).trans hK8) (hS7.trans hS8)
    obtain ⟨f2, hf2, fz⟩ := arrfv Ta q1
    have e0 := fz 0 _ q2
    clear fz
    subst hf2
    simp only [List.range, List.range.loop, List.map_cons, List.map_nil, e0]
    change HGn Try.prog h F E8 w8 100 _
    refine Idl.rt (idl_hg Try.prog h F E8 w8) ?_
    refine Idl.leave1 (n := 1) (idl_hg Try.prog h F E8 w8) rfl rfl Try.func17 rfl ?_
    exact hcc
#print axioms fixed06_holds
end
end Go.Proofs.Ytimlbbleblijnaa.Co

namespace Go.Proofs.Ytimlbbleblijnaa.Co
open Go Go.Conc Go.RowKit
open Go.ConcN (sumTo upd sumTo_upd upd_ne upd_same sumTo_congr le_sumTo)
set_option linter.unusedVariables false
set_option linter.unusedSimpArgs false
theorem drn_km {ts : List (List Op3)} {a z : PA × Int} {x : Nat} (h : (playG ts).Drn a x z) : z.2 - a.2 ≤ (z.1.ms.length : Int) - (a.1.ms.length : Int) := by
  induction h with
  | stop _ => omega
  | @go a x t z hn d ih =>
    have e : (((playG ts).pick a.1 t (a.2 + 1)).ms.length : Int) = (a.1.ms.length : Int) + 1 := by
      show ((a.1.ms ++ [_]).length : Int) = _
      rw [List.length_append]
      rfl
    dsimp only at ih
    rw [e] at ih
    omega
theorem run_k {ts : List (List Op3)} {picks : List Int} {drain : Bool} {z : PA × Int} (h : (playG ts).Run picks drain pa0 z) : z.2 ≤ (picks.length : Int) + (z.1.ms.length : Int) := by
  unfold Game.Run at h
  by_cases hn : (playG ts).n = 0
  · rw [if_pos hn] at h
    rw [h]
    dsimp only
    omega
  · rw [if_neg hn] at h
    have hk := picks_k (ts := ts) picks (pa0, 0)
    dsimp only at hk
    cases drain with
    | true =>
      simp only [if_true] at h
      have := drn_km h
      omega
    | false =>
      simp only [Bool.false_eq_true, if_false] at h
      rw [h]
      omega
theorem run_len {ts : List (List Op3)} {picks : List Int} {drain : Bool} {z : PA × Int} (h : (playG ts).Run picks drain pa0 z) (hn : ts.length ≤ 8) (hll : ∀ l ∈ ts, l.length ≤ 10000000000) : z.1.ms.length ≤ 80000000000 := by
  obtain ⟨a, k⟩ := z
  obtain ⟨p1, p2, p3, p4, p5⟩ := plays_ok h
  show a.ms.length ≤ _
  rw [okMs_len p1]
  have h1 := sumTo_bound (f := cntT a.ms) (B := 10000000000) ts.length (fun i hi => by
    refine Nat.le_trans (p2 i) ?_
    unfold lenOf
    rw [List.getElem?_eq_getElem hi]
    exact hll _ (List.getElem_mem hi))
  have h2 : ts.length * 10000000000 ≤ 8 * 10000000000 := Nat.mul_le_mul_right _ hn
  omega
theorem PlayOut.rMs {h : Nat} {ts : List (List Op3)} {picks : List Int} {drain : Bool} {E E' : Env} {w w' : World} {mv : Value} {ms : List Mk} {z : PA × Int} (po : PlayOut h ts picks drain E w E' w' mv ms) (hz : (playG ts).Run picks drain pa0 z) : ms = Co.rMs ts z := by
  unfold Co.rMs
  by_cases h8 : 8 < ts.length
  · rw [if_pos h8]
    exact po.many h8
  · rw [if_neg h8]
    obtain ⟨a', k, h1, h2⟩ := po.game (by omega)
    have := Game.Run.det h1 hz
    rw [← this]
    exact h2.symm
theorem PlayOut.markV {h : Nat} {ts : List (List Op3)} {picks : List Int} {drain : Bool} {E E' : Env} {w w' : World} {mv : Value} {ms : List Mk} {z : PA × Int} (po : PlayOut h ts picks drain E w E' w' mv ms) (hz : (playG ts).Run picks drain pa0 z) : MarkV E' w' mv (Co.rMs ts z) := by
  have e := po.rMs hz
  subst e
  exact ⟨owns_lower po.row (Nat.zero_le _), po.rowH⟩
theorem incT_lens {ts : List (List Op3)} {N : Nat} (h : ∀ l ∈ ts, l.length ≤ N) : ∀ l ∈ incT ts, l.length ≤ N := fun l hl => by
  unfold incT at hl
  obtain ⟨l', h1, rfl⟩ := List.mem_map.1 hl
  rw [List.length_map]
  exact h l' h1
theorem neg_64 (ps : List Int) : ∀ p ∈ ps.map negI, -9223372036854775808 ≤ p ∧ p ≤ 9223372036854775807 := fun p hp => by
  obtain ⟨q, _, rfl⟩ := List.mem_map.1 hp
  unfold negI
  rw [IntKind.wrap_i64]
  omega
end Go.Proofs.Ytimlbbleblijnaa.Co

namespace Go.Proofs.Ytimlbbleblijnaa.Co
open Go Go.Conc Go.RowKit
open Go.ConcN (sumTo upd sumTo_upd upd_ne upd_same sumTo_congr le_sumTo)
set_option linter.unusedVariables false
set_option linter.unusedSimpArgs false
set_option maxRecDepth 100000 in
theorem gT2_parts : gT2 = .seq gS2 (.seq gS3 (.seq gS4 gT5)) := by kernel_rfl
set_option maxRecDepth 100000 in
theorem gT5_parts : gT5 = .seq gS5 (.seq gS6 gT7) := by kernel_rfl
set_option maxRecDepth 100000 in
theorem gT7_parts : gT7 = .seq gS7 (.seq gS8 (.seq gS9 (.seq gS10 (.seq gS11 (.seq gS12 (.seq gS13 (.seq gS14 gT15))))))) := by kernel_rfl
set_option maxRecDepth 100000 in
theorem gT15_parts : gT15 = .seq gS15 (.seq gS16 (.seq gS17 (.seq gS18 (.seq gS19 .ret)))) := by kernel_rfl
section
variable {F : Machine → Trace → Prop} {E : Env} {w : World}
set_option maxRecDepth 100000 in
set_option maxHeartbeats 4000000 in
theorem plays_a {ts : List (List Op3)} {picks : List Int} {drain : Bool} {tv pv : Value} {T : Array Value} {z : PA × Int} (hs : T.size = 136) (t0 : T[0]? = some tv) (t1 : T[1]? = some pv) (t2 : T[2]? = some (.bool drain)) (t7 : T[7]? = some (.bool true))
    (hT : OpsAt E w tv ts) (hP : IntsAt E w pv picks) (hn : ts.length ≤ 1000000000000) (hpl : picks.length ≤ 10000000000) (hll : ∀ l ∈ ts, l.length ≤ 10000000000) (hp64 : ∀ p ∈ picks, -9223372036854775808 ≤ p ∧ p ≤ 9223372036854775807) (hz : (playG ts).Run picks drain pa0 z)
    (hc : ∀ E' w' T' ov LB b mv, Kept 0 none E w E' w' → Stands E w E' w' → T'.size = 136 → T'[0]? = some tv → T'[1]? = some pv → T'[2]? = some (.bool drain) → T'[7]? = some (.bool true) → T'[8]? = some ov → T'[9]? = some (.slice (some ⟨b, 0, none⟩) picks.length (picks.length + 2)) → T'[10]? = some mv →
      OwnV E' w' ov LB ts → PickV E' w' b picks → MarkV E' w' mv (rMs ts z) → (∀ g, ov.ownBlock = some g → g < b) → (∀ i, i < ts.length → LB i < b) → (∀ g, mv.ownBlock = some g → b < g) → w.heap.size ≤ b → (∀ i, i < ts.length → w.heap.size ≤ LB i) → HG Try.prog 0 F E' (G ((base 3).at ⟨T', []⟩ [.code gT5]) []) w') :
    HG Try.prog 0 F E (G ((base 3).at ⟨T, []⟩ [.code gT2]) []) w := by
  have hll' : ∀ l ∈ ts, l.length ≤ 100000000000 := fun l hl => Nat.le_trans (hll l hl) (by decide)
  change HGn Try.prog 0 F E w 100 _
  rw [gT2_parts]
  refine Idl.step (idl_hg Try.prog 0 F E w) _ _ _ rfl (fun _ => stepG_seq) ?_
  refine gp2 (by rfl) hs t0 hT hn hll' (fun E1 w1 T1 ov LB hK1 hS1 s1 o1 r1 hO1 hLB => ?_)
  change HGn Try.prog 0 F E1 w1 100 _
  refine Idl.step (idl_hg Try.prog 0 F E1 w1) _ _ _ rfl (fun _ => stepG_seq) ?_
  refine gp3 (by rfl) s1 ((o1 1 (by decide) (by decide)).trans t1) (hP.stands hS1) (Nat.le_trans hpl (by decide)) (fun E2 w2 T2 b hK2 hS2 s2 o2 r2 hP2 hb2 => ?_)
  change HGn Try.prog 0 F E2 w2 100 _
  refine Idl.step (idl_hg Try.prog 0 F E2 w2) _ _ _ rfl (fun _ => stepG_seq) ?_
  have hS12 := hS1.trans hS2
  have q : ∀ j, j < 25 → j ≠ 8 → j ≠ 9 → T2[j]? = T[j]? := fun j h1 h2 h3 => (o2 j h1 h3).trans (o1 j h1 h2)
  refine gp4 (by rfl) s2 ((q 0 (by decide) (by decide) (by decide)).trans t0) ((q 1 (by decide) (by decide) (by decide)).trans t1) ((q 2 (by decide) (by decide) (by decide)).trans t2) hz (hT.stands hS12) (hP.stands hS12) (Nat.le_trans hpl (by decide)) hll' hp64 (fun h8 => ?_) (fun h8 => ?_) (fun E3 w3 T3 mv hK3 hS3 s3 o3 r3 hM3 hb3 => ?_)
  · have h1 := run_k hz
    have h2 := run_len hz h8 hll
    omega
  · have h2 := run_len hz h8 hll
    omega
  · have q3 : ∀ j, j < 25 → j ≠ 8 → j ≠ 9 → j ≠ 10 → T3[j]? = T[j]? := fun j h1 h2 h3 h4 => (o3 j h1 h4).trans (q j h1 h2 h3)
    have hbl := (Array.getElem?_eq_some_iff.1 hP2.row).1
    refine hc E3 w3 T3 ov LB b mv ((hK1.trans hK2).trans hK3) (hS12.trans hS3) s3 ((q3 0 (by decide) (by decide) (by decide) (by decide)).trans t0) ((q3 1 (by decide) (by decide) (by decide) (by decide)).trans t1) ((q3 2 (by decide) (by decide) (by decide) (by decide)).trans t2) ((q3 7 (by decide) (by decide) (by decide) (by decide)).trans t7) ((o3 8 (by decide) (by decide)).trans ((o2 8 (by decide) (by decide)).trans r1)) ((o3 9 (by decide) (by decide)).trans r2) r3 ((hO1.stands hS2).stands hS3) (hP2.stands hS3) hM3 (fun g hg => Nat.lt_of_lt_of_le (hO1.own.row.lt g hg).2 hb2) (fun i hi => Nat.lt_of_lt_of_le (Array.getElem?_eq_some_iff.1 (hO1.own.ops i _ hi (List.getElem?_eq_getElem hi))).1 hb2) (fun g hg => Nat.lt_of_lt_of_le hbl (hb3 g hg)) (Nat.le_trans hK1.size hb2) hLB
end
end Go.Proofs.Ytimlbbleblijnaa.Co

namespace Go.Proofs.Ytimlbbleblijnaa.Co
open Go Go.Conc Go.RowKit
open Go.ConcN (sumTo upd sumTo_upd upd_ne upd_same sumTo_congr le_sumTo)
set_option linter.unusedVariables false
set_option linter.unusedSimpArgs false
section
variable {F : Machine → Trace → Prop} {E : Env} {w : World} {k : List Item}
noncomputable def xS5 : Code := gS5
set_option maxRecDepth 100000 in
set_option maxHeartbeats 4000000 in
theorem gp5 {T : Array Value} {tv pv : Value} {ts : List (List Op3)} {picks : List Int} {drain : Bool} {z : PA × Int} (hs : T.size = 136) (t0 : T[8]? = some tv) (t1 : T[9]? = some pv) (t2 : T[2]? = some (.bool drain)) (hz : (playG ts).Run picks drain pa0 z) (hT : OpsAt E w tv ts) (hP : IntsAt E w pv picks)
    (hn : ts.length ≤ 1000000000000) (hpl : picks.length ≤ 10000000000) (hll : ∀ l ∈ ts, l.length ≤ 10000000000) (hp64 : ∀ p ∈ picks, -9223372036854775808 ≤ p ∧ p ≤ 9223372036854775807) (hrole : E.role 0 = .gone) (hmode : ∀ b, E.mode b = 0)
    (hc : ∀ E1 w1 T' mv, Kept 0 none E w E1 w1 → Stands E w E1 w1 → T'.size = 136 → (∀ j, j < 25 → j ≠ 11 → T'[j]? = T[j]?) → T'[11]? = some mv → MarkV E1 w1 mv (rMs ts z) → (∀ g, mv.ownBlock = some g → w.heap.size ≤ g) → HG Try.prog 0 F E1 (G ((base 3).at ⟨T', []⟩ k) []) w1) :
    HG Try.prog 0 F E (G ((base 3).at ⟨T, []⟩ (.code gS5 :: k)) []) w := by
  obtain ⟨f, hf, fz⟩ := arrfv T hs
  have e0 := fz 8 _ t0
  have e1 := fz 9 _ t1
  have e2 := fz 2 _ t2
  rw [hf]
  change HGn Try.prog 0 F E w 100 _
  rw [show gS5 = xS5 from rfl]
  simp only [xS5, gS5, gT5, gT4, gT3, gT2, gT1, gT0, Try.f3, Option.getD_some, List.range, List.range.loop, List.map_cons, List.map_nil, e0, e1, e2]
  replace hf := Lib.hid hf
  replace hz := Lib.hid hz
  replace hT := Lib.hid hT
  replace hP := Lib.hid hP
  replace hn := Lib.hid hn
  replace hpl := Lib.hid hpl
  replace hll := Lib.hid hll
  replace hp64 := Lib.hid hp64
  replace hrole := Lib.hid hrole
  replace hmode := Lib.hid hmode
  replace hc := Lib.hid hc
  replace hs := Lib.hid hs
  clear t0 t1 t2 fz
  refine Idl.rg (idl_hg Try.prog 0 F E w) [0, 1, 2, 3, 4] rfl ?_
  apply Idl.value (idl_hg Try.prog 0 F E w) rfl rfl (by first | decide | exact Go.ConcR.Gen.base_kind _ | exact Go.ConcR.Gen.baseD_kind _ | assumption)
  focus (intro w; go_simp; (try w_num); first | done | rfl)
  focus (intro w; simp [go_sem, *])
  walk_nrm
  apply Idl.value (idl_hg Try.prog 0 F E w) rfl rfl (by first | decide | exact Go.ConcR.Gen.base_kind _ | exact Go.ConcR.Gen.baseD_kind _ | assumption)
  focus (intro w; go_simp; (try w_num); first | done | rfl)
  focus (intro w; simp [go_sem, *])
  walk_nrm
  apply Idl.value (idl_hg Try.prog 0 F E w) rfl rfl (by first | decide | exact Go.ConcR.Gen.base_kind _ | exact Go.ConcR.Gen.baseD_kind _ | assumption)
  focus (intro w; go_simp; (try w_num); first | done | rfl)
  focus (intro w; simp [go_sem, *])
  walk_nrm
  refine Idl.callE (fn := Try.f21) (vs := #[tv, pv, .bool drain]) (idl_hg Try.prog 0 F E w) rfl rfl (by k_ne) rfl Try.func21 rfl rfl (by simp [Act.eval]) ?_
  refine play_holds hT.out hP.out hn.out (fun l hl => Nat.le_trans (hll.out l hl) (by decide)) (Nat.le_trans hpl.out (by decide)) hp64.out hrole.out hmode.out (fun E2 w2 mv ms po => ?_)
  replace po := Lib.hid po
  change HGn Try.prog 0 F E2 w2 200 _
  walk_nrm
  apply Idl.value (idl_hg Try.prog 0 F E2 w2) rfl rfl (by first | decide | exact Go.ConcR.Gen.base_kind _ | exact Go.ConcR.Gen.baseD_kind _ | assumption)
  focus (intro w; go_simp; (try w_num); first | done | rfl)
  focus (intro w; simp [go_sem, *])
  walk_nrm
  refine Idl.re (idl_hg Try.prog 0 F E2 w2) ?_
  replace po := po.out
  refine hc.out E2 w2 _ mv po.kept po.stands (by simp) (fun j hj hne => ?_) (by simp) (po.markV hz.out) (fun g hg => (po.row.lt g hg).1)
  rw [hf.out, arrf_get f (by omega)]
  match j, hj with
  | 0, _ | 1, _ | 2, _ | 3, _ | 4, _ | 5, _ | 6, _ | 7, _ | 8, _ | 9, _ | 10, _ | 12, _ | 13, _ | 14, _ | 15, _ | 16, _ | 17, _ | 18, _ | 19, _ | 20, _ | 21, _ | 22, _ | 23, _ | 24, _ => simp [e0, e1, e2]
  | 11, _ => exact absurd rfl hne
  | j + 25, h => exact absurd h (by omega)
noncomputable def xS6 : Code := gS6
set_option maxRecDepth 100000 in
set_option maxHeartbeats 4000000 in
theorem gp6 {T : Array Value} {tv pv : Value} {ts : List (List Op3)} {picks : List Int} {drain : Bool} {z : PA × Int} (hs : T.size = 136) (t0 : T[8]? = some tv) (t1 : T[9]? = some pv) (t2 : T[2]? = some (.bool drain)) (hz : (playG ts).Run picks drain pa0 z) (hT : OpsAt E w tv ts) (hP : IntsAt E w pv picks)
    (hn : ts.length ≤ 1000000000000) (hpl : picks.length ≤ 10000000000) (hll : ∀ l ∈ ts, l.length ≤ 10000000000) (hp64 : ∀ p ∈ picks, -9223372036854775808 ≤ p ∧ p ≤ 9223372036854775807) (hrole : E.role 0 = .gone) (hmode : ∀ b, E.mode b = 0)
    (hc : ∀ E1 w1 T' mv, Kept 0 none E w E1 w1 → Stands E w E1 w1 → T'.size = 136 → (∀ j, j < 25 → j ≠ 12 → T'[j]? = T[j]?) → T'[12]? = some mv → MarkV E1 w1 mv (rMs ts z) → (∀ g, mv.ownBlock = some g → w.heap.size ≤ g) → HG Try.prog 0 F E1 (G ((base 3).at ⟨T', []⟩ k) []) w1) :
    HG Try.prog 0 F E (G ((base 3).at ⟨T, []⟩ (.code gS6 :: k)) []) w := by
  obtain ⟨f, hf, fz⟩ := arrfv T hs
  have e0 := fz 8 _ t0
  have e1 := fz 9 _ t1
  have e2 := fz 2 _ t2
  rw [hf]
  change HGn Try.prog 0 F E w 100 _
  rw [show gS6 = xS6 from rfl]
  simp only [xS6, gS6, gT6, gT5, gT4, gT3, gT2, gT1, gT0, Try.f3, Option.getD_some, List.range, List.range.loop, List.map_cons, List.map_nil, e0, e1, e2]
  replace hf := Lib.hid hf
  replace hz := Lib.hid hz
  replace hT := Lib.hid hT
  replace hP := Lib.hid hP
  replace hn := Lib.hid hn
  replace hpl := Lib.hid hpl
  replace hll := Lib.hid hll
  replace hp64 := Lib.hid hp64
  replace hrole := Lib.hid hrole
  replace hmode := Lib.hid hmode
  replace hc := Lib.hid hc
  replace hs := Lib.hid hs
  clear t0 t1 t2 fz
  refine Idl.rg (idl_hg Try.prog 0 F E w) [0, 1, 2, 3, 4] rfl ?_
  apply Idl.value (idl_hg Try.prog 0 F E w) rfl rfl (by first | decide | exact Go.ConcR.Gen.base_kind _ | exact Go.ConcR.Gen.baseD_kind _ | assumption)
  focus (intro w; go_simp; (try w_num); first | done | rfl)
  focus (intro w; simp [go_sem, *])
  walk_nrm
  apply Idl.value (idl_hg Try.prog 0 F E w) rfl rfl (by first | decide | exact Go.ConcR.Gen.base_kind _ | exact Go.ConcR.Gen.baseD_kind _ | assumption)
  focus (intro w; go_simp; (try w_num); first | done | rfl)
  focus (intro w; simp [go_sem, *])
  walk_nrm
  apply Idl.value (idl_hg Try.prog 0 F E w) rfl rfl (by first | decide | exact Go.ConcR.Gen.base_kind _ | exact Go.ConcR.Gen.baseD_kind _ | assumption)
  focus (intro w; go_simp; (try w_num); first | done | rfl)
  focus (intro w; simp [go_sem, *])
  walk_nrm
  refine Idl.callE (fn := Try.f21) (vs := #[tv, pv, .bool drain]) (idl_hg Try.prog 0 F E w) rfl rfl (by k_ne) rfl Try.func21 rfl rfl (by simp [Act.eval]) ?_
  refine play_holds hT.out hP.out hn.out (fun l hl => Nat.le_trans (hll.out l hl) (by decide)) (Nat.le_trans hpl.out (by decide)) hp64.out hrole.out hmode.out (fun E2 w2 mv ms po => ?_)
  replace po := Lib.hid po
  change HGn Try.prog 0 F E2 w2 200 _
  walk_nrm
  apply Idl.value (idl_hg Try.prog 0 F E2 w2) rfl rfl (by first | decide | exact Go.ConcR.Gen.base_kind _ | exact Go.ConcR.Gen.baseD_kind _ | assumption)
  focus (intro w; go_simp; (try w_num); first | done | rfl)
  focus (intro w; simp [go_sem, *])
  walk_nrm
  refine Idl.re (idl_hg Try.prog 0 F E2 w2) ?_
  replace po := po.out
  refine hc.out E2 w2 _ mv po.kept po.stands (by simp) (fun j hj hne => ?_) (by simp) (po.markV hz.out) (fun g hg => (po.row.lt g hg).1)
  rw [hf.out, arrf_get f (by omega)]
  match j, hj with
  | 0, _ | 1, _ | 2, _ | 3, _ | 4, _ | 5, _ | 6, _ | 7, _ | 8, _ | 9, _ | 10, _ | 11, _ | 13, _ | 14, _ | 15, _ | 16, _ | 17, _ | 18, _ | 19, _ | 20, _ | 21, _ | 22, _ | 23, _ | 24, _ => simp [e0, e1, e2]
  | 12, _ => exact absurd rfl hne
  | j + 25, h => exact absurd h (by omega)
noncomputable def xS15 : Code := gS15
set_option maxRecDepth 100000 in
set_option maxHeartbeats 4000000 in
theorem gp15 {T : Array Value} {tv pv : Value} {ts : List (List Op3)} {picks : List Int} {drain : Bool} {z : PA × Int} (hs : T.size = 136) (t0 : T[8]? = some tv) (t1 : T[9]? = some pv) (t2 : T[2]? = some (.bool drain)) (hz : (playG ts).Run picks drain pa0 z) (hT : OpsAt E w tv ts) (hP : IntsAt E w pv picks)
    (hn : ts.length ≤ 1000000000000) (hpl : picks.length ≤ 10000000000) (hll : ∀ l ∈ ts, l.length ≤ 10000000000) (hp64 : ∀ p ∈ picks, -9223372036854775808 ≤ p ∧ p ≤ 9223372036854775807) (hrole : E.role 0 = .gone) (hmode : ∀ b, E.mode b = 0)
    (hc : ∀ E1 w1 T' mv, Kept 0 none E w E1 w1 → Stands E w E1 w1 → T'.size = 136 → (∀ j, j < 25 → j ≠ 21 → T'[j]? = T[j]?) → T'[21]? = some mv → MarkV E1 w1 mv (rMs ts z) → (∀ g, mv.ownBlock = some g → w.heap.size ≤ g) → HG Try.prog 0 F E1 (G ((base 3).at ⟨T', []⟩ k) []) w1) :
    HG Try.prog 0 F E (G ((base 3).at ⟨T, []⟩ (.code gS15 :: k)) []) w := by
  obtain ⟨f, hf, fz⟩ := arrfv T hs
  have e0 := fz 8 _ t0
  have e1 := fz 9 _ t1
  have e2 := fz 2 _ t2
  rw [hf]
  change HGn Try.prog 0 F E w 100 _
  rw [show gS15 = xS15 from rfl]
  simp only [xS15, gS15, gT15, gT14, gT13, gT12, gT11, gT10, gT9, gT8, gT7, gT6, gT5, gT4, gT3, gT2, gT1, gT0, Try.f3, Option.getD_some, List.range, List.range.loop, List.map_cons, List.map_nil, e0, e1, e2]
  replace hf := Lib.hid hf
  replace hz := Lib.hid hz
  replace hT := Lib.hid hT
  replace hP := Lib.hid hP
  replace hn := Lib.hid hn
  replace hpl := Lib.hid hpl
  replace hll := Lib.hid hll
  replace hp64 := Lib.hid hp64
  replace hrole := Lib.hid hrole
  replace hmode := Lib.hid hmode
  replace hc := Lib.hid hc
  replace hs := Lib.hid hs
  clear t0 t1 t2 fz
  refine Idl.rg (idl_hg Try.prog 0 F E w) [0, 1, 2, 3, 4] rfl ?_
  apply Idl.value (idl_hg Try.prog 0 F E w) rfl rfl (by first | decide | exact Go.ConcR.Gen.base_kind _ | exact Go.ConcR.Gen.baseD_kind _ | assumption)
  focus (intro w; go_simp; (try w_num); first | done | rfl)
  focus (intro w; simp [go_sem, *])
  walk_nrm
  apply Idl.value (idl_hg Try.prog 0 F E w) rfl rfl (by first | decide | exact Go.ConcR.Gen.base_kind _ | exact Go.ConcR.Gen.baseD_kind _ | assumption)
  focus (intro w; go_simp; (try w_num); first | done | rfl)
  focus (intro w; simp [go_sem, *])
  walk_nrm
  apply Idl.value (idl_hg Try.prog 0 F E w) rfl rfl (by first | decide | exact Go.ConcR.Gen.base_kind _ | exact Go.ConcR.Gen.baseD_kind _ | assumption)
  focus (intro w; go_simp; (try w_num); first | done | rfl)
  focus (intro w; simp [go_sem, *])
  walk_nrm
  refine Idl.callE (fn := Try.f21) (vs := #[tv, pv, .bool drain]) (idl_hg Try.prog 0 F E w) rfl rfl (by k_ne) rfl Try.func21 rfl rfl (by simp [Act.eval]) ?_
  refine play_holds hT.out hP.out hn.out (fun l hl => Nat.le_trans (hll.out l hl) (by decide)) (Nat.le_trans hpl.out (by decide)) hp64.out hrole.out hmode.out (fun E2 w2 mv ms po => ?_)
  replace po := Lib.hid po
  change HGn Try.prog 0 F E2 w2 200 _
  walk_nrm
  apply Idl.value (idl_hg Try.prog 0 F E2 w2) rfl rfl (by first | decide | exact Go.ConcR.Gen.base_kind _ | exact Go.ConcR.Gen.baseD_kind _ | assumption)
  focus (intro w; go_simp; (try w_num); first | done | rfl)
  focus (intro w; simp [go_sem, *])
  walk_nrm
  refine Idl.re (idl_hg Try.prog 0 F E2 w2) ?_
  replace po := po.out
  refine hc.out E2 w2 _ mv po.kept po.stands (by simp) (fun j hj hne => ?_) (by simp) (po.markV hz.out) (fun g hg => (po.row.lt g hg).1)
  rw [hf.out, arrf_get f (by omega)]
  match j, hj with
  | 0, _ | 1, _ | 2, _ | 3, _ | 4, _ | 5, _ | 6, _ | 7, _ | 8, _ | 9, _ | 10, _ | 11, _ | 12, _ | 13, _ | 14, _ | 15, _ | 16, _ | 17, _ | 18, _ | 19, _ | 20, _ | 22, _ | 23, _ | 24, _ => simp [e0, e1, e2]
  | 21, _ => exact absurd rfl hne
  | j + 25, h => exact absurd h (by omega)
end
end Go.Proofs.Ytimlbbleblijnaa.Co

namespace Go.Proofs.Ytimlbbleblijnaa.Co
open Go Go.Conc Go.RowKit
open Go.ConcN (sumTo upd sumTo_upd upd_ne upd_same sumTo_congr le_sumTo)
set_option linter.unusedVariables false
set_option linter.unusedSimpArgs false
theorem Stands.but {S : Nat → Prop} {E0 E E' : Env} {w0 w w' : World} (h : Stands E0 w0 E w) (hS : StandsBut S E w E' w') (hd : ∀ b, b < w0.heap.size → ¬ S b) : Stands E0 w0 E' w' := fun b o h1 h2 => by
  obtain ⟨a1, a2⟩ := h b o h1 h2
  exact hS b o (hd b (Array.getElem?_eq_some_iff.1 h2).1) a1 a2
theorem MarkV.lt {E : Env} {w : World} {v : Value} {ms : List Mk} (h : MarkV E w v ms) : ∀ g, v.ownBlock = some g → g < w.heap.size := fun g hg => (h.row.lt g hg).2
theorem rMs_len {ts : List (List Op3)} {picks : List Int} {drain : Bool} {z : PA × Int} (h : (playG ts).Run picks drain pa0 z) (hll : ∀ l ∈ ts, l.length ≤ 10000000000) : (rMs ts z).length ≤ 80000000000 := by
  unfold rMs
  by_cases h8 : 8 < ts.length
  · rw [if_pos h8]; exact Nat.zero_le _
  · rw [if_neg h8]; exact run_len h (by omega) hll
structure St7 (E0 : Env) (w0 : World) (E : Env) (w : World) (T : Array Value) (ts : List (List Op3)) (picks : List Int) (drain : Bool) (z : PA × Int) (ov mv xv yv : Value) (LB : Nat → Nat) (b : Nat) : Prop where
  sz : T.size = 136
  t2 : T[2]? = some (.bool drain)
  t7 : T[7]? = some (.bool true)
  t8 : T[8]? = some ov
  t9 : T[9]? = some (.slice (some ⟨b, 0, none⟩) picks.length (picks.length + 2))
  t10 : T[10]? = some mv
  t11 : T[11]? = some xv
  t12 : T[12]? = some yv
  kept : Kept 0 none E0 w0 E w
  st : Stands E0 w0 E w
  hO : OwnV E w ov LB ts
  hP : PickV E w b picks
  hM : MarkV E w mv (rMs ts z)
  hX : MarkV E w xv (rMs ts z)
  hY : MarkV E w yv (rMs ts z)
  d1 : ∀ g, ov.ownBlock = some g → g < b
  d2 : ∀ i, i < ts.length → LB i < b
  d3 : ∀ g, mv.ownBlock = some g → b < g
  d4 : ∀ g, xv.ownBlock = some g → b < g
  d5 : ∀ g, yv.ownBlock = some g → b < g
  d6 : ∀ g, xv.ownBlock = some g → yv.ownBlock ≠ some g
  d7 : ∀ g, xv.ownBlock = some g → mv.ownBlock ≠ some g
  n1 : w0.heap.size ≤ b
  n2 : ∀ i, i < ts.length → w0.heap.size ≤ LB i
section
variable {F : Machine → Trace → Prop} {E : Env} {w : World}
set_option maxRecDepth 100000 in
set_option maxHeartbeats 4000000 in
theorem plays_c {E0 : Env} {w0 : World} {T : Array Value} {ts : List (List Op3)} {picks : List Int} {drain : Bool} {z : PA × Int} {tv pv ov mv xv yv : Value} {LB : Nat → Nat} {b : Nat} (S : St7 E0 w0 E w T ts picks drain z ov mv xv yv LB b) (t0 : T[0]? = some tv) (t1 : T[1]? = some pv) (hT : OpsAt E w tv ts) (hI : IntsAt E w pv picks)
    (hz : (playG ts).Run picks drain pa0 z) (hn : ts.length ≤ 1000000000000) (hpl : picks.length ≤ 10000000000) (hll : ∀ l ∈ ts, l.length ≤ 10000000000) (hrole : E0.role 0 = .gone) (hmode : ∀ b, E0.mode b = 0)
    (hc : ∀ E' w' T todo, Kept 0 none E0 w0 E' w' → Stands E0 w0 E' w' → T[6]? = some (.bool true) → HG Try.prog 0 F E' (G { (base 3).at ⟨T, []⟩ todo with mode := .returning } []) w') :
    HG Try.prog 0 F E (G ((base 3).at ⟨T, []⟩ [.code gT7]) []) w := by
  have hll' : ∀ l ∈ ts, l.length ≤ 100000000000 := fun l hl => Nat.le_trans (hll l hl) (by decide)
  have hml := rMs_len hz hll
  obtain ⟨z2, hz2⟩ := play_ex (incT ts) (picks.map negI) drain
  have hlli : ∀ l ∈ incT ts, l.length ≤ 10000000000 := incT_lens hll
  have hlli' : ∀ l ∈ incT ts, l.length ≤ 100000000000 := fun l hl => Nat.le_trans (hlli l hl) (by decide)
  have hml2 := rMs_len hz2 hlli
  have hnl := incT_len ts
  have hpl2 : (picks.map negI).length = picks.length := List.length_map _
  obtain ⟨sz, t2, t7, t8, t9, t10, t11, t12, kp, st, hO, hP, hM, hX, hY, d1, d2, d3, d4, d5, d6, d7, n1, n2⟩ := S
  change HGn Try.prog 0 F E w 100 _
  rw [gT7_parts]
  refine Idl.step (idl_hg Try.prog 0 F E w) _ _ _ rfl (fun _ => stepG_seq) ?_
  refine gp7 (by rfl) sz t11 t10 hX hM (by omega) (fun E1 w1 T1 hK1 hS1 s1 o1 r1 => ?_)
  change HGn Try.prog 0 F E1 w1 100 _
  refine Idl.step (idl_hg Try.prog 0 F E1 w1) _ _ _ rfl (fun _ => stepG_seq) ?_
  refine gp8 (by rfl) s1 ((o1 12 (by decide) (by decide)).trans t12) ((o1 10 (by decide) (by decide)).trans t10) (hY.stands hS1) (hM.stands hS1) (by omega) (fun E2 w2 T2 hK2 hS2' s2 o2 r2 => ?_)
  have hS2 := hS1.trans hS2'
  have q2 : ∀ j, j < 13 → T2[j]? = T[j]? := fun j hj => (o2 j (by omega) (by omega)).trans (o1 j (by omega) (by omega))
  change HGn Try.prog 0 F E2 w2 100 _
  refine Idl.step (idl_hg Try.prog 0 F E2 w2) _ _ _ rfl (fun _ => stepG_seq) ?_
  refine gp9 (by rfl) s2 ((q2 8 (by decide)).trans t8) ((q2 0 (by decide)).trans t0) (hO.stands hS2) (hT.stands hS2) hn hll' (fun E3 w3 T3 hK3 hS3' s3 o3 r3 => ?_)
  have hS3 := hS2.trans hS3'
  have q3 : ∀ j, j < 13 → T3[j]? = T[j]? := fun j hj => (o3 j (by omega) (by omega)).trans (q2 j hj)
  change HGn Try.prog 0 F E3 w3 100 _
  refine Idl.step (idl_hg Try.prog 0 F E3 w3) _ _ _ rfl (fun _ => stepG_seq) ?_
  refine gp10 (by rfl) s3 ((q3 9 (by decide)).trans t9) ((q3 1 (by decide)).trans t1) rfl (hP.stands hS3) (hI.stands hS3) (by omega) (fun E4 w4 T4 hK4 hS4' s4 o4 r4 => ?_)
  have hS4 := hS3.trans hS4'
  have q4 : ∀ j, j < 13 → T4[j]? = T[j]? := fun j hj => (o4 j (by omega) (by omega)).trans (q3 j hj)
  change HGn Try.prog 0 F E4 w4 100 _
  refine Idl.step (idl_hg Try.prog 0 F E4 w4) _ _ _ rfl (fun _ => stepG_seq) ?_
  refine gp11 (by rfl) s4 ((q4 7 (by decide)).trans t7) ((o4 13 (by decide) (by decide)).trans ((o3 13 (by decide) (by decide)).trans ((o2 13 (by decide) (by decide)).trans r1))) ((o4 14 (by decide) (by decide)).trans ((o3 14 (by decide) (by decide)).trans r2)) ((o4 15 (by decide) (by decide)).trans r3) r4 (fun E5 w5 T5 hK5 hS5' s5 o5 => ?_)
  have hS5 := hS4.trans hS5'
  have q5 : ∀ j, j < 13 → T5[j]? = T[j]? := fun j hj => (o5 j (by omega)).trans (q4 j hj)
  have kp5 : Kept 0 none E0 w0 E5 w5 := ((((kp.trans hK1).trans hK2).trans hK3).trans hK4).trans hK5
  have st5 : Stands E0 w0 E5 w5 := st.trans hS5
  have hO5 := hO.stands hS5
  have hP5 := hP.stands hS5
  have hM5 := hM.stands hS5
  have hX5 := hX.stands hS5
  have hY5 := hY.stands hS5
  clear hK1 hK2 hK3 hK4 hK5 hS1 hS2 hS2' hS3 hS3' hS4 hS4' hS5 hS5' hO hP hM hX hY hT hI kp st o1 o2 o3 o4 o5 q2 q3 q4 r1 r2 r3 r4
  change HGn Try.prog 0 F E5 w5 100 _
  refine Idl.step (idl_hg Try.prog 0 F E5 w5) _ _ _ rfl (fun _ => stepG_seq) ?_
  refine gp12 (by rfl) s5 ((q5 8 (by decide)).trans t8) hO5 hn hll' (fun E6 w6 T6 hK6 hS6 s6 o6 hO6 => ?_)
  have e6 : ∀ g, b < g → ¬ ∃ i, i < ts.length ∧ g = LB i := fun g hg ⟨i, hi, e⟩ => by have := d2 i hi; omega
  have hP6 := hP5.but hS6 (fun ⟨i, hi, e⟩ => by have := d2 i hi; omega)
  have hM6 := hM5.but hS6 (fun g hg => e6 g (d3 g hg))
  have hX6 := hX5.but hS6 (fun g hg => e6 g (d4 g hg))
  have hY6 := hY5.but hS6 (fun g hg => e6 g (d5 g hg))
  have st6 := st5.but hS6 (fun c hc ⟨i, hi, e⟩ => by have := n2 i hi; omega)
  have q6 : ∀ j, j < 13 → T6[j]? = T[j]? := fun j hj => (o6 j (by omega)).trans (q5 j hj)
  change HGn Try.prog 0 F E6 w6 100 _
  refine Idl.step (idl_hg Try.prog 0 F E6 w6) _ _ _ rfl (fun _ => stepG_seq) ?_
  refine gp13 (by rfl) s6 ((q6 9 (by decide)).trans t9) hP6 (by omega) (fun E7 w7 T7 hK7 hS7 s7 o7 hP7 => ?_)
  have hO7 := hO6.but hS7 (fun g hg e => by have := d1 g hg; omega) (fun i hi e => by rw [hnl] at hi; have := d2 i hi; omega)
  have hM7 := hM6.but hS7 (fun g hg e => by have := d3 g hg; omega)
  have hX7 := hX6.but hS7 (fun g hg e => by have := d4 g hg; omega)
  have hY7 := hY6.but hS7 (fun g hg e => by have := d5 g hg; omega)
  have st7 := st6.but hS7 (fun c hc e => by omega)
  have q7 : ∀ j, j < 13 → T7[j]? = T[j]? := fun j hj => (o7 j (by omega)).trans (q6 j hj)
  have kp7 : Kept 0 none E0 w0 E7 w7 := (kp5.trans hK6).trans hK7
  have tp7 : T7[9]? = some (.slice (some ⟨b, 0, none⟩) (picks.map negI).length ((picks.map negI).length + 2)) := by rw [hpl2]; exact (q7 9 (by decide)).trans t9
  clear hO6 hP6 hM6 hX6 hY6 st6 q6 hO5 hP5 hM5 hX5 hY5 st5 q5 kp5
  change HGn Try.prog 0 F E7 w7 100 _
  refine Idl.step (idl_hg Try.prog 0 F E7 w7) _ _ _ rfl (fun _ => stepG_seq) ?_
  refine gp14 (by rfl) s7 ((q7 8 (by decide)).trans t8) tp7 ((q7 2 (by decide)).trans t2) hz2 hO7.at hP7.at (by omega) hlli' (neg_64 picks) (fun h8 => ?_) (fun h8 => ?_) (fun E8 w8 T8 nv hK8 hS8 s8 o8 r8 hN8 hb8 => ?_)
  · have h1 := run_k hz2
    have h2 := run_len hz2 h8 hlli
    omega
  · have h2 := run_len hz2 h8 hlli
    omega
  have q8 : ∀ j, j < 13 → T8[j]? = T[j]? := fun j hj => (o8 j (by omega) (by omega)).trans (q7 j hj)
  have kp8 : Kept 0 none E0 w0 E8 w8 := kp7.trans hK8
  have st8 := st7.trans hS8
  have hO8 := hO7.stands hS8
  have hP8 := hP7.stands hS8
  have hM8 := hM7.stands hS8
  have hX8 := hX7.stands hS8
  have hY8 := hY7.stands hS8
  have hxn : ∀ g, xv.ownBlock = some g → nv.ownBlock ≠ some g := fun g hg e => by
    have h1 := hX7.lt g hg
    have h2 := hb8 g e
    omega
  rw [gT15_parts]
  change HGn Try.prog 0 F E8 w8 100 _
  refine Idl.step (idl_hg Try.prog 0 F E8 w8) _ _ _ rfl (fun _ => stepG_seq) ?_
  refine gp15 s8 ((q8 8 (by decide)).trans t8) (by rw [o8 9 (by decide) (by decide)]; exact tp7) ((q8 2 (by decide)).trans t2) hz2 hO8.at hP8.at (by omega) (by omega) hlli (neg_64 picks) (kp8.le.roleH.trans hrole) (fun b => kp8.le.mode b (hmode b)) (fun E9 w9 T9 zv hK9 hS9 s9 o9 r9 hZ9 hb9 => ?_)
  have q9 : ∀ j, j < 13 → T9[j]? = T[j]? := fun j hj => (o9 j (by omega) (by omega)).trans (q8 j hj)
  have kp9 : Kept 0 none E0 w0 E9 w9 := kp8.trans hK9
  have st9 := st8.trans hS9
  have hM9 := hM8.stands hS9
  have hX9 := hX8.stands hS9
  have hY9 := hY8.stands hS9
  have hN9 := hN8.stands hS9
  change HGn Try.prog 0 F E9 w9 100 _
  refine Idl.step (idl_hg Try.prog 0 F E9 w9) _ _ _ rfl (fun _ => stepG_seq) ?_
  refine gp16 (by rfl) s9 r9 ((o9 20 (by decide) (by decide)).trans r8) hZ9 hN9 (by omega) (fun Ea wa Ta hKa hSa sa oa ra => ?_)
  have qa : ∀ j, j < 13 → Ta[j]? = T[j]? := fun j hj => (oa j (by omega) (by omega)).trans (q9 j hj)
  change HGn Try.prog 0 F Ea wa 100 _
  refine Idl.step (idl_hg Try.prog 0 F Ea wa) _ _ _ rfl (fun _ => stepG_seq) ?_
  refine gp17 (by rfl) sa ((qa 11 (by decide)).trans t11) ((qa 10 (by decide)).trans t10) (hX9.stands hSa) (hM9.stands hSa) (by omega) (fun Eb wb Tb hKb hSb' sb ob rb => ?_)
  have hSb := hSa.trans hSb'
  have qb : ∀ j, j < 13 → Tb[j]? = T[j]? := fun j hj => (ob j (by omega) (by omega)).trans (qa j hj)
  change HGn Try.prog 0 F Eb wb 100 _
  refine Idl.step (idl_hg Try.prog 0 F Eb wb) _ _ _ rfl (fun _ => stepG_seq) ?_
  refine gp18 (by rfl) sb ((qb 11 (by decide)).trans t11) ((qb 12 (by decide)).trans t12) (hX9.stands hSb) (hY9.stands hSb) d6 (by omega) (by omega) (fun Ec wc Tc hKc hSc sc oc rc => ?_)
  have stc := (st9.trans hSb).but hSc (fun c hc e => by
    rcases e with e | e
    · have := d4 c e; omega
    · have := d5 c e; omega)
  change HGn Try.prog 0 F Ec wc 100 _
  refine Idl.step (idl_hg Try.prog 0 F Ec wc) _ _ _ rfl (fun _ => stepG_seq) ?_
  refine gp19 (by rfl) sc ((oc 22 (by decide) (by decide)).trans ((ob 22 (by decide) (by decide)).trans ra)) ((oc 23 (by decide) (by decide)).trans rb) rc (fun Ed wd Td hKd hSd sd rd => ?_)
  change HGn Try.prog 0 F Ed wd 100 _
  refine Idl.step (idl_hg Try.prog 0 F Ed wd) _ _ _ rfl (fun _ => stepG_ret') ?_
  exact hc Ed wd Td _ ((((kp9.trans hKa).trans hKb).trans hKc).trans hKd) (stc.trans hSd) rd
set_option maxRecDepth 100000 in
set_option maxHeartbeats 4000000 in
theorem gatePlays_tail {ts : List (List Op3)} {picks : List Int} {drain : Bool} {tv pv : Value} {T : Array Value} (hs : T.size = 136) (t0 : T[0]? = some tv) (t1 : T[1]? = some pv) (t2 : T[2]? = some (.bool drain)) (t7 : T[7]? = some (.bool true))
    (hT : OpsAt E w tv ts) (hP : IntsAt E w pv picks) (hn : ts.length ≤ 1000000000000) (hpl : picks.length ≤ 10000000000) (hll : ∀ l ∈ ts, l.length ≤ 10000000000) (hp64 : ∀ p ∈ picks, -9223372036854775808 ≤ p ∧ p ≤ 9223372036854775807) (hrole : E.role 0 = .gone) (hmode : ∀ b, E.mode b = 0)
    (hc : ∀ E' w' T todo, Kept 0 none E w E' w' → Stands E w E' w' → T[6]? = some (.bool true) → HG Try.prog 0 F E' (G { (base 3).at ⟨T, []⟩ todo with mode := .returning } []) w') :
    HG Try.prog 0 F E (G ((base 3).at ⟨T, []⟩ [.code gT2]) []) w := by
  obtain ⟨z, hz⟩ := play_ex ts picks drain
  refine plays_a hs t0 t1 t2 t7 hT hP hn hpl hll hp64 hz (fun E1 w1 T1 ov LB b mv hK1 hS1 s1 u0 u1 u2 u7 u8 u9 u10 hO hPk hM d1 d2 d3 n1 n2 => ?_)
  change HGn Try.prog 0 F E1 w1 100 _
  rw [gT5_parts]
  refine Idl.step (idl_hg Try.prog 0 F E1 w1) _ _ _ rfl (fun _ => stepG_seq) ?_
  refine gp5 s1 u8 u9 u2 hz hO.at hPk.at hn hpl hll hp64 (hK1.le.roleH.trans hrole) (fun b => hK1.le.mode b (hmode b)) (fun E2 w2 T2 xv hK2 hS2 s2 o2 r2 hX hb2 => ?_)
  have kp2 := hK1.trans hK2
  change HGn Try.prog 0 F E2 w2 100 _
  refine Idl.step (idl_hg Try.prog 0 F E2 w2) _ _ _ rfl (fun _ => stepG_seq) ?_
  refine gp6 s2 ((o2 8 (by decide) (by decide)).trans u8) ((o2 9 (by decide) (by decide)).trans u9) ((o2 2 (by decide) (by decide)).trans u2) hz (hO.stands hS2).at (hPk.stands hS2).at hn hpl hll hp64 (kp2.le.roleH.trans hrole) (fun b => kp2.le.mode b (hmode b)) (fun E3 w3 T3 yv hK3 hS3 s3 o3 r3 hY hb3 => ?_)
  have hS23 := hS2.trans hS3
  have hbl := (Array.getElem?_eq_some_iff.1 hPk.row).1
  have q : ∀ j, j < 11 → T3[j]? = T1[j]? := fun j hj => (o3 j (by omega) (by omega)).trans (o2 j (by omega) (by omega))
  refine plays_c (E0 := E) (w0 := w) (T := T3) (ts := ts) (picks := picks) (drain := drain) (z := z) (tv := tv) (pv := pv) (ov := ov) (mv := mv) (xv := xv) (yv := yv) (LB := LB) (b := b)
    ⟨s3, (q 2 (by decide)).trans u2, (q 7 (by decide)).trans u7, (q 8 (by decide)).trans u8, (q 9 (by decide)).trans u9, (q 10 (by decide)).trans u10, (o3 11 (by decide) (by decide)).trans r2, r3, kp2.trans hK3, hS1.trans hS23, hO.stands hS23, hPk.stands hS23, hM.stands hS23, hX.stands hS3, hY, d1, d2, d3, fun g hg => Nat.lt_of_lt_of_le hbl (hb2 g hg), fun g hg => Nat.lt_of_lt_of_le hbl (Nat.le_trans hK2.size (hb3 g hg)), fun g hg e => ?_, fun g hg e => ?_, n1, n2⟩
    ((q 0 (by decide)).trans u0) ((q 1 (by decide)).trans u1) ((hT.stands hS1).stands hS23) ((hP.stands hS1).stands hS23) hz hn hpl hll hrole hmode hc
  · have h1 := hX.lt g hg
    have h2 := hb3 g e
    omega
  · have h1 := hM.lt g e
    have h2 := hb2 g hg
    omega
noncomputable def xS0 : Code := gS0
noncomputable def xS1 : Code := gS1
theorem gBody_head : gT0 = .seq gS0 gT1 := by kernel_rfl
theorem gT1_parts : gT1 = .seq gS1 gT2 := by kernel_rfl
set_option maxRecDepth 100000 in
set_option maxHeartbeats 4000000 in
theorem gatePlays_walk {ts : List (List Op3)} {picks : List Int} {drain : Bool} {tv pv : Value} (hT : OpsAt E w tv ts) (hP : IntsAt E w pv picks) (hn : ts.length ≤ 1000000000000)
    (hpl : picks.length ≤ 10000000000) (hll : ∀ l ∈ ts, l.length ≤ 10000000000) (hp64 : ∀ p ∈ picks, -9223372036854775808 ≤ p ∧ p ≤ 9223372036854775807) (hrole : E.role 0 = .gone) (hmode : ∀ b, E.mode b = 0)
    (hc : ∀ E' w' T todo, Kept 0 none E w E' w' → Stands E w E' w' → T[6]? = some (.bool true) → HG Try.prog 0 F E' (G { (base 3).at ⟨T, []⟩ todo with mode := .returning } []) w') :
    HGn Try.prog 0 F E w 100 (entry 3 Try.f3 #[tv, pv, .bool drain] []) := by
  unfold entry
  rw [show Try.f3.body.getD .skip = .seq xS0 (.seq xS1 gT2) from gBody_head.trans (congrArg _ gT1_parts), show Try.f3.ntmps = 136 from rfl]
  generalize hG2 : gT2 = G2
  simp only [xS0, xS1, gS0, gS1, gT0, gT1, Try.f3, Option.getD_some]
  walk_nrm
  refine Idl.q (idl_hg Try.prog 0 F E w) (Idl.rg (idl_hg Try.prog 0 F E w) [0] rfl ?_)
  apply Idl.value (idl_hg Try.prog 0 F E w) rfl rfl (by first | decide | exact Go.ConcR.Gen.base_kind _ | exact Go.ConcR.Gen.baseD_kind _ | assumption)
  focus (intro w; go_simp; (try w_num); first | done | rfl)
  focus (intro w; simp [go_sem, *])
  walk_nrm
  refine Idl.re (idl_hg Try.prog 0 F E w) (Idl.q (idl_hg Try.prog 0 F E w) (Idl.rg (idl_hg Try.prog 0 F E w) [0, 1] rfl ?_))
  refine Idl.callE (fn := Try.f17) (vs := #[]) (idl_hg Try.prog 0 F E w) rfl rfl (by k_ne) rfl Try.func17 rfl rfl (by simp [Act.eval]) ?_
  refine fixed06_holds hrole hmode (fun E1 w1 hK1 hS1 => ?_)
  change HGn Try.prog 0 F E1 w1 200 _
  walk_nrm
  apply Idl.value (idl_hg Try.prog 0 F E1 w1) rfl rfl (by first | decide | exact Go.ConcR.Gen.base_kind _ | exact Go.ConcR.Gen.baseD_kind _ | assumption)
  focus (intro w; go_simp; (try w_num); first | done | rfl)
  focus (intro w; simp [go_sem, *])
  walk_nrm
  refine Idl.re (idl_hg Try.prog 0 F E1 w1) ?_
  rw [← hG2]
  exact gatePlays_tail (ts := ts) (picks := picks) (drain := drain) (tv := tv) (pv := pv) (by simp) (by simp) (by simp) (by simp) (by simp) (hT.stands hS1) (hP.stands hS1) hn hpl hll hp64 (hK1.le.roleH.trans hrole) (fun b => hK1.le.mode b (hmode b)) (fun E' w' T todo k s => hc E' w' T todo (hK1.trans k) (hS1.trans s))
#print axioms gatePlays_walk
end
end Go.Proofs.Ytimlbbleblijnaa.Co
