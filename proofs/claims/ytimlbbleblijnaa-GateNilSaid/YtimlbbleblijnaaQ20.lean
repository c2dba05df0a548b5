/- Lemmas for the laws of this seat, laid together of PGck. -/
import Derived.Test.YtimlbbleblijnaaQ19

namespace Go.Proofs.Ytimlbbleblijnaa.Co
open Go Go.Conc Go.RowKit
set_option linter.unusedVariables false
set_option linter.unusedSimpArgs false
noncomputable def gnBody : Code := Try.f6.body.getD .skip
noncomputable def gn0 : Code := match gnBody with | .seq x _ => x | _ => .skip
noncomputable def gn1 : Code := match gnBody with | .seq _ (.seq x _) => x | _ => .skip
noncomputable def gn2 : Code := match gnBody with | .seq _ (.seq _ x) => x | _ => .skip
theorem gn_parts : gnBody = .seq gn0 (.seq gn1 gn2) := by kernel_rfl
noncomputable def xgn0 : Code := gn0
noncomputable def xgn1 : Code := gn1
noncomputable def xgn2 : Code := gn2
section
variable {h : Nat} {F : Machine → Trace → Prop} {E : Env} {w : World} {b₀ : Frame} {a₀ : Act} {ops₀ : Array Oper} {i₀ : Nat} {rest₀ : List Nat} {k₀ : List Item} {cl : List Frame}
theorem _root_.Go.Proofs.Ytimlbbleblijnaa.Co.Idl.leaveV {P : Program} {main : Bool} {A : Nat → Goroutine → Prop} {n : Nat} {b : Frame} {a : Act} {cs : List Frame} (I : Idl P main A) {fn : Func} {v : Value} {todo : List Item} {b₀ : Frame} {a₀ : Act} {k : List Item} {ops : Array Oper} {i : Nat} {rest : List Nat} (hn : b.kind = .normal) (hd : a.defers = []) (hf : P.funcs[b.fn]? = some fn)
    (hr : ∀ w, (results fn a.tmps).run P w = .ok v w) (he : ∀ w, (results fn a.tmps).events P w #[] = #[]) (hg : A n (G (b₀.at (a₀.put ((ops[i]?).bind (·.dst)) v) (.inRegion ops rest :: k)) cs)) : A (n + 1) (G { b.at a todo with mode := .returning } (b₀.at a₀ (.inRegion ops (i :: rest) :: k) :: cs)) :=
  I.step _ _ _ rfl (fun w => by rw [stepG_leave hn hd hf (hr w) (he w), Frame.finish_at]) hg
set_option maxRecDepth 100000 in
set_option maxHeartbeats 1000000 in
theorem step_nil (hc : HG Try.prog h F E (G (b₀.at (a₀.put ((ops₀[i₀]?).bind (·.dst)) (.tuple #[])) (.inRegion ops₀ rest₀ :: k₀)) cl) w) :
    HGn Try.prog h F E w 100 (entry 33 Try.f33 #[.pointer none] (b₀.at a₀ (.inRegion ops₀ (i₀ :: rest₀) :: k₀) :: cl)) := by
  unfold entry
  simp only [Try.f33, Option.getD_some]
  walk_nrm
  refine Idl.q (idl_hg Try.prog h F E w) (Idl.q (idl_hg Try.prog h F E w) (Idl.rg (idl_hg Try.prog h F E w) [0, 1] rfl ?_))
  apply Idl.value (idl_hg Try.prog h F E w) rfl rfl (by first | decide | exact Go.ConcR.Gen.base_kind _ | exact Go.ConcR.Gen.baseD_kind _ | assumption)
  focus (intro w; go_simp; (try w_num); first | done | rfl)
  focus (intro w; simp [go_sem, *])
  walk_nrm
  refine Idl.value (v := .bool true) (idl_hg Try.prog h F E w) rfl rfl (by k_ne) (fun w => by kernel_rfl) (fun w => by kernel_rfl) ?_
  walk_nrm
  refine Idl.re (idl_hg Try.prog h F E w) (Idl.ct (idl_hg Try.prog h F E w) rfl (Idl.rt (idl_hg Try.prog h F E w) ?_))
  refine Idl.leave0 (n := 1) (idl_hg Try.prog h F E w) rfl rfl Try.func33 rfl ?_
  exact hc
set_option maxRecDepth 100000 in
set_option maxHeartbeats 1000000 in
theorem begin_nil (hc : HG Try.prog h F E (G (b₀.at (a₀.put ((ops₀[i₀]?).bind (·.dst)) (.tuple #[])) (.inRegion ops₀ rest₀ :: k₀)) cl) w) :
    HGn Try.prog h F E w 100 (entry 34 Try.f34 #[.pointer none] (b₀.at a₀ (.inRegion ops₀ (i₀ :: rest₀) :: k₀) :: cl)) := by
  unfold entry
  simp only [Try.f34, Option.getD_some]
  walk_nrm
  refine Idl.q (idl_hg Try.prog h F E w) (Idl.rg (idl_hg Try.prog h F E w) [0, 1] rfl ?_)
  apply Idl.value (idl_hg Try.prog h F E w) rfl rfl (by first | decide | exact Go.ConcR.Gen.base_kind _ | exact Go.ConcR.Gen.baseD_kind _ | assumption)
  focus (intro w; go_simp; (try w_num); first | done | rfl)
  focus (intro w; simp [go_sem, *])
  walk_nrm
  refine Idl.value (v := .bool false) (idl_hg Try.prog h F E w) rfl rfl (by k_ne) (fun w => by kernel_rfl) (fun w => by kernel_rfl) ?_
  walk_nrm
  refine Idl.re (idl_hg Try.prog h F E w) (Idl.cf (idl_hg Try.prog h F E w) rfl (Idl.sk (idl_hg Try.prog h F E w) (Idl.en (idl_hg Try.prog h F E w) ?_)))
  refine Idl.leave0 (n := 1) (idl_hg Try.prog h F E w) rfl rfl Try.func34 rfl ?_
  exact hc
set_option maxRecDepth 100000 in
set_option maxHeartbeats 1000000 in
theorem poll_nil (hc : HG Try.prog h F E (G (b₀.at (a₀.put ((ops₀[i₀]?).bind (·.dst)) (.tuple #[])) (.inRegion ops₀ rest₀ :: k₀)) cl) w) :
    HGn Try.prog h F E w 100 (entry 35 Try.f35 #[.pointer none] (b₀.at a₀ (.inRegion ops₀ (i₀ :: rest₀) :: k₀) :: cl)) := by
  unfold entry
  simp only [Try.f35, Option.getD_some]
  walk_nrm
  refine Idl.q (idl_hg Try.prog h F E w) (Idl.rg (idl_hg Try.prog h F E w) [0, 1] rfl ?_)
  apply Idl.value (idl_hg Try.prog h F E w) rfl rfl (by first | decide | exact Go.ConcR.Gen.base_kind _ | exact Go.ConcR.Gen.baseD_kind _ | assumption)
  focus (intro w; go_simp; (try w_num); first | done | rfl)
  focus (intro w; simp [go_sem, *])
  walk_nrm
  refine Idl.value (v := .bool false) (idl_hg Try.prog h F E w) rfl rfl (by k_ne) (fun w => by kernel_rfl) (fun w => by kernel_rfl) ?_
  walk_nrm
  refine Idl.re (idl_hg Try.prog h F E w) (Idl.cf (idl_hg Try.prog h F E w) rfl (Idl.sk (idl_hg Try.prog h F E w) (Idl.en (idl_hg Try.prog h F E w) ?_)))
  refine Idl.leave0 (n := 1) (idl_hg Try.prog h F E w) rfl rfl Try.func35 rfl ?_
  exact hc
set_option maxRecDepth 100000 in
set_option maxHeartbeats 1000000 in
theorem point_nil (hc : HG Try.prog h F E (G (b₀.at (a₀.put ((ops₀[i₀]?).bind (·.dst)) (.tuple #[])) (.inRegion ops₀ rest₀ :: k₀)) cl) w) :
    HGn Try.prog h F E w 100 (entry 36 Try.f36 #[.pointer none] (b₀.at a₀ (.inRegion ops₀ (i₀ :: rest₀) :: k₀) :: cl)) := by
  unfold entry
  simp only [Try.f36, Option.getD_some]
  walk_nrm
  refine Idl.q (idl_hg Try.prog h F E w) (Idl.rg (idl_hg Try.prog h F E w) [0, 1] rfl ?_)
  apply Idl.value (idl_hg Try.prog h F E w) rfl rfl (by first | decide | exact Go.ConcR.Gen.base_kind _ | exact Go.ConcR.Gen.baseD_kind _ | assumption)
  focus (intro w; go_simp; (try w_num); first | done | rfl)
  focus (intro w; simp [go_sem, *])
  walk_nrm
  refine Idl.value (v := .bool false) (idl_hg Try.prog h F E w) rfl rfl (by k_ne) (fun w => by kernel_rfl) (fun w => by kernel_rfl) ?_
  walk_nrm
  refine Idl.re (idl_hg Try.prog h F E w) (Idl.cf (idl_hg Try.prog h F E w) rfl (Idl.sk (idl_hg Try.prog h F E w) (Idl.en (idl_hg Try.prog h F E w) ?_)))
  refine Idl.leave0 (n := 1) (idl_hg Try.prog h F E w) rfl rfl Try.func36 rfl ?_
  exact hc
set_option maxRecDepth 100000 in
set_option maxHeartbeats 1000000 in
theorem picks_nil (hc : HG Try.prog h F E (G (b₀.at (a₀.put ((ops₀[i₀]?).bind (·.dst)) (.int .i64 0)) (.inRegion ops₀ rest₀ :: k₀)) cl) w) :
    HGn Try.prog h F E w 100 (entry 37 Try.f37 #[.pointer none] (b₀.at a₀ (.inRegion ops₀ (i₀ :: rest₀) :: k₀) :: cl)) := by
  unfold entry
  simp only [Try.f37, Option.getD_some]
  walk_nrm
  refine Idl.q (idl_hg Try.prog h F E w) (Idl.rg (idl_hg Try.prog h F E w) [0] rfl ?_)
  apply Idl.value (idl_hg Try.prog h F E w) rfl rfl (by first | decide | exact Go.ConcR.Gen.base_kind _ | exact Go.ConcR.Gen.baseD_kind _ | assumption)
  focus (intro w; go_simp; (try w_num); first | done | rfl)
  focus (intro w; simp [go_sem, *])
  walk_nrm
  refine Idl.re (idl_hg Try.prog h F E w) (Idl.q (idl_hg Try.prog h F E w) (Idl.q (idl_hg Try.prog h F E w) (Idl.rg (idl_hg Try.prog h F E w) [0, 1] rfl ?_)))
  apply Idl.value (idl_hg Try.prog h F E w) rfl rfl (by first | decide | exact Go.ConcR.Gen.base_kind _ | exact Go.ConcR.Gen.baseD_kind _ | assumption)
  focus (intro w; go_simp; (try w_num); first | done | rfl)
  focus (intro w; simp [go_sem, *])
  walk_nrm
  refine Idl.value (v := .bool true) (idl_hg Try.prog h F E w) rfl rfl (by k_ne) (fun w => by kernel_rfl) (fun w => by kernel_rfl) ?_
  walk_nrm
  refine Idl.re (idl_hg Try.prog h F E w) (Idl.ct (idl_hg Try.prog h F E w) rfl (Idl.q (idl_hg Try.prog h F E w) (Idl.rg (idl_hg Try.prog h F E w) [0] rfl ?_)))
  apply Idl.value (idl_hg Try.prog h F E w) rfl rfl (by first | decide | exact Go.ConcR.Gen.base_kind _ | exact Go.ConcR.Gen.baseD_kind _ | assumption)
  focus (intro w; go_simp; (try w_num); first | done | rfl)
  focus (intro w; simp [go_sem, *])
  walk_nrm
  refine Idl.re (idl_hg Try.prog h F E w) (Idl.rt (idl_hg Try.prog h F E w) ?_)
  refine Idl.leave1 (n := 1) (idl_hg Try.prog h F E w) rfl rfl Try.func37 rfl ?_
  exact hc
set_option maxRecDepth 100000 in
set_option maxHeartbeats 1000000 in
theorem tally_nil (hc : HG Try.prog h F E (G (b₀.at (a₀.put ((ops₀[i₀]?).bind (·.dst)) (.tuple #[.int .i64 0, .int .i64 0, .int .i64 0])) (.inRegion ops₀ rest₀ :: k₀)) cl) w) :
    HGn Try.prog h F E w 100 (entry 31 Try.f31 #[.pointer none] (b₀.at a₀ (.inRegion ops₀ (i₀ :: rest₀) :: k₀) :: cl)) := by
  unfold entry
  simp only [Try.f31, Option.getD_some]
  walk_nrm
  refine Idl.q (idl_hg Try.prog h F E w) (Idl.rg (idl_hg Try.prog h F E w) [0, 1, 2] rfl ?_)
  apply Idl.value (idl_hg Try.prog h F E w) rfl rfl (by first | decide | exact Go.ConcR.Gen.base_kind _ | exact Go.ConcR.Gen.baseD_kind _ | assumption)
  focus (intro w; go_simp; (try w_num); first | done | rfl)
  focus (intro w; simp [go_sem, *])
  walk_nrm
  apply Idl.value (idl_hg Try.prog h F E w) rfl rfl (by first | decide | exact Go.ConcR.Gen.base_kind _ | exact Go.ConcR.Gen.baseD_kind _ | assumption)
  focus (intro w; go_simp; (try w_num); first | done | rfl)
  focus (intro w; simp [go_sem, *])
  walk_nrm
  apply Idl.value (idl_hg Try.prog h F E w) rfl rfl (by first | decide | exact Go.ConcR.Gen.base_kind _ | exact Go.ConcR.Gen.baseD_kind _ | assumption)
  focus (intro w; go_simp; (try w_num); first | done | rfl)
  focus (intro w; simp [go_sem, *])
  walk_nrm
  refine Idl.re (idl_hg Try.prog h F E w) (Idl.q (idl_hg Try.prog h F E w) (Idl.q (idl_hg Try.prog h F E w) (Idl.rg (idl_hg Try.prog h F E w) [0, 1] rfl ?_)))
  apply Idl.value (idl_hg Try.prog h F E w) rfl rfl (by first | decide | exact Go.ConcR.Gen.base_kind _ | exact Go.ConcR.Gen.baseD_kind _ | assumption)
  focus (intro w; go_simp; (try w_num); first | done | rfl)
  focus (intro w; simp [go_sem, *])
  walk_nrm
  refine Idl.value (v := .bool true) (idl_hg Try.prog h F E w) rfl rfl (by k_ne) (fun w => by kernel_rfl) (fun w => by kernel_rfl) ?_
  walk_nrm
  refine Idl.re (idl_hg Try.prog h F E w) (Idl.ct (idl_hg Try.prog h F E w) rfl (Idl.q (idl_hg Try.prog h F E w) (Idl.rg (idl_hg Try.prog h F E w) [0, 1, 2] rfl ?_)))
  apply Idl.value (idl_hg Try.prog h F E w) rfl rfl (by first | decide | exact Go.ConcR.Gen.base_kind _ | exact Go.ConcR.Gen.baseD_kind _ | assumption)
  focus (intro w; go_simp; (try w_num); first | done | rfl)
  focus (intro w; simp [go_sem, *])
  walk_nrm
  apply Idl.value (idl_hg Try.prog h F E w) rfl rfl (by first | decide | exact Go.ConcR.Gen.base_kind _ | exact Go.ConcR.Gen.baseD_kind _ | assumption)
  focus (intro w; go_simp; (try w_num); first | done | rfl)
  focus (intro w; simp [go_sem, *])
  walk_nrm
  apply Idl.value (idl_hg Try.prog h F E w) rfl rfl (by first | decide | exact Go.ConcR.Gen.base_kind _ | exact Go.ConcR.Gen.baseD_kind _ | assumption)
  focus (intro w; go_simp; (try w_num); first | done | rfl)
  focus (intro w; simp [go_sem, *])
  walk_nrm
  refine Idl.re (idl_hg Try.prog h F E w) (Idl.rt (idl_hg Try.prog h F E w) ?_)
  refine Idl.leaveV (n := 1) (v := .tuple #[.int .i64 0, .int .i64 0, .int .i64 0]) (idl_hg Try.prog h F E w) rfl rfl Try.func31 (fun w => by kernel_rfl) (fun w => by kernel_rfl) ?_
  exact hc
end
section
variable {F : Machine → Trace → Prop} {E : Env} {w : World}
set_option maxRecDepth 100000 in
set_option maxHeartbeats 4000000 in
theorem gateNil_walk (hrole : E.role 0 = .gone) (hmode : ∀ b, E.mode b = 0)
    (hc : ∀ E' w' T todo, Kept 0 none E w E' w' → Stands E w E' w' → T[0]? = some (.bool true) → HG Try.prog 0 F E' (G { (base 6).at ⟨T, []⟩ todo with mode := .returning } []) w') :
    HGn Try.prog 0 F E w 100 (entry 6 Try.f6 #[] []) := by
  unfold entry
  rw [show Try.f6.body.getD .skip = .seq xgn0 (.seq xgn1 gn2) from gn_parts, show Try.f6.ntmps = 41 from rfl]
  generalize hG2 : gn2 = L2
  simp only [xgn0, xgn1, gn0, gn1, gnBody, Try.f6, Option.getD_some]
  walk_nrm
  refine Idl.q (idl_hg Try.prog 0 F E w) (Idl.rg (idl_hg Try.prog 0 F E w) [0] rfl ?_)
  apply Idl.value (idl_hg Try.prog 0 F E w) rfl rfl (by first | decide | exact Go.ConcR.Gen.base_kind _ | exact Go.ConcR.Gen.baseD_kind _ | assumption)
  focus (intro w; go_simp; (try w_num); first | done | rfl)
  focus (intro w; simp [go_sem, *])
  walk_nrm
  refine Idl.re (idl_hg Try.prog 0 F E w) (Idl.q (idl_hg Try.prog 0 F E w) (Idl.rg (idl_hg Try.prog 0 F E w) [0, 1] rfl ?_))
  refine Idl.callE (fn := Try.f17) (vs := #[]) (idl_hg Try.prog 0 F E w) rfl rfl (by k_ne) rfl Try.func17 rfl rfl (by simp [Act.eval]) ?_
  refine fixed06_holds hrole hmode (fun E1 w1 hK hS => ?_)
  have hc' := fun T todo => hc E1 w1 T todo hK hS
  clear hc
  change HGn Try.prog 0 F E1 w1 200 _
  walk_nrm
  apply Idl.value (idl_hg Try.prog 0 F E1 w1) rfl rfl (by first | decide | exact Go.ConcR.Gen.base_kind _ | exact Go.ConcR.Gen.baseD_kind _ | assumption)
  focus (intro w; go_simp; (try w_num); first | done | rfl)
  focus (intro w; simp [go_sem, *])
  walk_nrm
  refine Idl.re (idl_hg Try.prog 0 F E1 w1) ?_
  rw [← hG2, show gn2 = xgn2 from rfl]
  simp only [xgn2, gn2, gnBody, Try.f6, Option.getD_some]
  refine Idl.q (idl_hg Try.prog 0 F E1 w1) (Idl.rg (idl_hg Try.prog 0 F E1 w1) [0] rfl ?_)
  apply Idl.value (idl_hg Try.prog 0 F E1 w1) rfl rfl (by first | decide | exact Go.ConcR.Gen.base_kind _ | exact Go.ConcR.Gen.baseD_kind _ | assumption)
  focus (intro w; go_simp; (try w_num); first | done | rfl)
  focus (intro w; simp [go_sem, *])
  walk_nrm
  refine Idl.re (idl_hg Try.prog 0 F E1 w1) (Idl.q (idl_hg Try.prog 0 F E1 w1) (Idl.rg (idl_hg Try.prog 0 F E1 w1) [0, 1] rfl ?_))
  apply Idl.value (idl_hg Try.prog 0 F E1 w1) rfl rfl (by first | decide | exact Go.ConcR.Gen.base_kind _ | exact Go.ConcR.Gen.baseD_kind _ | assumption)
  focus (intro w; go_simp; (try w_num); first | done | rfl)
  focus (intro w; simp [go_sem, *])
  walk_nrm
  refine Idl.callE (fn := Try.f33) (vs := #[.pointer none]) (idl_hg Try.prog 0 F E1 w1) rfl rfl (by k_ne) rfl Try.func33 rfl rfl (by simp [Act.eval]) ?_
  refine step_nil ?_
  change HGn Try.prog 0 F E1 w1 200 _
  walk_nrm
  refine Idl.re (idl_hg Try.prog 0 F E1 w1) (Idl.q (idl_hg Try.prog 0 F E1 w1) (Idl.rg (idl_hg Try.prog 0 F E1 w1) [0, 1] rfl ?_))
  apply Idl.value (idl_hg Try.prog 0 F E1 w1) rfl rfl (by first | decide | exact Go.ConcR.Gen.base_kind _ | exact Go.ConcR.Gen.baseD_kind _ | assumption)
  focus (intro w; go_simp; (try w_num); first | done | rfl)
  focus (intro w; simp [go_sem, *])
  walk_nrm
  refine Idl.callE (fn := Try.f34) (vs := #[.pointer none]) (idl_hg Try.prog 0 F E1 w1) rfl rfl (by k_ne) rfl Try.func34 rfl rfl (by simp [Act.eval]) ?_
  refine begin_nil ?_
  change HGn Try.prog 0 F E1 w1 200 _
  walk_nrm
  refine Idl.re (idl_hg Try.prog 0 F E1 w1) (Idl.q (idl_hg Try.prog 0 F E1 w1) (Idl.rg (idl_hg Try.prog 0 F E1 w1) [0, 1] rfl ?_))
  apply Idl.value (idl_hg Try.prog 0 F E1 w1) rfl rfl (by first | decide | exact Go.ConcR.Gen.base_kind _ | exact Go.ConcR.Gen.baseD_kind _ | assumption)
  focus (intro w; go_simp; (try w_num); first | done | rfl)
  focus (intro w; simp [go_sem, *])
  walk_nrm
  refine Idl.callE (fn := Try.f35) (vs := #[.pointer none]) (idl_hg Try.prog 0 F E1 w1) rfl rfl (by k_ne) rfl Try.func35 rfl rfl (by simp [Act.eval]) ?_
  refine poll_nil ?_
  change HGn Try.prog 0 F E1 w1 200 _
  walk_nrm
  refine Idl.re (idl_hg Try.prog 0 F E1 w1) (Idl.q (idl_hg Try.prog 0 F E1 w1) (Idl.rg (idl_hg Try.prog 0 F E1 w1) [0, 1] rfl ?_))
  apply Idl.value (idl_hg Try.prog 0 F E1 w1) rfl rfl (by first | decide | exact Go.ConcR.Gen.base_kind _ | exact Go.ConcR.Gen.baseD_kind _ | assumption)
  focus (intro w; go_simp; (try w_num); first | done | rfl)
  focus (intro w; simp [go_sem, *])
  walk_nrm
  refine Idl.callE (fn := Try.f36) (vs := #[.pointer none]) (idl_hg Try.prog 0 F E1 w1) rfl rfl (by k_ne) rfl Try.func36 rfl rfl (by simp [Act.eval]) ?_
  refine point_nil ?_
  change HGn Try.prog 0 F E1 w1 200 _
  walk_nrm
  refine Idl.re (idl_hg Try.prog 0 F E1 w1) (Idl.q (idl_hg Try.prog 0 F E1 w1) (Idl.rg (idl_hg Try.prog 0 F E1 w1) [0, 1, 2] rfl ?_))
  apply Idl.value (idl_hg Try.prog 0 F E1 w1) rfl rfl (by first | decide | exact Go.ConcR.Gen.base_kind _ | exact Go.ConcR.Gen.baseD_kind _ | assumption)
  focus (intro w; go_simp; (try w_num); first | done | rfl)
  focus (intro w; simp [go_sem, *])
  walk_nrm
  refine Idl.callE (fn := Try.f37) (vs := #[.pointer none]) (idl_hg Try.prog 0 F E1 w1) rfl rfl (by k_ne) rfl Try.func37 rfl rfl (by simp [Act.eval]) ?_
  refine picks_nil ?_
  change HGn Try.prog 0 F E1 w1 200 _
  walk_nrm
  apply Idl.value (idl_hg Try.prog 0 F E1 w1) rfl rfl (by first | decide | exact Go.ConcR.Gen.base_kind _ | exact Go.ConcR.Gen.baseD_kind _ | assumption)
  focus (intro w; go_simp; (try w_num); first | done | rfl)
  focus (intro w; simp [go_sem, *])
  walk_nrm
  refine Idl.re (idl_hg Try.prog 0 F E1 w1) (Idl.q (idl_hg Try.prog 0 F E1 w1) (Idl.rg (idl_hg Try.prog 0 F E1 w1) [0, 1, 2, 3, 4, 5, 6, 7, 8] rfl ?_))
  apply Idl.value (idl_hg Try.prog 0 F E1 w1) rfl rfl (by first | decide | exact Go.ConcR.Gen.base_kind _ | exact Go.ConcR.Gen.baseD_kind _ | assumption)
  focus (intro w; go_simp; (try w_num); first | done | rfl)
  focus (intro w; simp [go_sem, *])
  walk_nrm
  refine Idl.callE (fn := Try.f31) (vs := #[.pointer none]) (idl_hg Try.prog 0 F E1 w1) rfl rfl (by k_ne) rfl Try.func31 rfl rfl (by simp [Act.eval]) ?_
  refine tally_nil ?_
  change HGn Try.prog 0 F E1 w1 200 _
  walk_nrm
  apply Idl.value (idl_hg Try.prog 0 F E1 w1) rfl rfl (by first | decide | exact Go.ConcR.Gen.base_kind _ | exact Go.ConcR.Gen.baseD_kind _ | assumption)
  focus (intro w; go_simp; (try w_num); first | done | rfl)
  focus (intro w; simp [go_sem, *])
  walk_nrm
  apply Idl.value (idl_hg Try.prog 0 F E1 w1) rfl rfl (by first | decide | exact Go.ConcR.Gen.base_kind _ | exact Go.ConcR.Gen.baseD_kind _ | assumption)
  focus (intro w; go_simp; (try w_num); first | done | rfl)
  focus (intro w; simp [go_sem, *])
  walk_nrm
  apply Idl.value (idl_hg Try.prog 0 F E1 w1) rfl rfl (by first | decide | exact Go.ConcR.Gen.base_kind _ | exact Go.ConcR.Gen.baseD_kind _ | assumption)
  focus (intro w; go_simp; (try w_num); first | done | rfl)
  focus (intro w; simp [go_sem, *])
  walk_nrm
  apply Idl.value (idl_hg Try.prog 0 F E1 w1) rfl rfl (by first | decide | exact Go.ConcR.Gen.base_kind _ | exact Go.ConcR.Gen.baseD_kind _ | assumption)
  focus (intro w; go_simp; (try w_num); first | done | rfl)
  focus (intro w; simp [go_sem, *])
  walk_nrm
  apply Idl.value (idl_hg Try.prog 0 F E1 w1) rfl rfl (by first | decide | exact Go.ConcR.Gen.base_kind _ | exact Go.ConcR.Gen.baseD_kind _ | assumption)
  focus (intro w; go_simp; (try w_num); first | done | rfl)
  focus (intro w; simp [go_sem, *])
  walk_nrm
  apply Idl.value (idl_hg Try.prog 0 F E1 w1) rfl rfl (by first | decide | exact Go.ConcR.Gen.base_kind _ | exact Go.ConcR.Gen.baseD_kind _ | assumption)
  focus (intro w; go_simp; (try w_num); first | done | rfl)
  focus (intro w; simp [go_sem, *])
  walk_nrm
  apply Idl.value (idl_hg Try.prog 0 F E1 w1) rfl rfl (by first | decide | exact Go.ConcR.Gen.base_kind _ | exact Go.ConcR.Gen.baseD_kind _ | assumption)
  focus (intro w; go_simp; (try w_num); first | done | rfl)
  focus (intro w; simp [go_sem, *])
  walk_nrm
  refine Idl.re (idl_hg Try.prog 0 F E1 w1) (Idl.q (idl_hg Try.prog 0 F E1 w1) (Idl.rg (idl_hg Try.prog 0 F E1 w1) [0, 1, 2, 3, 4, 5, 6, 7, 8, 9, 10, 11, 12, 13, 14, 15, 16, 17] rfl ?_))
  apply Idl.value (idl_hg Try.prog 0 F E1 w1) rfl rfl (by first | decide | exact Go.ConcR.Gen.base_kind _ | exact Go.ConcR.Gen.baseD_kind _ | assumption)
  focus (intro w; go_simp; (try w_num); first | done | rfl)
  focus (intro w; simp [go_sem, *])
  walk_nrm
  apply Idl.value (idl_hg Try.prog 0 F E1 w1) rfl rfl (by first | decide | exact Go.ConcR.Gen.base_kind _ | exact Go.ConcR.Gen.baseD_kind _ | assumption)
  focus (intro w; go_simp; (try w_num); first | done | rfl)
  focus (intro w; simp [go_sem, *])
  walk_nrm
  apply Idl.value (idl_hg Try.prog 0 F E1 w1) rfl rfl (by first | decide | exact Go.ConcR.Gen.base_kind _ | exact Go.ConcR.Gen.baseD_kind _ | assumption)
  focus (intro w; go_simp; (try w_num); first | done | rfl)
  focus (intro w; simp [go_sem, *])
  walk_nrm
  apply Idl.value (idl_hg Try.prog 0 F E1 w1) rfl rfl (by first | decide | exact Go.ConcR.Gen.base_kind _ | exact Go.ConcR.Gen.baseD_kind _ | assumption)
  focus (intro w; go_simp; (try w_num); first | done | rfl)
  focus (intro w; simp [go_sem, *])
  walk_nrm
  apply Idl.value (idl_hg Try.prog 0 F E1 w1) rfl rfl (by first | decide | exact Go.ConcR.Gen.base_kind _ | exact Go.ConcR.Gen.baseD_kind _ | assumption)
  focus (intro w; go_simp; (try w_num); first | done | rfl)
  focus (intro w; simp [go_sem, *])
  walk_nrm
  apply Idl.value (idl_hg Try.prog 0 F E1 w1) rfl rfl (by first | decide | exact Go.ConcR.Gen.base_kind _ | exact Go.ConcR.Gen.baseD_kind _ | assumption)
  focus (intro w; go_simp; (try w_num); first | done | rfl)
  focus (intro w; simp [go_sem, *])
  walk_nrm
  apply Idl.value (idl_hg Try.prog 0 F E1 w1) rfl rfl (by first | decide | exact Go.ConcR.Gen.base_kind _ | exact Go.ConcR.Gen.baseD_kind _ | assumption)
  focus (intro w; go_simp; (try w_num); first | done | rfl)
  focus (intro w; simp [go_sem, *])
  walk_nrm
  apply Idl.value (idl_hg Try.prog 0 F E1 w1) rfl rfl (by first | decide | exact Go.ConcR.Gen.base_kind _ | exact Go.ConcR.Gen.baseD_kind _ | assumption)
  focus (intro w; go_simp; (try w_num); first | done | rfl)
  focus (intro w; simp [go_sem, *])
  walk_nrm
  apply Idl.value (idl_hg Try.prog 0 F E1 w1) rfl rfl (by first | decide | exact Go.ConcR.Gen.base_kind _ | exact Go.ConcR.Gen.baseD_kind _ | assumption)
  focus (intro w; go_simp; (try w_num); first | done | rfl)
  focus (intro w; simp [go_sem, *])
  walk_nrm
  apply Idl.value (idl_hg Try.prog 0 F E1 w1) rfl rfl (by first | decide | exact Go.ConcR.Gen.base_kind _ | exact Go.ConcR.Gen.baseD_kind _ | assumption)
  focus (intro w; go_simp; (try w_num); first | done | rfl)
  focus (intro w; simp [go_sem, *])
  walk_nrm
  apply Idl.value (idl_hg Try.prog 0 F E1 w1) rfl rfl (by first | decide | exact Go.ConcR.Gen.base_kind _ | exact Go.ConcR.Gen.baseD_kind _ | assumption)
  focus (intro w; go_simp; (try w_num); first | done | rfl)
  focus (intro w; simp [go_sem, *])
  walk_nrm
  apply Idl.value (idl_hg Try.prog 0 F E1 w1) rfl rfl (by first | decide | exact Go.ConcR.Gen.base_kind _ | exact Go.ConcR.Gen.baseD_kind _ | assumption)
  focus (intro w; go_simp; (try w_num); first | done | rfl)
  focus (intro w; simp [go_sem, *])
  walk_nrm
  apply Idl.value (idl_hg Try.prog 0 F E1 w1) rfl rfl (by first | decide | exact Go.ConcR.Gen.base_kind _ | exact Go.ConcR.Gen.baseD_kind _ | assumption)
  focus (intro w; go_simp; (try w_num); first | done | rfl)
  focus (intro w; simp [go_sem, *])
  walk_nrm
  apply Idl.value (idl_hg Try.prog 0 F E1 w1) rfl rfl (by first | decide | exact Go.ConcR.Gen.base_kind _ | exact Go.ConcR.Gen.baseD_kind _ | assumption)
  focus (intro w; go_simp; (try w_num); first | done | rfl)
  focus (intro w; simp [go_sem, *])
  walk_nrm
  apply Idl.value (idl_hg Try.prog 0 F E1 w1) rfl rfl (by first | decide | exact Go.ConcR.Gen.base_kind _ | exact Go.ConcR.Gen.baseD_kind _ | assumption)
  focus (intro w; go_simp; (try w_num); first | done | rfl)
  focus (intro w; simp [go_sem, *])
  walk_nrm
  apply Idl.value (idl_hg Try.prog 0 F E1 w1) rfl rfl (by first | decide | exact Go.ConcR.Gen.base_kind _ | exact Go.ConcR.Gen.baseD_kind _ | assumption)
  focus (intro w; go_simp; (try w_num); first | done | rfl)
  focus (intro w; simp [go_sem, *])
  walk_nrm
  apply Idl.value (idl_hg Try.prog 0 F E1 w1) rfl rfl (by first | decide | exact Go.ConcR.Gen.base_kind _ | exact Go.ConcR.Gen.baseD_kind _ | assumption)
  focus (intro w; go_simp; (try w_num); first | done | rfl)
  focus (intro w; simp [go_sem, *])
  walk_nrm
  apply Idl.value (idl_hg Try.prog 0 F E1 w1) rfl rfl (by first | decide | exact Go.ConcR.Gen.base_kind _ | exact Go.ConcR.Gen.baseD_kind _ | assumption)
  focus (intro w; go_simp; (try w_num); first | done | rfl)
  focus (intro w; simp [go_sem, *])
  walk_nrm
  refine Idl.re (idl_hg Try.prog 0 F E1 w1) (Idl.rt (idl_hg Try.prog 0 F E1 w1) ?_)
  trace_state
  exact hc' _ _ (by simp)
end
end Go.Proofs.Ytimlbbleblijnaa.Co
