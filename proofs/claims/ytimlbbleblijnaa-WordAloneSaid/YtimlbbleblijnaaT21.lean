/- Lemmas for the laws of this seat, laid together of PHe0, PHe, PHf, PHg, PGda, PGdb. -/
import Derived.Test.YtimlbbleblijnaaT18
import Derived.Test.YtimlbbleblijnaaT19
import Derived.Test.YtimlbbleblijnaaT20
import Derived.Conc.CompanyDraw
import Derived.BigQuiet
import Derived.Deep.QuietTactic

namespace Go.Proofs.Ytimlbbleblijnaa.Co
open Go Go.Conc
set_option linter.unusedVariables false
set_option linter.unusedSimpArgs false
theorem terms_aw (W : Nat → Bool) (H : Nat → Option Nat) (S : Addr → Prop) (Cs : Nat → Prop) : Terms (Aw W) (DG H W S Cs) := ⟨Aw.trans, fun w => DG.idle _ _ _ _ w⟩
theorem aw_draw {W : Nat → Bool} {w w₁ : World} (h : Aw W w w₁) (n : Nat) : Aw W w { w₁ with drawn := n } := by
  obtain ⟨a1, a2, a3, a4, a5, a6⟩ := h
  exact ⟨a1, a2, a3, a4, a5, a6⟩
section
variable {P : Program} {h : Nat} {F : Machine → Trace → Prop} {E : Env} {w : World}
theorem HG.looks {fr : Frame} {a aF : Act} {k : List Item} {cs : List Frame} {rid : Nat} {ops : Array Oper} {S : World → Prop} (hm : P.follows .mixedOrders = true) (hk : fr.kind = .normal)
    (hany : ∀ w₁, Aw E.W w w₁ → AnyCH P (Aw E.W) E.D fr.fn .any ops (fun e a' w' => e = .normal ∧ a' = aF ∧ Aw E.W w w') S ops.size (Array.replicate ops.size false) a { w₁ with drawn := w₁.drawn + 1 })
    (hg : ∀ w', Aw E.W w w' → HG P h F E (G (fr.at aF k) cs) w') : HG P h F E (G (fr.at a (.code (.region rid ops true) :: k)) cs) w := by
  have T : Terms (Aw E.W) E.D := terms_aw _ _ _ _
  have hd : LetsDraw E.D := fun w => ⟨Nat.le_refl _, fun _ _ => rfl, fun _ _ => rfl, fun _ _ x _ _ _ h => ⟨x, h⟩, fun f => (by cases f; constructor <;> assumption), fun e he => by simp at he, SameIo.refl _⟩
  have hW := wpC_region_held (P := P) (main := h == 0) (R := Aw E.W) (D := E.D) (fn := fr.fn) (ops := ops) (Q := fun e a' w' => e = .normal ∧ a' = aF ∧ Aw E.W w w') (S := S) T hd (id := rid) (a := a) (w := w) hm hany
  refine (HG.clo P h F E).goes _ _ (GoesW.of_goes (n := 0 + (ops.size + 1 + 1)) ?_)
  refine wpC_goes hW rfl (by rw [hk]; decide) (fun e a' w' ⟨q1, q2, q3⟩ => ?_)
  subst q1 q2
  exact Goes.stop (fun w₁ hA => hg w₁ (Aw.trans _ _ _ q3 hA))
end
section
variable {P : Program} {W : Nat → Bool} {H : Nat → Option Nat} {Sx : Addr → Prop} {Cs : Nat → Prop} {fn : FuncId} {ops : Array Oper} {S : World → Prop} {o : Oper} {v : Value} {a : Act}
theorem yields_pure (hw : Region.wanted o (yielded ops a.tmps) = true) (hr : ∀ w, (execOp a.eval o).run P w = .ok (.value v) w) (he : ∀ w, (execOp a.eval o).events P w #[] = #[]) : YieldsIfC P (DG H W Sx Cs) fn ops S o v a :=
  .inl ⟨hw, fun w _ => ⟨hr w, Nat.le_refl _, fun _ _ => rfl, fun _ _ => rfl, fun _ _ x _ _ _ h => ⟨x, h⟩, id, fun e hh => by
    have := mem_listed hh
    rw [he w] at this
    simp at this, SameIo.refl _⟩⟩
theorem yields_ld {ad : Addr} (hS : ∀ w, S w → w.cell? ad = some v) (hp : W ad.block = false) (hw : Region.wanted o (yielded ops a.tmps) = true)
    (hr : ∀ w, w.cell? ad = some v → (execOp a.eval o).run P w = .ok (.value v) w ∧ ∀ e ∈ (execOp a.eval o).events P w #[], e = ⟨.cell ad, false, false⟩) : YieldsIfC P (DG H W Sx Cs) fn ops S o v a :=
  .inl ⟨hw, fun w hs => by
    have hc := hS w hs
    obtain ⟨e1, e2⟩ := hr w hc
    refine ⟨e1, Nat.le_refl _, fun _ _ => rfl, fun _ _ => rfl, fun _ _ x _ _ _ h => ⟨x, h⟩, id, fun e hh => ?_, SameIo.refl _⟩
    rw [e2 e (mem_listed hh)]
    exact evG_plain (lt_of_cell hc) (fun z => by rw [hp] at z; cases z) (fun z => by cases z)⟩
end
noncomputable def tyB : Code := Try.f31.body.getD .skip
noncomputable def tyA : Code := match tyB with | .seq x _ => x | _ => .skip
noncomputable def tyC : Code := match tyB with | .seq _ (.seq x _) => x | _ => .skip
noncomputable def ty3 : Code := match tyB with | .seq _ (.seq _ (.seq x _)) => x | _ => .skip
theorem ty_parts : tyB = .seq tyA (.seq tyC (.seq ty3 .ret)) := by kernel_rfl
noncomputable def xtyA : Code := tyA
noncomputable def xtyC : Code := tyC
section
variable {h : Nat} {F : Machine → Trace → Prop} {E : Env} {w : World} {b₀ : Frame} {a₀ : Act} {ops₀ : Array Oper} {i₀ : Nat} {rest₀ : List Nat} {k₀ : List Item} {cl : List Frame}
set_option maxRecDepth 100000 in
set_option maxHeartbeats 4000000 in
theorem tally_own {gb rb ct cs : Nat} {en fr : Bool} {s p q : Int} {ty : TypeId} (hG : w.heap[gb]? = some (gateObj rb ct cs en fr s p q ty)) (hW : E.W gb = false)
    (hc : ∀ E1 w1, AtE h E w E1 w1 → HG Try.prog h F E1 (G (b₀.at (a₀.put ((ops₀[i₀]?).bind (·.dst)) (.tuple #[.int .i64 s, .int .i64 p, .int .i64 q])) (.inRegion ops₀ rest₀ :: k₀)) cl) w1) :
    HGn Try.prog h F E w 100 (entry 31 Try.f31 #[.pointer (some ⟨gb, 0, none⟩)] (b₀.at a₀ (.inRegion ops₀ (i₀ :: rest₀) :: k₀) :: cl)) := by
  unfold entry
  rw [show Try.f31.body.getD .skip = .seq xtyA (.seq xtyC (.seq ty3 .ret)) from ty_parts, show Try.f31.ntmps = 19 from rfl]
  replace hG := Lib.hid hG
  replace hc := Lib.hid hc
  generalize hG3 : ty3 = L3
  simp only [xtyA, xtyC, tyA, tyC, tyB, Try.f31, Option.getD_some]
  walk_nrm
  refine Idl.q (idl_hg Try.prog h F E w) (Idl.rg (idl_hg Try.prog h F E w) [0, 1, 2] rfl ?_)
  apply Idl.value (idl_hg Try.prog h F E w) rfl rfl (by first | decide | exact Go.ConcR.Gen.base_kind _ | exact Go.ConcR.Gen.baseD_kind _ | assumption)
  focus (intro w; go_simp; (try w_num); first | done | rfl)
  focus (intro w; simp [go_sem, *])
  walk_nrm
  apply Idl.value (idl_hg Try.prog h F E w) rfl rfl (by first | decide | exact Go.ConcR.Gen.base_kind _ | exact Go.ConcR.Gen.baseD_kind _ | assumption)
  focus (intro w; go_simp; (try w_num); first | done | rfl)
  focus (intro w; simp [go_sem, *])
  walk_nrm
  apply Idl.value (idl_hg Try.prog h F E w) rfl rfl (by first | decide | exact Go.ConcR.Gen.base_kind _ | exact Go.ConcR.Gen.baseD_kind _ | assumption)
  focus (intro w; go_simp; (try w_num); first | done | rfl)
  focus (intro w; simp [go_sem, *])
  walk_nrm
  refine Idl.re (idl_hg Try.prog h F E w) (Idl.q (idl_hg Try.prog h F E w) (Idl.q (idl_hg Try.prog h F E w) (Idl.rg (idl_hg Try.prog h F E w) [0, 1] rfl ?_)))
  apply Idl.value (idl_hg Try.prog h F E w) rfl rfl (by first | decide | exact Go.ConcR.Gen.base_kind _ | exact Go.ConcR.Gen.baseD_kind _ | assumption)
  focus (intro w; go_simp; (try w_num); first | done | rfl)
  focus (intro w; simp [go_sem, *])
  walk_nrm
  refine Idl.value (v := .bool false) (idl_hg Try.prog h F E w) rfl rfl (by k_ne) (fun w => by kernel_rfl) (fun w => by kernel_rfl) ?_
  walk_nrm
  refine Idl.re (idl_hg Try.prog h F E w) (Idl.cf (idl_hg Try.prog h F E w) rfl (Idl.sk (idl_hg Try.prog h F E w) (Idl.q (idl_hg Try.prog h F E w) ?_)))
  rw [← hG3]
  simp only [ty3, tyB, Try.f31, Option.getD_some]
  have hSR : ∀ x y : World, x.heap[gb]? = some (gateObj rb ct cs en fr s p q ty) → Aw E.W x y → y.heap[gb]? = some (gateObj rb ct cs en fr s p q ty) := fun x y hx hA => by rw [hA.heap _ hW]; exact hx
  have T : Terms (Aw E.W) E.D := terms_aw _ _ _ _
  obtain ⟨aF, haF⟩ : ∃ aF : Act, aF = ⟨#[.pointer (some ⟨gb, 0, none⟩), undef, .int .i64 s, .int .i64 p, .int .i64 q, .pointer (some ⟨gb, 0, none⟩), .bool false, .pointer (some ⟨gb, 0, none⟩), .pointer (some ⟨gb, 0, none⟩), .pointer (some ⟨gb, 5, none⟩), .int .i64 s, .pointer (some ⟨gb, 0, none⟩), .pointer (some ⟨gb, 0, none⟩), .pointer (some ⟨gb, 6, none⟩), .int .i64 p, .pointer (some ⟨gb, 0, none⟩), .pointer (some ⟨gb, 0, none⟩), .pointer (some ⟨gb, 7, none⟩), .int .i64 q], []⟩ := ⟨_, rfl⟩
  refine HG.looks (S := fun x => x.heap[gb]? = some (gateObj rb ct cs en fr s p q ty)) (aF := aF) (by kernel_rfl) (by rfl) (fun w₁ hA => ?_) (fun w' hA => ?_)
  · have hS1 : w₁.heap[gb]? = some (gateObj rb ct cs en fr s p q ty) := hSR w w₁ hG.out hA
    have hQR : ∀ (a : Act) (x y : World), (Exit.normal = Exit.normal ∧ a = aF ∧ Aw E.W w x) → Aw E.W x y → (Exit.normal = Exit.normal ∧ a = aF ∧ Aw E.W w y) := fun a x y ⟨q1, q2, q3⟩ hxy => ⟨q1, q2, Aw.trans _ _ _ q3 hxy⟩
    have hA1 := aw_draw hA (w₁.drawn + 1)
    replace hA1 := Lib.hid hA1
    replace haF := Lib.hid haF
    clear hA hG hc
    refine anyCH_take T hSR hQR (i := 0) (v := .pointer (some ⟨gb, 0, none⟩)) rfl (by kernel_rfl) (by kernel_rfl) (by kernel_rfl) (yields_pure (by rfl) (fun w => by go_simp) (fun w => by simp [go_sem])) hS1 ?_
    simp only [Act.put, List.setIfInBounds_toArray, List.set_cons_zero, List.set_cons_succ, List.getElem_toArray, List.getElem_cons_succ, List.getElem_cons_zero]
    refine anyCH_take T hSR hQR (i := 1) (v := .pointer (some ⟨gb, 0, none⟩)) rfl (by kernel_rfl) (by kernel_rfl) (by kernel_rfl) (yields_pure (by rfl) (fun w => by go_simp) (fun w => by simp [go_sem])) hS1 ?_
    simp only [Act.put, List.setIfInBounds_toArray, List.set_cons_zero, List.set_cons_succ, List.getElem_toArray, List.getElem_cons_succ, List.getElem_cons_zero]
    refine anyCH_take T hSR hQR (i := 2) (v := .pointer (some ⟨gb, 5, none⟩)) rfl (by kernel_rfl) (by kernel_rfl) (by kernel_rfl) (yields_pure (by rfl) (fun w => by go_simp) (fun w => by simp [go_sem])) hS1 ?_
    simp only [Act.put, List.setIfInBounds_toArray, List.set_cons_zero, List.set_cons_succ, List.getElem_toArray, List.getElem_cons_succ, List.getElem_cons_zero]
    refine anyCH_take T hSR hQR (i := 3) (v := .int .i64 s) rfl (by kernel_rfl) (by kernel_rfl) (by kernel_rfl) (yields_ld (ad := ⟨gb, 5, none⟩) (fun w hs => obj_cell (by unfold gateObj at hs; exact hs) rfl) hW (by rfl) (fun w hc => ⟨by go_simp, fun e he => by (have he' := he; simp [go_sem, hc] at he'; exact he')⟩)) hS1 ?_
    simp only [Act.put, List.setIfInBounds_toArray, List.set_cons_zero, List.set_cons_succ, List.getElem_toArray, List.getElem_cons_succ, List.getElem_cons_zero]
    refine anyCH_take T hSR hQR (i := 4) (v := .pointer (some ⟨gb, 0, none⟩)) rfl (by kernel_rfl) (by kernel_rfl) (by kernel_rfl) (yields_pure (by rfl) (fun w => by go_simp) (fun w => by simp [go_sem])) hS1 ?_
    simp only [Act.put, List.setIfInBounds_toArray, List.set_cons_zero, List.set_cons_succ, List.getElem_toArray, List.getElem_cons_succ, List.getElem_cons_zero]
    refine anyCH_take T hSR hQR (i := 5) (v := .pointer (some ⟨gb, 0, none⟩)) rfl (by kernel_rfl) (by kernel_rfl) (by kernel_rfl) (yields_pure (by rfl) (fun w => by go_simp) (fun w => by simp [go_sem])) hS1 ?_
    simp only [Act.put, List.setIfInBounds_toArray, List.set_cons_zero, List.set_cons_succ, List.getElem_toArray, List.getElem_cons_succ, List.getElem_cons_zero]
    refine anyCH_take T hSR hQR (i := 6) (v := .pointer (some ⟨gb, 6, none⟩)) rfl (by kernel_rfl) (by kernel_rfl) (by kernel_rfl) (yields_pure (by rfl) (fun w => by go_simp) (fun w => by simp [go_sem])) hS1 ?_
    simp only [Act.put, List.setIfInBounds_toArray, List.set_cons_zero, List.set_cons_succ, List.getElem_toArray, List.getElem_cons_succ, List.getElem_cons_zero]
    refine anyCH_take T hSR hQR (i := 7) (v := .int .i64 p) rfl (by kernel_rfl) (by kernel_rfl) (by kernel_rfl) (yields_ld (ad := ⟨gb, 6, none⟩) (fun w hs => obj_cell (by unfold gateObj at hs; exact hs) rfl) hW (by rfl) (fun w hc => ⟨by go_simp, fun e he => by (have he' := he; simp [go_sem, hc] at he'; exact he')⟩)) hS1 ?_
    simp only [Act.put, List.setIfInBounds_toArray, List.set_cons_zero, List.set_cons_succ, List.getElem_toArray, List.getElem_cons_succ, List.getElem_cons_zero]
    refine anyCH_take T hSR hQR (i := 8) (v := .pointer (some ⟨gb, 0, none⟩)) rfl (by kernel_rfl) (by kernel_rfl) (by kernel_rfl) (yields_pure (by rfl) (fun w => by go_simp) (fun w => by simp [go_sem])) hS1 ?_
    simp only [Act.put, List.setIfInBounds_toArray, List.set_cons_zero, List.set_cons_succ, List.getElem_toArray, List.getElem_cons_succ, List.getElem_cons_zero]
    refine anyCH_take T hSR hQR (i := 9) (v := .pointer (some ⟨gb, 0, none⟩)) rfl (by kernel_rfl) (by kernel_rfl) (by kernel_rfl) (yields_pure (by rfl) (fun w => by go_simp) (fun w => by simp [go_sem])) hS1 ?_
    simp only [Act.put, List.setIfInBounds_toArray, List.set_cons_zero, List.set_cons_succ, List.getElem_toArray, List.getElem_cons_succ, List.getElem_cons_zero]
    refine anyCH_take T hSR hQR (i := 10) (v := .pointer (some ⟨gb, 7, none⟩)) rfl (by kernel_rfl) (by kernel_rfl) (by kernel_rfl) (yields_pure (by rfl) (fun w => by go_simp) (fun w => by simp [go_sem])) hS1 ?_
    simp only [Act.put, List.setIfInBounds_toArray, List.set_cons_zero, List.set_cons_succ, List.getElem_toArray, List.getElem_cons_succ, List.getElem_cons_zero]
    refine anyCH_take T hSR hQR (i := 11) (v := .int .i64 q) rfl (by kernel_rfl) (by kernel_rfl) (by kernel_rfl) (yields_ld (ad := ⟨gb, 7, none⟩) (fun w hs => obj_cell (by unfold gateObj at hs; exact hs) rfl) hW (by rfl) (fun w hc => ⟨by go_simp, fun e he => by (have he' := he; simp [go_sem, hc] at he'; exact he')⟩)) hS1 ?_
    simp only [Act.put, List.setIfInBounds_toArray, List.set_cons_zero, List.set_cons_succ, List.getElem_toArray, List.getElem_cons_succ, List.getElem_cons_zero]
    refine anyCH_take T hSR hQR (i := 12) (v := .int .i64 s) rfl (by kernel_rfl) (by kernel_rfl) (by kernel_rfl) (yields_pure (by rfl) (fun w => by go_simp) (fun w => by simp [go_sem])) hS1 ?_
    simp only [Act.put, List.setIfInBounds_toArray, List.set_cons_zero, List.set_cons_succ, List.getElem_toArray, List.getElem_cons_succ, List.getElem_cons_zero]
    refine anyCH_take T hSR hQR (i := 13) (v := .int .i64 p) rfl (by kernel_rfl) (by kernel_rfl) (by kernel_rfl) (yields_pure (by rfl) (fun w => by go_simp) (fun w => by simp [go_sem])) hS1 ?_
    simp only [Act.put, List.setIfInBounds_toArray, List.set_cons_zero, List.set_cons_succ, List.getElem_toArray, List.getElem_cons_succ, List.getElem_cons_zero]
    refine anyCH_take T hSR hQR (i := 14) (v := .int .i64 q) rfl (by kernel_rfl) (by kernel_rfl) (by kernel_rfl) (yields_pure (by rfl) (fun w => by go_simp) (fun w => by simp [go_sem])) hS1 ?_
    simp only [Act.put, List.setIfInBounds_toArray, List.set_cons_zero, List.set_cons_succ, List.getElem_toArray, List.getElem_cons_succ, List.getElem_cons_zero]
    refine anyCH_done (by kernel_rfl) ⟨rfl, haF.out.symm, hA1.out⟩ _
  · subst haF
    change HGn Try.prog h F E w' 100 _
    refine Idl.step (idl_hg Try.prog h F E w') _ _ _ rfl (fun _ => stepG_ret') ?_
    refine Idl.leaveV (n := 1) (v := .tuple #[.int .i64 s, .int .i64 p, .int .i64 q]) (fn := Try.f31) (idl_hg Try.prog h F E w') rfl rfl Try.func31 (fun w => by simp [results, Try.f31, go_sem]) (fun w => by simp [results, Try.f31, go_sem]) ?_
    exact hc.out E w' ⟨.refl h E, hA⟩
end
end Go.Proofs.Ytimlbbleblijnaa.Co

namespace Go.Proofs.Ytimlbbleblijnaa.Co
open Go Go.Conc Go.RowKit
set_option linter.unusedVariables false
set_option linter.unusedSimpArgs false
structure AS where
  held : Int
  ok : Bool
  st : Int
structure AL where
  i : Nat
  c : Nat
  v : Int
inductive AdvA (ops : List Op3) (c : Nat) : Nat → AS → AS × Option AL → Prop
  | stop {i s} (h : ops.length ≤ i) : AdvA ops c i s ({ s with ok := true, st := (c : Int) }, none)
  | call {i s} {op : Op3} (h : ops[i]? = some op) (hc : isC op.1 = true) : AdvA ops c i s (s, some ⟨i, c, s.held⟩)
  | skip {i s z} {op : Op3} (h : ops[i]? = some op) (hc : isC op.1 = false) (t : AdvA ops c (i + 1) s z) : AdvA ops c i s z
theorem AdvA.held {ops : List Op3} {c i : Nat} {s : AS} {z : AS × Option AL} (h : AdvA ops c i s z) {s' : AS} {l' : AL} : z = (s', some l') → s'.held = l'.v := by
  induction h with
  | stop => intro e; cases e
  | call => intro e; cases e; rfl
  | skip _ _ _ ih => exact ih
structure AM (xb okb stb : Nat) (K : Nat → Obj → Prop) (s : AS) (E : Env) (w : World) : Prop where
  word : WordAt w ⟨xb, 0, none⟩ s.held
  wordH : E.H xb = none
  okc : w.heap[okb]? = some (.cells #[.bool s.ok] 4)
  okH : E.H okb = none
  stc : w.heap[stb]? = some (.cells #[.int .i64 s.st] 3)
  stH : E.H stb = none
  kobj : ∀ b o, K b o → w.heap[b]? = some o ∧ E.H b = none ∧ b ≠ xb ∧ b ≠ okb ∧ b ≠ stb
  d1 : xb ≠ okb
  d2 : xb ≠ stb
  d3 : okb ≠ stb
  rng : -9223372036854775808 ≤ s.held ∧ s.held ≤ 9223372036854775807
theorem kept_vis {j b o : Nat} {gb : Option Nat} {E : Env} {w : World} {v : Value} (hH : E.H b = none) (hW : E.W b = false) : Kept j gb E w E (w.setCell ⟨b, o, none⟩ v) :=
  ⟨.refl j E, by simp [World.setCell], fun c n hc _ _ _ => heap_setCell_ne (a := ⟨b, o, none⟩) (fun e => by have e' : b = c := e; rw [← e', hH] at hc; cases hc), fun c hc x st sm e hx => ⟨st, sm, by rw [heap_setCell_ne (a := ⟨b, o, none⟩) (fun z => by have z' : b = c := z; rw [z', hc] at hW; cases hW)]; exact hx⟩, fun _ _ h => .inl h, fun _ h => .inl h⟩
theorem AM.konst {xb okb stb : Nat} {K : Nat → Obj → Prop} {s : AS} {E : Env} {w : World} (m : AM xb okb stb K s E w) (a : Addr) (v : Value) (h : KC K a v) : w.cell? a = some v ∧ E.H a.block = none := by
  obtain ⟨o, h1, h2⟩ := h
  obtain ⟨k1, k2, _⟩ := m.kobj _ _ h1
  exact ⟨h2 w k1, k2⟩
theorem AM.move {xb okb stb : Nat} {K : Nat → Obj → Prop} {s : AS} {E E' : Env} {w w' : World} (m : AM xb okb stb K s E w) (hb : ∀ b, b < w.heap.size → E.H b = none → E'.H b = none ∧ w'.heap[b]? = w.heap[b]?) : AM xb okb stb K s E' w' := by
  obtain ⟨h0, c, t, h1, h2⟩ := m.word
  have l1 := (Array.getElem?_eq_some_iff.1 h1).1
  have l2 := (Array.getElem?_eq_some_iff.1 m.okc).1
  have l3 := (Array.getElem?_eq_some_iff.1 m.stc).1
  refine ⟨m.word.same (hb xb l1 m.wordH).2, (hb xb l1 m.wordH).1, (hb okb l2 m.okH).2.trans m.okc, (hb okb l2 m.okH).1, (hb stb l3 m.stH).2.trans m.stc, (hb stb l3 m.stH).1, fun b o hk => ?_, m.d1, m.d2, m.d3, m.rng⟩
  obtain ⟨k1, k2, k3⟩ := m.kobj b o hk
  have l4 := (Array.getElem?_eq_some_iff.1 k1).1
  exact ⟨(hb b l4 k2).2.trans k1, (hb b l4 k2).1, k3⟩
theorem AM.still {xb okb stb j : Nat} {K : Nat → Obj → Prop} {s : AS} {E E' : Env} {w w' : World} (m : AM xb okb stb K s E w) (S : Still j E w E' w') : AM xb okb stb K s E' w' :=
  m.move fun b hb hn => by
    obtain ⟨s1, s2⟩ := S.st b _ hn (Array.getElem?_eq_getElem hb)
    exact ⟨s1, by rw [s2, Array.getElem?_eq_getElem hb]⟩
theorem AM.wset {xb okb stb : Nat} {K : Nat → Obj → Prop} {s : AS} {E E' : Env} {w w' : World} {n : Int} (m : AM xb okb stb K s E w) (S : WSet E w E' w' ⟨xb, 0, none⟩ n) (hn : -9223372036854775808 ≤ n ∧ n ≤ 9223372036854775807) : AM xb okb stb K { s with held := n } E' w' := by
  refine ⟨S.word m.word, by rw [S.H]; exact m.wordH, (S.stands m.okH m.okc (Ne.symm m.d1)).2, (S.stands m.okH m.okc (Ne.symm m.d1)).1, (S.stands m.stH m.stc (Ne.symm m.d2)).2, (S.stands m.stH m.stc (Ne.symm m.d2)).1, fun b o hk => ?_, m.d1, m.d2, m.d3, hn⟩
  obtain ⟨k1, k2, k3⟩ := m.kobj b o hk
  exact ⟨(S.stands k2 k1 k3.1).2, (S.stands k2 k1 k3.1).1, k3⟩
def aloneD (ops : List Op3) (xb okb stb : Nat) (K : Nat → Obj → Prop) : Prot AS AL where
  M := AM xb okb stb K
  next ℓ k s z := ∃ op, ops[ℓ.i]? = some op ∧ AdvA ops (ℓ.c + 1) (ℓ.i + 1) { s with held := (doW s.held op.1 op.2.2).1 } z
  fits ℓ s := s.held = ℓ.v
  who _ := 0
  init t s := t = 0 → s.held = 0
  mono := fun ℓ k s s' o l2 h1 h2 hw => absurd rfl hw
  fresh := fun ℓ k s s' l' h1 ⟨op, h2, h3⟩ => by
    exact ⟨h3.held rfl, rfl⟩
  tal ℓ := ((ℓ.c : Int), 0, 0)
  closed := fun s E w E' w' m hb => m.move hb
theorem alone_start {ops : List Op3} {xb okb stb : Nat} {K : Nat → Obj → Prop} : StartOk (aloneD ops xb okb stb K) 0 (AdvA ops 0 0) := by
  refine ⟨fun s s' o l2 hi ha hw => absurd hw (Nat.not_lt_zero _), fun s s' l' hi h3 => ⟨h3.held rfl, rfl⟩, fun s s' o hi h e => absurd e (by omega)⟩
noncomputable def aB : Code := Try.f30.body.getD .skip
noncomputable def a0 : Code := match aB with | .seq x _ => x | _ => .skip
noncomputable def a1 : Code := match aB with | .seq _ x => x | _ => .skip
theorem aB_parts : aB = .seq a0 a1 := by kernel_rfl
noncomputable def xa0 : Code := a0
noncomputable def xa1 : Code := a1
section
variable {h rb xb okb stb : Nat} {home : Goroutine → Prop} {k : Int} {th : Th} {F : Machine → Trace → Prop} {E : Env} {w : World} {s : AS} {K : Nat → Obj → Prop} {ops : List Op3} {b₀ : Frame} {a₀ : Act} {ops₀ : Array Oper} {i₀ : Nat} {rest₀ : List Nat} {k₀ : List Item} {cl : List Frame}
set_option maxRecDepth 100000 in
set_option maxHeartbeats 2000000 in
theorem alone_end {T : Array Value} {c : Int} (hs : T.size = 16) (t0 : T[0]? = some (.pointer (some ⟨th.gb, 0, none⟩))) (t3 : T[3]? = some (.pointer (some ⟨okb, 0, none⟩))) (t4 : T[4]? = some (.pointer (some ⟨stb, 0, none⟩))) (t9 : T[9]? = some (.bool true))
    (TK : TKn h rb home k th E w) (g : GA w rb th false false (c, 0, 0)) (m : AM xb okb stb K s E w) (L : LiveRet th.gb th.box rb b₀ a₀ ops₀ i₀ rest₀ k₀ cl)
    (B : Back (aloneD ops xb okb stb K) h rb home th F E w { s with ok := true, st := c } none (.ender rb)) {ops' : Array Oper} (ho : ops' = (match a0 with | .region _ o _ => o | _ => #[])) :
    HGn Try.prog th.j F E w 100 (G ((base 30).at ⟨T, []⟩ (.inRegion ops' [4] :: [.code a1])) (b₀.at a₀ (.inRegion ops₀ (i₀ :: rest₀) :: k₀) :: cl)) := by
  subst ho
  refine HG.withV fun hV => HG.withH fun hWH _ => ?_
  have hWn : ∀ b, E.H b = none → E.W b = false := fun b hb => by
    cases e : E.W b with
    | false => rfl
    | true => have := hWH b e; rw [hb] at this; cases this
  obtain ⟨f, hf, fz⟩ := arrfv T hs
  have e0 := fz 0 _ t0
  have e3 := fz 3 _ t3
  have e4 := fz 4 _ t4
  have e9 := fz 9 _ t9
  subst hf
  clear fz t0 t3 t4 t9 hs
  have c1 := obj_cell m.okc (o := 0) rfl
  have z1 := obj_thaw m.okc 0
  have W1 := hWn _ m.okH
  have V1 := fun i => hV i ⟨okb, 0, none⟩ m.okH
  have W2 := hWn _ m.stH
  have V2 := fun i => hV i ⟨stb, 0, none⟩ m.stH
  have hrole := TK.role
  obtain ⟨wA, hwA⟩ : ∃ wA, wA = w.setCell ⟨okb, 0, none⟩ (.bool true) := ⟨_, rfl⟩
  have KA : Kept th.j (some th.gb) E w E wA := by rw [hwA]; exact kept_vis m.okH W1
  have TA := TK.kept KA TK.gct
  have gA : GA wA rb th false false (c, 0, 0) := by
    unfold GA at g ⊢
    rw [hwA, heap_setCell_ne (a := ⟨okb, 0, none⟩) (fun e => by have e' : okb = th.gb := e; have := TK.gH; rw [← e', m.okH] at this; cases this)]
    exact g
  have mA : AM xb okb stb K { s with ok := true } E wA := by
    have ho : ∀ b, b ≠ okb → wA.heap[b]? = w.heap[b]? := fun b hb => by rw [hwA]; exact heap_setCell_ne (a := ⟨okb, 0, none⟩) (fun e => hb e.symm)
    refine ⟨m.word.same (ho xb m.d1), m.wordH, by rw [hwA]; exact heap_set (a := ⟨okb, 0, none⟩) (w := w) rfl m.okc, m.okH, (ho stb (Ne.symm m.d3)).trans m.stc, m.stH, fun b o hk => ?_, m.d1, m.d2, m.d3, m.rng⟩
    obtain ⟨k1, k2, k3⟩ := m.kobj b o hk
    exact ⟨(ho b k3.2.1).trans k1, k2, k3⟩
  have hfin : ∀ E1 w1, AtE th.j E wA E1 w1 → HGn Try.prog th.j F E1 (w1.setCell ⟨stb, 0, none⟩ (.int .i64 c)) 100 (G (b₀.at (a₀.put ((ops₀[i₀]?).bind (·.dst)) (.tuple #[])) (.inRegion ops₀ rest₀ :: k₀)) cl) := fun E1 w1 hA => by
    have T1 := TA.kept (Kept.of_at hA) TA.gct
    have g1 := GA.at gA TA.gW hA
    have m1 : AM xb okb stb K { s with ok := true } E1 w1 := Prot.at (D := aloneD ops xb okb stb K) mA hWH hA
    have W3 : E1.W stb = false := by rw [hA.1.W']; exact W2
    have KB : Kept th.j (some th.gb) E1 w1 E1 (w1.setCell ⟨stb, 0, none⟩ (.int .i64 c)) := kept_vis m1.stH W3
    have ho : ∀ b, b ≠ stb → (w1.setCell ⟨stb, 0, none⟩ (.int .i64 c)).heap[b]? = w1.heap[b]? := fun b hb => heap_setCell_ne (a := ⟨stb, 0, none⟩) (fun e => hb e.symm)
    refine body_ret (D := aloneD ops xb okb stb K) (tl := (c, 0, 0)) (fr := false) L (T1.kept KB T1.gct) ?_ ?_ (B.kept ((KA.trans (Kept.of_at hA)).trans KB))
    · unfold GA at g1 ⊢
      rw [ho th.gb (fun e => by have := T1.gH; rw [e, m1.stH] at this; cases this)]
      exact g1
    · refine ⟨m1.word.same (ho xb m1.d2), m1.wordH, (ho okb m1.d3).trans m1.okc, m1.okH, heap_set (a := ⟨stb, 0, none⟩) (w := w1) rfl m1.stc, m1.stH, fun b o hk => ?_, m1.d1, m1.d2, m1.d3, m1.rng⟩
      obtain ⟨k1, k2, k3⟩ := m1.kobj b o hk
      exact ⟨(ho b k3.2.2).trans k1, k2, k3⟩
  have hst : ∀ E1 w1, AtE th.j E wA E1 w1 → w1.cell? ⟨stb, 0, none⟩ = some (.int .i64 s.st) ∧ w1.frozen? ⟨stb, 0, none⟩ = false ∧ E1.W stb = false ∧ (∀ i, E1.St i ⟨stb, 0, none⟩ = none) ∧ E1.role th.j = .gone := fun E1 w1 hA => by
    have m1 : AM xb okb stb K { s with ok := true } E1 w1 := Prot.at (D := aloneD ops xb okb stb K) mA hWH hA
    refine ⟨obj_cell m1.stc (o := 0) rfl, obj_thaw m1.stc 0, by rw [hA.1.W']; exact W2, fun i => by rw [hA.1.St']; exact V2 i, hA.1.roleH.trans hrole⟩
  have gA' := gA
  have gW := TK.gW
  clear B L KA TA mA hWH hWn hV m TK g gA
  unfold GA at gA'
  replace gA' := Lib.hid gA'
  replace hfin := Lib.hid hfin
  replace hst := Lib.hid hst
  replace hwA := Lib.hid hwA
  rw [show a1 = xa1 from rfl]
  generalize hG1 : xa1 = L1
  change HGn Try.prog th.j F E w 100 _
  simp only [a0, aB, Try.f30, Option.getD_some, List.range, List.range.loop, List.map_cons, List.map_nil, e0, e3, e4, e9]
  refine HGn.st c1 (fun z => by rw [W1] at z; cases z) z1 V1 hrole rfl rfl (by first | decide | exact Go.ConcR.Gen.base_kind _ | exact Go.ConcR.Gen.baseD_kind _ | assumption) rfl (fun w₁ hc₁ hz₁ => ⟨by go_simp; first | done | rfl, fun e he => by (have he' := he; simp [go_sem, ev_st_int, ev_st_bool, ev_st_ptr, ev_st_slice, evSt_at hc₁ hz₁] at he'; exact he')⟩) ?_
  try walk_nrm
  rw [← hwA.out]
  rw [← hG1]
  simp only [xa1, a1, aB, Try.f30, Option.getD_some]
  refine Idl.re (idl_hg Try.prog th.j F E wA) (Idl.rg (idl_hg Try.prog th.j F E wA) [0, 1, 2, 3, 4, 5, 6] rfl ?_)
  apply Idl.value (idl_hg Try.prog th.j F E wA) rfl rfl (by first | decide | exact Go.ConcR.Gen.base_kind _ | exact Go.ConcR.Gen.baseD_kind _ | assumption)
  focus (intro w; go_simp; (try w_num); first | done | rfl)
  focus (intro w; simp [go_sem, *])
  walk_nrm
  refine Idl.callE (fn := Try.f31) (vs := #[.pointer (some ⟨th.gb, 0, none⟩)]) (idl_hg Try.prog th.j F E wA) rfl rfl (by k_ne) rfl Try.func31 rfl rfl (by simp [Act.eval]) ?_
  refine tally_own gA'.out gW (fun E1 w1 hA => ?_)
  obtain ⟨c2, z2, W3, V3, r3⟩ := hst.out E1 w1 hA
  have hf2 := hfin.out E1 w1 hA
  replace hf2 := Lib.hid hf2
  clear hA hfin hst gA' hwA c1 z1 W1 V1
  change HGn Try.prog th.j F E1 w1 200 _
  walk_nrm
  apply Idl.value (idl_hg Try.prog th.j F E1 w1) rfl rfl (by first | decide | exact Go.ConcR.Gen.base_kind _ | exact Go.ConcR.Gen.baseD_kind _ | assumption)
  focus (intro w; go_simp; (try w_num); first | done | rfl)
  focus (intro w; simp [go_sem, *])
  walk_nrm
  apply Idl.value (idl_hg Try.prog th.j F E1 w1) rfl rfl (by first | decide | exact Go.ConcR.Gen.base_kind _ | exact Go.ConcR.Gen.baseD_kind _ | assumption)
  focus (intro w; go_simp; (try w_num); first | done | rfl)
  focus (intro w; simp [go_sem, *])
  walk_nrm
  apply Idl.value (idl_hg Try.prog th.j F E1 w1) rfl rfl (by first | decide | exact Go.ConcR.Gen.base_kind _ | exact Go.ConcR.Gen.baseD_kind _ | assumption)
  focus (intro w; go_simp; (try w_num); first | done | rfl)
  focus (intro w; simp [go_sem, *])
  walk_nrm
  apply Idl.value (idl_hg Try.prog th.j F E1 w1) rfl rfl (by first | decide | exact Go.ConcR.Gen.base_kind _ | exact Go.ConcR.Gen.baseD_kind _ | assumption)
  focus (intro w; go_simp; (try w_num); first | done | rfl)
  focus (intro w; simp [go_sem, *])
  walk_nrm
  refine HGn.st c2 (fun z => by rw [W3] at z; cases z) z2 V3 r3 rfl rfl (by first | decide | exact Go.ConcR.Gen.base_kind _ | exact Go.ConcR.Gen.baseD_kind _ | assumption) rfl (fun w₁ hc₁ hz₁ => ⟨by go_simp; first | done | rfl, fun e he => by (have he' := he; simp [go_sem, ev_st_int, ev_st_bool, ev_st_ptr, ev_st_slice, evSt_at hc₁ hz₁] at he'; exact he')⟩) ?_
  try walk_nrm
  refine Idl.re (idl_hg Try.prog th.j F E1 (w1.setCell ⟨stb, 0, none⟩ (.int .i64 c))) (Idl.en (idl_hg Try.prog th.j F E1 (w1.setCell ⟨stb, 0, none⟩ (.int .i64 c))) ?_)
  refine Idl.leave0 (n := 1) (idl_hg Try.prog th.j F E1 (w1.setCell ⟨stb, 0, none⟩ (.int .i64 c))) rfl rfl Try.func30 rfl ?_
  exact hf2.out
end
end Go.Proofs.Ytimlbbleblijnaa.Co

namespace Go.Proofs.Ytimlbbleblijnaa.Co
open Go Go.Conc Go.RowKit
set_option linter.unusedVariables false
set_option linter.unusedSimpArgs false
noncomputable def xxcR0 : Code := cR0
noncomputable def xxcR1 : Code := cR1
noncomputable def xxcR2 : Code := cR2
noncomputable def ops30 : Array Oper := match a0 with | .region _ o _ => o | _ => #[]
theorem ops30_3 : (ops30[3]?).bind (·.dst) = some 9 := by kernel_rfl
theorem wrap_sub (v n : Int) (h : -9223372036854775808 ≤ v ∧ v ≤ 9223372036854775807) : IntKind.i64.wrap (IntKind.i64.wrap (v + n) - n) = v := by
  rw [IntKind.wrap_i64, IntKind.wrap_i64]
  omega
theorem wrap_rng (v : Int) : -9223372036854775808 ≤ IntKind.i64.wrap v ∧ IntKind.i64.wrap v ≤ 9223372036854775807 := by
  rw [IntKind.wrap_i64]
  omega
theorem isC_cases {k : Int} (h : isC k = true) : k = 1 ∨ k = 2 ∨ k = 3 ∨ k = 4 := by
  unfold isC at h
  simp only [Bool.and_eq_true, decide_eq_true_eq] at h
  omega
section
variable {rb xb okb stb la lo cap : Nat} {th : Th} {K : Nat → Obj → Prop} {ops : List Op3} {b₀ : Frame} {a₀ : Act} {ops₀ : Array Oper} {i₀ : Nat} {rest₀ : List Nat} {k₀ : List Item} {cl : List Frame}
theorem alone_loop {T30 : Array Value} (hs : T30.size = 16) (u0 : T30[0]? = some (.pointer (some ⟨th.gb, 0, none⟩))) (u3 : T30[3]? = some (.pointer (some ⟨okb, 0, none⟩))) (u4 : T30[4]? = some (.pointer (some ⟨stb, 0, none⟩)))
    (hK : ∀ (i : Nat) (op : Op3), ops[i]? = some op → KC K ⟨la, lo + i * 3, none⟩ (.int .i64 op.1) ∧ KC K ⟨la, lo + i * 3 + 2, none⟩ (.int .i64 op.2.2)) (hlen : ops.length ≤ 10000000000000) (hrng : ∀ (i : Nat) (op : Op3), ops[i]? = some op → -9223372036854775808 ≤ op.2.2 ∧ op.2.2 ≤ 9223372036854775807)
    (LR : LiveRet th.gb th.box rb b₀ a₀ ops₀ i₀ rest₀ k₀ cl) :
    ∀ (m i : Nat), m + i = ops.length → ∀ (f c : Nat), m ≤ f → c ≤ i → ∀ (h : Nat) (home : Goroutine → Prop) (k : Int) (F : Machine → Trace → Prop) (E : Env) (w : World) (s : AS) (T : Array Value), TKn h rb home k th E w → GA w rb th false false ((c : Int), 0, 0) → AM xb okb stb K s E w → RegC T (.pointer (some ⟨xb, 0, none⟩)) (.pointer (some ⟨th.gb, 0, none⟩)) la lo ops.length cap i s.held →
      (∀ s' o, AdvA ops c i s (s', o) → Back (aloneD ops xb okb stb K) h rb home th F E w s' o (roleOf (Srv (aloneD ops xb okb stb K) rb th f) rb th o)) →
      HG Try.prog th.j F E (G ((base 28).at ⟨T, []⟩ hdC) ((base 30).at ⟨T30, []⟩ (.inRegion ops30 [3, 4] :: [.code a1]) :: b₀.at a₀ (.inRegion ops₀ (i₀ :: rest₀) :: k₀) :: cl)) w
  | 0, i, hi, f, c, hf, hci, h, home, k, F, E, w, s, T, TK, g, M, R, hB => by
    refine calls_exit R (by omega) (fun E1 w1 S1 => ?_)
    rw [ops30_3]
    have T1 := TK.kept S1.kept.weaken TK.gct
    have hb := (hB _ none (.stop (by omega))).kept S1.kept.weaken
    exact alone_end (c := (c : Int)) (K := K) (ops := ops) (T := T30.setIfInBounds 9 (.bool true)) (by simp [hs]) (by rw [Array.getElem?_setIfInBounds_ne (by decide)]; exact u0) (by rw [Array.getElem?_setIfInBounds_ne (by decide)]; exact u3) (by rw [Array.getElem?_setIfInBounds_ne (by decide)]; exact u4) (by rw [Array.getElem?_setIfInBounds_self_of_lt (by omega)]) T1 (GA.kept S1.kept g TK.gH TK.gW) (M.still S1) LR hb rfl
  | m + 1, i, hi, f, c, hf, hci, h, home, k, F, E, w, s, T, TK, g, M, R, hB => by
    have hlt : i < ops.length := by omega
    obtain ⟨op, hop⟩ : ∃ op, ops[i]? = some op := ⟨_, List.getElem?_eq_getElem hlt⟩
    obtain ⟨K1, K3⟩ := hK i op hop
    obtain ⟨c1, hla⟩ := M.konst _ _ K1
    obtain ⟨c3, _⟩ := M.konst _ _ K3
    refine calls_head R hlt c1 c3 hla (fun E1 w1 T1 S1 R1 t9 t10 t11 t37 => ?_)
    have TK1 := TK.kept S1.kept.weaken TK.gct
    have g1 := GA.kept S1.kept g TK.gH TK.gW
    have M1 := M.still S1
    have c31 := (M1.konst _ _ K3).1
    have hla1 := (M1.konst _ _ K3).2
    cases hC : isC op.1 with
    | false =>
      refine calls_skip R1 hlt hlen hC t37 (fun T' R' => ?_)
      exact alone_loop hs u0 u3 u4 hK hlen hrng LR m (i + 1) (by omega) f c (by omega) (by omega) h home k F E1 w1 s T' TK1 g1 M1 R' (fun s' o ha => (hB s' o (.skip hop hC ha)).kept S1.kept.weaken)
    | true =>
      obtain ⟨f', rfl⟩ : ∃ f', f = f' + 1 := ⟨f - 1, by omega⟩
      have B1 := (hB s (some ⟨i, c, s.held⟩) (.call hop hC)).kept S1.kept.weaken
      have hw1 : IntKind.i64.wrap ((c : Int) + 1) = ((c + 1 : Nat) : Int) := by rw [IntKind.wrap_i64]; omega
      rcases isC_cases hC with h1 | h1 | h1 | h1
      · rw [h1] at t9 t10 t37
        have hd : doW s.held 1 op.2.2 = (s.held, s.held) := by simp [doW]
        rw [hd] at t9 t10
        refine calls_load R1 hlt hlen t9 t10 t37 (fun a₁ ops' i' rest' k' hd1 hp => ?_)
        refine wload_go (D := aloneD ops xb okb stb K) (m := f') (ℓ := ⟨i, c, s.held⟩) (s := s) TK1 g1 M1 (OffAt.up (OffAt.up LR.offAt Try.func30 rfl) Try.func28 hd1) B1 (fun h' home' k' F' E' w' s' T' M' f'' B' => ?_)
        have M' : AM xb okb stb K s' E' w' := M'
        have hv : s'.held = s.held := f''
        refine ⟨s'.held, M'.word, M'.wordH, fun E2 w2 hK2 T2 g2 hWS => ?_⟩
        skip
        rw [hv] at hWS ⊢
        refine hp F' E2 w2 (fun T3 R3 => ?_)
        have M2 := M'.wset hWS (by have := M'.rng; rw [hv] at this; exact this)
        refine alone_loop hs u0 u3 u4 hK hlen hrng LR m (i + 1) (by omega) f' (c + 1) (by omega) (by omega) h' home' k' F' E2 w2 _ T3 T2 (by rw [← hw1]; exact g2) M2 R3 (fun s'' o ha => (B' s'' o ⟨op, hop, ?_⟩).kept hK2)
        have e : (doW s'.held op.1 op.2.2).1 = s.held := by rw [h1, hv]; simp [doW]
        rw [e]
        exact ha
      · rw [h1] at t9 t10 t37
        have hd : doW s.held 2 op.2.2 = (op.2.2, 0) := by simp [doW]
        rw [hd] at t9 t10
        refine calls_store (nn := op.2.2) (wt := 0) R1 hlt hlen c31 hla1 t9 t10 t11 t37 (fun a₁ ops' i' rest' k' hd1 hp => ?_)
        refine wstore_go (D := aloneD ops xb okb stb K) (m := f') (ℓ := ⟨i, c, s.held⟩) (s := s) TK1 g1 M1 (OffAt.up (OffAt.up LR.offAt Try.func30 rfl) Try.func28 hd1) B1 (fun h' home' k' F' E' w' s' T' M' f'' B' => ?_)
        have M' : AM xb okb stb K s' E' w' := M'
        have hv : s'.held = s.held := f''
        refine ⟨s'.held, M'.word, M'.wordH, fun E2 w2 hK2 T2 g2 hWS => ?_⟩
        skip
        skip
        refine hp F' E2 w2 (fun T3 R3 => ?_)
        have M2 := M'.wset hWS (hrng i op hop)
        refine alone_loop hs u0 u3 u4 hK hlen hrng LR m (i + 1) (by omega) f' (c + 1) (by omega) (by omega) h' home' k' F' E2 w2 _ T3 T2 (by rw [← hw1]; exact g2) M2 R3 (fun s'' o ha => (B' s'' o ⟨op, hop, ?_⟩).kept hK2)
        have e : (doW s'.held op.1 op.2.2).1 = op.2.2 := by rw [h1, hv]; simp [doW]
        rw [e]
        exact ha
      · rw [h1] at t9 t10 t37
        have hd : doW s.held 3 op.2.2 = (IntKind.i64.wrap (s.held + op.2.2), s.held) := by simp [doW]
        rw [hd] at t9 t10
        refine calls_add (nn := op.2.2) R1 hlt hlen c31 hla1 t9 t10 t37 (fun a₁ ops' i' rest' k' hd1 hp => ?_)
        refine wadd_go (D := aloneD ops xb okb stb K) (m := f') (ℓ := ⟨i, c, s.held⟩) (s := s) TK1 g1 M1 (OffAt.up (OffAt.up LR.offAt Try.func30 rfl) Try.func28 hd1) B1 (fun h' home' k' F' E' w' s' T' M' f'' B' => ?_)
        have M' : AM xb okb stb K s' E' w' := M'
        have hv : s'.held = s.held := f''
        refine ⟨s'.held, M'.word, M'.wordH, fun E2 w2 hK2 T2 g2 hWS => ?_⟩
        rw [wrap_sub _ _ M'.rng]
        rw [hv] at hWS ⊢
        refine hp F' E2 w2 (fun T3 R3 => ?_)
        have M2 := M'.wset hWS (wrap_rng _)
        refine alone_loop hs u0 u3 u4 hK hlen hrng LR m (i + 1) (by omega) f' (c + 1) (by omega) (by omega) h' home' k' F' E2 w2 _ T3 T2 (by rw [← hw1]; exact g2) M2 R3 (fun s'' o ha => (B' s'' o ⟨op, hop, ?_⟩).kept hK2)
        have e : (doW s'.held op.1 op.2.2).1 = IntKind.i64.wrap (s.held + op.2.2) := by rw [h1, hv]; simp [doW]
        rw [e]
        exact ha
      · rw [h1] at t9 t10 t37
        have hd : doW s.held 4 op.2.2 = (op.2.2, s.held) := by simp [doW]
        rw [hd] at t9 t10
        refine calls_swap (nn := op.2.2) R1 hlt hlen c31 hla1 t9 t10 t37 (fun a₁ ops' i' rest' k' hd1 hp => ?_)
        refine wswap_go (D := aloneD ops xb okb stb K) (m := f') (ℓ := ⟨i, c, s.held⟩) (s := s) TK1 g1 M1 (OffAt.up (OffAt.up LR.offAt Try.func30 rfl) Try.func28 hd1) B1 (fun h' home' k' F' E' w' s' T' M' f'' B' => ?_)
        have M' : AM xb okb stb K s' E' w' := M'
        have hv : s'.held = s.held := f''
        refine ⟨s'.held, M'.word, M'.wordH, fun E2 w2 hK2 T2 g2 hWS => ?_⟩
        skip
        rw [hv]
        refine hp F' E2 w2 (fun T3 R3 => ?_)
        have M2 := M'.wset hWS (hrng i op hop)
        refine alone_loop hs u0 u3 u4 hK hlen hrng LR m (i + 1) (by omega) f' (c + 1) (by omega) (by omega) h' home' k' F' E2 w2 _ T3 T2 (by rw [← hw1]; exact g2) M2 R3 (fun s'' o ha => (B' s'' o ⟨op, hop, ?_⟩).kept hK2)
        have e : (doW s'.held op.1 op.2.2).1 = op.2.2 := by rw [h1, hv]; simp [doW]
        rw [e]
        exact ha
#print axioms alone_loop
end
section
variable {j : Nat} {F : Machine → Trace → Prop} {E : Env} {w : World} {cs : List Frame}
set_option maxRecDepth 100000 in
set_option maxHeartbeats 2000000 in
theorem calls_in {wp gp : Value} {A : Option Addr} {la lo n cap : Nat} (hA : 0 < n → A = some ⟨la, lo, none⟩) (hc : ∀ T, RegC T wp gp la lo n cap 0 0 → HG Try.prog j F E (G ((base 28).at ⟨T, []⟩ hdC) cs) w) :
    HGn Try.prog j F E w 200 (entry 28 Try.f28 #[wp, .slice A n cap, gp] cs) := by
  have hc' : ∀ T : Array Value, T.size = 77 → T[0]? = some wp → T[1]? = some (.slice A n cap) → T[2]? = some gp → T[7]? = some (.int .i64 0) → T[8]? = some (.int .i64 0) → HG Try.prog j F E (G ((base 28).at ⟨T, []⟩ hdC) cs) w := fun T a1 a2 a3 a4 a5 a6 => hc T ⟨a1, a2, ⟨A, a3, hA⟩, a4, a5, a6⟩
  clear hc hA
  replace hc' := Lib.hid hc'
  unfold entry
  unfold hdC at hc'
  rw [show Try.f28.body.getD .skip = .seq xxcR0 (.seq xxcR1 (.seq (.seq xxcR2 (.block 0 (.loop cC))) cT)) from cB_parts, show Try.f28.ntmps = 77 from rfl]
  rw [show cT = xcT from rfl] at hc' ⊢
  generalize hG3 : xcT = L3 at hc' ⊢
  generalize hG4 : cC = L4 at hc' ⊢
  simp only [xxcR0, xxcR1, xxcR2, cR0, cR1, cR2, cB, Try.f28, Option.getD_some]
  walk_nrm
  refine Idl.q (idl_hg Try.prog j F E w) (Idl.rg (idl_hg Try.prog j F E w) [0] rfl ?_)
  apply Idl.value (idl_hg Try.prog j F E w) rfl rfl (by first | decide | exact Go.ConcR.Gen.base_kind _ | exact Go.ConcR.Gen.baseD_kind _ | assumption)
  focus (intro w; go_simp; (try w_num); first | done | rfl)
  focus (intro w; simp [go_sem, *])
  walk_nrm
  refine Idl.re (idl_hg Try.prog j F E w) (Idl.q (idl_hg Try.prog j F E w) (Idl.rg (idl_hg Try.prog j F E w) [0] rfl ?_))
  apply Idl.value (idl_hg Try.prog j F E w) rfl rfl (by first | decide | exact Go.ConcR.Gen.base_kind _ | exact Go.ConcR.Gen.baseD_kind _ | assumption)
  focus (intro w; go_simp; (try w_num); first | done | rfl)
  focus (intro w; simp [go_sem, *])
  walk_nrm
  refine Idl.re (idl_hg Try.prog j F E w) (Idl.q (idl_hg Try.prog j F E w) (Idl.q (idl_hg Try.prog j F E w) (Idl.rg (idl_hg Try.prog j F E w) [0] rfl ?_)))
  apply Idl.value (idl_hg Try.prog j F E w) rfl rfl (by first | decide | exact Go.ConcR.Gen.base_kind _ | exact Go.ConcR.Gen.baseD_kind _ | assumption)
  focus (intro w; go_simp; (try w_num); first | done | rfl)
  focus (intro w; simp [go_sem, *])
  walk_nrm
  refine Idl.re (idl_hg Try.prog j F E w) (Idl.bl (idl_hg Try.prog j F E w) (Idl.lp (idl_hg Try.prog j F E w) ?_))
  refine hc'.out _ (by simp) (by simp) (by simp) (by simp) (by simp) (by simp)
end
section
variable {xb okb stb la lo cap xbb lbb : Nat} {K : Nat → Obj → Prop} {ops : List Op3}
set_option maxRecDepth 100000 in
set_option maxHeartbeats 2000000 in
theorem alone_born {A : Option Addr} (hA : 0 < ops.length → A = some ⟨la, lo, none⟩) (kx : KC K ⟨xbb, 0, none⟩ (.pointer (some ⟨xb, 0, none⟩))) (kl : KC K ⟨lbb, 0, none⟩ (.slice A ops.length cap))
    (hK : ∀ (i : Nat) (op : Op3), ops[i]? = some op → KC K ⟨la, lo + i * 3, none⟩ (.int .i64 op.1) ∧ KC K ⟨la, lo + i * 3 + 2, none⟩ (.int .i64 op.2.2)) (hlen : ops.length ≤ 10000000000000) (hrng : ∀ (i : Nat) (op : Op3), ops[i]? = some op → -9223372036854775808 ≤ op.2.2 ∧ op.2.2 ≤ 9223372036854775807) :
    Born (aloneD ops xb okb stb K) 0 ops.length (AdvA ops 0 0) 30 Try.f30 #[.pointer (some ⟨xbb, 0, none⟩), .pointer (some ⟨lbb, 0, none⟩), .pointer (some ⟨okb, 0, none⟩), .pointer (some ⟨stb, 0, none⟩)] := by
  intro h rb home th F E w s b₀ a₀ ops₀ i₀ rest₀ k₀ cl TK g M hI LR hB
  have M : AM xb okb stb K s E w := M
  refine HG.withH fun hWH _ => ?_
  have hWn : ∀ b, E.H b = none → E.W b = false := fun b hb => by
    cases e : E.W b with
    | false => rfl
    | true => have := hWH b e; rw [hb] at this; cases this
  have hI' : s.held = 0 := hI rfl
  obtain ⟨x1, x2⟩ := M.konst _ _ kx
  obtain ⟨l1, l2⟩ := M.konst _ _ kl
  have W1 := hWn _ x2
  have W2 := hWn _ l2
  have hgo : ∀ T30 : Array Value, T30.size = 16 → T30[0]? = some (.pointer (some ⟨th.gb, 0, none⟩)) → T30[3]? = some (.pointer (some ⟨okb, 0, none⟩)) → T30[4]? = some (.pointer (some ⟨stb, 0, none⟩)) →
      HGn Try.prog th.j F E w 200 (entry 28 Try.f28 #[.pointer (some ⟨xb, 0, none⟩), .slice A ops.length cap, .pointer (some ⟨th.gb, 0, none⟩)] ((base 30).at ⟨T30, []⟩ (.inRegion ops30 [3, 4] :: [.code a1]) :: b₀.at a₀ (.inRegion ops₀ (i₀ :: rest₀) :: k₀) :: cl)) := fun T30 h1 h2 h3 h4 =>
    calls_in hA (fun T R => alone_loop h1 h2 h3 h4 hK hlen hrng LR ops.length 0 (by omega) ops.length 0 (Nat.le_refl _) (Nat.le_refl _) h home 0 F E w s T TK g M (by rw [hI']; exact R) (fun s' o ha => hB s' o ha))
  clear hB LR M TK g hI hI' hK hlen hrng kx kl hA x2 l2 hWn hWH
  replace hgo := Lib.hid hgo
  unfold entry
  rw [show Try.f30.body.getD .skip = .seq xa0 a1 from aB_parts, show Try.f30.ntmps = 16 from rfl]
  change HGn Try.prog th.j F E w 100 _
  rw [show a1 = xa1 from rfl] at hgo ⊢
  generalize hG1 : xa1 = L1 at hgo ⊢
  simp only [ops30, xa0, a0, aB, Try.f30, Option.getD_some] at hgo ⊢
  walk_nrm
  refine Idl.q (idl_hg Try.prog th.j F E w) (Idl.rg (idl_hg Try.prog th.j F E w) [0, 1, 2, 3, 4] rfl ?_)
  refine HGn.ld x1 (fun z => by rw [W1] at z; cases z) rfl rfl (by first | decide | exact Go.ConcR.Gen.base_kind _ | exact Go.ConcR.Gen.baseD_kind _ | assumption) (fun w₁ hc₁ => ⟨by go_simp, fun e he => by (have he' := he; simp [go_sem, hc₁] at he'; exact he')⟩) ?_
  walk_nrm
  skip
  refine HGn.ld l1 (fun z => by rw [W2] at z; cases z) rfl rfl (by first | decide | exact Go.ConcR.Gen.base_kind _ | exact Go.ConcR.Gen.baseD_kind _ | assumption) (fun w₁ hc₁ => ⟨by go_simp, fun e he => by (have he' := he; simp [go_sem, hc₁] at he'; exact he')⟩) ?_
  walk_nrm
  apply Idl.value (idl_hg Try.prog th.j F E w) rfl rfl (by first | decide | exact Go.ConcR.Gen.base_kind _ | exact Go.ConcR.Gen.baseD_kind _ | assumption)
  focus (intro w; go_simp; (try w_num); first | done | rfl)
  focus (intro w; simp [go_sem, *])
  walk_nrm
  refine Idl.callE (fn := Try.f28) (vs := #[.pointer (some ⟨xb, 0, none⟩), .slice A ops.length cap, .pointer (some ⟨th.gb, 0, none⟩)]) (idl_hg Try.prog th.j F E w) rfl rfl (by k_ne) rfl Try.func28 rfl rfl (by simp [Act.eval]) ?_
  exact hgo.out _ (by simp) (by simp) (by simp) (by simp)
#print axioms alone_born
end
end Go.Proofs.Ytimlbbleblijnaa.Co

namespace Go.Proofs.Ytimlbbleblijnaa.Co
open Go Go.Conc Go.RowKit
set_option linter.unusedVariables false
set_option linter.unusedSimpArgs false
section
variable {σ Λ : Type}
theorem solo_run {D : Prot σ Λ} {b : Body σ Λ} {s : σ} {z : σ × Int} (I : σ → Option Λ → Int → Prop) (h0 : ∀ s' o, b.start s (s', o) → I s' o 0) (hn : ∀ s ℓ k s' o, I s (some ℓ) k → D.next ℓ (k + 1) s (s', o) → I s' o (k + 1)) (hz : RunR D [b] [] true s z) : I z.1 none z.2 := by
  unfold RunR at hz
  rw [if_neg (by simp)] at hz
  obtain ⟨x0, x1, x2, h1, h2, h3, rfl⟩ := hz
  cases h2
  have key0 : ∃ o : Option (Nat × Λ), x0.1 = [o] ∧ I x0.2 (o.map (·.2)) 0 := by
    cases h1 with
    | @cons _ _ _ s' o _ hs ht =>
      cases ht
      refine ⟨o.map (fun ℓ => (b.n, ℓ)), rfl, ?_⟩
      have := h0 s' o hs
      cases o <;> exact this
  unfold DrainB at h3
  simp only [if_true] at h3
  have key : ∀ x x' : RS σ Λ, DrainR D 1 x x' → (∃ o : Option (Nat × Λ), x.1 = [o] ∧ I x.2.1 (o.map (·.2)) x.2.2) → I x'.2.1 none x'.2.2 := by
    have hround : ∀ x y, RoundR D 1 x y → (∃ o : Option (Nat × Λ), x.1 = [o] ∧ I x.2.1 (o.map (·.2)) x.2.2) → ∃ o : Option (Nat × Λ), y.1.1 = [o] ∧ I y.1.2.1 (o.map (·.2)) y.1.2.2 ∧ (y.2 = false → o = none) := by
      intro x y hr ⟨o, e1, e2⟩
      unfold RoundR at hr
      rw [show List.range 1 = [0] from rfl] at hr
      cases hr with
      | cons h t =>
        cases t
        rcases h with ⟨ha, hp, hb⟩ | ⟨ha, rfl⟩
        · unfold PickR at hp
          rw [show (x, false).1 = x from rfl, e1] at hp ha
          cases o with
          | none => cases ha
          | some q =>
            obtain ⟨m, ℓ⟩ := q
            obtain ⟨n, s', o', q1, q2, q3⟩ := hp
            rw [q3]
            refine ⟨o'.map (fun y => (n, y)), rfl, ?_, fun e => ?_⟩
            · have := hn _ _ _ _ _ e2 q2
              cases o' <;> exact this
            · rw [hb, q3] at e
              cases o' with
              | none => rfl
              | some _ => simp [aliveB] at e
        · rw [show (x, false).1 = x from rfl, e1] at ha
          cases o with
          | none => exact ⟨none, e1, e2, fun _ => rfl⟩
          | some q => cases ha
    intro x x' h
    induction h with
    | last h e =>
      intro hx
      obtain ⟨o, p1, p2, p3⟩ := hround _ _ h hx
      rw [p3 e] at p2
      exact p2
    | more h e t ih =>
      intro hx
      obtain ⟨o, p1, p2, _⟩ := hround _ _ h hx
      exact ih ⟨o, p1, p2⟩
  obtain ⟨o, p1, p2⟩ := key0
  exact key _ _ h3 ⟨o, p1, p2⟩
end
section
variable {P : Program} {h : Nat} {F : Machine → Trace → Prop} {E : Env} {w : World} {Fs : FuncId → Bool}
theorem HG.quietM (os : List Obj) (hC : Closed P Fs) {fr : Frame} {T : Array Value} {k : List Item} {cs : List Frame} {c : Code} (R : Array Value → Nat → Prop) (hq : quietCode P Fs c = true) (hk : fr.kind = .normal)
    (hwp : ∀ x : World, x.heap.size = w.heap.size → (∀ b, E.H b = none → x.heap[b]? = w.heap[b]?) → c.wp P (fun e a' x' => e = .normal ∧ a'.defers = [] ∧ (∀ b, b < x.heap.size → x'.heap[b]? = x.heap[b]?) ∧ (∀ (i : Nat) o, os[i]? = some o → x'.heap[x.heap.size + i]? = some o) ∧ R a'.tmps x.heap.size) ⟨T, []⟩ x)
    (hg : ∀ (E1 : Env) (w1 : World) (T' : Array Value), Still h E w E1 w1 → (∀ (i : Nat) o, os[i]? = some o → w1.heap[w.heap.size + i]? = some o ∧ E1.H (w.heap.size + i) = none) → R T' w.heap.size → HG P h F E1 (G (fr.at ⟨T', []⟩ k) cs) w1) : HG P h F E (G (fr.at ⟨T, []⟩ (.code c :: k)) cs) w := by
  refine HG.quietS (fun _ => False) (fun _ z => z.elim) hC (Q := fun a' x x' => (∀ (i : Nat) o, os[i]? = some o → x'.heap[x.heap.size + i]? = some o) ∧ R a'.tmps x.heap.size) hq hk rfl (fun x hxs hx => ?_) (fun E1 w' a' x x' hE hd hxs hx hxs' hx' hK hB hSt hq => ?_)
  · exact Code.wp_mono (fun e a' x' ⟨q1, q2, q3, q4, q5⟩ => ⟨q1, q2, fun b hb _ => q3 b hb, q4, q5⟩) (hwp x hxs hx)
  · obtain ⟨Ta, df⟩ := a'
    have hdf : df = [] := hd
    subst hdf
    refine hg E1 w' Ta ⟨hK, hE.H', fun b o h1 h2 => ⟨by rw [hE.H']; exact h1, ?_⟩⟩ (fun i o hi => ?_) (by rw [← hxs]; exact hq.2)
    · have hl := (Array.getElem?_eq_some_iff.1 h2).1
      rw [hx' b h1, hSt b (by omega) id, hx b h1]
      exact h2
    · have h1 := hq.1 i o hi
      rw [hxs] at h1
      have h2 := hB (w.heap.size + i) (by omega)
      exact ⟨(hx' _ h2).trans h1, by rw [hE.H']; exact h2⟩
end
structure NM (xb : Nat) (K : Nat → Obj → Prop) (v : Int) (E : Env) (w : World) : Prop where
  word : WordAt w ⟨xb, 0, none⟩ v
  wordH : E.H xb = none
  kobj : ∀ b o, K b o → w.heap[b]? = some o ∧ E.H b = none ∧ b ≠ xb
  rng : -9223372036854775808 ≤ v ∧ v ≤ 9223372036854775807
theorem NM.konst {xb : Nat} {K : Nat → Obj → Prop} {v : Int} {E : Env} {w : World} (m : NM xb K v E w) (a : Addr) (u : Value) (h : KC K a u) : w.cell? a = some u ∧ E.H a.block = none := by
  obtain ⟨o, h1, h2⟩ := h
  obtain ⟨k1, k2, _⟩ := m.kobj _ _ h1
  exact ⟨h2 w k1, k2⟩
theorem NM.still {xb j : Nat} {K : Nat → Obj → Prop} {v : Int} {E E' : Env} {w w' : World} (m : NM xb K v E w) (S : Still j E w E' w') : NM xb K v E' w' := by
  obtain ⟨s1, s2⟩ := S.word m.word m.wordH
  refine ⟨s1, s2, fun b o hk => ?_, m.rng⟩
  obtain ⟨k1, k2, k3⟩ := m.kobj b o hk
  obtain ⟨z1, z2⟩ := S.st b o k2 k1
  exact ⟨z2, z1, k3⟩
theorem NM.wset {xb : Nat} {K : Nat → Obj → Prop} {v n : Int} {E E' : Env} {w w' : World} (m : NM xb K v E w) (S : WSet E w E' w' ⟨xb, 0, none⟩ n) (hn : -9223372036854775808 ≤ n ∧ n ≤ 9223372036854775807) : NM xb K n E' w' := by
  refine ⟨S.word m.word, by rw [S.H]; exact m.wordH, fun b o hk => ?_, hn⟩
  obtain ⟨k1, k2, k3⟩ := m.kobj b o hk
  exact ⟨(S.stands k2 k1 k3).2, (S.stands k2 k1 k3).1, k3⟩
section
variable {j xb la lo cap : Nat} {F : Machine → Trace → Prop} {K : Nat → Obj → Prop} {ops : List Op3} {b₀ : Frame} {a₀ : Act} {ops₀ : Array Oper} {i₀ : Nat} {rest₀ : List Nat} {k₀ : List Item} {cl : List Frame}
theorem nil_loop (hK : ∀ (i : Nat) (op : Op3), ops[i]? = some op → KC K ⟨la, lo + i * 3, none⟩ (.int .i64 op.1) ∧ KC K ⟨la, lo + i * 3 + 2, none⟩ (.int .i64 op.2.2)) (hlen : ops.length ≤ 10000000000000) (hrng : ∀ (i : Nat) (op : Op3), ops[i]? = some op → -9223372036854775808 ≤ op.2.2 ∧ op.2.2 ≤ 9223372036854775807) :
    ∀ (m i : Nat), m + i = ops.length → ∀ (E : Env) (w : World) (v : Int) (T : Array Value), NM xb K v E w → RegC T (.pointer (some ⟨xb, 0, none⟩)) (.pointer none) la lo ops.length cap i v →
      (∀ E1 w1 v1, Kept j none E w E1 w1 → E1.H = E.H → NM xb K v1 E1 w1 → HG Try.prog j F E1 (G (b₀.at (a₀.put ((ops₀[i₀]?).bind (·.dst)) (.bool true)) (.inRegion ops₀ rest₀ :: k₀)) cl) w1) →
      HG Try.prog j F E (G ((base 28).at ⟨T, []⟩ hdC) (b₀.at a₀ (.inRegion ops₀ (i₀ :: rest₀) :: k₀) :: cl)) w
  | 0, i, hi, E, w, v, T, M, R, hc => calls_exit R (by omega) (fun E1 w1 S1 => hc E1 w1 v S1.kept S1.H (M.still S1))
  | m + 1, i, hi, E, w, v, T, M, R, hc => by
    have hlt : i < ops.length := by omega
    obtain ⟨op, hop⟩ : ∃ op, ops[i]? = some op := ⟨_, List.getElem?_eq_getElem hlt⟩
    obtain ⟨K1, K3⟩ := hK i op hop
    obtain ⟨c1, hla⟩ := M.konst _ _ K1
    obtain ⟨c3, _⟩ := M.konst _ _ K3
    refine calls_head R hlt c1 c3 hla (fun E1 w1 T1 S1 R1 t9 t10 t11 t37 => ?_)
    have M1 := M.still S1
    have c31 := (M1.konst _ _ K3).1
    have hla1 := (M1.konst _ _ K3).2
    cases hC : isC op.1 with
    | false =>
      refine calls_skip R1 hlt hlen hC t37 (fun T' R' => ?_)
      exact nil_loop hK hlen hrng m (i + 1) (by omega) E1 w1 v T' M1 R' (fun E2 w2 v2 k2 e2 m2 => hc E2 w2 v2 (S1.kept.trans k2) (e2.trans S1.H) m2)
    | true =>
      rcases isC_cases hC with h1 | h1 | h1 | h1
      · rw [h1] at t9 t10 t37
        have hd : doW v 1 op.2.2 = (v, v) := by simp [doW]
        rw [hd] at t9 t10
        refine calls_load R1 hlt hlen t9 t10 t37 (fun a₁ ops' i' rest' k' hd1 hp => ?_)
        refine wload_nil (v := v) M1.word M1.wordH (fun E2 w2 hE2 hK2 hWS => ?_)
        skip
        refine hp F E2 w2 (fun T3 R3 => ?_)
        exact nil_loop hK hlen hrng m (i + 1) (by omega) E2 w2 _ T3 (M1.wset hWS M1.rng) R3 (fun E3 w3 v3 k3 e3 m3 => hc E3 w3 v3 ((S1.kept.trans hK2).trans k3) ((e3.trans hWS.H).trans S1.H) m3)
      · rw [h1] at t9 t10 t37
        have hd : doW v 2 op.2.2 = (op.2.2, 0) := by simp [doW]
        rw [hd] at t9 t10
        refine calls_store (nn := op.2.2) (wt := 0) R1 hlt hlen c31 hla1 t9 t10 t11 t37 (fun a₁ ops' i' rest' k' hd1 hp => ?_)
        refine wstore_nil (v := v) (n := op.2.2) M1.word M1.wordH (fun E2 w2 hE2 hK2 hWS => ?_)
        skip
        refine hp F E2 w2 (fun T3 R3 => ?_)
        exact nil_loop hK hlen hrng m (i + 1) (by omega) E2 w2 _ T3 (M1.wset hWS (hrng i op hop)) R3 (fun E3 w3 v3 k3 e3 m3 => hc E3 w3 v3 ((S1.kept.trans hK2).trans k3) ((e3.trans hWS.H).trans S1.H) m3)
      · rw [h1] at t9 t10 t37
        have hd : doW v 3 op.2.2 = (IntKind.i64.wrap (v + op.2.2), v) := by simp [doW]
        rw [hd] at t9 t10
        refine calls_add (nn := op.2.2) R1 hlt hlen c31 hla1 t9 t10 t37 (fun a₁ ops' i' rest' k' hd1 hp => ?_)
        refine wadd_nil (v := v) (n := op.2.2) M1.word M1.wordH (fun E2 w2 hE2 hK2 hWS => ?_)
        rw [wrap_sub _ _ M1.rng]
        refine hp F E2 w2 (fun T3 R3 => ?_)
        exact nil_loop hK hlen hrng m (i + 1) (by omega) E2 w2 _ T3 (M1.wset hWS (wrap_rng _)) R3 (fun E3 w3 v3 k3 e3 m3 => hc E3 w3 v3 ((S1.kept.trans hK2).trans k3) ((e3.trans hWS.H).trans S1.H) m3)
      · rw [h1] at t9 t10 t37
        have hd : doW v 4 op.2.2 = (op.2.2, v) := by simp [doW]
        rw [hd] at t9 t10
        refine calls_swap (nn := op.2.2) R1 hlt hlen c31 hla1 t9 t10 t37 (fun a₁ ops' i' rest' k' hd1 hp => ?_)
        refine wswap_nil (v := v) (n := op.2.2) M1.word M1.wordH (fun E2 w2 hE2 hK2 hWS => ?_)
        skip
        refine hp F E2 w2 (fun T3 R3 => ?_)
        exact nil_loop hK hlen hrng m (i + 1) (by omega) E2 w2 _ T3 (M1.wset hWS (hrng i op hop)) R3 (fun E3 w3 v3 k3 e3 m3 => hc E3 w3 v3 ((S1.kept.trans hK2).trans k3) ((e3.trans hWS.H).trans S1.H) m3)
end
end Go.Proofs.Ytimlbbleblijnaa.Co

namespace Go.Proofs.Ytimlbbleblijnaa.Co
open Go Go.Conc Go.RowKit
open Go.ConcN (sumTo upd sumTo_upd upd_ne upd_same sumTo_congr le_sumTo)
set_option linter.unusedVariables false
set_option linter.unusedSimpArgs false
def cntT (l : List Mk) (t : Nat) : Nat := (l.filter (fun m => m.1 == (t : Int))).length
def lastK (l : List Mk) : Int := (l.getLast?.map (·.2.1)).getD 0
theorem cntT_snoc (l : List Mk) (m : Mk) (t : Nat) : cntT (l ++ [m]) t = cntT l t + if m.1 = (t : Int) then 1 else 0 := by
  unfold cntT
  rw [List.filter_append, List.length_append]
  by_cases h : m.1 = (t : Int)
  · simp [h]
  · simp [h]
theorem lastK_snoc (l : List Mk) (m : Mk) : lastK (l ++ [m]) = m.2.1 := by simp [lastK]
def okMk (ts : List (List Op3)) (picks : List Int) (l : List Mk) (m : Mk) : Prop :=
  ∃ t q : Nat, t < ts.length ∧ m = ((t : Int), ((q + 1 : Nat) : Int), (cntT l t : Int), nOf ts t (cntT l t)) ∧ cntT l t < lenOf ts t ∧ lastK l < ((q + 1 : Nat) : Int) ∧ ∀ p, picks[q]? = some p → pickIx p ts.length = t
def okMs (ts : List (List Op3)) (picks : List Int) (ms : List Mk) : Prop := ∀ i m, ms[i]? = some m → okMk ts picks (ms.take i) m
theorem okMs_snoc {ts : List (List Op3)} {picks : List Int} {ms : List Mk} {m : Mk} (h : okMs ts picks ms) (hm : okMk ts picks ms m) : okMs ts picks (ms ++ [m]) := by
  intro i x hx
  rcases Nat.lt_or_ge i ms.length with z | z
  · rw [List.getElem?_append_left z] at hx
    rw [List.take_append_of_le_length (Nat.le_of_lt z)]
    exact h i x hx
  · have hi : i = ms.length := by
      have := (List.getElem?_eq_some_iff.1 hx).1
      simp at this; omega
    subst hi
    rw [List.getElem?_append_right (Nat.le_refl _)] at hx
    simp at hx
    subst hx
    simpa using hm
structure GI (ts : List (List Op3)) (picks : List Int) (a : PA) (k : Nat) : Prop where
  ms : okMs ts picks a.ms
  cnt : ∀ t, cntT a.ms t = a.cnt t
  le : ∀ t, a.cnt t ≤ lenOf ts t
  last : lastK a.ms ≤ (k : Int)
theorem GI.up {ts : List (List Op3)} {picks : List Int} {a : PA} {k : Nat} (h : GI ts picks a k) : GI ts picks a (k + 1) := ⟨h.ms, h.cnt, h.le, by have := h.last; push_cast; omega⟩
theorem GI.pick {ts : List (List Op3)} {picks : List Int} {a : PA} {k t : Nat} (h : GI ts picks a k) (ht : t < ts.length) (ha : (playG ts).alive a t = true) (hp : ∀ p, picks[k]? = some p → pickIx p ts.length = t) : GI ts picks ((playG ts).pick a t ((k : Int) + 1)) (k + 1) := by
  have ha' : a.cnt t < lenOf ts t := of_decide_eq_true ha
  have hl := h.last
  refine ⟨?_, fun t' => ?_, fun t' => ?_, ?_⟩
  · show okMs ts picks (a.ms ++ [_])
    refine okMs_snoc h.ms ⟨t, k, ht, ?_, by rw [h.cnt]; exact ha', by push_cast; omega, hp⟩
    rw [h.cnt]
    push_cast
    rfl
  · show cntT (a.ms ++ [_]) t' = upd a.cnt t (a.cnt t + 1) t'
    rw [cntT_snoc, h.cnt]
    dsimp only
    by_cases e : t' = t
    · subst e
      rw [upd_same, if_pos rfl]
    · rw [upd_ne _ _ e, if_neg (by omega), Nat.add_zero]
  · show upd a.cnt t (a.cnt t + 1) t' ≤ _
    by_cases e : t' = t
    · subst e
      rw [upd_same]; exact ha'
    · rw [upd_ne _ _ e]; exact h.le t'
  · show lastK (a.ms ++ [_]) ≤ _
    rw [lastK_snoc]
    push_cast
    exact Int.le_refl _
end Go.Proofs.Ytimlbbleblijnaa.Co

namespace Go.Proofs.Ytimlbbleblijnaa.Co
open Go Go.Conc Go.RowKit
set_option linter.unusedVariables false
set_option linter.unusedSimpArgs false
structure AtRow (x wr : World) (ab n : Nat) (c : Nat → Nat) : Prop where
  size : wr.heap.size = x.heap.size
  old : ∀ b, b ≠ ab → wr.heap[b]? = x.heap[b]?
  row : wr.heap[ab]? = some (.cells ((List.range n).map fun t => .int .i64 (c t : Int)).toArray 3)
theorem AtRow.cell {x wr : World} {ab n t : Nat} {c : Nat → Nat} (h : AtRow x wr ab n c) (ht : t < n) : wr.cell? ⟨ab, t, none⟩ = some (.int .i64 (c t : Int)) := by
  refine obj_cell h.row ?_
  simp [ht]
theorem AtRow.set {x wr : World} {ab n t : Nat} {c : Nat → Nat} (h : AtRow x wr ab n c) (ht : t < n) : AtRow x (wr.setCell ⟨ab, t, none⟩ (.int .i64 ((c t + 1 : Nat) : Int))) ab n (fun t' => c t' + if t' = t then 1 else 0) := by
  refine ⟨by rw [← h.size]; simp [World.setCell], fun b hb => by rw [heap_setCell_ne (a := ⟨ab, t, none⟩) (fun e => hb e.symm)]; exact h.old b hb, ?_⟩
  have hl := (Array.getElem?_eq_some_iff.1 h.row).1
  have e : (wr.setCell ⟨ab, t, none⟩ (.int .i64 ((c t + 1 : Nat) : Int))).heap[ab]? = some (.cells ((((List.range n).map fun t => Value.int .i64 (c t : Int)).toArray).setIfInBounds t (.int .i64 ((c t + 1 : Nat) : Int))) 3) := heap_set (a := ⟨ab, t, none⟩) (w := wr) rfl h.row
  rw [e]
  congr 2
  refine Array.ext_getElem? fun i => ?_
  rw [Array.getElem?_setIfInBounds]
  by_cases hi : t = i
  · subst hi
    simp [ht]
  · have hi' : ¬ i = t := fun e => hi e.symm
    rw [if_neg hi]
    by_cases hin : i < n
    · simp [hin, hi']
    · simp [hin]
end Go.Proofs.Ytimlbbleblijnaa.Co
