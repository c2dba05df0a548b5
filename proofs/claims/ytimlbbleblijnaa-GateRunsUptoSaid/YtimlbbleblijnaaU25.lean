/- Lemmas for the laws of this seat, laid together of PId, PIe, PIf, PHc. -/
import Derived.Test.YtimlbbleblijnaaU17
import Derived.Test.YtimlbbleblijnaaU19
import Derived.Test.YtimlbbleblijnaaU24
import Derived.Lib.SliceRun

open Go.ConcR.Gen (base_kind baseD_kind)
set_option linter.unusedVariables false
set_option linter.unusedSimpArgs false
namespace Go.Proofs.Ytimlbbleblijnaa.Co
open Go Go.Conc Go.RowKit
open Go.ConcN (sumTo upd sumTo_upd upd_ne upd_same sumTo_congr le_sumTo)
noncomputable def bB : Code := Try.f78.body.getD .skip
noncomputable def bR0 : Code := match bB with | .seq x _ => x | _ => .skip
noncomputable def bL : Code := match bB with | .seq _ (.block _ (.loop c)) => c | _ => .skip
noncomputable def bR1 : Code := match bL with | .seq (.seq x _) _ => x | _ => .skip
noncomputable def bIf : Code := match bL with | .seq (.seq _ x) _ => x | _ => .skip
noncomputable def bR3 : Code := match bL with | .seq _ (.seq (.block _ x) _) => x | _ => .skip
noncomputable def bR2 : Code := match bL with | .seq _ (.seq _ x) => x | _ => .skip
noncomputable def ops3 : Array Oper := match bR3 with | .region _ o _ => o | _ => #[]
noncomputable def op42 : Oper := (ops3[10]?).getD default
theorem bB_parts : bB = .seq bR0 (.block 0 (.loop bL)) := by kernel_rfl
theorem bL_parts : bL = .seq (.seq bR1 bIf) (.seq (.block 1 bR3) bR2) := by kernel_rfl
noncomputable def hdB : List Item := [.code bL, .inLoop bL, .inBlock 0]
noncomputable def hdB3 : List Item := [.inBlock 1, .code bR2, .inLoop bL, .inBlock 0]
noncomputable def xbIf : Code := bIf
noncomputable def xbR2 : Code := bR2
noncomputable def xbR0 : Code := bR0
structure RegB (T : Array Value) (gp : Value) (tbx tb bbx i : Nat) : Prop where
  sz : T.size = 26
  t0 : T[0]? = some gp
  t1 : T[1]? = some (.pointer (some ⟨tbx, 0, none⟩))
  t2 : T[2]? = some (.pointer (some ⟨tb, 0, none⟩))
  t3 : T[3]? = some (.pointer (some ⟨bbx, 0, none⟩))
  t5 : T[5]? = some (.int .i64 (i : Int))
theorem RegB.up {T T' : Array Value} {gp : Value} {tbx tb bbx i : Nat} (R : RegB T gp tbx tb bbx i) (hs : T'.size = 26) (h : ∀ j, j < 6 → T'[j]? = T[j]?) : RegB T' gp tbx tb bbx i :=
  ⟨hs, (h 0 (by decide)).trans R.t0, (h 1 (by decide)).trans R.t1, (h 2 (by decide)).trans R.t2, (h 3 (by decide)).trans R.t3, (h 5 (by decide)).trans R.t5⟩
theorem slots6 (f : Nat → Value) {l : List Value} : ∀ j, j < 6 → (List.toArray (f 0 :: f 1 :: f 2 :: f 3 :: f 4 :: f 5 :: l))[j]? = some (f j)
  | 0, _ | 1, _ | 2, _ | 3, _ | 4, _ | 5, _ => rfl
  | n + 6, h => absurd h (by omega)
set_option maxRecDepth 100000 in
set_option maxHeartbeats 2000000 in
theorem bR1_wp {T : Array Value} {x : World} {gp : Value} {tbx tb bbx i t ba bo nn cp len cap : Nat} {A : Option Addr} {Q : Exit → Act → World → Prop} (R : RegB T gp tbx tb bbx i) (k1 : x.cell? ⟨tbx, 0, none⟩ = some (.slice (some ⟨ba, bo, none⟩) nn cp)) (k2 : x.cell? ⟨tb, 0, none⟩ = some (.int .i64 (t : Int))) (k3 : x.cell? ⟨ba, bo + t, none⟩ = some (.slice A len cap)) (ht : t < nn)
    (hQ : ∀ T', T'.size = 26 → (∀ j, j < 6 → T'[j]? = T[j]?) → T'[12]? = some (.bool (decide ((i : Int) < (len : Int)))) → Q .normal ⟨T', []⟩ x) : bR1.wp Try.prog Q ⟨T, []⟩ x := by
  obtain ⟨sz, t0, t1, t2, t3, t5⟩ := R
  obtain ⟨f, rfl, fz⟩ := arrfv T sz
  have e0 := fz 0 _ t0
  have e1 := fz 1 _ t1
  have e2 := fz 2 _ t2
  have e3 := fz 3 _ t3
  have e5 := fz 5 _ t5
  have hj : ∀ j, j < 6 → (List.map f (List.range 26)).toArray[j]? = some (f j) := fun j hj => arrf_get f (by omega)
  have q1 : (0 : Int) ≤ (t : Int) := by omega
  have q2 : (t : Int) < (nn : Int) := by omega
  clear fz t0 t1 t2 t3 t5 sz ht
  replace hj := Lib.hid hj
  replace hQ := Lib.hid hQ
  simp only [List.range, List.range.loop, List.map_cons, List.map_nil, e0, e1, e2, e3, e5]
  simp only [bR1, bL, bB, Try.f78, Option.getD_some]
  go_wp2_with fail
  refine hQ.out _ (by simp) (fun j hj' => ?_) (by simp)
  rw [hj.out j hj', ← e0, ← e1, ← e2, ← e3, ← e5]
  exact slots6 f j hj'
section
variable {j : Nat} {F : Machine → Trace → Prop} {E : Env} {w : World} {T : Array Value} {gp : Value} {tbx tb bbx bb i t ba bo nn cp len cap la lo : Nat} {cs : List Frame} {c : Int}
set_option maxRecDepth 100000 in
set_option maxHeartbeats 4000000 in
theorem bd_r3 (R : RegB T gp tbx tb bbx i) (k1 : w.cell? ⟨tbx, 0, none⟩ = some (.slice (some ⟨ba, bo, none⟩) nn cp)) (k2 : w.cell? ⟨tb, 0, none⟩ = some (.int .i64 (t : Int))) (k3 : w.cell? ⟨ba, bo + t, none⟩ = some (.slice (some ⟨la, lo, none⟩) len cap)) (k4 : w.cell? ⟨la, lo + i, none⟩ = some (.int .i64 c)) (k5 : w.cell? ⟨bbx, 0, none⟩ = some (.pointer (some ⟨bb, 0, none⟩)))
    (W1 : E.W tbx = false) (W2 : E.W tb = false) (W3 : E.W ba = false) (W4 : E.W la = false) (W5 : E.W bbx = false) (ht : t < nn) (hi : i < len)
    (hc : ∀ T' w', AtE j E w E w' → RegB T' gp tbx tb bbx i → HGn Try.prog j F E w' 200 (entry 42 Try.f42 #[gp, .int .i64 (t : Int), .int .i64 c, .pointer (some ⟨bb, 0, none⟩)] ((base 78).at ⟨T', []⟩ (.inRegion ops3 [10] :: hdB3) :: cs))) :
    HG Try.prog j F E (G ((base 78).at ⟨T, []⟩ (.code bR3 :: hdB3)) cs) w := by
  have hcell : ∀ {x y : World} {a : Addr} {v : Value}, x.cell? a = some v → E.W a.block = false → Aw E.W x y → y.cell? a = some v := fun {x y a v} h1 h2 h3 => (World.cell?_of_block (h3.heap _ h2)).trans h1
  have hSR : ∀ x y : World, (x.cell? ⟨tbx, 0, none⟩ = some (.slice (some ⟨ba, bo, none⟩) nn cp) ∧ x.cell? ⟨tb, 0, none⟩ = some (.int .i64 (t : Int)) ∧ x.cell? ⟨ba, bo + t, none⟩ = some (.slice (some ⟨la, lo, none⟩) len cap) ∧ x.cell? ⟨la, lo + i, none⟩ = some (.int .i64 c) ∧ x.cell? ⟨bbx, 0, none⟩ = some (.pointer (some ⟨bb, 0, none⟩))) → Aw E.W x y →
      (y.cell? ⟨tbx, 0, none⟩ = some (.slice (some ⟨ba, bo, none⟩) nn cp) ∧ y.cell? ⟨tb, 0, none⟩ = some (.int .i64 (t : Int)) ∧ y.cell? ⟨ba, bo + t, none⟩ = some (.slice (some ⟨la, lo, none⟩) len cap) ∧ y.cell? ⟨la, lo + i, none⟩ = some (.int .i64 c) ∧ y.cell? ⟨bbx, 0, none⟩ = some (.pointer (some ⟨bb, 0, none⟩))) :=
    fun x y ⟨a1, a2, a3, a4, a5⟩ hA => ⟨hcell a1 W1 hA, hcell a2 W2 hA, hcell a3 W3 hA, hcell a4 W4 hA, hcell a5 W5 hA⟩
  have TT : Terms (Aw E.W) E.D := terms_aw _ _ _ _
  have q1 : (0 : Int) ≤ (t : Int) := by omega
  have q2 : (t : Int) < (nn : Int) := by omega
  have q3 : (0 : Int) ≤ (i : Int) := by omega
  have q4 : (i : Int) < (len : Int) := by omega
  obtain ⟨sz, t0, t1, t2, t3, t5⟩ := R
  obtain ⟨f, hf, fz⟩ := arrfv T sz
  have e0 := fz 0 _ t0
  have e1 := fz 1 _ t1
  have e2 := fz 2 _ t2
  have e3 := fz 3 _ t3
  have e5 := fz 5 _ t5
  clear fz t0 t1 t2 t3 t5 sz
  rw [hf]
  clear hf
  obtain ⟨aF, haF⟩ : ∃ aF : Act, aF = ⟨#[gp, .pointer (some ⟨tbx, 0, none⟩), .pointer (some ⟨tb, 0, none⟩), .pointer (some ⟨bbx, 0, none⟩), f 4, .int .i64 (i : Int), f 6, f 7, f 8, f 9, f 10, f 11, f 12, f 13, f 14, gp, .int .i64 (t : Int), .slice (some ⟨ba, bo, none⟩) nn cp, .int .i64 (t : Int), .pointer (some ⟨ba, bo + t, none⟩), .slice (some ⟨la, lo, none⟩) len cap, .int .i64 (i : Int), .pointer (some ⟨la, lo + i, none⟩), .int .i64 c, .pointer (some ⟨bb, 0, none⟩), f 25], []⟩ := ⟨_, rfl⟩
  have hS0 : w.cell? ⟨tbx, 0, none⟩ = some (.slice (some ⟨ba, bo, none⟩) nn cp) ∧ w.cell? ⟨tb, 0, none⟩ = some (.int .i64 (t : Int)) ∧ w.cell? ⟨ba, bo + t, none⟩ = some (.slice (some ⟨la, lo, none⟩) len cap) ∧ w.cell? ⟨la, lo + i, none⟩ = some (.int .i64 c) ∧ w.cell? ⟨bbx, 0, none⟩ = some (.pointer (some ⟨bb, 0, none⟩)) := ⟨k1, k2, k3, k4, k5⟩
  clear k1 k2 k3 k4 k5 hcell
  replace hc := Lib.hid hc
  generalize hdB3 = KB at hc ⊢
  rw [show bR3 = .region 3 ops3 true from by kernel_rfl]
  simp only [List.range, List.range.loop, List.map_cons, List.map_nil, e0, e1, e2, e3, e5]
  refine HG.looksTo (n := 10) (o := op42) (aF := aF) (S := fun x => x.cell? ⟨tbx, 0, none⟩ = some (.slice (some ⟨ba, bo, none⟩) nn cp) ∧ x.cell? ⟨tb, 0, none⟩ = some (.int .i64 (t : Int)) ∧ x.cell? ⟨ba, bo + t, none⟩ = some (.slice (some ⟨la, lo, none⟩) len cap) ∧ x.cell? ⟨la, lo + i, none⟩ = some (.int .i64 c) ∧ x.cell? ⟨bbx, 0, none⟩ = some (.pointer (some ⟨bb, 0, none⟩))) (by kernel_rfl) (by rfl) (by kernel_rfl) (by kernel_rfl) (fun w₁ hA => ?_) (fun w' hA => ?_)
  · have hS1 := hSR w w₁ hS0 hA
    have hQR : ∀ (a : Act) (x y : World), (Exit.normal = Exit.normal ∧ a = aF ∧ Aw E.W w x) → Aw E.W x y → (Exit.normal = Exit.normal ∧ a = aF ∧ Aw E.W w y) := fun a x y ⟨q1, q2, q3⟩ hxy => ⟨q1, q2, Aw.trans _ _ _ q3 hxy⟩
    have hA1 := aw_draw hA (w₁.drawn + 1)
    replace hA1 := Lib.hid hA1
    replace haF := Lib.hid haF
    clear hA hc hS0
    simp only [ops3, bR3, bL, bB, Try.f78, Option.getD_some, nopOf, List.setIfInBounds_toArray, List.set_cons_zero, List.set_cons_succ, List.size_toArray, List.length_cons, List.length_nil, Nat.zero_add, Nat.reduceAdd]
    refine anyCH_take TT hSR hQR (i := 0) (v := gp) rfl (by kernel_rfl) (by kernel_rfl) (by kernel_rfl) (yields_pure (by rfl) (fun w => by go_simp) (fun w => by simp [go_sem, *])) hS1 ?_
    simp only [Act.put, List.setIfInBounds_toArray, List.set_cons_zero, List.set_cons_succ, List.getElem_toArray, List.getElem_cons_succ, List.getElem_cons_zero]
    refine anyCH_take TT hSR hQR (i := 1) (v := .int .i64 (t : Int)) rfl (by kernel_rfl) (by kernel_rfl) (by kernel_rfl) (yields_ld (ad := ⟨tb, 0, none⟩) (fun w hs => hs.2.1) W2 (by rfl) (fun w hc => ⟨by go_simp, fun e he => by (have he' := he; simp [go_sem, hc] at he'; exact he')⟩)) hS1 ?_
    simp only [Act.put, List.setIfInBounds_toArray, List.set_cons_zero, List.set_cons_succ, List.getElem_toArray, List.getElem_cons_succ, List.getElem_cons_zero]
    refine anyCH_take TT hSR hQR (i := 2) (v := .slice (some ⟨ba, bo, none⟩) nn cp) rfl (by kernel_rfl) (by kernel_rfl) (by kernel_rfl) (yields_ld (ad := ⟨tbx, 0, none⟩) (fun w hs => hs.1) W1 (by rfl) (fun w hc => ⟨by go_simp, fun e he => by (have he' := he; simp [go_sem, hc] at he'; exact he')⟩)) hS1 ?_
    simp only [Act.put, List.setIfInBounds_toArray, List.set_cons_zero, List.set_cons_succ, List.getElem_toArray, List.getElem_cons_succ, List.getElem_cons_zero]
    refine anyCH_take TT hSR hQR (i := 3) (v := .int .i64 (t : Int)) rfl (by kernel_rfl) (by kernel_rfl) (by kernel_rfl) (yields_ld (ad := ⟨tb, 0, none⟩) (fun w hs => hs.2.1) W2 (by rfl) (fun w hc => ⟨by go_simp, fun e he => by (have he' := he; simp [go_sem, hc] at he'; exact he')⟩)) hS1 ?_
    simp only [Act.put, List.setIfInBounds_toArray, List.set_cons_zero, List.set_cons_succ, List.getElem_toArray, List.getElem_cons_succ, List.getElem_cons_zero]
    refine anyCH_take TT hSR hQR (i := 4) (v := .pointer (some ⟨ba, bo + t, none⟩)) rfl (by kernel_rfl) (by kernel_rfl) (by kernel_rfl) (yields_pure (by rfl) (fun w => by go_simp) (fun w => by simp [go_sem, *])) hS1 ?_
    simp only [Act.put, List.setIfInBounds_toArray, List.set_cons_zero, List.set_cons_succ, List.getElem_toArray, List.getElem_cons_succ, List.getElem_cons_zero]
    refine anyCH_take TT hSR hQR (i := 5) (v := .slice (some ⟨la, lo, none⟩) len cap) rfl (by kernel_rfl) (by kernel_rfl) (by kernel_rfl) (yields_ld (ad := ⟨ba, bo + t, none⟩) (fun w hs => hs.2.2.1) W3 (by rfl) (fun w hc => ⟨by go_simp, fun e he => by (have he' := he; simp [go_sem, hc] at he'; exact he')⟩)) hS1 ?_
    simp only [Act.put, List.setIfInBounds_toArray, List.set_cons_zero, List.set_cons_succ, List.getElem_toArray, List.getElem_cons_succ, List.getElem_cons_zero]
    refine anyCH_take TT hSR hQR (i := 6) (v := .int .i64 (i : Int)) rfl (by kernel_rfl) (by kernel_rfl) (by kernel_rfl) (yields_pure (by rfl) (fun w => by go_simp) (fun w => by simp [go_sem, *])) hS1 ?_
    simp only [Act.put, List.setIfInBounds_toArray, List.set_cons_zero, List.set_cons_succ, List.getElem_toArray, List.getElem_cons_succ, List.getElem_cons_zero]
    refine anyCH_take TT hSR hQR (i := 7) (v := .pointer (some ⟨la, lo + i, none⟩)) rfl (by kernel_rfl) (by kernel_rfl) (by kernel_rfl) (yields_pure (by rfl) (fun w => by go_simp) (fun w => by simp [go_sem, *])) hS1 ?_
    simp only [Act.put, List.setIfInBounds_toArray, List.set_cons_zero, List.set_cons_succ, List.getElem_toArray, List.getElem_cons_succ, List.getElem_cons_zero]
    refine anyCH_take TT hSR hQR (i := 8) (v := .int .i64 c) rfl (by kernel_rfl) (by kernel_rfl) (by kernel_rfl) (yields_ld (ad := ⟨la, lo + i, none⟩) (fun w hs => hs.2.2.2.1) W4 (by rfl) (fun w hc => ⟨by go_simp, fun e he => by (have he' := he; simp [go_sem, hc] at he'; exact he')⟩)) hS1 ?_
    simp only [Act.put, List.setIfInBounds_toArray, List.set_cons_zero, List.set_cons_succ, List.getElem_toArray, List.getElem_cons_succ, List.getElem_cons_zero]
    refine anyCH_take TT hSR hQR (i := 9) (v := .pointer (some ⟨bb, 0, none⟩)) rfl (by kernel_rfl) (by kernel_rfl) (by kernel_rfl) (yields_ld (ad := ⟨bbx, 0, none⟩) (fun w hs => hs.2.2.2.2) W5 (by rfl) (fun w hc => ⟨by go_simp, fun e he => by (have he' := he; simp [go_sem, hc] at he'; exact he')⟩)) hS1 ?_
    simp only [Act.put, List.setIfInBounds_toArray, List.set_cons_zero, List.set_cons_succ, List.getElem_toArray, List.getElem_cons_succ, List.getElem_cons_zero]
    refine anyCH_take TT hSR hQR (i := 10) (v := undef) rfl (by kernel_rfl) (by kernel_rfl) (by kernel_rfl) (yields_pure (by rfl) (fun w => by go_simp) (fun w => by simp [go_sem])) hS1 ?_
    simp only [Act.put, List.getElem_toArray, List.getElem_cons_succ, List.getElem_cons_zero]
    refine anyCH_done (by kernel_rfl) ⟨rfl, haF.out.symm, hA1.out⟩ _
  · subst haF
    change HGn Try.prog j F E w' 300 _
    refine Idl.callE (fn := Try.f42) (vs := #[gp, .int .i64 (t : Int), .int .i64 c, .pointer (some ⟨bb, 0, none⟩)]) (idl_hg Try.prog j F E w') (o := op42) (by kernel_rfl) rfl (by k_ne) rfl Try.func42 rfl rfl (by simp [Act.eval]) ?_
    exact hc.out _ w' ⟨.refl j E, hA⟩ ⟨by simp, by simp, by simp, by simp, by simp, by simp⟩
set_option maxRecDepth 100000 in
set_option maxHeartbeats 2000000 in
theorem bd_back (R : RegB T gp tbx tb bbx i) (hi : i ≤ 1000000000000) (hc : ∀ T', RegB T' gp tbx tb bbx (i + 1) → HG Try.prog j F E (G ((base 78).at ⟨T', []⟩ hdB) cs) w) :
    HG Try.prog j F E (G ((base 78).at ((⟨T, []⟩ : Act).put ((ops3[10]?).bind (·.dst)) (.tuple #[])) (.inRegion ops3 [] :: hdB3)) cs) w := by
  have w3 : IntKind.i64.wrap ((i : Int) + 1) = ((i + 1 : Nat) : Int) := by rw [IntKind.wrap_i64]; omega
  rw [show (ops3[10]?).bind (·.dst) = some 25 by kernel_rfl]
  obtain ⟨sz, t0, t1, t2, t3, t5⟩ := R
  obtain ⟨f, hf, fz⟩ := arrfv T sz
  have e0 := fz 0 _ t0
  have e1 := fz 1 _ t1
  have e2 := fz 2 _ t2
  have e3 := fz 3 _ t3
  have e5 := fz 5 _ t5
  clear fz t0 t1 t2 t3 t5 sz hi
  rw [hf]
  clear hf
  have hc' : ∀ T' : Array Value, T'.size = 26 → T'[0]? = some gp → T'[1]? = some (.pointer (some ⟨tbx, 0, none⟩)) → T'[2]? = some (.pointer (some ⟨tb, 0, none⟩)) → T'[3]? = some (.pointer (some ⟨bbx, 0, none⟩)) → T'[5]? = some (.int .i64 ((i + 1 : Nat) : Int)) → HG Try.prog j F E (G ((base 78).at ⟨T', []⟩ hdB) cs) w := fun T' a1 a2 a3 a4 a5 a6 => hc T' ⟨a1, a2, a3, a4, a5, a6⟩
  clear hc
  replace hc' := Lib.hid hc'
  change HGn Try.prog j F E w 100 _
  refine Idl.step (idl_hg Try.prog j F E w) _ _ _ rfl (fun _ => stepG_region_end) ?_
  unfold hdB3
  unfold hdB at hc'
  generalize bL = L4 at hc' ⊢
  rw [show bR2 = xbR2 from rfl]
  simp only [Act.put, xbR2, bR2, bL, bB, Try.f78, Option.getD_some, List.range, List.range.loop, List.map_cons, List.map_nil, e0, e1, e2, e3, e5, List.setIfInBounds_toArray, List.set_cons_zero, List.set_cons_succ]
  refine Idl.ib (idl_hg Try.prog j F E w) (Idl.rg (idl_hg Try.prog j F E w) [0, 1, 2] rfl ?_)
  iterate 3 (apply Idl.value (idl_hg Try.prog j F E w) rfl rfl (by first | decide | exact base_kind _ | exact baseD_kind _ | assumption); (focus (intro w; go_simp; (try w_num); first | done | rfl)); (focus (intro w; simp [go_sem, *])); walk_nrm)
  refine Idl.re (idl_hg Try.prog j F E w) (Idl.il (idl_hg Try.prog j F E w) ?_)
  try simp only [w3]
  exact hc'.out _ (by simp) (by simp) (by simp) (by simp) (by simp) (by simp)
set_option maxRecDepth 100000 in
set_option maxHeartbeats 2000000 in
theorem bd_head {A : Option Addr} (R : RegB T gp tbx tb bbx i) (k1 : w.cell? ⟨tbx, 0, none⟩ = some (.slice (some ⟨ba, bo, none⟩) nn cp)) (k2 : w.cell? ⟨tb, 0, none⟩ = some (.int .i64 (t : Int))) (k3 : w.cell? ⟨ba, bo + t, none⟩ = some (.slice A len cap)) (h1 : E.H tbx = none) (h2 : E.H tb = none) (h3 : E.H ba = none) (ht : t < nn)
    (hgo : i < len → ∀ E1 w1 T', Still j E w E1 w1 → RegB T' gp tbx tb bbx i → HG Try.prog j F E1 (G ((base 78).at ⟨T', []⟩ (.code bR3 :: hdB3)) cs) w1)
    (hend : len ≤ i → ∀ E1 w1 T', Still j E w E1 w1 → T'.size = 26 → HGn Try.prog j F E1 w1 100 (G ((base 78).at ⟨T', []⟩ []) cs)) :
    HG Try.prog j F E (G ((base 78).at ⟨T, []⟩ hdB) cs) w := by
  unfold hdB
  change HGn Try.prog j F E w 100 _
  have e : ([.code bL, .inLoop bL, .inBlock 0] : List Item) = [.code (.seq (.seq bR1 bIf) (.seq (.block 1 bR3) bR2)), .inLoop bL, .inBlock 0] := congrArg (fun z => [Item.code z, .inLoop bL, .inBlock 0]) bL_parts
  rw [e]
  clear e
  refine Idl.step (idl_hg Try.prog j F E w) _ _ _ rfl (fun _ => stepG_seq) ?_
  refine Idl.step (idl_hg Try.prog j F E w) _ _ _ rfl (fun _ => stepG_seq) ?_
  refine HG.quietN (closed_none _) (fun T' => T'.size = 26 ∧ (∀ j, j < 6 → T'[j]? = T[j]?) ∧ T'[12]? = some (.bool (decide ((i : Int) < (len : Int))))) (by kernel_rfl) (by rfl) (fun x hx => bR1_wp R ((World.cell?_of_block (a := ⟨tbx, 0, none⟩) (hx _ h1)).trans k1) ((World.cell?_of_block (a := ⟨tb, 0, none⟩) (hx _ h2)).trans k2) ((World.cell?_of_block (a := ⟨ba, bo + t, none⟩) (hx _ h3)).trans k3) ht (fun T' a1 a2 a3 => ⟨rfl, rfl, fun _ _ => rfl, a1, a2, a3⟩)) (fun E1 w1 T1 S1 hR => ?_)
  obtain ⟨s1, o1, r12⟩ := hR
  have R1 := R.up s1 o1
  by_cases hlt : i < len
  · rw [decide_eq_true (show (i : Int) < (len : Int) by omega)] at r12
    have hg := fun T' (h : RegB T' gp tbx tb bbx i) => hgo hlt E1 w1 T' S1 h
    obtain ⟨sz, t0, t1, t2, t3, t5⟩ := R1
    obtain ⟨f, hf, fz⟩ := arrfv T1 sz
    have e0 := fz 0 _ t0
    have e1 := fz 1 _ t1
    have e2 := fz 2 _ t2
    have e3 := fz 3 _ t3
    have e5 := fz 5 _ t5
    have e12 := fz 12 _ r12
    have hg' : ∀ T' : Array Value, T'.size = 26 → T'[0]? = some gp → T'[1]? = some (.pointer (some ⟨tbx, 0, none⟩)) → T'[2]? = some (.pointer (some ⟨tb, 0, none⟩)) → T'[3]? = some (.pointer (some ⟨bbx, 0, none⟩)) → T'[5]? = some (.int .i64 (i : Int)) → HG Try.prog j F E1 (G ((base 78).at ⟨T', []⟩ (.code bR3 :: hdB3)) cs) w1 := fun T' a1 a2 a3 a4 a5 a6 => hg T' ⟨a1, a2, a3, a4, a5, a6⟩
    clear fz t0 t1 t2 t3 t5 sz hg hgo hend k1 k2 k3 h1 h2 h3 ht R o1 s1 hlt r12
    replace hg' := Lib.hid hg'
    replace S1 := Lib.hid S1
    rw [hf]
    clear hf
    unfold hdB3 at hg'
    change HGn Try.prog j F E1 w1 100 _
    generalize bR3 = L3 at hg' ⊢
    generalize bR2 = L2 at hg' ⊢
    generalize bL = L4 at hg' ⊢
    rw [show bIf = xbIf from rfl]
    simp only [xbIf, bIf, bL, bB, Try.f78, Option.getD_some, List.range, List.range.loop, List.map_cons, List.map_nil, e0, e1, e2, e3, e5, e12]
    refine Idl.ct (idl_hg Try.prog j F E1 w1) rfl (Idl.sk (idl_hg Try.prog j F E1 w1) (Idl.q (idl_hg Try.prog j F E1 w1) (Idl.bl (idl_hg Try.prog j F E1 w1) ?_)))
    exact hg'.out _ (by simp) (by simp) (by simp) (by simp) (by simp) (by simp)
  · rw [decide_eq_false (show ¬ (i : Int) < (len : Int) by omega)] at r12
    have hg := fun T' h => hend (by omega) E1 w1 T' S1 h
    obtain ⟨f, hf, fz⟩ := arrfv T1 s1
    have e12 := fz 12 _ r12
    clear fz hgo hend k1 k2 k3 h1 h2 h3 ht R R1 o1 s1 hlt r12
    replace hg := Lib.hid hg
    replace S1 := Lib.hid S1
    rw [hf]
    clear hf
    change HGn Try.prog j F E1 w1 200 _
    generalize bR3 = L3 at ⊢
    generalize bR2 = L2 at ⊢
    generalize bL = L4 at ⊢
    rw [show bIf = xbIf from rfl]
    simp only [xbIf, bIf, bL, bB, Try.f78, Option.getD_some, List.range, List.range.loop, List.map_cons, List.map_nil, e12]
    refine Idl.cond (idl_hg Try.prog j F E1 w1) false rfl ?_
    simp only [if_true, if_false, Bool.false_eq_true, ↓reduceIte]
    refine Idl.exit (idl_hg Try.prog j F E1 w1) rfl ?_
    exact hg.out _ (by simp)
end
structure RTok (K : Nat → Obj → Prop) (L : List RT) (bb tbx tb bbx ba bo nn cp t : Nat) (p : RT) : Prop where
  pt : L[t]? = some p
  kx : KC K ⟨tbx, 0, none⟩ (.slice (some ⟨ba, bo, none⟩) nn cp)
  kt : KC K ⟨tb, 0, none⟩ (.int .i64 (t : Int))
  kb : KC K ⟨bbx, 0, none⟩ (.pointer (some ⟨bb, 0, none⟩))
  kr : KC K ⟨ba, bo + t, none⟩ (.slice p.A p.ops.length p.cap)
  ops : ∀ (i : Nat) (c : Int), p.ops[i]? = some c → p.A = some ⟨p.la, p.lo, none⟩ ∧ KC K ⟨p.la, p.lo + i, none⟩ (.int .i64 c)
  len : p.ops.length ≤ 1000000000000
  lt : t < nn
theorem RTok.o {K : Nat → Obj → Prop} {L : List RT} {bb tbx tb bbx ba bo nn cp t : Nat} {p : RT} (P : RTok K L bb tbx tb bbx ba bo nn cp t p) : opsR L t = p.ops := by unfold opsR; rw [P.pt]; rfl
section
variable {rb bb tbx tb bbx ba bo nn cp t : Nat} {th : Th} {K : Nat → Obj → Prop} {L : List RT} {p : RT} {b₀ : Frame} {a₀ : Act} {ops₀ : Array Oper} {i₀ : Nat} {rest₀ : List Nat} {k₀ : List Item} {cl : List Frame}
theorem actS_other {c k : Int} {tl : Tl3} {i : Nat} {s : RSt} (h5 : c ≠ 5) : actS c t k tl i s = ⟨s.told, upd s.cnt t (i + 1)⟩ := by unfold actS actL; rw [if_neg h5]
theorem rn_loop (P : RTok K L bb tbx tb bbx ba bo nn cp t p) (hbound : sumTo L.length (fun t => (opsR L t).length) ≤ 1000000000000) (LR : LiveRet th.gb th.box rb b₀ a₀ ops₀ i₀ rest₀ k₀ cl) :
    ∀ (m i : Nat), m + i = p.ops.length → ∀ (f : Nat) (tl : Tl3), m ≤ f → ∀ (h : Nat) (home : Goroutine → Prop) (k : Int) (F : Machine → Trace → Prop) (E : Env) (w : World) (s : RSt) (T : Array Value), TKn h rb home k th E w → GA w rb th false false tl → RunM bb K L s E w → s.cnt t = i → RegB T (.pointer (some ⟨th.gb, 0, none⟩)) tbx tb bbx i →
      (∀ s' o, AdvR (opsR L t) t k i tl s (s', o) → Back (runD bb K L) h rb home th F E w s' o (roleOf (Srv (runD bb K L) rb th f) rb th o)) →
      HG Try.prog th.j F E (G ((base 78).at ⟨T, []⟩ hdB) (b₀.at a₀ (.inRegion ops₀ (i₀ :: rest₀) :: k₀) :: cl)) w := by
  intro m
  induction m with
  | zero =>
    intro i hi f tl hf h home k F E w s T TK g M hcn R hB
    obtain ⟨c1, c2, _⟩ := M.konst _ _ P.kx
    obtain ⟨c3, c4, _⟩ := M.konst _ _ P.kt
    obtain ⟨c5, c6, _⟩ := M.konst _ _ P.kr
    refine bd_head R c1 c3 c5 c2 c4 c6 P.lt (fun hlt => absurd hlt (by omega)) (fun _ E1 w1 T1 S1 s1 => ?_)
    have TK1 := TK.kept S1.kept.weaken TK.gct
    have hb := (hB s none (.stop (by rw [P.o]; omega))).kept S1.kept.weaken
    refine Idl.step (idl_hg Try.prog th.j F E1 w1) _ _ _ rfl (fun _ => stepG_end) ?_
    refine Idl.leave0 (n := 1) (idl_hg Try.prog th.j F E1 w1) rfl rfl Try.func78 rfl ?_
    exact body_ret (D := runD bb K L) LR TK1 (GA.kept S1.kept g TK.gH TK.gW) (M.still S1) hb
  | succ m ih =>
    intro i hi f tl hf h home k F E w s T TK g M hcn R hB
    obtain ⟨c1, c2, _⟩ := M.konst _ _ P.kx
    obtain ⟨c3, c4, _⟩ := M.konst _ _ P.kt
    obtain ⟨c5, c6, _⟩ := M.konst _ _ P.kr
    refine bd_head R c1 c3 c5 c2 c4 c6 P.lt (fun hlt E1 w1 T1 S1 R1 => ?_) (fun h => absurd h (by omega))
    have TK1 := TK.kept S1.kept.weaken TK.gct
    have g1 := GA.kept S1.kept g TK.gH TK.gW
    have M1 := M.still S1
    obtain ⟨c, hop⟩ : ∃ c, p.ops[i]? = some c := ⟨_, List.getElem?_eq_getElem hlt⟩
    have hop' : (opsR L t)[i]? = some c := by rw [P.o]; exact hop
    obtain ⟨hA, K4⟩ := P.ops i c hop
    have K3 := P.kr
    rw [hA] at K3
    obtain ⟨d1, d1H, _⟩ := M1.konst _ _ P.kx
    obtain ⟨d2, d2H, _⟩ := M1.konst _ _ P.kt
    obtain ⟨d3, d3H, _⟩ := M1.konst _ _ K3
    obtain ⟨d4, d4H, _⟩ := M1.konst _ _ K4
    obtain ⟨d5, d5H, _⟩ := M1.konst _ _ P.kb
    have htl : t < L.length := (List.getElem?_eq_some_iff.1 P.pt).1
    have hil : i < (opsR L t).length := by rw [P.o]; exact hlt
    have hi12 : i ≤ 1000000000000 := by have := P.len; omega
    refine HG.withH fun hWH _ => ?_
    have hWn : ∀ b, E1.H b = none → E1.W b = false := fun b hb => by
      cases e : E1.W b with
      | false => rfl
      | true => have := hWH b e; rw [hb] at this; cases this
    refine bd_r3 R1 d1 d2 d3 d4 d5 (hWn _ d1H) (hWn _ d2H) (hWn _ d3H) (hWn _ d4H) (hWn _ d5H) P.lt hlt (fun T2 w2 hA2 R2 => ?_)
    have kk2 : Kept th.j (some th.gb) E1 w1 E1 w2 := Kept.of_at hA2
    have TK2 := TK1.kept kk2 TK1.gct
    have g2 := GA.at g1 TK1.gW hA2
    have M2 : RunM bb K L s E1 w2 := Prot.at (D := runD bb K L) M1 hWH hA2
    have kE : Kept th.j (some th.gb) E w E1 w2 := S1.kept.weaken.trans kk2
    by_cases h1 : c = 1
    · subst h1
      obtain ⟨f', rfl⟩ : ∃ f', f = f' + 1 := ⟨f - 1, by omega⟩
      have B1 := (hB s (some ⟨t, i, tl⟩) (.step hop')).kept kE
      refine does_step (fun a₁ ops' i' rest' k' hd hp => ?_)
      refine body_step (D := runD bb K L) (n := f') (ℓ := ⟨t, i, tl⟩) TK2 g2 M2 (OffAt.up (OffAt.up LR.offAt Try.func78 rfl) Try.func42 hd) B1 (fun h' home' k' F' E' w' s' T' g' m' f'' B' => ?_)
      have m' : RunM bb K L s' E' w' := m'
      have f'' : s'.cnt t = i := f''
      refine hp F' E' w' (bd_back R2 hi12 (fun T3 R3 => ?_))
      exact ih (i + 1) (by omega) f' _ (by omega) h' home' k' F' E' w' ⟨s'.told, upd s'.cnt t (i + 1)⟩ T3 T' g' (m'.step f'' hil htl rfl) (upd_same ..) R3 (fun s'' o ha => B' s'' o ha)
    · have hgo : ∀ E3 w3, Kept th.j (some th.gb) E1 w2 E3 w3 → TKn h rb home k th E3 w3 → GA w3 rb th false false (actT c k tl) → RunM bb K L (actS c t k tl i s) E3 w3 → ∀ T3, RegB T3 (.pointer (some ⟨th.gb, 0, none⟩)) tbx tb bbx (i + 1) →
          HG Try.prog th.j F E3 (G ((base 78).at ⟨T3, []⟩ hdB) (b₀.at a₀ (.inRegion ops₀ (i₀ :: rest₀) :: k₀) :: cl)) w3 := fun E3 w3 k3 T3k g3 M3 T3 R3 =>
        ih (i + 1) (by omega) f _ (by omega) h home k F E3 w3 _ T3 T3k g3 M3 (upd_same ..) R3 (fun s' o ha => (hB s' o (.act hop' h1 ha)).kept (kE.trans k3))
      by_cases h5 : c = 5
      · subst h5
        refine does_tell rfl TK2 g2 M2 hcn hil htl hbound (fun E3 w3 k3 T3 g3 M3 => bd_back R2 hi12 (fun T4 R4 => hgo E3 w3 k3 T3 g3 M3 T4 R4))
      · have hM : ∀ {E3 w3}, RunM bb K L s E3 w3 → RunM bb K L (actS c t k tl i s) E3 w3 := fun m => by rw [actS_other h5]; exact m.step hcn hil htl rfl
        by_cases h2 : c = 2
        · subst h2
          exact does_begin TK2 g2 M2 (fun E3 w3 k3 T3 g3 M3 => bd_back R2 hi12 (fun T4 R4 => hgo E3 w3 k3 T3 g3 (hM M3) T4 R4))
        · by_cases h3 : c = 3
          · subst h3
            exact does_poll TK2 g2 M2 (fun E3 w3 k3 T3 g3 M3 => bd_back R2 hi12 (fun T4 R4 => hgo E3 w3 k3 T3 g3 (hM M3) T4 R4))
          · by_cases h4 : c = 4
            · subst h4
              exact does_point TK2 g2 M2 (fun E3 w3 k3 T3 g3 M3 => bd_back R2 hi12 (fun T4 R4 => hgo E3 w3 k3 T3 g3 (hM M3) T4 R4))
            · have e : actT c k tl = tl := by unfold actT; rw [if_neg h2, if_neg h3, if_neg h4]
              refine does_other h1 h2 h3 h4 h5 (bd_back R2 hi12 (fun T4 R4 => hgo E1 w2 (.refl _ _ _ _) TK2 (by rw [e]; exact g2) (hM M2) T4 R4))
end
section
variable {bb tbx tb bbx ba bo nn cp t : Nat} {K : Nat → Obj → Prop} {L : List RT} {p : RT}
set_option maxRecDepth 100000 in
set_option maxHeartbeats 2000000 in
theorem rn_born (P : RTok K L bb tbx tb bbx ba bo nn cp t p) (hbound : sumTo L.length (fun t => (opsR L t).length) ≤ 1000000000000) :
    Born (runD bb K L) t p.ops.length (AdvR (opsR L t) t 0 0 (0, 0, 0)) 78 Try.f78 #[.pointer (some ⟨tbx, 0, none⟩), .pointer (some ⟨tb, 0, none⟩), .pointer (some ⟨bbx, 0, none⟩)] := by
  intro h rb home th F E w s b₀ a₀ ops₀ i₀ rest₀ k₀ cl TK g M hI LR hB
  have M : RunM bb K L s E w := M
  have hI' : s.cnt t = 0 := hI t (Nat.le_refl _)
  have hgo : ∀ T, RegB T (.pointer (some ⟨th.gb, 0, none⟩)) tbx tb bbx 0 → HG Try.prog th.j F E (G ((base 78).at ⟨T, []⟩ hdB) (b₀.at a₀ (.inRegion ops₀ (i₀ :: rest₀) :: k₀) :: cl)) w := fun T R =>
    rn_loop P hbound LR p.ops.length 0 (by omega) p.ops.length (0, 0, 0) (Nat.le_refl _) h home 0 F E w s T TK g M hI' R hB
  have hgo' : ∀ T : Array Value, T.size = 26 → T[0]? = some (.pointer (some ⟨th.gb, 0, none⟩)) → T[1]? = some (.pointer (some ⟨tbx, 0, none⟩)) → T[2]? = some (.pointer (some ⟨tb, 0, none⟩)) → T[3]? = some (.pointer (some ⟨bbx, 0, none⟩)) → T[5]? = some (.int .i64 0) → HG Try.prog th.j F E (G ((base 78).at ⟨T, []⟩ hdB) (b₀.at a₀ (.inRegion ops₀ (i₀ :: rest₀) :: k₀) :: cl)) w := fun T a1 a2 a3 a4 a5 a6 => hgo T ⟨a1, a2, a3, a4, a5, a6⟩
  clear hgo hB LR M TK g hI hI' hbound P
  replace hgo' := Lib.hid hgo'
  unfold entry
  unfold hdB at hgo'
  rw [show Try.f78.body.getD .skip = .seq xbR0 (.block 0 (.loop bL)) from bB_parts, show Try.f78.ntmps = 26 from rfl]
  change HGn Try.prog th.j F E w 100 _
  generalize hG4 : bL = L4 at hgo' ⊢
  simp only [xbR0, bR0, bB, Try.f78, Option.getD_some]
  walk_nrm
  refine Idl.q (idl_hg Try.prog th.j F E w) (Idl.rg (idl_hg Try.prog th.j F E w) [0] rfl ?_)
  apply Idl.value (idl_hg Try.prog th.j F E w) rfl rfl (by first | decide | exact base_kind _ | exact baseD_kind _ | assumption)
  focus (intro w; go_simp; (try w_num); first | done | rfl)
  focus (intro w; simp [go_sem, *])
  walk_nrm
  refine Idl.re (idl_hg Try.prog th.j F E w) (Idl.bl (idl_hg Try.prog th.j F E w) (Idl.lp (idl_hg Try.prog th.j F E w) ?_))
  exact hgo'.out _ (by simp) (by simp) (by simp) (by simp) (by simp) (by simp)
end
structure NilRet (gb box rb : Nat) (gst : Goroutine) : Prop where
  ret : ∀ {j hr ct cs : Nat} {en fr : Bool} {s p q : Int} {ty : TypeId} {E : Env} {w : World} {F : Machine → Trace → Prop} {home : Goroutine → Prop}, w.heap[gb]? = some (gateObj rb ct cs en fr s p q ty) → E.W gb = false → w.cell? ⟨box, 0, none⟩ = some (.pointer (some ⟨gb, 0, none⟩)) → E.W box = false → E.role hr = .seat cs home → hr ≠ j → 0 < j → E.wg j = some rb →
    (∀ E1 w1 k g₂, AtE j E w E1 w1 → w1.heap[cs]? = some (.chan 0 #[] false k k false) → home g₂ → HG Try.prog hr F (E1.setRole j (.ender rb)) (Go.Conc.served g₂ (.bool false)) (w1.setChan cs 0 #[] false (k + 1) (k + 1) false)) →
    HG Try.prog j F E gst w
section
variable {j hr gb rb ct cs : Nat} {en fr : Bool} {s p q : Int} {ty : TypeId} {E : Env} {w : World} {F : Machine → Trace → Prop}
set_option maxRecDepth 100000 in
set_option maxHeartbeats 4000000 in
theorem live_nil (hG : w.heap[gb]? = some (gateObj rb ct cs en fr s p q ty)) (hW : E.W gb = false) (hrole : E.role j = .gone) (hWn : E.W w.heap.size = false)
    (hbody : ∀ gst, NilRet gb w.heap.size rb gst → HG Try.prog j F E gst (w.alloc (.cells #[.pointer (some ⟨gb, 0, none⟩)] 49))) :
    HGn Try.prog j F E w 100 (born Try.prog (dcall 73 #[.pointer (some ⟨gb, 0, none⟩), .nilFunc])) := by
  refine Idl.step (n := 99) (idl_hg Try.prog j F E w) _ _ rfl (fun w => stepG_born Try.func73 (by kernel_rfl) (by rfl)) ?_
  simp only [entryD, Try.f73, Option.getD_some]
  walk_nrm
  refine Idl.q (idl_hg Try.prog j F E w) (Idl.rg (idl_hg Try.prog j F E w) [0] rfl ?_)
  refine HGn.mk (c := #[.pointer (some ⟨gb, 0, none⟩)]) (t := 49) hrole hWn rfl rfl (by exact Go.ConcR.Gen.baseD_kind _) (fun w₁ => ⟨by kernel_rfl, by kernel_rfl⟩) ?_
  walk_nrm
  have hG' : (w.alloc (.cells #[.pointer (some ⟨gb, 0, none⟩)] 49)).heap[gb]? = some (gateObj rb ct cs en fr s p q ty) := by rw [alloc_old (Array.getElem?_eq_some_iff.1 hG).1]; exact hG
  have hbox' : (w.alloc (.cells #[.pointer (some ⟨gb, 0, none⟩)] 49)).cell? ⟨w.heap.size, 0, none⟩ = some (.pointer (some ⟨gb, 0, none⟩)) := obj_cell alloc_new rfl
  generalize w.alloc (.cells #[.pointer (some ⟨gb, 0, none⟩)] 49) = w' at hG' hbox' hbody ⊢
  generalize w.heap.size = box at *
  refine Idl.re (idl_hg Try.prog j F E w') (Idl.q (idl_hg Try.prog j F E w') (Idl.rg (idl_hg Try.prog j F E w') [0, 1, 2, 3, 4, 5, 6] rfl ?_))
  refine HGn.ld hbox' (fun z => by rw [hWn] at z; cases z) rfl rfl (by first | decide | exact base_kind _ | exact baseD_kind _ | assumption) (fun w₁ hc₁ => ⟨by go_simp, fun e he => by (have he' := he; simp [go_sem, hc₁] at he'; exact he')⟩) ?_
  walk_nrm
  iterate 2 (apply Idl.value (idl_hg Try.prog j F E w') rfl rfl (by first | decide | exact base_kind _ | exact baseD_kind _ | assumption); (focus (intro w; go_simp; (try w_num); first | done | rfl)); (focus (intro w; simp [go_sem, *])); walk_nrm)
  refine HGn.ld (obj_cell hG' (o := 0) rfl) (fun z => by rw [hW] at z; cases z) rfl rfl (by first | decide | exact base_kind _ | exact baseD_kind _ | assumption) (fun w₁ hc₁ => ⟨by go_simp, fun e he => by (have he' := he; simp [go_sem, hc₁] at he'; exact he')⟩) ?_
  walk_nrm
  iterate 2 (apply Idl.value (idl_hg Try.prog j F E w') rfl rfl (by first | decide | exact base_kind _ | exact baseD_kind _ | assumption); (focus (intro w; go_simp; (try w_num); first | done | rfl)); (focus (intro w; simp [go_sem, *])); walk_nrm)
  refine Idl.step (idl_hg Try.prog j F E w') _ _ _ rfl (fun _ => (stepG_defer rfl rfl (by exact Go.ConcR.Gen.baseD_kind _) rfl)) ?_
  walk_nrm
  refine Idl.re (idl_hg Try.prog j F E w') (Idl.q (idl_hg Try.prog j F E w') (Idl.rg (idl_hg Try.prog j F E w') [0, 1] rfl ?_))
  apply Idl.value (idl_hg Try.prog j F E w') rfl rfl (by first | decide | exact base_kind _ | exact baseD_kind _ | assumption)
  focus (intro w; go_simp; (try w_num); first | done | rfl)
  focus (intro w; simp [go_sem, *])
  walk_nrm
  refine Idl.step (idl_hg Try.prog j F E w') _ _ _ rfl (fun _ => (stepG_defer_clo rfl rfl (by exact Go.ConcR.Gen.baseD_kind _) rfl rfl)) ?_
  walk_nrm
  refine Idl.re (idl_hg Try.prog j F E w') (Idl.q (idl_hg Try.prog j F E w') (Idl.rg (idl_hg Try.prog j F E w') [0, 1] rfl ?_))
  apply Idl.value (idl_hg Try.prog j F E w') rfl rfl (by first | decide | exact base_kind _ | exact baseD_kind _ | assumption)
  focus (intro w; go_simp; (try w_num); first | done | rfl)
  focus (intro w; simp [go_sem, *])
  walk_nrm
  refine Idl.value (v := .bool false) (idl_hg Try.prog j F E w') rfl rfl (by exact Go.ConcR.Gen.baseD_kind _) (fun w => by kernel_rfl) (fun w => by kernel_rfl) ?_
  walk_nrm
  refine hbody _ ⟨?_⟩
  intro j hr ct cs en fr s p q ty E w F home hG hW hbox hWb hrun hne h0 hwg hnext
  change HGn Try.prog j F E w 120 _
  refine Idl.re (idl_hg Try.prog j F E w) (Idl.cf (idl_hg Try.prog j F E w) rfl (Idl.sk (idl_hg Try.prog j F E w) (Idl.en (idl_hg Try.prog j F E w) ?_)))
  refine Idl.unwindClo (fn := Try.f118) (vs := #[.pointer (some ⟨box, 0, none⟩)]) (idl_hg Try.prog j F E w) (by simp) rfl Try.func118 (by kernel_rfl) (by rfl) (by simp) ?_
  exact live1_ret hG hW hbox hWb hrun hne h0 hwg hnext
end
section
variable {σ Λ : Type}
theorem bornV_nil {D : Prot σ Λ} {t n : Nat} {start : σ → σ × Option Λ → Prop} (hst : ∀ s, start s (s, none)) : BornV D t n start .nilFunc := by
  intro h rb home th F E w s T hga hM hI hback
  refine HG.withB fun hB hS hC => HG.withH fun hWH hWS => ?_
  have hWn : E.W w.heap.size = false := by
    cases e : E.W w.heap.size with
    | false => rfl
    | true => have := hWH _ e; rw [hB _ (Nat.le_refl _)] at this; cases this
  refine live_nil hga T.gW T.role hWn (fun gst LR => ?_)
  rw [← T.box] at LR
  obtain ⟨k7, t7, g7, m7⟩ := birth_box T hga hM hB hS hWH rfl rfl rfl rfl
  refine HG.hide (H' := upd E.H w.heap.size (some 0)) (S' := fun a => if a = ⟨w.heap.size, 0, none⟩ then some (.pointer (some ⟨th.gb, 0, none⟩)) else E.St th.j a) (fun b m e => ?_) (fun b m e => ?_) (fun a v e => ?_) (fun a v e => ?_) ?_
  · rw [upd_ne _ _ (fun z => by rw [z, hB _ (Nat.le_refl _)] at e; cases e)]; exact e
  · by_cases hbb : b = w.heap.size
    · subst hbb
      exact .inr ⟨hWn, .inl ⟨_, _, _, alloc_new⟩⟩
    · rw [upd_ne _ _ hbb] at e; exact .inl e
  · have hl := hS th.j a (by rw [e]; simp)
    exact (if_neg (fun z => by rw [z] at hl; exact absurd hl (Nat.lt_irrefl _))).trans e
  · by_cases ha : a = ⟨w.heap.size, 0, none⟩
    · subst ha
      have e' : some (Value.pointer (some ⟨th.gb, 0, none⟩)) = some v := (if_pos rfl).symm.trans e
      obtain rfl := Option.some.inj e'
      exact .inr ⟨obj_cell alloc_new rfl, hWn, 0, upd_same .., Nat.le_refl _⟩
    · exact .inl ((if_neg ha).symm.trans e)
  · have B := hback _ _ k7 t7 s none (hst s)
    refine HG.open fun E1 w1 hA ⟨gs, T', q, C, _⟩ => ?_
    have hWH7 : ∀ b, E1.W b = true → E1.H b = some 1 := C.fit.sub
    have t1 := t7.kept (Kept.of_at hA) t7.gct
    have g1 := GA.at g7 t7.gW hA
    have kE : Kept th.j (some th.gb) _ _ E1 w1 := Kept.of_at hA
    refine LR.ret g1 t1.gW (C.keep th.j _ _ t1.stB) t1.bW t1.run t1.hj t1.j0 t1.wg (fun E2 w2 kk g₂ hA2 hcs hh => ?_)
    have hWH0 : ∀ b, (E.W b = true) → (upd E.H w.heap.size (some 0)) b = some 1 := fun b hb => by
      have hne : b ≠ w.heap.size := fun e => by rw [e, hWn] at hb; cases hb
      rw [upd_ne _ _ hne]; exact hWH b hb
    exact B E2 w2 kk g₂ (kE.trans (Kept.of_at hA2)) (Prot.at (Prot.at m7 hWH0 hA) hWH7 hA2) ⟨false, (0, 0, 0), GA.at g1 t1.gW hA2⟩ hcs hh
end
end Go.Proofs.Ytimlbbleblijnaa.Co

namespace Go.Proofs.Ytimlbbleblijnaa.Co
open Go Go.Conc Go.RowKit
noncomputable def mdB : Code := Try.f39.body.getD .skip
noncomputable def mS0 : Code := match mdB with | .seq x _ => x | _ => .skip
noncomputable def mS1 : Code := match mdB with | .seq _ (.seq x _) => x | _ => .skip
noncomputable def mS2 : Code := match mdB with | .seq _ (.seq _ (.seq x _)) => x | _ => .skip
noncomputable def mS3 : Code := match mdB with | .seq _ (.seq _ (.seq _ x)) => x | _ => .skip
theorem mdB_parts : mdB = .seq mS0 (.seq mS1 (.seq mS2 mS3)) := by kernel_rfl
def bodyV (LA : Nat → Option Addr) (TB : Nat → Nat) (tbx bbx i : Nat) : Value := if (LA i).isNone then .nilFunc else .func (.func 78) #[] #[.pointer (some ⟨tbx, 0, none⟩), .pointer (some ⟨TB i, 0, none⟩), .pointer (some ⟨bbx, 0, none⟩)]
theorem bodyV_succ (LA : Nat → Option Addr) (TB : Nat → Nat) (tbx bbx i c : Nat) : (List.range (i + 1)).map (bodyV LA (fun j => if j = i then c else TB j) tbx bbx) = (List.range i).map (bodyV LA TB tbx bbx) ++ [bodyV LA (fun _ => c) tbx bbx i] := by
  rw [List.range_succ, List.map_append]
  congr 1
  · refine List.map_congr_left fun j hj => ?_
    have := List.mem_range.1 hj
    have hne : j ≠ i := by omega
    simp [bodyV, hne]
  · simp [bodyV]
structure Bx2 (B tbx bbx : Nat) (LA : Nat → Option Addr) (TB : Nat → Nat) (v : Value) (n : Nat) (x : World) : Prop where
  row : x.ownsRow B 52 1 v n ((List.range n).map (bodyV LA TB tbx bbx))
  box : ∀ i, i < n → x.cell? ⟨TB i, 0, none⟩ = some (.int .i64 (i : Int)) ∧ B ≤ TB i ∧ v.ownBlock ≠ some (TB i)
structure BxC (B cb : Nat) (TB : Nat → Nat) (v : Value) (n : Nat) (x : World) : Prop where
  cur : x.heap[cb]? = some (.cells #[.int .i64 (n : Int)] 3)
  le : B ≤ cb
  ne : v.ownBlock ≠ some cb
  old : ∀ i, i < n → TB i ≠ cb
theorem bx_next {B tbx bbx i cb gg cp S : Nat} {LA : Nat → Option Addr} {TB : Nat → Nat} {v : Value} {wr w3 w4 w6 : World} {cv : Value} (row : wr.ownsRow B 52 1 v i ((List.range i).map (bodyV LA TB tbx bbx))) (box : ∀ j, j < i → wr.cell? ⟨TB j, 0, none⟩ = some (.int .i64 (j : Int)) ∧ B ≤ TB j ∧ v.ownBlock ≠ some (TB j)) (C : BxC B cb TB v i wr)
    (hw3 : w3 = wr.alloc (.cells #[cv] 52)) (hcv : cv = bodyV LA (fun _ => cb) tbx bbx i) (ho4 : w4.ownsRow B 52 1 (.slice (some ⟨gg, 0, none⟩) (i + 1) cp) (i + 1) ((List.range i).map (bodyV LA TB tbx bbx) ++ [cv])) (hgrow : w3.grownBy w4 v.ownBlock) (hat : v.ownBlock = some gg ∨ gg = w3.heap.size) (hS : S = w4.heap.size)
    (h6 : ∀ b, b < w4.heap.size → w6.heap[b]? = w4.heap[b]?) (h6n : w6.heap[S]? = some (.cells #[.int .i64 ((i + 1 : Nat) : Int)] 3)) (hBs : B ≤ wr.heap.size) :
    Bx2 B tbx bbx LA (fun j => if j = i then cb else TB j) (.slice (some ⟨gg, 0, none⟩) (i + 1) cp) (i + 1) w6 ∧ BxC B S (fun j => if j = i then cb else TB j) (.slice (some ⟨gg, 0, none⟩) (i + 1) cp) (i + 1) w6 := by
  have s3 : w3.heap.size = wr.heap.size + 1 := by rw [hw3, alloc_size]
  have hgs := hgrow.size
  have hrl : ∀ c, v.ownBlock = some c → c < wr.heap.size := fun c hc => (row.lt c hc).2
  have hgl : gg < w4.heap.size := (ho4.lt gg rfl).2
  have kc : ∀ (a : Addr) u, wr.cell? a = some u → v.ownBlock ≠ some a.block → w6.cell? a = some u := fun a u h1 h2 => by
    have hl := World.block_lt_of_cell? wr _ h1
    have e1 : w3.heap[a.block]? = wr.heap[a.block]? := by rw [hw3]; exact alloc_old hl
    rw [← h1]
    exact World.cell?_of_block (by rw [h6 _ (by omega), hgrow.block a.block (by omega) (fun e => h2 e.symm), e1])
  have hg : ∀ c, v.ownBlock ≠ some c → c < wr.heap.size → gg ≠ c := fun c h1 h2 e => by
    subst e
    rcases hat with z | z
    · exact h1 z
    · omega
  have hcl := (Array.getElem?_eq_some_iff.1 C.cur).1
  refine ⟨⟨?_, fun j hj => ?_⟩, ⟨h6n, by omega, fun e => ?_, fun j hj e => ?_⟩⟩
  · rw [bodyV_succ, ← hcv]
    exact ownsRow_same ho4 (fun g hg => h6 g (ho4.lt g hg).2)
  · by_cases hji : j = i
    · subst hji
      simp only [if_true]
      exact ⟨kc _ _ (obj_cell C.cur (o := 0) rfl) C.ne, C.le, fun e => hg cb C.ne hcl (by simpa [Value.ownBlock] using e)⟩
    · simp only [if_neg hji]
      obtain ⟨q1, q2, q3⟩ := box j (by omega)
      have l1 := World.block_lt_of_cell? wr _ q1
      exact ⟨kc _ _ q1 q3, q2, fun e => hg _ q3 l1 (by simpa [Value.ownBlock] using e)⟩
  · have : gg = S := by simpa [Value.ownBlock] using e
    omega
  · by_cases hji : j = i
    · subst hji
      simp only [if_true] at e
      omega
    · simp only [if_neg hji] at e
      have l1 := World.block_lt_of_cell? wr _ (box j (by omega)).1
      dsimp only at l1
      omega
set_option maxRecDepth 100000 in
theorem mS0_wp {x : World} {tv bp : Value} {A : Option Addr} {n cap bb : Nat} {Q : Exit → Act → World → Prop} (htv : tv = .slice A n cap) (hbp : bp = .pointer (some ⟨bb, 0, none⟩))
    (hQ : ∀ T' x', T'.size = 28 → T'[2]? = some (.pointer (some ⟨x.heap.size, 0, none⟩)) → T'[3]? = some (.pointer (some ⟨x.heap.size + 1, 0, none⟩)) → (∀ b, b < x.heap.size → x'.heap[b]? = x.heap[b]?) → x'.heap[x.heap.size]? = some (.cells #[tv] 57) → x'.heap[x.heap.size + 1]? = some (.cells #[bp] 61) → Q .normal ⟨T', []⟩ x') : mS0.wp Try.prog Q ⟨#[tv, bp] ++ Array.replicate 26 undef, []⟩ x := by
  subst htv hbp
  replace hQ := Lib.hid hQ
  simp only [mS0, mdB, Try.f39, Option.getD_some]
  walk_nrm
  go_wp2_with fail
  refine hQ.out _ _ (by simp) (by simp) (by simp) (fun b hb => ?_) ?_ ?_
  · exact (alloc_old (by rw [alloc_size]; omega)).trans (alloc_old hb)
  · exact (alloc_old (by rw [alloc_size]; omega)).trans alloc_new
  · have h := alloc_new (w := x.alloc (.cells #[.slice A n cap] 57)) (o := .cells #[.pointer (some ⟨bb, 0, none⟩)] 61)
    rw [alloc_size] at h
    exact h
set_option maxRecDepth 100000 in
theorem mS1_wp {T : Array Value} {x : World} {Q : Exit → Act → World → Prop} (hs : T.size = 28)
    (hQ : ∀ T' x', T'.size = 28 → (∀ j, j < 5 → T'[j]? = T[j]?) → T'[5]? = some (.slice (some ⟨x.heap.size, 0, none⟩) 0 0) → x'.heap = x.heap.push (.cells #[] 52) → Q .normal ⟨T', []⟩ x') : mS1.wp Try.prog Q ⟨T, []⟩ x := by
  obtain ⟨f, rfl, _⟩ := arrfv T hs
  have hj : ∀ j, j < 5 → (List.map f (List.range 28)).toArray[j]? = some (f j) := fun j hj => arrf_get f (by omega)
  replace hj := Lib.hid hj
  replace hQ := Lib.hid hQ
  simp only [List.range, List.range.loop, List.map_cons, List.map_nil]
  simp only [mS1, mdB, Try.f39, Option.getD_some]
  go_wp2_with fail
  refine hQ.out _ _ (by simp) (fun j hj' => ?_) (by simp) rfl
  rw [hj.out j hj']
  match j, hj' with
  | 0, _ | 1, _ | 2, _ | 3, _ | 4, _ => simp
  | j + 5, h => exact absurd h (by omega)
set_option maxRecDepth 100000 in
set_option maxHeartbeats 4000000 in
theorem mS2_wp {T : Array Value} {x : World} {ba bo n cap tbx bbx B bb : Nat} {ta : Option Addr} {LA : Nat → Option Addr} {LN LC : Nat → Nat} {v0 : Value} {Q : Exit → Act → World → Prop} (hs : T.size = 28) (t2 : T[2]? = some (.pointer (some ⟨tbx, 0, none⟩))) (t3 : T[3]? = some (.pointer (some ⟨bbx, 0, none⟩))) (t5 : T[5]? = some v0)
    (hv0 : x.ownsRow B 52 1 v0 0 []) (hta : 0 < n → ta = some ⟨ba, bo, none⟩) (hx : x.cell? ⟨tbx, 0, none⟩ = some (.slice ta n cap)) (hbb : x.cell? ⟨bbx, 0, none⟩ = some (.pointer (some ⟨bb, 0, none⟩))) (hc : ∀ i, i < n → x.cell? ⟨ba, bo + i, none⟩ = some (.slice (LA i) (LN i) (LC i))) (hn : n ≤ 1000000000000)
    (hB : B ≤ x.heap.size) (hold : tbx < B ∧ bbx < B ∧ (0 < n → ba < B))
    (hQ : ∀ T' x' v TB, T'.size = 28 → T'[5]? = some v → Bx2 B tbx bbx LA TB v n x' → Below B x x' → Q .normal ⟨T', []⟩ x') : mS2.wp Try.prog Q ⟨T, []⟩ x := by
  obtain ⟨i0, hinf, hz0, hz1, hz2⟩ := info52
  obtain ⟨f, rfl, fz⟩ := arrfv T hs
  have e2 := fz 2 _ t2
  have e3 := fz 3 _ t3
  have e5 := fz 5 _ t5
  clear fz t2 t3 t5 hs
  obtain ⟨xs, hxs⟩ : ∃ xs, xs = x.heap.size := ⟨_, rfl⟩
  replace hQ := Lib.hid hQ
  replace hc := Lib.hid hc
  replace hta := Lib.hid hta
  replace hv0 := Lib.hid hv0
  replace hx := Lib.hid hx
  replace hbb := Lib.hid hbb
  simp only [List.range, List.range.loop, List.map_cons, List.map_nil, e2, e3, e5]
  simp only [mS2, mdB, Try.f39, Option.getD_some]
  go_wp2_with fail
  go_loopw [5, 6] (fun b c wr => ∃ (i cb : Nat) (TB : Nat → Nat), c = .pointer (some ⟨cb, 0, none⟩) ∧ i ≤ n ∧ Hid (Bx2 B tbx bbx LA TB b i wr) ∧ Hid (BxC B cb TB b i wr) ∧ Hid (Below B x wr) ∧ wr.cell? ⟨cb, 0, none⟩ = some (.int .i64 (i : Int)) ∧ wr.frozen? ⟨cb, 0, none⟩ = false) (fun _ c wr => match c with | .pointer (some a) => n + 1 - natOfV ((wr.cell? a).getD undef) | _ => 0)
  case atStart =>
    refine ⟨0, x.heap.size, fun _ => 0, rfl, Nat.zero_le _, Lib.hid ⟨hv0.out.alloc _, fun i hi => absurd hi (Nat.not_lt_zero _)⟩, Lib.hid ⟨alloc_new, hB, fun e => ?_, fun i hi => absurd hi (Nat.not_lt_zero _)⟩, Lib.hid ((Below.refl _ _).alloc hB _), obj_cell alloc_new rfl, obj_thaw alloc_new 0⟩
    have := (hv0.out.lt _ e).2
    omega
  case round =>
    obtain ⟨i, cb, TB, rfl, hi, hb2, hC, hbel, hcur, hfz⟩ := hrel
    have hbs := hbel.out.size
    have hbs2 : B ≤ wr.heap.size := by omega
    have k1 : wr.cell? ⟨tbx, 0, none⟩ = some (.slice ta n cap) := (hbel.out.cell (p := ⟨tbx, 0, none⟩) hold.1).trans hx.out
    by_cases hlt : i < n
    · have hta' := hta.out (by omega)
      subst hta'
      have g1 : (i : Int) < (n : Int) := by omega
      have g0 : (0 : Int) ≤ (i : Int) := by omega
      have hiw : IntKind.i64.wrap ((i : Int) + 1) = ((i + 1 : Nat) : Int) := by rw [IntKind.wrap_i64]; omega
      have hcell : wr.cell? ⟨ba, bo + i, none⟩ = some (.slice (LA i) (LN i) (LC i)) := (hbel.out.cell (p := ⟨ba, bo + i, none⟩) (hold.2.2 (by omega))).trans (hc.out i hlt)
      cases hA : LA i with
      | none =>
        rw [hA] at hcell
        have heq := fun W => Lib.run_eql_slice_nil (P := Try.prog) W 23 3 none (LN i) (LC i) 0 0 Try.underlying23
        have hcv : (.nilFunc : Value) = bodyV LA (fun _ => cb) tbx bbx i := by unfold bodyV; rw [hA]; rfl
        obtain ⟨w3, hw3⟩ : ∃ w3, w3 = wr.alloc (.cells #[(.nilFunc : Value)] 52) := ⟨_, rfl⟩
        have s3 : w3.heap.size = wr.heap.size + 1 := by rw [hw3, alloc_size]
        have row3 : w3.ownsRow B 52 1 u5 i ((List.range i).map (bodyV LA TB tbx bbx)) := by rw [hw3]; exact hb2.out.row.alloc _
        have hnews : ∀ j u, [(.nilFunc : Value)][j]? = some u → w3.cell? ((⟨wr.heap.size, 0, none⟩ : Addr).add j) = some u := by
          rw [hw3]
          exact World.news_of_block (cs := #[(.nilFunc : Value)]) (heap_alloc_new _ _)
        have c3 : w3.heap[cb]? = some (.cells #[.int .i64 (i : Int)] 3) := by rw [hw3]; exact (alloc_old (Array.getElem?_eq_some_iff.1 hC.out.cur).1).trans hC.out.cur
        have hone : ∀ u ∈ [(.nilFunc : Value)], u.oneCell' = true := by intro u hu; simp at hu; subst hu; rfl
        have hnb := hC.out.ne
        have hcl := (Array.getElem?_eq_some_iff.1 c3).1
        replace hw3 := Lib.hid hw3
        replace hcv := Lib.hid hcv
        replace c3 := Lib.hid c3
        go_wp2_with (at_builtin; rw [← hw3.out]; refine wpList_append_lies _ rfl _ _ _ rfl B 52 i0 _ 1 8 Try.underlying53 hinf hz0 hz1 hz2 rfl (by decide) u5 i _ (by rfl) row3 ⟨wr.heap.size, 0, none⟩ 1 1 [(.nilFunc : Value)] (by rfl) (by rfl) hnews hone (by omega) (by unfold maxLen; omega) (by omega) (by omega) _ rfl ?_; intro gg cp w4 ho4 hgrow hat hlt4; have hb4 := (hgrow.block cb hcl (fun e => hnb e.symm)).trans c3.out; have hc4 : w4.cell? ⟨cb, 0, none⟩ = some (.int .i64 (i : Int)) := obj_cell hb4 (o := 0) rfl; have hf4 := obj_thaw hb4 0; replace hb4 := Lib.hid hb4)
        have h6 : ∀ b, b < w4.heap.size → (w4.alloc (.cells #[.int .i64 ((i : Int) + 1)] 3)).heap[b]? = w4.heap[b]? := fun b hb => alloc_old hb
        have h6n : (w4.alloc (.cells #[.int .i64 ((i : Int) + 1)] 3)).heap[w4.heap.size]? = some (.cells #[.int .i64 ((i + 1 : Nat) : Int)] 3) := alloc_new
        obtain ⟨nb2, nC⟩ := bx_next hb2.out.row hb2.out.box hC.out hw3.out hcv.out ho4 hgrow hat rfl h6 h6n hbs2
        have hbel4 : Below B x (w4.alloc (.cells #[.int .i64 ((i : Int) + 1)] 3)) := by
          have b3 : Below B x w3 := by rw [hw3.out]; exact hbel.out.alloc (by omega) _
          have b4 : Below B x w4 := b3.grown hgrow (by omega) (fun k hk => (row3.lt k hk).1)
          have s4 := hgrow.size
          exact b4.alloc (by omega) _
        have hcn : (w4.alloc (.cells #[.int .i64 ((i : Int) + 1)] 3)).cell? ⟨w4.heap.size, 0, none⟩ = some (.int .i64 ((i + 1 : Nat) : Int)) := obj_cell h6n (o := 0) rfl
        have hfn := obj_thaw h6n 0
        have e1 : ((w4.alloc (.cells #[.int .i64 ((i : Int) + 1)] 3)).cell? ⟨w4.heap.size, 0, none⟩).getD undef = .int .i64 ((i + 1 : Nat) : Int) := by rw [hcn]; rfl
        have hmeas : n + 1 - natOfV (((w4.alloc (.cells #[.int .i64 ((i : Int) + 1)] 3)).cell? ⟨w4.heap.size, 0, none⟩).getD undef) < n + 1 - natOfV ((wr.cell? ⟨cb, 0, none⟩).getD undef) := by
          rw [e1, hcur]
          simp [natOfV]
          omega
        replace nb2 := Lib.hid nb2
        replace nC := Lib.hid nC
        replace hbel4 := Lib.hid hbel4
        replace hmeas := Lib.hid hmeas
        clear ho4 hgrow hnews row3 h6 h6n e1
        try go_wp2_with fail
        try simp only [hiw]
        exact ⟨⟨i + 1, _, _, rfl, by omega, nb2, nC, hbel4, hcn, hfn⟩, hmeas.out⟩
      | some aa =>
        rw [hA] at hcell
        have heq := fun W => Lib.run_eql_slice_nil (P := Try.prog) W 23 3 (some aa) (LN i) (LC i) 0 0 Try.underlying23
        have hcv : (Value.func (.func 78) #[] #[.pointer (some ⟨tbx, 0, none⟩), .pointer (some ⟨cb, 0, none⟩), .pointer (some ⟨bbx, 0, none⟩)]) = bodyV LA (fun _ => cb) tbx bbx i := by unfold bodyV; rw [hA]; rfl
        obtain ⟨w3, hw3⟩ : ∃ w3, w3 = wr.alloc (.cells #[(Value.func (.func 78) #[] #[.pointer (some ⟨tbx, 0, none⟩), .pointer (some ⟨cb, 0, none⟩), .pointer (some ⟨bbx, 0, none⟩)])] 52) := ⟨_, rfl⟩
        have s3 : w3.heap.size = wr.heap.size + 1 := by rw [hw3, alloc_size]
        have row3 : w3.ownsRow B 52 1 u5 i ((List.range i).map (bodyV LA TB tbx bbx)) := by rw [hw3]; exact hb2.out.row.alloc _
        have hnews : ∀ j u, [(Value.func (.func 78) #[] #[.pointer (some ⟨tbx, 0, none⟩), .pointer (some ⟨cb, 0, none⟩), .pointer (some ⟨bbx, 0, none⟩)])][j]? = some u → w3.cell? ((⟨wr.heap.size, 0, none⟩ : Addr).add j) = some u := by
          rw [hw3]
          exact World.news_of_block (cs := #[(Value.func (.func 78) #[] #[.pointer (some ⟨tbx, 0, none⟩), .pointer (some ⟨cb, 0, none⟩), .pointer (some ⟨bbx, 0, none⟩)])]) (heap_alloc_new _ _)
        have c3 : w3.heap[cb]? = some (.cells #[.int .i64 (i : Int)] 3) := by rw [hw3]; exact (alloc_old (Array.getElem?_eq_some_iff.1 hC.out.cur).1).trans hC.out.cur
        have hone : ∀ u ∈ [(Value.func (.func 78) #[] #[.pointer (some ⟨tbx, 0, none⟩), .pointer (some ⟨cb, 0, none⟩), .pointer (some ⟨bbx, 0, none⟩)])], u.oneCell' = true := by intro u hu; simp at hu; subst hu; rfl
        have hnb := hC.out.ne
        have hcl := (Array.getElem?_eq_some_iff.1 c3).1
        replace hw3 := Lib.hid hw3
        replace hcv := Lib.hid hcv
        replace c3 := Lib.hid c3
        go_wp2_with (at_builtin; rw [← hw3.out]; refine wpList_append_lies _ rfl _ _ _ rfl B 52 i0 _ 1 8 Try.underlying53 hinf hz0 hz1 hz2 rfl (by decide) u5 i _ (by rfl) row3 ⟨wr.heap.size, 0, none⟩ 1 1 [(Value.func (.func 78) #[] #[.pointer (some ⟨tbx, 0, none⟩), .pointer (some ⟨cb, 0, none⟩), .pointer (some ⟨bbx, 0, none⟩)])] (by rfl) (by rfl) hnews hone (by omega) (by unfold maxLen; omega) (by omega) (by omega) _ rfl ?_; intro gg cp w4 ho4 hgrow hat hlt4; have hb4 := (hgrow.block cb hcl (fun e => hnb e.symm)).trans c3.out; have hc4 : w4.cell? ⟨cb, 0, none⟩ = some (.int .i64 (i : Int)) := obj_cell hb4 (o := 0) rfl; have hf4 := obj_thaw hb4 0; replace hb4 := Lib.hid hb4)
        have h6 : ∀ b, b < w4.heap.size → (w4.alloc (.cells #[.int .i64 ((i : Int) + 1)] 3)).heap[b]? = w4.heap[b]? := fun b hb => alloc_old hb
        have h6n : (w4.alloc (.cells #[.int .i64 ((i : Int) + 1)] 3)).heap[w4.heap.size]? = some (.cells #[.int .i64 ((i + 1 : Nat) : Int)] 3) := alloc_new
        obtain ⟨nb2, nC⟩ := bx_next hb2.out.row hb2.out.box hC.out hw3.out hcv.out ho4 hgrow hat rfl h6 h6n hbs2
        have hbel4 : Below B x (w4.alloc (.cells #[.int .i64 ((i : Int) + 1)] 3)) := by
          have b3 : Below B x w3 := by rw [hw3.out]; exact hbel.out.alloc (by omega) _
          have b4 : Below B x w4 := b3.grown hgrow (by omega) (fun k hk => (row3.lt k hk).1)
          have s4 := hgrow.size
          exact b4.alloc (by omega) _
        have hcn : (w4.alloc (.cells #[.int .i64 ((i : Int) + 1)] 3)).cell? ⟨w4.heap.size, 0, none⟩ = some (.int .i64 ((i + 1 : Nat) : Int)) := obj_cell h6n (o := 0) rfl
        have hfn := obj_thaw h6n 0
        have e1 : ((w4.alloc (.cells #[.int .i64 ((i : Int) + 1)] 3)).cell? ⟨w4.heap.size, 0, none⟩).getD undef = .int .i64 ((i + 1 : Nat) : Int) := by rw [hcn]; rfl
        have hmeas : n + 1 - natOfV (((w4.alloc (.cells #[.int .i64 ((i : Int) + 1)] 3)).cell? ⟨w4.heap.size, 0, none⟩).getD undef) < n + 1 - natOfV ((wr.cell? ⟨cb, 0, none⟩).getD undef) := by
          rw [e1, hcur]
          simp [natOfV]
          omega
        replace nb2 := Lib.hid nb2
        replace nC := Lib.hid nC
        replace hbel4 := Lib.hid hbel4
        replace hmeas := Lib.hid hmeas
        clear ho4 hgrow hnews row3 h6 h6n e1
        try go_wp2_with fail
        try simp only [hiw]
        exact ⟨⟨i + 1, _, _, rfl, by omega, nb2, nC, hbel4, hcn, hfn⟩, hmeas.out⟩
    · obtain rfl : i = n := by omega
      have g1 : ¬ (i : Int) < (i : Int) := by omega
      go_wp2_with fail
      exact hQ.out _ _ _ TB (by simp) (by simp) hb2.out hbel.out
structure RegC (T : Array Value) (wp gp : Value) (la lo n cap i : Nat) (v : Int) : Prop where
  sz : T.size = 77
  t0 : T[0]? = some wp
  t1 : ∃ A, T[1]? = some (.slice A n cap) ∧ (0 < n → A = some ⟨la, lo, none⟩)
  t2 : T[2]? = some gp
  t7 : T[7]? = some (.int .i64 v)
  t8 : T[8]? = some (.int .i64 (i : Int))
theorem RegC.up {T T' : Array Value} {wp gp : Value} {la lo n cap i : Nat} {v : Int} (R : RegC T wp gp la lo n cap i v) (hs : T'.size = 77) (h : ∀ j, j < 9 → T'[j]? = T[j]?) : RegC T' wp gp la lo n cap i v := by
  obtain ⟨sz, t0, ⟨A, t1, tA⟩, t2, t7, t8⟩ := R
  exact ⟨hs, (h 0 (by decide)).trans t0, ⟨A, (h 1 (by decide)).trans t1, tA⟩, (h 2 (by decide)).trans t2, (h 7 (by decide)).trans t7, (h 8 (by decide)).trans t8⟩
section
variable {j : Nat} {F : Machine → Trace → Prop} {E : Env} {w : World} {T : Array Value} {wp gp : Value} {la lo n cap i : Nat} {v : Int} {cs : List Frame}
end
end Go.Proofs.Ytimlbbleblijnaa.Co
