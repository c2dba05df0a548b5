/- Lemmas for the laws of this seat, laid together of PHc, PHd. -/
import Derived.Test.YtimlbbleblijnaaT19

namespace Go.Proofs.Ytimlbbleblijnaa.Co
open Go Go.Conc Go.RowKit
set_option linter.unusedVariables false
set_option linter.unusedSimpArgs false
noncomputable def cB : Code := Try.f28.body.getD .skip
noncomputable def cC : Code := match cB with | .seq _ (.seq _ (.seq (.seq _ (.block _ (.loop c))) _)) => c | _ => .skip
noncomputable def cT : Code := match cB with | .seq _ (.seq _ (.seq _ x)) => x | _ => .skip
noncomputable def cR0 : Code := match cB with | .seq x _ => x | _ => .skip
noncomputable def cR1 : Code := match cB with | .seq _ (.seq x _) => x | _ => .skip
noncomputable def cR2 : Code := match cB with | .seq _ (.seq _ (.seq (.seq x _) _)) => x | _ => .skip
noncomputable def cR3 : Code := match cC with | .seq (.seq x _) _ => x | _ => .skip
noncomputable def cIf : Code := match cC with | .seq (.seq _ x) _ => x | _ => .skip
noncomputable def cBl : Code := match cC with | .seq _ (.seq (.block _ x) _) => x | _ => .skip
noncomputable def cR4 : Code := match cC with | .seq _ (.seq _ x) => x | _ => .skip
noncomputable def cR5 : Code := match cBl with | .seq x _ => x | _ => .skip
noncomputable def cR6 : Code := match cBl with | .seq _ (.seq x _) => x | _ => .skip
noncomputable def cR7 : Code := match cBl with | .seq _ (.seq _ (.seq (.seq x _) _)) => x | _ => .skip
noncomputable def cCH : Code := match cBl with | .seq _ (.seq _ (.seq (.seq _ (.block _ x)) _)) => x | _ => .skip
noncomputable def cPost : Code := match cBl with | .seq _ (.seq _ (.seq _ x)) => x | _ => .skip
theorem cB_parts : cB = .seq cR0 (.seq cR1 (.seq (.seq cR2 (.block 0 (.loop cC))) cT)) := by kernel_rfl
theorem cC_parts : cC = .seq (.seq cR3 cIf) (.seq (.block 1 cBl) cR4) := by kernel_rfl
theorem cBl_parts : cBl = .seq cR5 (.seq cR6 (.seq (.seq cR7 (.block 2 cCH)) cPost)) := by kernel_rfl
noncomputable def hdC : List Item := [.code cC, .inLoop cC, .inBlock 0, .code cT]
noncomputable def hdC2 : List Item := [.inBlock 2, .code cPost, .inBlock 1, .code cR4, .inLoop cC, .inBlock 0, .code cT]
noncomputable def xcIf : Code := cIf
noncomputable def xcR6 : Code := cR6
noncomputable def xcCH : Code := cCH
noncomputable def xcPost : Code := cPost
noncomputable def xcR4 : Code := cR4
noncomputable def xcT : Code := cT
structure RegC (T : Array Value) (wp gp : Value) (la lo n cap i : Nat) (v : Int) : Prop where
  sz : T.size = 77
  t0 : T[0]? = some wp
  t1 : ∃ A, T[1]? = some (.slice A n cap) ∧ (0 < n → A = some ⟨la, lo, none⟩)
  t2 : T[2]? = some gp
  t7 : T[7]? = some (.int .i64 v)
  t8 : T[8]? = some (.int .i64 (i : Int))
theorem RegC.up {T T' : Array Value} {wp gp : Value} {la lo n cap i : Nat} {v : Int} (R : RegC T wp gp la lo n cap i v) (hs : T'.size = 77) (h : ∀ j, j < 9 → T'[j]? = T[j]?) : RegC T' wp gp la lo n cap i v := by
  obtain ⟨sz, t0, ⟨A, t1, tA⟩, t2, t7, t8⟩ := R
  exact ⟨hs, (h 0 (by decide)).trans t0, ⟨A, (h 1 (by decide)).trans t1, tA⟩, (h 2 (by decide)).trans t2, (h 7 (by decide)).trans t7, (h 8 (by decide)).trans t8⟩
theorem slots11 (f : Nat → Value) {l : List Value} : ∀ j, j < 12 → (List.toArray (f 0 :: f 1 :: f 2 :: f 3 :: f 4 :: f 5 :: f 6 :: f 7 :: f 8 :: f 9 :: f 10 :: f 11 :: l))[j]? = some (f j)
  | 0, _ | 1, _ | 2, _ | 3, _ | 4, _ | 5, _ | 6, _ | 7, _ | 8, _ | 9, _ | 10, _ | 11, _ => rfl
  | n + 12, h => absurd h (by omega)
theorem slots8 (f : Nat → Value) {l : List Value} : ∀ j, j < 9 → (List.toArray (f 0 :: f 1 :: f 2 :: f 3 :: f 4 :: f 5 :: f 6 :: f 7 :: f 8 :: l))[j]? = some (f j)
  | 0, _ | 1, _ | 2, _ | 3, _ | 4, _ | 5, _ | 6, _ | 7, _ | 8, _ => rfl
  | n + 9, h => absurd h (by omega)
set_option maxRecDepth 100000 in
set_option maxHeartbeats 2000000 in
theorem cR3_wp {T : Array Value} {x : World} {A : Option Addr} {n cap i : Nat} {Q : Exit → Act → World → Prop} (hs : T.size = 77) (h1 : T[1]? = some (.slice A n cap)) (h8 : T[8]? = some (.int .i64 (i : Int)))
    (hQ : ∀ T', T'.size = 77 → (∀ j, j < 12 → T'[j]? = T[j]?) → T'[15]? = some (.bool (decide ((i : Int) < (n : Int)))) → Q .normal ⟨T', []⟩ x) : cR3.wp Try.prog Q ⟨T, []⟩ x := by
  obtain ⟨f, rfl, fz⟩ := arrfv T hs
  have e1 := fz 1 _ h1
  have e8 := fz 8 _ h8
  clear fz h1 h8
  have hj : ∀ j, j < 12 → (List.map f (List.range 77)).toArray[j]? = some (f j) := fun j hj => arrf_get f (by omega)
  replace hj := Lib.hid hj
  replace hQ := Lib.hid hQ
  simp only [List.range, List.range.loop, List.map_cons, List.map_nil, e1, e8]
  simp only [cR3, cC, cB, Try.f28, Option.getD_some]
  go_wp2_with fail
  refine hQ.out _ (by simp) (fun j hj' => ?_) (by simp)
  rw [hj.out j hj', ← e1, ← e8]
  exact slots11 f j hj'
set_option maxRecDepth 100000 in
set_option maxHeartbeats 2000000 in
theorem cR5_wp {T : Array Value} {x : World} {la lo n cap i : Nat} {v kd nn : Int} {Q : Exit → Act → World → Prop} (hs : T.size = 77) (h1 : T[1]? = some (.slice (some ⟨la, lo, none⟩) n cap)) (h7 : T[7]? = some (.int .i64 v)) (h8 : T[8]? = some (.int .i64 (i : Int))) (hi : i < n)
    (c1 : x.cell? ⟨la, lo + i * 3, none⟩ = some (.int .i64 kd)) (c3 : x.cell? ⟨la, lo + i * 3 + 2, none⟩ = some (.int .i64 nn))
    (hQ : ∀ T' x', T'.size = 77 → (∀ j, j < 9 → T'[j]? = T[j]?) → T'[9]? = some (.int .i64 (doW v kd nn).1) → T'[10]? = some (.int .i64 (doW v kd nn).2) → x'.heap = x.heap → Q .normal ⟨T', []⟩ x') : cR5.wp Try.prog Q ⟨T, []⟩ x := by
  obtain ⟨f, rfl, fz⟩ := arrfv T hs
  have e1 := fz 1 _ h1
  have e7 := fz 7 _ h7
  have e8 := fz 8 _ h8
  clear fz h1 h8 h7
  have hj : ∀ j, j < 9 → (List.map f (List.range 77)).toArray[j]? = some (f j) := fun j hj => arrf_get f (by omega)
  have q1 : (0 : Int) ≤ (i : Int) := by omega
  have q2 : (i : Int) < (n : Int) := by omega
  replace hj := Lib.hid hj
  replace hQ := Lib.hid hQ
  simp only [List.range, List.range.loop, List.map_cons, List.map_nil, e1, e7, e8]
  simp only [cR5, cBl, cC, cB, Try.f28, Option.getD_some]
  go_region_held3 (fun W => W.cell? ⟨la, lo + i * 3, none⟩ = some (.int .i64 kd) ∧ W.cell? ⟨la, lo + i * 3 + 2, none⟩ = some (.int .i64 nn)) (first | assumption | go_keep) ((with_reducible refine Calls.mono (do_any (v := v) (k := kd) (n := nn)) ?_; rintro _ _ ⟨rfl, rfl⟩))
  refine hQ.out _ _ (by simp) (fun j hj' => ?_) (by simp) (by simp) rfl
  rw [hj.out j hj', ← e1, ← e7, ← e8]
  exact slots8 f j hj'
set_option maxRecDepth 100000 in
set_option maxHeartbeats 2000000 in
theorem cR7_wp {T : Array Value} {x : World} {la lo n cap i : Nat} {kd : Int} {Q : Exit → Act → World → Prop} (hs : T.size = 77) (h1 : T[1]? = some (.slice (some ⟨la, lo, none⟩) n cap)) (h8 : T[8]? = some (.int .i64 (i : Int))) (hi : i < n)
    (c1 : x.cell? ⟨la, lo + i * 3, none⟩ = some (.int .i64 kd))
    (hQ : ∀ T', T'.size = 77 → (∀ j, j < 12 → T'[j]? = T[j]?) → T'[37]? = some (.int .i64 kd) → Q .normal ⟨T', []⟩ x) : cR7.wp Try.prog Q ⟨T, []⟩ x := by
  obtain ⟨f, rfl, fz⟩ := arrfv T hs
  have e1 := fz 1 _ h1
  have e8 := fz 8 _ h8
  clear fz h1 h8
  have hj : ∀ j, j < 12 → (List.map f (List.range 77)).toArray[j]? = some (f j) := fun j hj => arrf_get f (by omega)
  have q1 : (0 : Int) ≤ (i : Int) := by omega
  have q2 : (i : Int) < (n : Int) := by omega
  replace hj := Lib.hid hj
  replace hQ := Lib.hid hQ
  simp only [List.range, List.range.loop, List.map_cons, List.map_nil, e1, e8]
  simp only [cR7, cBl, cC, cB, Try.f28, Option.getD_some]
  go_wp2_with fail
  refine hQ.out _ (by simp) (fun j hj' => ?_) (by simp)
  rw [hj.out j hj', ← e1, ← e8]
  exact slots11 f j hj'
section
variable {j : Nat} {F : Machine → Trace → Prop} {E : Env} {w : World} {T : Array Value} {wp gp : Value} {la lo n cap i : Nat} {v : Int} {cs : List Frame}
set_option maxRecDepth 100000 in
set_option maxHeartbeats 2000000 in
theorem calls_exit (R : RegC T wp gp la lo n cap i v) (hi : n ≤ i) {b₀ : Frame} {a₀ : Act} {ops₀ : Array Oper} {i₀ : Nat} {rest₀ : List Nat} {k₀ : List Item} {cl : List Frame}
    (hc : ∀ E1 w1, Still j E w E1 w1 → HG Try.prog j F E1 (G (b₀.at (a₀.put ((ops₀[i₀]?).bind (·.dst)) (.bool true)) (.inRegion ops₀ rest₀ :: k₀)) cl) w1) :
    HG Try.prog j F E (G ((base 28).at ⟨T, []⟩ hdC) (b₀.at a₀ (.inRegion ops₀ (i₀ :: rest₀) :: k₀) :: cl)) w := by
  obtain ⟨sz, t0, ⟨A, t1, tA⟩, t2, t7, t8⟩ := R
  unfold hdC
  change HGn Try.prog j F E w 100 _
  have e : ([.code cC, .inLoop cC, .inBlock 0, .code cT] : List Item) = [.code (.seq (.seq cR3 cIf) (.seq (.block 1 cBl) cR4)), .inLoop cC, .inBlock 0, .code cT] := congrArg (fun z => [Item.code z, .inLoop cC, .inBlock 0, .code cT]) cC_parts
  rw [e]
  clear e
  refine Idl.step (idl_hg Try.prog j F E w) _ _ _ rfl (fun _ => stepG_seq) ?_
  refine Idl.step (idl_hg Try.prog j F E w) _ _ _ rfl (fun _ => stepG_seq) ?_
  refine HG.quietN closed_do (fun T' => T'.size = 77 ∧ T'[15]? = some (.bool false)) (by kernel_rfl) (by rfl) (fun x hx => ?_) (fun E1 w1 T' S1 hR => ?_)
  · refine cR3_wp sz t1 t8 (fun T' h1 h2 h3 => ⟨rfl, rfl, fun _ _ => rfl, h1, ?_⟩)
    rw [h3, decide_eq_false (by omega)]
  · obtain ⟨s1, r15⟩ := hR
    obtain ⟨f, hf, fz⟩ := arrfv T' s1
    have e15 := fz 15 _ r15
    subst hf
    clear fz r15 s1 t0 t1 t2 t7 t8 tA
    replace hc := Lib.hid hc
    replace S1 := Lib.hid S1
    change HGn Try.prog j F E1 w1 100 _
    generalize hG1 : cBl = L1
    generalize hG2 : cR4 = L2
    generalize hG3 : cC = L3
    rw [show cIf = xcIf from rfl, show cT = xcT from rfl]
    subst hG3 hG2 hG1
    generalize hG1 : cBl = L1
    generalize hG2 : cR4 = L2
    simp only [xcIf, xcT, cIf, cT, cC, cB, Try.f28, Option.getD_some, List.range, List.range.loop, List.map_cons, List.map_nil, e15]
    refine Idl.cf (idl_hg Try.prog j F E1 w1) rfl (Idl.exit (idl_hg Try.prog j F E1 w1) rfl (Idl.q (idl_hg Try.prog j F E1 w1) (Idl.rg (idl_hg Try.prog j F E1 w1) [0] rfl ?_)))
    apply Idl.value (idl_hg Try.prog j F E1 w1) rfl rfl (by first | decide | exact Go.ConcR.Gen.base_kind _ | exact Go.ConcR.Gen.baseD_kind _ | assumption)
    focus (intro w; go_simp; (try w_num); first | done | rfl)
    focus (intro w; simp [go_sem, *])
    walk_nrm
    refine Idl.re (idl_hg Try.prog j F E1 w1) (Idl.rt (idl_hg Try.prog j F E1 w1) ?_)
    refine Idl.leaveV (n := 1) (v := .bool true) (fn := Try.f28) (idl_hg Try.prog j F E1 w1) rfl rfl Try.func28 (fun w => by simp [results, Try.f28, go_sem]) (fun w => by simp [results, Try.f28, go_sem]) ?_
    exact hc.out E1 w1 S1.out
end
end Go.Proofs.Ytimlbbleblijnaa.Co

namespace Go.Proofs.Ytimlbbleblijnaa.Co
open Go Go.Conc Go.RowKit
set_option linter.unusedVariables false
set_option linter.unusedSimpArgs false
section
variable {j : Nat} {F : Machine → Trace → Prop} {E : Env} {w : World} {T : Array Value} {wp gp : Value} {la lo n cap i : Nat} {v kd nn : Int} {cs : List Frame}
set_option maxRecDepth 100000 in
set_option maxHeartbeats 2000000 in
theorem calls_head (R : RegC T wp gp la lo n cap i v) (hi : i < n)
    (c1 : w.cell? ⟨la, lo + i * 3, none⟩ = some (.int .i64 kd)) (c3 : w.cell? ⟨la, lo + i * 3 + 2, none⟩ = some (.int .i64 nn)) (hla : E.H la = none)
    (hc : ∀ E1 w1 T', Still j E w E1 w1 → RegC T' wp gp la lo n cap i v → T'[9]? = some (.int .i64 (doW v kd nn).1) → T'[10]? = some (.int .i64 (doW v kd nn).2) → T'[11]? = some (.int .i64 0) → T'[37]? = some (.int .i64 kd) → HG Try.prog j F E1 (G ((base 28).at ⟨T', []⟩ (.code cCH :: hdC2)) cs) w1) :
    HG Try.prog j F E (G ((base 28).at ⟨T, []⟩ hdC) cs) w := by
  obtain ⟨A, t1, tA⟩ := R.t1
  have hA := tA (by omega)
  subst hA
  unfold hdC
  change HGn Try.prog j F E w 100 _
  have e : ([.code cC, .inLoop cC, .inBlock 0, .code cT] : List Item) = [.code (.seq (.seq cR3 cIf) (.seq (.block 1 cBl) cR4)), .inLoop cC, .inBlock 0, .code cT] := congrArg (fun z => [Item.code z, .inLoop cC, .inBlock 0, .code cT]) cC_parts
  rw [e]
  clear e
  refine Idl.step (idl_hg Try.prog j F E w) _ _ _ rfl (fun _ => stepG_seq) ?_
  refine Idl.step (idl_hg Try.prog j F E w) _ _ _ rfl (fun _ => stepG_seq) ?_
  refine HG.quietN closed_do (fun T' => T'.size = 77 ∧ T'[15]? = some (.bool true) ∧ ∀ j, j < 12 → T'[j]? = T[j]?) (by kernel_rfl) (by rfl) (fun x hx => ?_) (fun E1 w1 T1 S1 hR => ?_)
  · refine cR3_wp R.sz t1 R.t8 (fun T' h1 h2 h3 => ⟨rfl, rfl, fun _ _ => rfl, h1, ?_, h2⟩)
    rw [h3, decide_eq_true (by omega)]
  obtain ⟨s1, r15, u1⟩ := hR
  have R1 := R.up s1 (fun j hj => u1 j (by omega))
  have cc1 := S1.st.cell c1 hla
  have cc3 := S1.st.cell c3 hla
  have P1 : HGn Try.prog j F E1 w1 100 (G ((base 28).at ⟨T1, []⟩ [.code cR5, .code (.seq cR6 (.seq (.seq cR7 (.block 2 cCH)) cPost)), .inBlock 1, .code cR4, .inLoop cC, .inBlock 0, .code cT]) cs) := by
    refine HG.quietN closed_do (fun T' => T'.size = 77 ∧ (∀ j, j < 9 → T'[j]? = T1[j]?) ∧ T'[9]? = some (.int .i64 (doW v kd nn).1) ∧ T'[10]? = some (.int .i64 (doW v kd nn).2)) (by kernel_rfl) (by rfl) (fun x hx => ?_) (fun E2 w2 T2 S2 hR => ?_)
    · have t1' := (u1 1 (by decide)).trans t1
      refine cR5_wp s1 t1' R1.t7 R1.t8 hi ((World.cell?_of_block (a := ⟨la, lo + i * 3, none⟩) (hx la cc1.2)).trans cc1.1) ((World.cell?_of_block (a := ⟨la, lo + i * 3 + 2, none⟩) (hx la cc3.2)).trans cc3.1) (fun T' x' h1 h2 h3 h4 h5 => ⟨rfl, rfl, fun b _ => by rw [h5], h1, h2, h3, h4⟩)
    obtain ⟨s2, u2, r9, r10⟩ := hR
    have R2 := R1.up s2 u2
    have S12 := S1.trans S2
    have P2 : HGn Try.prog j F E2 w2 100 (G ((base 28).at ⟨T2.setIfInBounds 11 (.int .i64 0), []⟩ [.code (.seq (.seq cR7 (.block 2 cCH)) cPost), .inBlock 1, .code cR4, .inLoop cC, .inBlock 0, .code cT]) cs) := by
      have R3 : RegC (T2.setIfInBounds 11 (.int .i64 0)) wp gp la lo n cap i v := R2.up (by simp [s2]) (fun j hj => by rw [Array.getElem?_setIfInBounds_ne (by omega)])
      have r9' : (T2.setIfInBounds 11 (.int .i64 0))[9]? = some (.int .i64 (doW v kd nn).1) := by rw [Array.getElem?_setIfInBounds_ne (by decide)]; exact r9
      have r10' : (T2.setIfInBounds 11 (.int .i64 0))[10]? = some (.int .i64 (doW v kd nn).2) := by rw [Array.getElem?_setIfInBounds_ne (by decide)]; exact r10
      have r11' : (T2.setIfInBounds 11 (.int .i64 0))[11]? = some (.int .i64 0) := by rw [Array.getElem?_setIfInBounds_self_of_lt (by omega)]
      generalize T2.setIfInBounds 11 (.int .i64 0) = T3 at R3 r9' r10' r11' ⊢
      refine Idl.step (idl_hg Try.prog j F E2 w2) _ _ _ rfl (fun _ => stepG_seq) ?_
      refine Idl.step (idl_hg Try.prog j F E2 w2) _ _ _ rfl (fun _ => stepG_seq) ?_
      obtain ⟨A3, t13, tA3⟩ := R3.t1
      have hA3 := tA3 (by omega)
      subst hA3
      have cd1 := S12.st.cell c1 hla
      refine HG.quietN closed_do (fun T' => T'.size = 77 ∧ (∀ j, j < 12 → T'[j]? = T3[j]?) ∧ T'[37]? = some (.int .i64 kd)) (by kernel_rfl) (by rfl) (fun x hx => ?_) (fun E4 w4 T4 S4 hR => ?_)
      · exact cR7_wp R3.sz t13 R3.t8 hi ((World.cell?_of_block (a := ⟨la, lo + i * 3, none⟩) (hx la cd1.2)).trans cd1.1) (fun T' h1 h2 h3 => ⟨rfl, rfl, fun b _ => rfl, h1, h2, h3⟩)
      obtain ⟨s4, u4, r37⟩ := hR
      change HGn Try.prog j F E4 w4 100 _
      refine Idl.step (idl_hg Try.prog j F E4 w4) _ _ _ rfl (fun _ => stepG_block) ?_
      exact hc E4 w4 T4 (S12.trans S4) (R3.up s4 (fun j hj => u4 j (by omega))) ((u4 9 (by decide)).trans r9') ((u4 10 (by decide)).trans r10') ((u4 11 (by decide)).trans r11') r37
    clear R2 R1 R r9 r10 u2 cc1 cc3 hc c1 c3 hla u1 r15 t1 tA
    replace P2 := Lib.hid P2
    replace S12 := Lib.hid S12
    replace S1 := Lib.hid S1
    replace S2 := Lib.hid S2
    obtain ⟨f, hf, fz⟩ := arrfv T2 s2
    clear fz
    have hf' := Lib.hid hf
    change HGn Try.prog j F E2 w2 200 _
    refine Idl.step (idl_hg Try.prog j F E2 w2) _ _ _ rfl (fun _ => stepG_seq) ?_
    generalize hG1 : (Code.seq (.seq cR7 (.block 2 cCH)) cPost) = L1 at P2 ⊢
    generalize hG2 : cR4 = L2 at P2 ⊢
    generalize hG3 : cT = L3 at P2 ⊢
    generalize hG4 : cC = L4 at P2 ⊢
    clear hG1 hG2 hG3 hG4
    rw [show cR6 = xcR6 from rfl]
    simp only [xcR6, cR6, cBl, cC, cB, Try.f28, Option.getD_some]
    refine Idl.rg (idl_hg Try.prog j F E2 w2) [0] rfl ?_
    apply Idl.value (idl_hg Try.prog j F E2 w2) rfl rfl (by first | decide | exact Go.ConcR.Gen.base_kind _ | exact Go.ConcR.Gen.baseD_kind _ | assumption)
    focus (intro w; go_simp; (try w_num); first | done | rfl)
    focus (intro w; simp [go_sem, *])
    walk_nrm
    refine Idl.re (idl_hg Try.prog j F E2 w2) ?_
    exact P2.out
  clear hc c1 c3 hla cc1 cc3 R1 R u1 t1 tA
  obtain ⟨f, hf, fz⟩ := arrfv T1 s1
  have e15 := fz 15 _ r15
  subst hf
  clear fz r15 s1
  replace P1 := Lib.hid P1
  replace S1 := Lib.hid S1
  change HGn Try.prog j F E1 w1 200 _
  have hbl : (cBl : Code) = .seq cR5 (.seq cR6 (.seq (.seq cR7 (.block 2 cCH)) cPost)) := cBl_parts
  rw [hbl]
  clear hbl
  generalize hG5 : (Code.seq cR6 (.seq (.seq cR7 (.block 2 cCH)) cPost)) = L5 at P1 ⊢
  generalize hG6 : cR5 = L6 at P1 ⊢
  generalize hG2 : cR4 = L2 at P1 ⊢
  generalize hG3 : cT = L3 at P1 ⊢
  generalize hG4 : cC = L4 at P1 ⊢
  clear hG5 hG6 hG2 hG3 hG4
  rw [show cIf = xcIf from rfl]
  simp only [xcIf, cIf, cC, cB, Try.f28, Option.getD_some, List.range, List.range.loop, List.map_cons, List.map_nil, e15] at P1 ⊢
  refine Idl.ct (idl_hg Try.prog j F E1 w1) rfl (Idl.sk (idl_hg Try.prog j F E1 w1) (Idl.q (idl_hg Try.prog j F E1 w1) (Idl.bl (idl_hg Try.prog j F E1 w1) (Idl.q (idl_hg Try.prog j F E1 w1) ?_))))
  exact P1.out
set_option maxRecDepth 100000 in
set_option maxHeartbeats 2000000 in
theorem calls_tail {v2 wt : Int} (R : RegC T wp gp la lo n cap i v) (hi : i < n) (hn : n ≤ 10000000000000) (t9 : T[9]? = some (.int .i64 v2)) (t10 : T[10]? = some (.int .i64 wt)) (t11 : T[11]? = some (.int .i64 wt))
    (hc : ∀ T', RegC T' wp gp la lo n cap (i + 1) v2 → HG Try.prog j F E (G ((base 28).at ⟨T', []⟩ hdC) cs) w) :
    HGn Try.prog j F E w 200 (G ((base 28).at ⟨T, []⟩ hdC2) cs) := by
  have w3 : IntKind.i64.wrap ((i : Int) + 1) = ((i + 1 : Nat) : Int) := by rw [IntKind.wrap_i64]; omega
  obtain ⟨sz, t0, ⟨A, t1, tA⟩, t2, t7, t8⟩ := R
  obtain ⟨f, hf, fz⟩ := arrfv T sz
  have e0 := fz 0 _ t0
  have e1 := fz 1 _ t1
  have e2 := fz 2 _ t2
  have e8 := fz 8 _ t8
  have e9 := fz 9 _ t9
  have e10 := fz 10 _ t10
  have e11 := fz 11 _ t11
  subst hf
  clear fz t0 t1 t2 t7 t8 t9 t10 t11 sz
  have hfin : ∀ T' : Array Value, T'.size = 77 → T'[0]? = some wp → T'[1]? = some (.slice A n cap) → T'[2]? = some gp → T'[7]? = some (.int .i64 v2) → T'[8]? = some (.int .i64 ((i + 1 : Nat) : Int)) → HG Try.prog j F E (G ((base 28).at ⟨T', []⟩ hdC) cs) w := fun T' a1 a2 a3 a4 a5 a6 => hc T' ⟨a1, a2, ⟨A, a3, tA⟩, a4, a5, a6⟩
  clear hc tA hi hn
  replace hfin := Lib.hid hfin
  unfold hdC2
  unfold hdC at hfin
  generalize hG4 : cC = L4 at hfin ⊢
  rw [show cT = xcT from rfl] at hfin ⊢
  generalize hG3 : xcT = L3 at hfin ⊢
  rw [show cPost = xcPost from rfl, show cR4 = xcR4 from rfl]
  subst hG4
  generalize hG4 : cC = L4 at hfin ⊢
  simp only [xcPost, xcR4, cPost, cBl, cR4, cC, cB, Try.f28, Option.getD_some, List.range, List.range.loop, List.map_cons, List.map_nil, e0, e1, e2, e8, e9, e10, e11] at hfin ⊢
  refine Idl.ib (idl_hg Try.prog j F E w) (Idl.q (idl_hg Try.prog j F E w) (Idl.q (idl_hg Try.prog j F E w) (Idl.rg (idl_hg Try.prog j F E w) [0, 1, 2] rfl ?_)))
  apply Idl.value (idl_hg Try.prog j F E w) rfl rfl (by first | decide | exact Go.ConcR.Gen.base_kind _ | exact Go.ConcR.Gen.baseD_kind _ | assumption)
  focus (intro w; go_simp; (try w_num); first | done | rfl)
  focus (intro w; simp [go_sem, *])
  walk_nrm
  apply Idl.value (idl_hg Try.prog j F E w) rfl rfl (by first | decide | exact Go.ConcR.Gen.base_kind _ | exact Go.ConcR.Gen.baseD_kind _ | assumption)
  focus (intro w; go_simp; (try w_num); first | done | rfl)
  focus (intro w; simp [go_sem, *])
  walk_nrm
  apply Idl.value (idl_hg Try.prog j F E w) rfl rfl (by first | decide | exact Go.ConcR.Gen.base_kind _ | exact Go.ConcR.Gen.baseD_kind _ | assumption)
  focus (intro w; go_simp; (try w_num); first | done | rfl)
  focus (intro w; simp [go_sem, *])
  walk_nrm
  refine Idl.re (idl_hg Try.prog j F E w) (Idl.cf (idl_hg Try.prog j F E w) rfl (Idl.sk (idl_hg Try.prog j F E w) (Idl.rg (idl_hg Try.prog j F E w) [0, 1] rfl ?_)))
  apply Idl.value (idl_hg Try.prog j F E w) rfl rfl (by first | decide | exact Go.ConcR.Gen.base_kind _ | exact Go.ConcR.Gen.baseD_kind _ | assumption)
  focus (intro w; go_simp; (try w_num); first | done | rfl)
  focus (intro w; simp [go_sem, *])
  walk_nrm
  apply Idl.value (idl_hg Try.prog j F E w) rfl rfl (by first | decide | exact Go.ConcR.Gen.base_kind _ | exact Go.ConcR.Gen.baseD_kind _ | assumption)
  focus (intro w; go_simp; (try w_num); first | done | rfl)
  focus (intro w; simp [go_sem, *])
  walk_nrm
  refine Idl.re (idl_hg Try.prog j F E w) (Idl.ib (idl_hg Try.prog j F E w) (Idl.rg (idl_hg Try.prog j F E w) [0, 1, 2] rfl ?_))
  apply Idl.value (idl_hg Try.prog j F E w) rfl rfl (by first | decide | exact Go.ConcR.Gen.base_kind _ | exact Go.ConcR.Gen.baseD_kind _ | assumption)
  focus (intro w; go_simp; (try w_num); first | done | rfl)
  focus (intro w; simp [go_sem, *])
  walk_nrm
  apply Idl.value (idl_hg Try.prog j F E w) rfl rfl (by first | decide | exact Go.ConcR.Gen.base_kind _ | exact Go.ConcR.Gen.baseD_kind _ | assumption)
  focus (intro w; go_simp; (try w_num); first | done | rfl)
  focus (intro w; simp [go_sem, *])
  walk_nrm
  apply Idl.value (idl_hg Try.prog j F E w) rfl rfl (by first | decide | exact Go.ConcR.Gen.base_kind _ | exact Go.ConcR.Gen.baseD_kind _ | assumption)
  focus (intro w; go_simp; (try w_num); first | done | rfl)
  focus (intro w; simp [go_sem, *])
  walk_nrm
  refine Idl.re (idl_hg Try.prog j F E w) (Idl.il (idl_hg Try.prog j F E w) ?_)
  try simp only [w3]
  refine hfin.out _ (by simp) (by simp) (by simp) (by simp) (by simp) (by simp)
set_option maxRecDepth 100000 in
set_option maxHeartbeats 2000000 in
theorem calls_load {v2 wt : Int} (R : RegC T wp gp la lo n cap i v) (hi : i < n) (hn : n ≤ 10000000000000)  (t9 : T[9]? = some (.int .i64 v2)) (t10 : T[10]? = some (.int .i64 wt))  (t37 : T[37]? = some (.int .i64 1))
    (hmid : ∀ (a₁ : Act) (ops : Array Oper) (i' : Nat) (rest' : List Nat) (k' : List Item), a₁.defers = [] →
      (∀ (F' : Machine → Trace → Prop) (E2 : Env) (w2 : World), (∀ T2, RegC T2 wp gp la lo n cap (i + 1) v2 → HG Try.prog j F' E2 (G ((base 28).at ⟨T2, []⟩ hdC) cs) w2) → HG Try.prog j F' E2 (G ((base 28).at (a₁.put ((ops[i']?).bind (·.dst)) (.int .i64 wt)) (.inRegion ops rest' :: k')) cs) w2) →
      HGn Try.prog j F E w 200 (entry 70 Try.f70 #[wp, gp] ((base 28).at a₁ (.inRegion ops (i' :: rest') :: k') :: cs))) :
    HG Try.prog j F E (G ((base 28).at ⟨T, []⟩ (.code cCH :: hdC2)) cs) w := by
  skip
  skip
  obtain ⟨sz, t0, ⟨A, t1, tA⟩, t2, t7, t8⟩ := R
  have hA := tA (by omega)
  subst hA
  clear tA
  have q1 : (0 : Int) ≤ (i : Int) := by omega
  have q2 : (i : Int) < (n : Int) := by omega
  obtain ⟨f, hf, fz⟩ := arrfv T sz
  have e0 := fz 0 _ t0
  have e1 := fz 1 _ t1
  have e2 := fz 2 _ t2
  have e7 := fz 7 _ t7
  have e8 := fz 8 _ t8
  have e9 := fz 9 _ t9
  have e10 := fz 10 _ t10
  skip
  have e37 := fz 37 _ t37
  subst hf
  clear fz t0 t1 t2 t7 t8 t9 t10  t37 sz
  have hmid' : ∀ (a₁ : Act) (ops : Array Oper) (i' : Nat) (rest' : List Nat) (k' : List Item), a₁.defers = [] →
      (∀ (F' : Machine → Trace → Prop) (E2 : Env) (w2 : World), (∀ T', RegC T' wp gp la lo n cap i v → T'[9]? = some (.int .i64 v2) → T'[10]? = some (.int .i64 wt) → T'[11]? = some (.int .i64 wt) → HG Try.prog j F' E2 (G ((base 28).at ⟨T', []⟩ hdC2) cs) w2) → HG Try.prog j F' E2 (G ((base 28).at (a₁.put ((ops[i']?).bind (·.dst)) (.int .i64 wt)) (.inRegion ops rest' :: k')) cs) w2) →
      HGn Try.prog j F E w 200 (entry 70 Try.f70 #[wp, gp] ((base 28).at a₁ (.inRegion ops (i' :: rest') :: k') :: cs)) := by
    intro a₁ ops i' rest' k' hd hp
    refine hmid a₁ ops i' rest' k' hd (fun F' E2 w2 hh => hp F' E2 w2 (fun T' R' r9 r10 r11 => calls_tail R' hi hn r9 r10 r11 hh))
  clear hmid
  replace hmid' := Lib.hid hmid'
  have hrk : ∀ T' : Array Value, T'.size = 77 → T'[0]? = some wp → T'[1]? = some (.slice (some ⟨la, lo, none⟩) n cap) → T'[2]? = some gp → T'[7]? = some (.int .i64 v) → T'[8]? = some (.int .i64 (i : Int)) → RegC T' wp gp la lo n cap i v := fun T' a1 a2 a3 a4 a5 a6 => ⟨a1, a2, ⟨_, a3, fun _ => rfl⟩, a4, a5, a6⟩
  replace hrk := Lib.hid hrk
  change HGn Try.prog j F E w 300 _
  rw [show cCH = xcCH from rfl]
  generalize hG : hdC2 = K2 at hmid' ⊢
  simp only [xcCH, cCH, cBl, cC, cB, Try.f28, Option.getD_some, List.range, List.range.loop, List.map_cons, List.map_nil, e0, e1, e2, e7, e8, e9, e10, e37]
  refine Idl.q (idl_hg Try.prog j F E w) (Idl.rg (idl_hg Try.prog j F E w) [0, 1] rfl ?_)
  apply Idl.value (idl_hg Try.prog j F E w) rfl rfl (by first | decide | exact Go.ConcR.Gen.base_kind _ | exact Go.ConcR.Gen.baseD_kind _ | assumption)
  focus (intro w; go_simp; (try w_num); first | done | rfl)
  focus (intro w; simp [go_sem, *])
  walk_nrm
  apply Idl.value (idl_hg Try.prog j F E w) rfl rfl (by first | decide | exact Go.ConcR.Gen.base_kind _ | exact Go.ConcR.Gen.baseD_kind _ | assumption)
  focus (intro w; go_simp; (try w_num); first | done | rfl)
  focus (intro w; simp [go_sem, *])
  walk_nrm
  refine Idl.re (idl_hg Try.prog j F E w) (Idl.ct (idl_hg Try.prog j F E w) rfl (Idl.rg (idl_hg Try.prog j F E w) [0, 1, 2, 3] rfl ?_))
  apply Idl.value (idl_hg Try.prog j F E w) rfl rfl (by first | decide | exact Go.ConcR.Gen.base_kind _ | exact Go.ConcR.Gen.baseD_kind _ | assumption)
  focus (intro w; go_simp; (try w_num); first | done | rfl)
  focus (intro w; simp [go_sem, *])
  walk_nrm
  apply Idl.value (idl_hg Try.prog j F E w) rfl rfl (by first | decide | exact Go.ConcR.Gen.base_kind _ | exact Go.ConcR.Gen.baseD_kind _ | assumption)
  focus (intro w; go_simp; (try w_num); first | done | rfl)
  focus (intro w; simp [go_sem, *])
  walk_nrm
  refine Idl.callE (fn := Try.f70) (vs := #[wp, gp]) (idl_hg Try.prog j F E w) rfl rfl (by k_ne) rfl Try.func70 rfl rfl (by simp [Act.eval]) ?_
  refine hmid'.out _ _ _ _ _ rfl (fun F' E2 w2 hh => ?_)
  replace hh := Lib.hid hh
  change HGn Try.prog j F' E2 w2 100 _
  walk_nrm
  apply Idl.value (idl_hg Try.prog j F' E2 w2) rfl rfl (by first | decide | exact Go.ConcR.Gen.base_kind _ | exact Go.ConcR.Gen.baseD_kind _ | assumption)
  focus (intro w; go_simp; (try w_num); first | done | rfl)
  focus (intro w; simp [go_sem, *])
  walk_nrm
  refine Idl.re (idl_hg Try.prog j F' E2 w2) ?_
  refine hh.out _ (hrk.out _ (by simp) (by simp) (by simp) (by simp) (by simp) (by simp)) (by simp) (by simp) (by simp)
set_option maxRecDepth 100000 in
set_option maxHeartbeats 2000000 in
theorem calls_store {v2 wt : Int} (R : RegC T wp gp la lo n cap i v) (hi : i < n) (hn : n ≤ 10000000000000) (c3 : w.cell? ⟨la, lo + i * 3 + 2, none⟩ = some (.int .i64 nn)) (hla : E.H la = none) (t9 : T[9]? = some (.int .i64 v2)) (t10 : T[10]? = some (.int .i64 0)) (t11 : T[11]? = some (.int .i64 0)) (t37 : T[37]? = some (.int .i64 2))
    (hmid : ∀ (a₁ : Act) (ops : Array Oper) (i' : Nat) (rest' : List Nat) (k' : List Item), a₁.defers = [] →
      (∀ (F' : Machine → Trace → Prop) (E2 : Env) (w2 : World), (∀ T2, RegC T2 wp gp la lo n cap (i + 1) v2 → HG Try.prog j F' E2 (G ((base 28).at ⟨T2, []⟩ hdC) cs) w2) → HG Try.prog j F' E2 (G ((base 28).at (a₁.put ((ops[i']?).bind (·.dst)) (.tuple #[])) (.inRegion ops rest' :: k')) cs) w2) →
      HGn Try.prog j F E w 200 (entry 71 Try.f71 #[wp, gp, .int .i64 nn] ((base 28).at a₁ (.inRegion ops (i' :: rest') :: k') :: cs))) :
    HG Try.prog j F E (G ((base 28).at ⟨T, []⟩ (.code cCH :: hdC2)) cs) w := by
  refine HG.withH fun hWH _ => ?_
  have hWl : E.W la = false := by
    cases e : E.W la with
    | false => rfl
    | true => have := hWH la e; rw [hla] at this; cases this
  obtain ⟨sz, t0, ⟨A, t1, tA⟩, t2, t7, t8⟩ := R
  have hA := tA (by omega)
  subst hA
  clear tA
  have q1 : (0 : Int) ≤ (i : Int) := by omega
  have q2 : (i : Int) < (n : Int) := by omega
  obtain ⟨f, hf, fz⟩ := arrfv T sz
  have e0 := fz 0 _ t0
  have e1 := fz 1 _ t1
  have e2 := fz 2 _ t2
  have e7 := fz 7 _ t7
  have e8 := fz 8 _ t8
  have e9 := fz 9 _ t9
  have e10 := fz 10 _ t10
  have e11 := fz 11 _ t11
  have e37 := fz 37 _ t37
  subst hf
  clear fz t0 t1 t2 t7 t8 t9 t10 t11 t37 sz
  have hmid' : ∀ (a₁ : Act) (ops : Array Oper) (i' : Nat) (rest' : List Nat) (k' : List Item), a₁.defers = [] →
      (∀ (F' : Machine → Trace → Prop) (E2 : Env) (w2 : World), (∀ T', RegC T' wp gp la lo n cap i v → T'[9]? = some (.int .i64 v2) → T'[10]? = some (.int .i64 0) → T'[11]? = some (.int .i64 0) → HG Try.prog j F' E2 (G ((base 28).at ⟨T', []⟩ hdC2) cs) w2) → HG Try.prog j F' E2 (G ((base 28).at (a₁.put ((ops[i']?).bind (·.dst)) (.tuple #[])) (.inRegion ops rest' :: k')) cs) w2) →
      HGn Try.prog j F E w 200 (entry 71 Try.f71 #[wp, gp, .int .i64 nn] ((base 28).at a₁ (.inRegion ops (i' :: rest') :: k') :: cs)) := by
    intro a₁ ops i' rest' k' hd hp
    refine hmid a₁ ops i' rest' k' hd (fun F' E2 w2 hh => hp F' E2 w2 (fun T' R' r9 r10 r11 => calls_tail R' hi hn r9 r10 r11 hh))
  clear hmid
  replace hmid' := Lib.hid hmid'
  have hrk : ∀ T' : Array Value, T'.size = 77 → T'[0]? = some wp → T'[1]? = some (.slice (some ⟨la, lo, none⟩) n cap) → T'[2]? = some gp → T'[7]? = some (.int .i64 v) → T'[8]? = some (.int .i64 (i : Int)) → RegC T' wp gp la lo n cap i v := fun T' a1 a2 a3 a4 a5 a6 => ⟨a1, a2, ⟨_, a3, fun _ => rfl⟩, a4, a5, a6⟩
  replace hrk := Lib.hid hrk
  change HGn Try.prog j F E w 300 _
  rw [show cCH = xcCH from rfl]
  generalize hG : hdC2 = K2 at hmid' ⊢
  simp only [xcCH, cCH, cBl, cC, cB, Try.f28, Option.getD_some, List.range, List.range.loop, List.map_cons, List.map_nil, e0, e1, e2, e7, e8, e9, e10, e11, e37]
  refine Idl.q (idl_hg Try.prog j F E w) (Idl.rg (idl_hg Try.prog j F E w) [0, 1] rfl ?_)
  apply Idl.value (idl_hg Try.prog j F E w) rfl rfl (by first | decide | exact Go.ConcR.Gen.base_kind _ | exact Go.ConcR.Gen.baseD_kind _ | assumption)
  focus (intro w; go_simp; (try w_num); first | done | rfl)
  focus (intro w; simp [go_sem, *])
  walk_nrm
  apply Idl.value (idl_hg Try.prog j F E w) rfl rfl (by first | decide | exact Go.ConcR.Gen.base_kind _ | exact Go.ConcR.Gen.baseD_kind _ | assumption)
  focus (intro w; go_simp; (try w_num); first | done | rfl)
  focus (intro w; simp [go_sem, *])
  walk_nrm
  refine Idl.re (idl_hg Try.prog j F E w) (Idl.cf (idl_hg Try.prog j F E w) rfl (Idl.q (idl_hg Try.prog j F E w) (Idl.rg (idl_hg Try.prog j F E w) [0, 1] rfl ?_)))
  apply Idl.value (idl_hg Try.prog j F E w) rfl rfl (by first | decide | exact Go.ConcR.Gen.base_kind _ | exact Go.ConcR.Gen.baseD_kind _ | assumption)
  focus (intro w; go_simp; (try w_num); first | done | rfl)
  focus (intro w; simp [go_sem, *])
  walk_nrm
  apply Idl.value (idl_hg Try.prog j F E w) rfl rfl (by first | decide | exact Go.ConcR.Gen.base_kind _ | exact Go.ConcR.Gen.baseD_kind _ | assumption)
  focus (intro w; go_simp; (try w_num); first | done | rfl)
  focus (intro w; simp [go_sem, *])
  walk_nrm
  refine Idl.re (idl_hg Try.prog j F E w) (Idl.ct (idl_hg Try.prog j F E w) rfl (Idl.rg (idl_hg Try.prog j F E w) [0, 1, 2, 3, 4, 5, 6, 7] rfl ?_))
  apply Idl.value (idl_hg Try.prog j F E w) rfl rfl (by first | decide | exact Go.ConcR.Gen.base_kind _ | exact Go.ConcR.Gen.baseD_kind _ | assumption)
  focus (intro w; go_simp; (try w_num); first | done | rfl)
  focus (intro w; simp [go_sem, *])
  walk_nrm
  apply Idl.value (idl_hg Try.prog j F E w) rfl rfl (by first | decide | exact Go.ConcR.Gen.base_kind _ | exact Go.ConcR.Gen.baseD_kind _ | assumption)
  focus (intro w; go_simp; (try w_num); first | done | rfl)
  focus (intro w; simp [go_sem, *])
  walk_nrm
  apply Idl.value (idl_hg Try.prog j F E w) rfl rfl (by first | decide | exact Go.ConcR.Gen.base_kind _ | exact Go.ConcR.Gen.baseD_kind _ | assumption)
  focus (intro w; go_simp; (try w_num); first | done | rfl)
  focus (intro w; simp [go_sem, *])
  walk_nrm
  apply Idl.value (idl_hg Try.prog j F E w) rfl rfl (by first | decide | exact Go.ConcR.Gen.base_kind _ | exact Go.ConcR.Gen.baseD_kind _ | assumption)
  focus (intro w; go_simp; (try w_num); first | done | rfl)
  focus (intro w; simp [go_sem, *])
  walk_nrm
  apply Idl.value (idl_hg Try.prog j F E w) rfl rfl (by first | decide | exact Go.ConcR.Gen.base_kind _ | exact Go.ConcR.Gen.baseD_kind _ | assumption)
  focus (intro w; go_simp; (try w_num); first | done | rfl)
  focus (intro w; simp [go_sem, *])
  walk_nrm
  apply Idl.value (idl_hg Try.prog j F E w) rfl rfl (by first | decide | exact Go.ConcR.Gen.base_kind _ | exact Go.ConcR.Gen.baseD_kind _ | assumption)
  focus (intro w; go_simp; (try w_num); first | done | rfl)
  focus (intro w; simp [go_sem, *])
  walk_nrm
  refine HGn.ld c3 (fun z => by rw [hWl] at z; cases z) rfl rfl (by first | decide | exact Go.ConcR.Gen.base_kind _ | exact Go.ConcR.Gen.baseD_kind _ | assumption) (fun w₁ hc₁ => ⟨by go_simp, fun e he => by (have he' := he; simp [go_sem, hc₁] at he'; exact he')⟩) ?_
  walk_nrm
  skip
  refine Idl.callE (fn := Try.f71) (vs := #[wp, gp, .int .i64 nn]) (idl_hg Try.prog j F E w) rfl rfl (by k_ne) rfl Try.func71 rfl rfl (by simp [Act.eval]) ?_
  refine hmid'.out _ _ _ _ _ rfl (fun F' E2 w2 hh => ?_)
  replace hh := Lib.hid hh
  change HGn Try.prog j F' E2 w2 100 _
  walk_nrm
  refine Idl.re (idl_hg Try.prog j F' E2 w2) ?_
  refine hh.out _ (hrk.out _ (by simp) (by simp) (by simp) (by simp) (by simp) (by simp)) (by simp) (by simp) (by simp)
set_option maxRecDepth 100000 in
set_option maxHeartbeats 2000000 in
theorem calls_add {v2 wt : Int} (R : RegC T wp gp la lo n cap i v) (hi : i < n) (hn : n ≤ 10000000000000) (c3 : w.cell? ⟨la, lo + i * 3 + 2, none⟩ = some (.int .i64 nn)) (hla : E.H la = none) (t9 : T[9]? = some (.int .i64 v2)) (t10 : T[10]? = some (.int .i64 wt))  (t37 : T[37]? = some (.int .i64 3))
    (hmid : ∀ (a₁ : Act) (ops : Array Oper) (i' : Nat) (rest' : List Nat) (k' : List Item), a₁.defers = [] →
      (∀ (F' : Machine → Trace → Prop) (E2 : Env) (w2 : World), (∀ T2, RegC T2 wp gp la lo n cap (i + 1) v2 → HG Try.prog j F' E2 (G ((base 28).at ⟨T2, []⟩ hdC) cs) w2) → HG Try.prog j F' E2 (G ((base 28).at (a₁.put ((ops[i']?).bind (·.dst)) (.int .i64 wt)) (.inRegion ops rest' :: k')) cs) w2) →
      HGn Try.prog j F E w 200 (entry 68 Try.f68 #[wp, gp, .int .i64 nn] ((base 28).at a₁ (.inRegion ops (i' :: rest') :: k') :: cs))) :
    HG Try.prog j F E (G ((base 28).at ⟨T, []⟩ (.code cCH :: hdC2)) cs) w := by
  refine HG.withH fun hWH _ => ?_
  have hWl : E.W la = false := by
    cases e : E.W la with
    | false => rfl
    | true => have := hWH la e; rw [hla] at this; cases this
  obtain ⟨sz, t0, ⟨A, t1, tA⟩, t2, t7, t8⟩ := R
  have hA := tA (by omega)
  subst hA
  clear tA
  have q1 : (0 : Int) ≤ (i : Int) := by omega
  have q2 : (i : Int) < (n : Int) := by omega
  obtain ⟨f, hf, fz⟩ := arrfv T sz
  have e0 := fz 0 _ t0
  have e1 := fz 1 _ t1
  have e2 := fz 2 _ t2
  have e7 := fz 7 _ t7
  have e8 := fz 8 _ t8
  have e9 := fz 9 _ t9
  have e10 := fz 10 _ t10
  skip
  have e37 := fz 37 _ t37
  subst hf
  clear fz t0 t1 t2 t7 t8 t9 t10  t37 sz
  have hmid' : ∀ (a₁ : Act) (ops : Array Oper) (i' : Nat) (rest' : List Nat) (k' : List Item), a₁.defers = [] →
      (∀ (F' : Machine → Trace → Prop) (E2 : Env) (w2 : World), (∀ T', RegC T' wp gp la lo n cap i v → T'[9]? = some (.int .i64 v2) → T'[10]? = some (.int .i64 wt) → T'[11]? = some (.int .i64 wt) → HG Try.prog j F' E2 (G ((base 28).at ⟨T', []⟩ hdC2) cs) w2) → HG Try.prog j F' E2 (G ((base 28).at (a₁.put ((ops[i']?).bind (·.dst)) (.int .i64 wt)) (.inRegion ops rest' :: k')) cs) w2) →
      HGn Try.prog j F E w 200 (entry 68 Try.f68 #[wp, gp, .int .i64 nn] ((base 28).at a₁ (.inRegion ops (i' :: rest') :: k') :: cs)) := by
    intro a₁ ops i' rest' k' hd hp
    refine hmid a₁ ops i' rest' k' hd (fun F' E2 w2 hh => hp F' E2 w2 (fun T' R' r9 r10 r11 => calls_tail R' hi hn r9 r10 r11 hh))
  clear hmid
  replace hmid' := Lib.hid hmid'
  have hrk : ∀ T' : Array Value, T'.size = 77 → T'[0]? = some wp → T'[1]? = some (.slice (some ⟨la, lo, none⟩) n cap) → T'[2]? = some gp → T'[7]? = some (.int .i64 v) → T'[8]? = some (.int .i64 (i : Int)) → RegC T' wp gp la lo n cap i v := fun T' a1 a2 a3 a4 a5 a6 => ⟨a1, a2, ⟨_, a3, fun _ => rfl⟩, a4, a5, a6⟩
  replace hrk := Lib.hid hrk
  change HGn Try.prog j F E w 300 _
  rw [show cCH = xcCH from rfl]
  generalize hG : hdC2 = K2 at hmid' ⊢
  simp only [xcCH, cCH, cBl, cC, cB, Try.f28, Option.getD_some, List.range, List.range.loop, List.map_cons, List.map_nil, e0, e1, e2, e7, e8, e9, e10, e37]
  refine Idl.q (idl_hg Try.prog j F E w) (Idl.rg (idl_hg Try.prog j F E w) [0, 1] rfl ?_)
  apply Idl.value (idl_hg Try.prog j F E w) rfl rfl (by first | decide | exact Go.ConcR.Gen.base_kind _ | exact Go.ConcR.Gen.baseD_kind _ | assumption)
  focus (intro w; go_simp; (try w_num); first | done | rfl)
  focus (intro w; simp [go_sem, *])
  walk_nrm
  apply Idl.value (idl_hg Try.prog j F E w) rfl rfl (by first | decide | exact Go.ConcR.Gen.base_kind _ | exact Go.ConcR.Gen.baseD_kind _ | assumption)
  focus (intro w; go_simp; (try w_num); first | done | rfl)
  focus (intro w; simp [go_sem, *])
  walk_nrm
  refine Idl.re (idl_hg Try.prog j F E w) (Idl.cf (idl_hg Try.prog j F E w) rfl (Idl.q (idl_hg Try.prog j F E w) (Idl.rg (idl_hg Try.prog j F E w) [0, 1] rfl ?_)))
  apply Idl.value (idl_hg Try.prog j F E w) rfl rfl (by first | decide | exact Go.ConcR.Gen.base_kind _ | exact Go.ConcR.Gen.baseD_kind _ | assumption)
  focus (intro w; go_simp; (try w_num); first | done | rfl)
  focus (intro w; simp [go_sem, *])
  walk_nrm
  apply Idl.value (idl_hg Try.prog j F E w) rfl rfl (by first | decide | exact Go.ConcR.Gen.base_kind _ | exact Go.ConcR.Gen.baseD_kind _ | assumption)
  focus (intro w; go_simp; (try w_num); first | done | rfl)
  focus (intro w; simp [go_sem, *])
  walk_nrm
  refine Idl.re (idl_hg Try.prog j F E w) (Idl.cf (idl_hg Try.prog j F E w) rfl (Idl.q (idl_hg Try.prog j F E w) (Idl.rg (idl_hg Try.prog j F E w) [0, 1] rfl ?_)))
  apply Idl.value (idl_hg Try.prog j F E w) rfl rfl (by first | decide | exact Go.ConcR.Gen.base_kind _ | exact Go.ConcR.Gen.baseD_kind _ | assumption)
  focus (intro w; go_simp; (try w_num); first | done | rfl)
  focus (intro w; simp [go_sem, *])
  walk_nrm
  apply Idl.value (idl_hg Try.prog j F E w) rfl rfl (by first | decide | exact Go.ConcR.Gen.base_kind _ | exact Go.ConcR.Gen.baseD_kind _ | assumption)
  focus (intro w; go_simp; (try w_num); first | done | rfl)
  focus (intro w; simp [go_sem, *])
  walk_nrm
  refine Idl.re (idl_hg Try.prog j F E w) (Idl.ct (idl_hg Try.prog j F E w) rfl (Idl.rg (idl_hg Try.prog j F E w) [0, 1, 2, 3, 4, 5, 6, 7, 8] rfl ?_))
  apply Idl.value (idl_hg Try.prog j F E w) rfl rfl (by first | decide | exact Go.ConcR.Gen.base_kind _ | exact Go.ConcR.Gen.baseD_kind _ | assumption)
  focus (intro w; go_simp; (try w_num); first | done | rfl)
  focus (intro w; simp [go_sem, *])
  walk_nrm
  apply Idl.value (idl_hg Try.prog j F E w) rfl rfl (by first | decide | exact Go.ConcR.Gen.base_kind _ | exact Go.ConcR.Gen.baseD_kind _ | assumption)
  focus (intro w; go_simp; (try w_num); first | done | rfl)
  focus (intro w; simp [go_sem, *])
  walk_nrm
  apply Idl.value (idl_hg Try.prog j F E w) rfl rfl (by first | decide | exact Go.ConcR.Gen.base_kind _ | exact Go.ConcR.Gen.baseD_kind _ | assumption)
  focus (intro w; go_simp; (try w_num); first | done | rfl)
  focus (intro w; simp [go_sem, *])
  walk_nrm
  apply Idl.value (idl_hg Try.prog j F E w) rfl rfl (by first | decide | exact Go.ConcR.Gen.base_kind _ | exact Go.ConcR.Gen.baseD_kind _ | assumption)
  focus (intro w; go_simp; (try w_num); first | done | rfl)
  focus (intro w; simp [go_sem, *])
  walk_nrm
  apply Idl.value (idl_hg Try.prog j F E w) rfl rfl (by first | decide | exact Go.ConcR.Gen.base_kind _ | exact Go.ConcR.Gen.baseD_kind _ | assumption)
  focus (intro w; go_simp; (try w_num); first | done | rfl)
  focus (intro w; simp [go_sem, *])
  walk_nrm
  apply Idl.value (idl_hg Try.prog j F E w) rfl rfl (by first | decide | exact Go.ConcR.Gen.base_kind _ | exact Go.ConcR.Gen.baseD_kind _ | assumption)
  focus (intro w; go_simp; (try w_num); first | done | rfl)
  focus (intro w; simp [go_sem, *])
  walk_nrm
  refine HGn.ld c3 (fun z => by rw [hWl] at z; cases z) rfl rfl (by first | decide | exact Go.ConcR.Gen.base_kind _ | exact Go.ConcR.Gen.baseD_kind _ | assumption) (fun w₁ hc₁ => ⟨by go_simp, fun e he => by (have he' := he; simp [go_sem, hc₁] at he'; exact he')⟩) ?_
  walk_nrm
  skip
  refine Idl.callE (fn := Try.f68) (vs := #[wp, gp, .int .i64 nn]) (idl_hg Try.prog j F E w) rfl rfl (by k_ne) rfl Try.func68 rfl rfl (by simp [Act.eval]) ?_
  refine hmid'.out _ _ _ _ _ rfl (fun F' E2 w2 hh => ?_)
  replace hh := Lib.hid hh
  change HGn Try.prog j F' E2 w2 100 _
  walk_nrm
  apply Idl.value (idl_hg Try.prog j F' E2 w2) rfl rfl (by first | decide | exact Go.ConcR.Gen.base_kind _ | exact Go.ConcR.Gen.baseD_kind _ | assumption)
  focus (intro w; go_simp; (try w_num); first | done | rfl)
  focus (intro w; simp [go_sem, *])
  walk_nrm
  refine Idl.re (idl_hg Try.prog j F' E2 w2) ?_
  refine hh.out _ (hrk.out _ (by simp) (by simp) (by simp) (by simp) (by simp) (by simp)) (by simp) (by simp) (by simp)
set_option maxRecDepth 100000 in
set_option maxHeartbeats 2000000 in
theorem calls_swap {v2 wt : Int} (R : RegC T wp gp la lo n cap i v) (hi : i < n) (hn : n ≤ 10000000000000) (c3 : w.cell? ⟨la, lo + i * 3 + 2, none⟩ = some (.int .i64 nn)) (hla : E.H la = none) (t9 : T[9]? = some (.int .i64 v2)) (t10 : T[10]? = some (.int .i64 wt))  (t37 : T[37]? = some (.int .i64 4))
    (hmid : ∀ (a₁ : Act) (ops : Array Oper) (i' : Nat) (rest' : List Nat) (k' : List Item), a₁.defers = [] →
      (∀ (F' : Machine → Trace → Prop) (E2 : Env) (w2 : World), (∀ T2, RegC T2 wp gp la lo n cap (i + 1) v2 → HG Try.prog j F' E2 (G ((base 28).at ⟨T2, []⟩ hdC) cs) w2) → HG Try.prog j F' E2 (G ((base 28).at (a₁.put ((ops[i']?).bind (·.dst)) (.int .i64 wt)) (.inRegion ops rest' :: k')) cs) w2) →
      HGn Try.prog j F E w 200 (entry 69 Try.f69 #[wp, gp, .int .i64 nn] ((base 28).at a₁ (.inRegion ops (i' :: rest') :: k') :: cs))) :
    HG Try.prog j F E (G ((base 28).at ⟨T, []⟩ (.code cCH :: hdC2)) cs) w := by
  refine HG.withH fun hWH _ => ?_
  have hWl : E.W la = false := by
    cases e : E.W la with
    | false => rfl
    | true => have := hWH la e; rw [hla] at this; cases this
  obtain ⟨sz, t0, ⟨A, t1, tA⟩, t2, t7, t8⟩ := R
  have hA := tA (by omega)
  subst hA
  clear tA
  have q1 : (0 : Int) ≤ (i : Int) := by omega
  have q2 : (i : Int) < (n : Int) := by omega
  obtain ⟨f, hf, fz⟩ := arrfv T sz
  have e0 := fz 0 _ t0
  have e1 := fz 1 _ t1
  have e2 := fz 2 _ t2
  have e7 := fz 7 _ t7
  have e8 := fz 8 _ t8
  have e9 := fz 9 _ t9
  have e10 := fz 10 _ t10
  skip
  have e37 := fz 37 _ t37
  subst hf
  clear fz t0 t1 t2 t7 t8 t9 t10  t37 sz
  have hmid' : ∀ (a₁ : Act) (ops : Array Oper) (i' : Nat) (rest' : List Nat) (k' : List Item), a₁.defers = [] →
      (∀ (F' : Machine → Trace → Prop) (E2 : Env) (w2 : World), (∀ T', RegC T' wp gp la lo n cap i v → T'[9]? = some (.int .i64 v2) → T'[10]? = some (.int .i64 wt) → T'[11]? = some (.int .i64 wt) → HG Try.prog j F' E2 (G ((base 28).at ⟨T', []⟩ hdC2) cs) w2) → HG Try.prog j F' E2 (G ((base 28).at (a₁.put ((ops[i']?).bind (·.dst)) (.int .i64 wt)) (.inRegion ops rest' :: k')) cs) w2) →
      HGn Try.prog j F E w 200 (entry 69 Try.f69 #[wp, gp, .int .i64 nn] ((base 28).at a₁ (.inRegion ops (i' :: rest') :: k') :: cs)) := by
    intro a₁ ops i' rest' k' hd hp
    refine hmid a₁ ops i' rest' k' hd (fun F' E2 w2 hh => hp F' E2 w2 (fun T' R' r9 r10 r11 => calls_tail R' hi hn r9 r10 r11 hh))
  clear hmid
  replace hmid' := Lib.hid hmid'
  have hrk : ∀ T' : Array Value, T'.size = 77 → T'[0]? = some wp → T'[1]? = some (.slice (some ⟨la, lo, none⟩) n cap) → T'[2]? = some gp → T'[7]? = some (.int .i64 v) → T'[8]? = some (.int .i64 (i : Int)) → RegC T' wp gp la lo n cap i v := fun T' a1 a2 a3 a4 a5 a6 => ⟨a1, a2, ⟨_, a3, fun _ => rfl⟩, a4, a5, a6⟩
  replace hrk := Lib.hid hrk
  change HGn Try.prog j F E w 300 _
  rw [show cCH = xcCH from rfl]
  generalize hG : hdC2 = K2 at hmid' ⊢
  simp only [xcCH, cCH, cBl, cC, cB, Try.f28, Option.getD_some, List.range, List.range.loop, List.map_cons, List.map_nil, e0, e1, e2, e7, e8, e9, e10, e37]
  refine Idl.q (idl_hg Try.prog j F E w) (Idl.rg (idl_hg Try.prog j F E w) [0, 1] rfl ?_)
  apply Idl.value (idl_hg Try.prog j F E w) rfl rfl (by first | decide | exact Go.ConcR.Gen.base_kind _ | exact Go.ConcR.Gen.baseD_kind _ | assumption)
  focus (intro w; go_simp; (try w_num); first | done | rfl)
  focus (intro w; simp [go_sem, *])
  walk_nrm
  apply Idl.value (idl_hg Try.prog j F E w) rfl rfl (by first | decide | exact Go.ConcR.Gen.base_kind _ | exact Go.ConcR.Gen.baseD_kind _ | assumption)
  focus (intro w; go_simp; (try w_num); first | done | rfl)
  focus (intro w; simp [go_sem, *])
  walk_nrm
  refine Idl.re (idl_hg Try.prog j F E w) (Idl.cf (idl_hg Try.prog j F E w) rfl (Idl.q (idl_hg Try.prog j F E w) (Idl.rg (idl_hg Try.prog j F E w) [0, 1] rfl ?_)))
  apply Idl.value (idl_hg Try.prog j F E w) rfl rfl (by first | decide | exact Go.ConcR.Gen.base_kind _ | exact Go.ConcR.Gen.baseD_kind _ | assumption)
  focus (intro w; go_simp; (try w_num); first | done | rfl)
  focus (intro w; simp [go_sem, *])
  walk_nrm
  apply Idl.value (idl_hg Try.prog j F E w) rfl rfl (by first | decide | exact Go.ConcR.Gen.base_kind _ | exact Go.ConcR.Gen.baseD_kind _ | assumption)
  focus (intro w; go_simp; (try w_num); first | done | rfl)
  focus (intro w; simp [go_sem, *])
  walk_nrm
  refine Idl.re (idl_hg Try.prog j F E w) (Idl.cf (idl_hg Try.prog j F E w) rfl (Idl.q (idl_hg Try.prog j F E w) (Idl.rg (idl_hg Try.prog j F E w) [0, 1] rfl ?_)))
  apply Idl.value (idl_hg Try.prog j F E w) rfl rfl (by first | decide | exact Go.ConcR.Gen.base_kind _ | exact Go.ConcR.Gen.baseD_kind _ | assumption)
  focus (intro w; go_simp; (try w_num); first | done | rfl)
  focus (intro w; simp [go_sem, *])
  walk_nrm
  apply Idl.value (idl_hg Try.prog j F E w) rfl rfl (by first | decide | exact Go.ConcR.Gen.base_kind _ | exact Go.ConcR.Gen.baseD_kind _ | assumption)
  focus (intro w; go_simp; (try w_num); first | done | rfl)
  focus (intro w; simp [go_sem, *])
  walk_nrm
  refine Idl.re (idl_hg Try.prog j F E w) (Idl.cf (idl_hg Try.prog j F E w) rfl (Idl.q (idl_hg Try.prog j F E w) (Idl.rg (idl_hg Try.prog j F E w) [0, 1] rfl ?_)))
  apply Idl.value (idl_hg Try.prog j F E w) rfl rfl (by first | decide | exact Go.ConcR.Gen.base_kind _ | exact Go.ConcR.Gen.baseD_kind _ | assumption)
  focus (intro w; go_simp; (try w_num); first | done | rfl)
  focus (intro w; simp [go_sem, *])
  walk_nrm
  apply Idl.value (idl_hg Try.prog j F E w) rfl rfl (by first | decide | exact Go.ConcR.Gen.base_kind _ | exact Go.ConcR.Gen.baseD_kind _ | assumption)
  focus (intro w; go_simp; (try w_num); first | done | rfl)
  focus (intro w; simp [go_sem, *])
  walk_nrm
  refine Idl.re (idl_hg Try.prog j F E w) (Idl.ct (idl_hg Try.prog j F E w) rfl (Idl.rg (idl_hg Try.prog j F E w) [0, 1, 2, 3, 4, 5, 6, 7, 8] rfl ?_))
  apply Idl.value (idl_hg Try.prog j F E w) rfl rfl (by first | decide | exact Go.ConcR.Gen.base_kind _ | exact Go.ConcR.Gen.baseD_kind _ | assumption)
  focus (intro w; go_simp; (try w_num); first | done | rfl)
  focus (intro w; simp [go_sem, *])
  walk_nrm
  apply Idl.value (idl_hg Try.prog j F E w) rfl rfl (by first | decide | exact Go.ConcR.Gen.base_kind _ | exact Go.ConcR.Gen.baseD_kind _ | assumption)
  focus (intro w; go_simp; (try w_num); first | done | rfl)
  focus (intro w; simp [go_sem, *])
  walk_nrm
  apply Idl.value (idl_hg Try.prog j F E w) rfl rfl (by first | decide | exact Go.ConcR.Gen.base_kind _ | exact Go.ConcR.Gen.baseD_kind _ | assumption)
  focus (intro w; go_simp; (try w_num); first | done | rfl)
  focus (intro w; simp [go_sem, *])
  walk_nrm
  apply Idl.value (idl_hg Try.prog j F E w) rfl rfl (by first | decide | exact Go.ConcR.Gen.base_kind _ | exact Go.ConcR.Gen.baseD_kind _ | assumption)
  focus (intro w; go_simp; (try w_num); first | done | rfl)
  focus (intro w; simp [go_sem, *])
  walk_nrm
  apply Idl.value (idl_hg Try.prog j F E w) rfl rfl (by first | decide | exact Go.ConcR.Gen.base_kind _ | exact Go.ConcR.Gen.baseD_kind _ | assumption)
  focus (intro w; go_simp; (try w_num); first | done | rfl)
  focus (intro w; simp [go_sem, *])
  walk_nrm
  apply Idl.value (idl_hg Try.prog j F E w) rfl rfl (by first | decide | exact Go.ConcR.Gen.base_kind _ | exact Go.ConcR.Gen.baseD_kind _ | assumption)
  focus (intro w; go_simp; (try w_num); first | done | rfl)
  focus (intro w; simp [go_sem, *])
  walk_nrm
  refine HGn.ld c3 (fun z => by rw [hWl] at z; cases z) rfl rfl (by first | decide | exact Go.ConcR.Gen.base_kind _ | exact Go.ConcR.Gen.baseD_kind _ | assumption) (fun w₁ hc₁ => ⟨by go_simp, fun e he => by (have he' := he; simp [go_sem, hc₁] at he'; exact he')⟩) ?_
  walk_nrm
  skip
  refine Idl.callE (fn := Try.f69) (vs := #[wp, gp, .int .i64 nn]) (idl_hg Try.prog j F E w) rfl rfl (by k_ne) rfl Try.func69 rfl rfl (by simp [Act.eval]) ?_
  refine hmid'.out _ _ _ _ _ rfl (fun F' E2 w2 hh => ?_)
  replace hh := Lib.hid hh
  change HGn Try.prog j F' E2 w2 100 _
  walk_nrm
  apply Idl.value (idl_hg Try.prog j F' E2 w2) rfl rfl (by first | decide | exact Go.ConcR.Gen.base_kind _ | exact Go.ConcR.Gen.baseD_kind _ | assumption)
  focus (intro w; go_simp; (try w_num); first | done | rfl)
  focus (intro w; simp [go_sem, *])
  walk_nrm
  refine Idl.re (idl_hg Try.prog j F' E2 w2) ?_
  refine hh.out _ (hrk.out _ (by simp) (by simp) (by simp) (by simp) (by simp) (by simp)) (by simp) (by simp) (by simp)
set_option maxRecDepth 100000 in
set_option maxHeartbeats 2000000 in
theorem calls_skip (R : RegC T wp gp la lo n cap i v) (hi : i < n) (hn : n ≤ 10000000000000) (hk : isC kd = false) (t37 : T[37]? = some (.int .i64 kd))
    (hc : ∀ T', RegC T' wp gp la lo n cap (i + 1) v → HG Try.prog j F E (G ((base 28).at ⟨T', []⟩ hdC) cs) w) :
    HG Try.prog j F E (G ((base 28).at ⟨T, []⟩ (.code cCH :: hdC2)) cs) w := by
  have w3 : IntKind.i64.wrap ((i : Int) + 1) = ((i + 1 : Nat) : Int) := by rw [IntKind.wrap_i64]; omega
  have hk' : ¬ (1 ≤ kd ∧ kd ≤ 4) := by unfold isC at hk; simpa using hk
  have b1 : (kd == 1) = false := beq_eq_false_iff_ne.2 (by omega)
  have b2 : (kd == 2) = false := beq_eq_false_iff_ne.2 (by omega)
  have b3 : (kd == 3) = false := beq_eq_false_iff_ne.2 (by omega)
  have b4 : (kd == 4) = false := beq_eq_false_iff_ne.2 (by omega)
  obtain ⟨sz, t0, ⟨A, t1, tA⟩, t2, t7, t8⟩ := R
  obtain ⟨f, hf, fz⟩ := arrfv T sz
  have e0 := fz 0 _ t0
  have e1 := fz 1 _ t1
  have e2 := fz 2 _ t2
  have e7 := fz 7 _ t7
  have e8 := fz 8 _ t8
  have e37 := fz 37 _ t37
  subst hf
  have hfin : ∀ T' : Array Value, T'.size = 77 → T'[0]? = some wp → T'[1]? = some (.slice A n cap) → T'[2]? = some gp → T'[7]? = some (.int .i64 v) → T'[8]? = some (.int .i64 ((i + 1 : Nat) : Int)) → HG Try.prog j F E (G ((base 28).at ⟨T', []⟩ hdC) cs) w := fun T' a1 a2 a3 a4 a5 a6 => hc T' ⟨a1, a2, ⟨A, a3, tA⟩, a4, a5, a6⟩
  clear hc tA hi hn hk hk' fz t0 t1 t2 t7 t8 t37 sz
  replace hfin := Lib.hid hfin
  change HGn Try.prog j F E w 300 _
  rw [show cCH = xcCH from rfl]
  unfold hdC2
  unfold hdC at hfin
  rw [show cT = xcT from rfl] at hfin ⊢
  generalize hG3 : xcT = L3 at hfin ⊢
  generalize hG5 : cPost = L5 at ⊢
  rw [show cR4 = xcR4 from rfl]
  generalize hG4 : cC = L4 at hfin ⊢
  simp only [xcCH, cCH, xcR4, cBl, cR4, cC, cB, Try.f28, Option.getD_some, List.range, List.range.loop, List.map_cons, List.map_nil, e0, e1, e2, e7, e8, e37] at hfin ⊢
  refine Idl.q (idl_hg Try.prog j F E w) (Idl.rg (idl_hg Try.prog j F E w) [0, 1] rfl ?_)
  apply Idl.value (idl_hg Try.prog j F E w) rfl rfl (by first | decide | exact Go.ConcR.Gen.base_kind _ | exact Go.ConcR.Gen.baseD_kind _ | assumption)
  focus (intro w; go_simp; (try w_num); first | done | rfl)
  focus (intro w; simp [go_sem, *])
  walk_nrm
  apply Idl.value (idl_hg Try.prog j F E w) rfl rfl (by first | decide | exact Go.ConcR.Gen.base_kind _ | exact Go.ConcR.Gen.baseD_kind _ | assumption)
  focus (intro w; go_simp; (try w_num); first | done | rfl)
  focus (intro w; simp [go_sem, *])
  walk_nrm
  refine Idl.re (idl_hg Try.prog j F E w) (Idl.cf (idl_hg Try.prog j F E w) rfl (Idl.q (idl_hg Try.prog j F E w) (Idl.rg (idl_hg Try.prog j F E w) [0, 1] rfl ?_)))
  apply Idl.value (idl_hg Try.prog j F E w) rfl rfl (by first | decide | exact Go.ConcR.Gen.base_kind _ | exact Go.ConcR.Gen.baseD_kind _ | assumption)
  focus (intro w; go_simp; (try w_num); first | done | rfl)
  focus (intro w; simp [go_sem, *])
  walk_nrm
  apply Idl.value (idl_hg Try.prog j F E w) rfl rfl (by first | decide | exact Go.ConcR.Gen.base_kind _ | exact Go.ConcR.Gen.baseD_kind _ | assumption)
  focus (intro w; go_simp; (try w_num); first | done | rfl)
  focus (intro w; simp [go_sem, *])
  walk_nrm
  refine Idl.re (idl_hg Try.prog j F E w) (Idl.cf (idl_hg Try.prog j F E w) rfl (Idl.q (idl_hg Try.prog j F E w) (Idl.rg (idl_hg Try.prog j F E w) [0, 1] rfl ?_)))
  apply Idl.value (idl_hg Try.prog j F E w) rfl rfl (by first | decide | exact Go.ConcR.Gen.base_kind _ | exact Go.ConcR.Gen.baseD_kind _ | assumption)
  focus (intro w; go_simp; (try w_num); first | done | rfl)
  focus (intro w; simp [go_sem, *])
  walk_nrm
  apply Idl.value (idl_hg Try.prog j F E w) rfl rfl (by first | decide | exact Go.ConcR.Gen.base_kind _ | exact Go.ConcR.Gen.baseD_kind _ | assumption)
  focus (intro w; go_simp; (try w_num); first | done | rfl)
  focus (intro w; simp [go_sem, *])
  walk_nrm
  refine Idl.re (idl_hg Try.prog j F E w) (Idl.cf (idl_hg Try.prog j F E w) rfl (Idl.q (idl_hg Try.prog j F E w) (Idl.rg (idl_hg Try.prog j F E w) [0, 1] rfl ?_)))
  apply Idl.value (idl_hg Try.prog j F E w) rfl rfl (by first | decide | exact Go.ConcR.Gen.base_kind _ | exact Go.ConcR.Gen.baseD_kind _ | assumption)
  focus (intro w; go_simp; (try w_num); first | done | rfl)
  focus (intro w; simp [go_sem, *])
  walk_nrm
  apply Idl.value (idl_hg Try.prog j F E w) rfl rfl (by first | decide | exact Go.ConcR.Gen.base_kind _ | exact Go.ConcR.Gen.baseD_kind _ | assumption)
  focus (intro w; go_simp; (try w_num); first | done | rfl)
  focus (intro w; simp [go_sem, *])
  walk_nrm
  refine Idl.re (idl_hg Try.prog j F E w) (Idl.cf (idl_hg Try.prog j F E w) rfl (Idl.exit (idl_hg Try.prog j F E w) rfl (Idl.rg (idl_hg Try.prog j F E w) [0, 1, 2] rfl ?_)))
  apply Idl.value (idl_hg Try.prog j F E w) rfl rfl (by first | decide | exact Go.ConcR.Gen.base_kind _ | exact Go.ConcR.Gen.baseD_kind _ | assumption)
  focus (intro w; go_simp; (try w_num); first | done | rfl)
  focus (intro w; simp [go_sem, *])
  walk_nrm
  apply Idl.value (idl_hg Try.prog j F E w) rfl rfl (by first | decide | exact Go.ConcR.Gen.base_kind _ | exact Go.ConcR.Gen.baseD_kind _ | assumption)
  focus (intro w; go_simp; (try w_num); first | done | rfl)
  focus (intro w; simp [go_sem, *])
  walk_nrm
  apply Idl.value (idl_hg Try.prog j F E w) rfl rfl (by first | decide | exact Go.ConcR.Gen.base_kind _ | exact Go.ConcR.Gen.baseD_kind _ | assumption)
  focus (intro w; go_simp; (try w_num); first | done | rfl)
  focus (intro w; simp [go_sem, *])
  walk_nrm
  refine Idl.re (idl_hg Try.prog j F E w) (Idl.il (idl_hg Try.prog j F E w) ?_)
  try simp only [w3]
  refine hfin.out _ (by simp) (by simp) (by simp) (by simp) (by simp) (by simp)
end
end Go.Proofs.Ytimlbbleblijnaa.Co
