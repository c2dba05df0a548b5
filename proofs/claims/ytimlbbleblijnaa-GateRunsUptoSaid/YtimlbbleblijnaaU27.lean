/- Lemmas for the laws of this seat, laid together of PIs, PGet, PIt, PGdf, PIu, PGdg. -/
import Derived.Test.YtimlbbleblijnaaU18
import Derived.Test.YtimlbbleblijnaaU19
import Derived.Test.YtimlbbleblijnaaU21
import Derived.Test.YtimlbbleblijnaaU23
import Derived.Test.YtimlbbleblijnaaU26
import Derived.Test.YtimlbbleblijnaaRows
import Derived.ProofKit
import Derived.SizedLaws
import Derived.ChangeArms
import Derived.ChangeSame
import Derived.Lib.SmallJoins
import Derived.OpenShut
import Derived.Deep.Strs
import Derived.Deep.CondSized

open Go.ConcR.Gen (base_kind baseD_kind)
set_option linter.unusedVariables false
set_option linter.unusedSimpArgs false
namespace Go.Proofs.Ytimlbbleblijnaa.Co
open Go Go.Conc Go.RowKit
open Go.ConcN (sumTo upd sumTo_upd upd_ne upd_same sumTo_congr le_sumTo)
noncomputable def hdR : List Item := [.code rL, .inLoop rL, .inBlock 0, .code rT13]
noncomputable def xrIf : Code := rIf
noncomputable def xrCd : Code := rCd
noncomputable def xrS5 : Code := rS5
noncomputable def xrT13 : Code := rT13
set_option maxRecDepth 100000 in
set_option maxHeartbeats 2000000 in
theorem rS4_wp {f : Nat → Value} {x : World} {i : Int} {Q : Exit → Act → World → Prop} (h10 : f 10 = .int .i64 i)
    (hQ : ∀ T', T'.size = 62 → (∀ j, j < 16 → T'[j]? = some (f j)) → T'[25]? = some (.bool (decide (i < 2))) → Q .normal ⟨T', []⟩ x) : rS4.wp Try.prog Q ⟨(List.map f (List.range 62)).toArray, []⟩ x := by
  simp only [List.range, List.range.loop, List.map_cons, List.map_nil, h10]
  simp only [rS4, rL, rT3, rT2, rB0, Try.f7, Option.getD_some]
  go_wp2_with fail
  exact hQ _ (by simp) (fun j hj => by
    match j, hj with
    | 0, _ | 1, _ | 2, _ | 3, _ | 4, _ | 5, _ | 6, _ | 7, _ | 8, _ | 9, _ | 10, _ | 11, _ | 12, _ | 13, _ | 14, _ | 15, _ => simp [h10]
    | j + 16, h => exact absurd h (by omega)) (by simp)
theorem slots16 (f : Nat → Value) {l : List Value} : ∀ j, j < 16 → (List.toArray (f 0 :: f 1 :: f 2 :: f 3 :: f 4 :: f 5 :: f 6 :: f 7 :: f 8 :: f 9 :: f 10 :: f 11 :: f 12 :: f 13 :: f 14 :: f 15 :: l))[j]? = some (f j)
  | 0, _ | 1, _ | 2, _ | 3, _ | 4, _ | 5, _ | 6, _ | 7, _ | 8, _ | 9, _ | 10, _ | 11, _ | 12, _ | 13, _ | 14, _ | 15, _ => rfl
  | n + 16, h => absurd h (by omega)
section
variable {F : Machine → Trace → Prop} {E : Env} {w : World}
theorem rn_test {T : Array Value} {i : Nat} {fr : Frame} {k : List Item} {cs : List Frame} (hk : fr.kind = .normal) (hs : T.size = 62) (t10 : T[10]? = some (.int .i64 (i : Int)))
    (hc : ∀ E1 w1 T', Kept 0 none E w E1 w1 → Stands E w E1 w1 → T'.size = 62 → (∀ j, j < 16 → T'[j]? = T[j]?) → T'[25]? = some (.bool (decide (i < 2))) → HG Try.prog 0 F E1 (G (fr.at ⟨T', []⟩ k) cs) w1) :
    HG Try.prog 0 F E (G (fr.at ⟨T, []⟩ (.code rS4 :: k)) cs) w := by
  obtain ⟨f, hf, fz⟩ := arrfv T hs
  refine HG.fstep closed_rn (by kernel_rfl) hk (R := fun T' x x' => T'.size = 62 ∧ (∀ j, j < 16 → T'[j]? = T[j]?) ∧ T'[25]? = some (.bool (decide (i < 2)))) (fun x hxs hx => ?_) (fun E1 w1 T' x x' hK hH hxs hx hx' hB hSt hR => ?_)
  · rw [hf]
    refine rS4_wp (fz 10 _ t10) (fun T' h1 h2 h3 => ⟨rfl, rfl, fun b hb => rfl, h1, fun j hj => ?_, ?_⟩)
    · rw [h2 j hj]
      simp [show j < 62 by omega]
    · rw [h3]
      by_cases h : i < 2
      · rw [decide_eq_true h, decide_eq_true (by omega)]
      · rw [decide_eq_false h, decide_eq_false (by omega)]
  · obtain ⟨h1, h2, h3⟩ := hR
    exact hc E1 w1 T' hK hSt h1 h2 h3
set_option maxRecDepth 100000 in
set_option maxHeartbeats 2000000 in
theorem rn_in {T : Array Value} {i : Nat} (hs : T.size = 62) (t10 : T[10]? = some (.int .i64 (i : Int))) (hi : i < 2)
    (hc : ∀ E1 w1 T', Kept 0 none E w E1 w1 → Stands E w E1 w1 → T'.size = 62 → (∀ j, j < 16 → T'[j]? = T[j]?) → HG Try.prog 0 F E1 (G ((base 7).at ⟨T', []⟩ [.code rBl, .inBlock 1, .code rS5, .inLoop rL, .inBlock 0, .code rT13]) []) w1) :
    HG Try.prog 0 F E (G ((base 7).at ⟨T, []⟩ hdR) []) w := by
  unfold hdR
  change HGn Try.prog 0 F E w 100 _
  have e : ([.code rL, .inLoop rL, .inBlock 0, .code rT13] : List Item) = [.code (.seq (.seq rS4 rIf) (.seq (.block 1 rBl) rS5)), .inLoop rL, .inBlock 0, .code rT13] := congrArg (fun z => [Item.code z, .inLoop rL, .inBlock 0, .code rT13]) rL_parts
  rw [e]
  clear e
  refine Idl.step (idl_hg Try.prog 0 F E w) _ _ _ rfl (fun _ => stepG_seq) ?_
  refine Idl.step (idl_hg Try.prog 0 F E w) _ _ _ rfl (fun _ => stepG_seq) ?_
  refine rn_test (by rfl) hs t10 (fun E1 w1 T1 hK1 hS1 s1 o1 r25 => ?_)
  rw [decide_eq_true hi] at r25
  obtain ⟨f, hf, fz⟩ := arrfv T1 s1
  have e25 := fz 25 _ r25
  have hj : ∀ j, j < 16 → some (f j) = T[j]? := fun j hj => by rw [← o1 j hj, hf, arrf_get f (by omega)]
  subst hf
  replace hc := hc E1 w1
  replace hc := Lib.hid hc
  replace hK1 := Lib.hid hK1
  replace hS1 := Lib.hid hS1
  replace hj := Lib.hid hj
  clear fz r25 s1 o1 t10
  change HGn Try.prog 0 F E1 w1 100 _
  generalize hG1 : rBl = L1
  generalize hG2 : rS5 = L2
  generalize hG3 : rL = L3
  generalize hG4 : rT13 = L4
  rw [show rIf = xrIf from rfl]
  subst hG3
  generalize hG3 : rL = L3
  simp only [xrIf, rIf, rL, rT3, rT2, rB0, Try.f7, Option.getD_some, List.range, List.range.loop, List.map_cons, List.map_nil, e25]
  refine Idl.ct (idl_hg Try.prog 0 F E1 w1) rfl (Idl.sk (idl_hg Try.prog 0 F E1 w1) (Idl.q (idl_hg Try.prog 0 F E1 w1) (Idl.bl (idl_hg Try.prog 0 F E1 w1) ?_)))
  subst hG1 hG2 hG3 hG4
  exact hc.out _ hK1.out hS1.out (by simp) (fun j h => by rw [← hj.out j h]; exact slots16 f j h)
set_option maxRecDepth 100000 in
set_option maxHeartbeats 2000000 in
theorem rn_out {T : Array Value} (hs : T.size = 62) (t10 : T[10]? = some (.int .i64 ((2 : Nat) : Int)))
    (hc : ∀ E1 w1 T' todo, Kept 0 none E w E1 w1 → Stands E w E1 w1 → T'[6]? = some (.bool true) → HG Try.prog 0 F E1 (G { (base 7).at ⟨T', []⟩ todo with mode := .returning } []) w1) :
    HG Try.prog 0 F E (G ((base 7).at ⟨T, []⟩ hdR) []) w := by
  unfold hdR
  change HGn Try.prog 0 F E w 100 _
  have e : ([.code rL, .inLoop rL, .inBlock 0, .code rT13] : List Item) = [.code (.seq (.seq rS4 rIf) (.seq (.block 1 rBl) rS5)), .inLoop rL, .inBlock 0, .code rT13] := congrArg (fun z => [Item.code z, .inLoop rL, .inBlock 0, .code rT13]) rL_parts
  rw [e]
  clear e
  refine Idl.step (idl_hg Try.prog 0 F E w) _ _ _ rfl (fun _ => stepG_seq) ?_
  refine Idl.step (idl_hg Try.prog 0 F E w) _ _ _ rfl (fun _ => stepG_seq) ?_
  refine rn_test (by rfl) hs t10 (fun E1 w1 T1 hK1 hS1 s1 o1 r25 => ?_)
  rw [decide_eq_false (by omega)] at r25
  obtain ⟨f, hf, fz⟩ := arrfv T1 s1
  have e25 := fz 25 _ r25
  subst hf
  replace hc := hc E1 w1
  replace hc := Lib.hid hc
  replace hK1 := Lib.hid hK1
  replace hS1 := Lib.hid hS1
  clear fz r25 s1 o1 t10
  change HGn Try.prog 0 F E1 w1 100 _
  generalize hG1 : rBl = L1
  generalize hG2 : rS5 = L2
  generalize hG3 : rL = L3
  rw [show rIf = xrIf from rfl, show rT13 = xrT13 from rfl]
  subst hG3
  generalize hG3 : rL = L3
  simp only [xrIf, xrT13, rT13, rIf, rL, rT3, rT2, rB0, Try.f7, Option.getD_some, List.range, List.range.loop, List.map_cons, List.map_nil, e25]
  refine Idl.cf (idl_hg Try.prog 0 F E1 w1) rfl (Idl.exit (idl_hg Try.prog 0 F E1 w1) rfl (Idl.q (idl_hg Try.prog 0 F E1 w1) (Idl.rg (idl_hg Try.prog 0 F E1 w1) [0] rfl ?_)))
  apply Idl.value (idl_hg Try.prog 0 F E1 w1) rfl rfl (by first | decide | exact base_kind _ | exact baseD_kind _ | assumption)
  focus (intro w; go_simp; (try w_num); first | done | rfl)
  focus (intro w; simp [go_sem, *])
  walk_nrm
  refine Idl.re (idl_hg Try.prog 0 F E1 w1) (Idl.rt (idl_hg Try.prog 0 F E1 w1) ?_)
  trace_state
  exact hc.out _ _ hK1.out hS1.out (by simp)
set_option maxRecDepth 100000 in
set_option maxHeartbeats 2000000 in
theorem rn_back {T : Array Value} {i : Nat} (hs : T.size = 62) (t10 : T[10]? = some (.int .i64 (i : Int))) (t61 : T[61]? = some (.bool false)) (hi : i < 2)
    (hc : ∀ T', T'.size = 62 → (∀ j, j < 16 → j ≠ 10 → T'[j]? = T[j]?) → T'[10]? = some (.int .i64 ((i + 1 : Nat) : Int)) → HG Try.prog 0 F E (G ((base 7).at ⟨T', []⟩ hdR) []) w) :
    HG Try.prog 0 F E (G ((base 7).at ⟨T, []⟩ [.code rCd, .inBlock 1, .code rS5, .inLoop rL, .inBlock 0, .code rT13]) []) w := by
  obtain ⟨f, hf, fz⟩ := arrfv T hs
  have e61 := fz 61 _ t61
  have e10 := fz 10 _ t10
  have hiw : IntKind.i64.wrap ((i : Int) + 1) = ((i + 1 : Nat) : Int) := by rw [IntKind.wrap_i64]; omega
  subst hf
  replace hc := Lib.hid hc
  clear fz t10 t61 hs
  change HGn Try.prog 0 F E w 100 _
  generalize hG3 : rL = L3
  generalize hG4 : rT13 = L4
  rw [show rCd = xrCd from rfl, show rS5 = xrS5 from rfl]
  simp only [xrCd, xrS5, rCd, rT11, rT9, rBl, rS5, rL, rT3, rT2, rB0, Try.f7, Option.getD_some, List.range, List.range.loop, List.map_cons, List.map_nil, e61, e10]
  refine Idl.cf (idl_hg Try.prog 0 F E w) rfl (Idl.sk (idl_hg Try.prog 0 F E w) (Idl.ib (idl_hg Try.prog 0 F E w) (Idl.rg (idl_hg Try.prog 0 F E w) [0, 1, 2] rfl ?_)))
  iterate 3 (apply Idl.value (idl_hg Try.prog 0 F E w) rfl rfl (by first | decide | exact base_kind _ | exact baseD_kind _ | assumption); (focus (intro w; go_simp; (try w_num); first | done | rfl)); (focus (intro w; simp [go_sem, *])); walk_nrm)
  refine Idl.re (idl_hg Try.prog 0 F E w) (Idl.il (idl_hg Try.prog 0 F E w) ?_)
  trace_state
  subst hG3 hG4
  refine hc.out _ (by simp) (fun j hj hne => ?_) (by simp)
  match j, hj with
  | 0, _ | 1, _ | 2, _ | 3, _ | 4, _ | 5, _ | 6, _ | 7, _ | 8, _ | 9, _ | 11, _ | 12, _ | 13, _ | 14, _ | 15, _ => simp
  | 10, _ => exact absurd rfl hne
  | j + 16, h => exact absurd h (by omega)
end
theorem Stands.but {S : Nat → Prop} {E0 E E' : Env} {w0 w w' : World} (h : Stands E0 w0 E w) (hS : StandsBut S E w E' w') (hd : ∀ b, b < w0.heap.size → ¬ S b) : Stands E0 w0 E' w' := fun b o h1 h2 => by
  obtain ⟨a1, a2⟩ := h b o h1 h2
  exact hS b o (hd b (Array.getElem?_eq_some_iff.1 h2).1) a1 a2
theorem MarkV.lt {E : Env} {w : World} {v : Value} {ms : List Mk} (h : MarkV E w v ms) : ∀ g, v.ownBlock = some g → g < w.heap.size := fun g hg => (h.row.lt g hg).2
section
variable {F : Machine → Trace → Prop} {E : Env} {w : World}
end
structure StR (E0 : Env) (w0 : World) (E : Env) (w : World) (T : Array Value) (ts : List (List Int)) (drain : Bool) (z : RA × Int) (tv pv ov : Value) (i : Nat) : Prop where
  sz : T.size = 62
  t0 : T[0]? = some tv
  t1 : T[1]? = some pv
  t2 : T[2]? = some (.bool drain)
  t7 : T[7]? = some (.bool true)
  t8 : T[8]? = some ov
  t9 : T[9]? = some (.int .i64 (rK ts z))
  t10 : T[10]? = some (.int .i64 (i : Int))
  kept : Kept 0 none E0 w0 E w
  st : Stands E0 w0 E w
  hO : TldV E w ov (rTl ts z)
section
variable {F : Machine → Trace → Prop} {E : Env} {w : World}
set_option maxRecDepth 100000 in
set_option maxHeartbeats 4000000 in
theorem rn_round {E0 : Env} {w0 : World} {T : Array Value} {tv pv ov : Value} {ts : List (List Int)} {picks : List Int} {drain : Bool} {z : RA × Int} {ta : Option Addr} {ba bo cap i : Nat} {LA : Nat → Option Addr} {LC : Nat → Nat} (S : StR E0 w0 E w T ts drain z tv pv ov i) (hi : i < 2) (htv : tv = .slice ta ts.length cap) (hT : IntssL E0 w0 ta ba bo LA LC ts) (hI : IntsAt E0 w0 pv picks)
    (hn : ts.length ≤ 1000000000000) (hl : ∀ l ∈ ts, l.length ≤ 100000000000) (hnp : picks.length ≤ 1000000000000) (hp64 : ∀ p ∈ picks, -9223372036854775808 ≤ p ∧ p ≤ 9223372036854775807) (hz : (runG ts).Run picks drain (ra0 ts ts.length) z) (hml : (rTl ts z).length ≤ 1000000000000) (hrole : E0.role 0 = .gone) (hmode : ∀ b, E0.mode b = 0)
    (hc : ∀ E1 w1 T', StR E0 w0 E1 w1 T' ts drain z tv pv ov (i + 1) → HG Try.prog 0 F E1 (G ((base 7).at ⟨T', []⟩ hdR) []) w1) :
    HG Try.prog 0 F E (G ((base 7).at ⟨T, []⟩ hdR) []) w := by
  obtain ⟨sz, t0, t1, t2, t7, t8, t9, t10, kp, st, hO⟩ := S
  refine rn_in sz t10 hi (fun E1 w1 T1 hK1 hS1 s1 o1 => ?_)
  have kp1 := kp.trans hK1
  have st1 := st.trans hS1
  have hO1 := hO.stands hS1
  rw [rBl_parts]
  change HGn Try.prog 0 F E1 w1 100 _
  refine Idl.step (idl_hg Try.prog 0 F E1 w1) _ _ _ rfl (fun _ => stepG_seq) ?_
  refine rp6 (by rfl) s1 (fun E2 w2 T2 hK2 hS2 s2 o2 r11 hbb hbH => ?_)
  have kp2 := kp1.trans hK2
  have st2 := st1.trans hS2
  have hO2 := hO1.stands hS2
  have q2 : ∀ j, j < 11 → T2[j]? = T[j]? := fun j hj => (o2 j (by omega) (by omega)).trans (o1 j (by omega))
  obtain ⟨bb, hbe⟩ : ∃ b, b = w1.heap.size := ⟨_, rfl⟩
  rw [← hbe] at r11 hbb hbH
  have hbl := (Array.getElem?_eq_some_iff.1 hbb).1
  change HGn Try.prog 0 F E2 w2 100 _
  refine Idl.step (idl_hg Try.prog 0 F E2 w2) _ _ _ rfl (fun _ => stepG_seq) ?_
  refine rp7 (by rfl) s2 ((q2 1 (by decide)).trans t1) (hI.stands st2) hnp (fun E3 w3 T3 pb hK3 hS3 s3 o3 r12 hP3 hpb => ?_)
  have kp3 := kp2.trans hK3
  have st3 := st2.trans hS3
  have hO3 := hO2.stands hS3
  have q3 : ∀ j, j < 11 → T3[j]? = T[j]? := fun j hj => (o3 j (by omega) (by omega)).trans (q2 j hj)
  obtain ⟨hbH3, hbb3⟩ := hS3 bb _ hbH hbb
  have hw0 : w0.heap.size ≤ bb := by rw [hbe]; exact kp1.size
  change HGn Try.prog 0 F E3 w3 100 _
  refine Idl.step (idl_hg Try.prog 0 F E3 w3) _ _ _ rfl (fun _ => stepG_seq) ?_
  refine rp8 (pb := pb) (bb := bb) s3 ((q3 0 (by decide)).trans t0) ((q3 2 (by decide)).trans t2) ((o3 11 (by decide) (by decide)).trans r11) r12 htv (hT.stands st3) (fun j l hj => ⟨?_, fun hne a ha => ?_⟩) hbb3 hbH3 (by omega) hP3 hn hl (by omega) hp64 hz (kp3.le.roleH.trans hrole) (fun b => kp3.le.mode b (hmode b)) (fun E4 w4 T4 mv hK4 hS4 s4 o4 r13 hbb4 hbH4 hM4 => ?_)
  · have := hT.lt hj
    omega
  · obtain ⟨la, lo, e1, e2, e3⟩ := hT.ops j l hj hne
    rw [ha] at e1
    cases e1
    cases l with
    | nil => exact absurd rfl hne
    | cons c r =>
      have := World.block_lt_of_cell? w0 _ (e3 0 c rfl)
      dsimp only at this ⊢
      omega
  have kp4 := kp3.trans hK4
  have st4 : Stands E0 w0 E4 w4 := st3.but hS4 (fun b hb e => by omega)
  have hO4 := hO3.but hS4 (fun g hg e => by
    have := (hO1.row.lt g hg).2
    omega)
  have hP4 := hP3.but hS4 (by omega)
  have q4 : ∀ j, j < 11 → T4[j]? = T[j]? := fun j hj => (o4 j (by omega) (by omega)).trans (q3 j hj)
  rw [rT9_parts]
  change HGn Try.prog 0 F E4 w4 100 _
  refine Idl.step (idl_hg Try.prog 0 F E4 w4) _ _ _ rfl (fun _ => stepG_seq) ?_
  refine rp9 (by rfl) s4 ((o4 11 (by decide) (by decide)).trans ((o3 11 (by decide) (by decide)).trans r11)) ((q4 8 (by decide)).trans t8) hbb4 hbH4 hM4 hO4 hml (fun E5 w5 T5 hK5 hS5 s5 o5 r14 => ?_)
  have kp5 := kp4.trans hK5
  have st5 := st4.trans hS5
  have hO5 := hO4.stands hS5
  change HGn Try.prog 0 F E5 w5 100 _
  refine Idl.step (idl_hg Try.prog 0 F E5 w5) _ _ _ rfl (fun _ => stepG_seq) ?_
  refine rp10 (by rfl) s5 ((o5 12 (by decide) (by decide)).trans ((o4 12 (by decide) (by decide)).trans r12)) ((o5 1 (by decide) (by decide)).trans ((q4 1 (by decide)).trans t1)) (hP4.stands hS5) (hI.stands st5) hnp (fun E6 w6 T6 hK6 hS6 s6 o6 r15 => ?_)
  have kp6 := kp5.trans hK6
  have st6 := st5.trans hS6
  have hO6 := hO5.stands hS6
  have q6 : ∀ j, j < 11 → T6[j]? = T[j]? := fun j hj => (o6 j (by omega) (by omega)).trans ((o5 j (by omega) (by omega)).trans (q4 j hj))
  change HGn Try.prog 0 F E6 w6 100 _
  refine Idl.step (idl_hg Try.prog 0 F E6 w6) _ _ _ rfl (fun _ => stepG_seq) ?_
  refine rp11 (n := rK ts z) (by rfl) s6 ((q6 7 (by decide)).trans t7) ((o6 13 (by decide) (by decide)).trans ((o5 13 (by decide) (by decide)).trans r13)) ((q6 9 (by decide)).trans t9) ((o6 14 (by decide) (by decide)).trans r14) r15 (fun E7 w7 T7 hK7 hS7 s7 o7 r61 => ?_)
  have q7 : ∀ j, j < 11 → T7[j]? = T[j]? := fun j hj => (o7 j (by omega)).trans (q6 j hj)
  refine rn_back s7 ((q7 10 (by decide)).trans t10) r61 hi (fun T8 s8 o8 r10 => ?_)
  have q8 : ∀ j, j < 10 → T8[j]? = T[j]? := fun j hj => (o8 j (by omega) (by omega)).trans (q7 j (by omega))
  exact hc E7 w7 T8 ⟨s8, (q8 0 (by decide)).trans t0, (q8 1 (by decide)).trans t1, (q8 2 (by decide)).trans t2, (q8 7 (by decide)).trans t7, (q8 8 (by decide)).trans t8, (q8 9 (by decide)).trans t9, r10, kp6.trans hK7, st6.trans hS7, hO6.stands hS7⟩
theorem bnd_picks {ts : List (List Int)} : ∀ (l : List Int) (a : RA × Int), BndR ts a.1 → BndR ts ((runG ts).picks a l).1
  | [], a, h => h
  | p :: l, a, h => by
    have e : (runG ts).picks a (p :: l) = (runG ts).picks ((runG ts).pk a (pickIx p (runG ts).n)) l := by
      unfold Game.picks
      rw [List.foldl_cons]
    rw [e]
    refine bnd_picks l _ ?_
    unfold Game.pk
    split
    · rename_i ha
      refine bnd_pick h ?_ ha
      by_cases ht : pickIx p (runG ts).n < ts.length
      · exact ht
      · exfalso
        have h1 : ¬ (a.1.at_ (pickIx p (runG ts).n) < (opsOf ts (pickIx p (runG ts).n)).length) := by
          have e : opsOf ts (pickIx p (runG ts).n) = [] := by unfold opsOf; rw [List.getElem?_eq_none (by omega)]; rfl
          rw [e]
          exact Nat.not_lt_zero _
        exact h1 (of_decide_eq_true ha)
    · exact h
theorem bnd_drn {ts : List (List Int)} {a z : RA × Int} {x : Nat} (hx : x < (runG ts).n) (h : (runG ts).Drn a x z) (hb : BndR ts a.1) : BndR ts z.1 := by
  induction h with
  | stop _ => exact hb
  | go h d ih =>
    obtain ⟨b1, b2⟩ := nx_some (by omega) h
    exact ih (Nat.mod_lt _ (by omega)) (bnd_pick hb b1 b2)
theorem bnd_run {ts : List (List Int)} {picks : List Int} {drain : Bool} {z : RA × Int} (h : (runG ts).Run picks drain (ra0 ts ts.length) z) : BndR ts z.1 := by
  have h0 := (bnd_start (ts := ts) ts.length (Nat.le_refl _)).1
  unfold Game.Run at h
  by_cases hn : (runG ts).n = 0
  · rw [if_pos hn] at h; rw [h]; exact h0
  · rw [if_neg hn] at h
    have h1 := bnd_picks picks (ra0 ts ts.length, 0) h0
    cases drain with
    | true =>
      simp only [if_true] at h
      exact bnd_drn (by omega) h h1
    | false =>
      simp only [Bool.false_eq_true, if_false] at h
      rw [h]; exact h1
theorem told_len {ts : List (List Int)} {picks : List Int} {drain : Bool} {z : RA × Int} {N : Nat} (h : (runG ts).Run picks drain (ra0 ts ts.length) z) (hl : ∀ l ∈ ts, l.length ≤ N) : (rTl ts z).length ≤ 8 * N := by
  unfold rTl
  by_cases h8 : 8 < ts.length
  · rw [if_pos h8]; exact Nat.zero_le _
  · rw [if_neg h8]
    have hb := bnd_run h
    have h1 := hb.2
    have h2 : sumTo ts.length z.1.at_ ≤ sumTo ts.length (fun t => (opsOf ts t).length) := sumTo_le _ hb.1
    have h3 := ops_sum hl (show ts.length ≤ 8 by omega)
    omega
end
end Go.Proofs.Ytimlbbleblijnaa.Co

namespace Go.Proofs.Ytimlbbleblijnaa.Co
open Go Go.Conc Go.RowKit Go.ChangeShapes Go.WideShapes Go.Deep
set_option maxRecDepth 100000
theorem bulk_one {H : Type} (d : DataW H) : 1 ≤ Rows.uptoBulk d := by
  cases d with
  | lit l => cases l <;> simp [Rows.uptoBulk]
  | nil => simp [Rows.uptoBulk]
  | ptr d => simp [Rows.uptoBulk]
  | slice elems spare => simp [Rows.uptoBulk]
  | agg parts => simp [Rows.uptoBulk]
  | iface t d => simp [Rows.uptoBulk]
  | map entries => simp [Rows.uptoBulk]
  | held h => simp [Rows.uptoBulk]
theorem bulk_many {H : Type} : ∀ l : List (DataW H), l.length ≤ Rows.uptoBulkAll l
  | [] => by simp [Rows.uptoBulkAll]
  | x :: r => by
    have h1 := bulk_one x
    have h2 := bulk_many r
    simp only [Rows.uptoBulkAll, List.length_cons]; omega
theorem bulk_mem {H : Type} : ∀ {l : List (DataW H)} {x : DataW H}, x ∈ l → Rows.uptoBulk x ≤ Rows.uptoBulkAll l
  | y :: r, x, h => by
    simp only [Rows.uptoBulkAll]
    rcases List.mem_cons.1 h with rfl | h
    · omega
    · have := bulk_mem h
      omega
theorem pick_list {α : Type} {p : Nat → α → Prop} : ∀ n, (∀ i, i < n → ∃ x, p i x) → ∃ l : List α, l.length = n ∧ ∀ i (h : i < l.length), p i l[i]
  | 0, _ => ⟨[], rfl, fun i h => absurd h (by simp)⟩
  | n + 1, hp => by
    obtain ⟨l, hl, h⟩ := pick_list n (fun i hi => hp i (by omega))
    obtain ⟨x, hx⟩ := hp n (by omega)
    refine ⟨l ++ [x], by simp [hl], fun i hi => ?_⟩
    by_cases hi' : i < l.length
    · rw [List.getElem_append_left hi']; exact h i hi'
    · have hi2 : i = l.length := by simp at hi; omega
      subst hi2
      simp [hl, hx]
theorem add_at (b o k : Nat) : (⟨b, o, none⟩ : Addr).add k = ⟨b, o + k, none⟩ := by
  unfold Addr.add
  by_cases h : k = 0
  · simp [h]
  · simp [h]
theorem vis_cell {W : World} {a : Addr} {v : Value} (h : W.cell? a = some v) : (Env.zero W).H a.block = none := by
  show H0 W a.block = none
  unfold H0
  unfold World.cell? at h
  cases e : W.heap[a.block]? with
  | none => rfl
  | some o =>
    rw [e] at h
    cases o <;> first | rfl | (exfalso; simp at h)
section
variable {H : Type} {enc : TypeId × Value → H} {W : World} {base : Nat} {spare : Nat → Bool} {held : Bool}
theorem ints_open {m : Nat} {c : Value} {y : DataW H × List MemPlace} (h : DataW.trod enc Try.prog W base spare held m 23 [c] = some y) :
    ∃ ps : List Int, IntsAt (Env.zero W) W c ps ∧ ps.length ≤ Rows.uptoBulk y.1 ∧ ∀ p ∈ ps, -9223372036854775808 ≤ p ∧ p ≤ 9223372036854775807 := by
  rcases DataW.trod_slice Try.underlying23 h with ⟨hc, hy⟩ | ⟨a, len, cap, elems, rest, n, _, hc, hy, hb, hl, hm, hlen, hel, _, _⟩
  · obtain rfl : c = .slice none 0 0 := by simpa using hc
    exact ⟨[], ⟨none, 0, 0, 0, rfl, fun h => absurd rfl h, fun i l hi => by simp at hi⟩, Nat.zero_le _, fun l hl => by cases hl⟩
  · obtain rfl : c = .slice (some a) len cap := by simpa using hc
    have hC : Try.prog.cellsOf 3 = 1 := by kernel_rfl
    rw [hC] at hel
    have key : ∀ i, i < len → ∃ z : Int, W.cell? (a.add (i * 1)) = some (.int .i64 z) ∧ -9223372036854775808 ≤ z ∧ z ≤ 9223372036854775807 := by
      intro i hi
      have he := hel i hi
      rw [List.getElem?_eq_getElem (by omega)] at he
      simp only [Option.bind_eq_some_iff] at he
      obtain ⟨cs, hcs, ht⟩ := he
      have hcc := World.cells?_some hcs
      have hl1 : cs.length = 1 := hcc.2.1
      match cs, hl1 with
      | [c0], _ =>
        obtain ⟨z, e0, z0, b0⟩ := DataW.trod_int (k := .i64) (by kernel_rfl) ht
        obtain rfl : c0 = .int .i64 z := by simpa using e0
        have hbb := bounds_i64 b0
        refine ⟨z, ?_, by omega, by omega⟩
        have := hcc.2.2 0 (by omega)
        simpa [Addr.add] using this
    obtain ⟨zs, hzl, hp⟩ := pick_list len key
    refine ⟨zs, ⟨some a, a.block, a.off, cap, by rw [hzl], fun hn => ?_, fun i p hi => ?_⟩, ?_, fun p hp' => ?_⟩
    · have h0 := (hp 0 (List.length_pos_iff.2 hn)).1
      have ha : a.add (0 * 1) = a := by simp [Addr.add]
      rw [ha] at h0
      have hsp := World.cell?_spot h0
      obtain ⟨ab, ao, at0⟩ := a
      simp only at hsp
      subst hsp
      rfl
    · have hi' : i < zs.length := (List.getElem?_eq_some_iff.1 hi).1
      have h0 := (hp 0 (by omega)).1
      have ha : a.add (0 * 1) = a := by simp [Addr.add]
      rw [ha] at h0
      have hsp := World.cell?_spot h0
      obtain ⟨ab, ao, at0⟩ := a
      simp only at hsp
      subst hsp
      obtain ⟨w1, _⟩ := hp i hi'
      rw [add_at, Nat.mul_one] at w1
      obtain ⟨_, rfl⟩ := List.getElem?_eq_some_iff.1 hi
      have hv := vis_cell w1
      exact ⟨w1, hv⟩
    · rw [hzl]
      have h1 := bulk_many (elems.map (·.1))
      rw [hy]
      simp only [Rows.uptoBulk]
      rw [List.length_map] at h1
      omega
    · obtain ⟨i, hi, rfl⟩ := List.mem_iff_getElem.1 hp'
      exact (hp i hi).2
end
end Go.Proofs.Ytimlbbleblijnaa.Co

namespace Go.Proofs.Ytimlbbleblijnaa.Co
open Go Go.Conc Go.RowKit
open Go.ConcN (sumTo upd sumTo_upd upd_ne upd_same sumTo_congr le_sumTo)
theorem drn_w {ts : List (List Int)} {a z : RA × Int} {x : Nat} (hx : x < (runG ts).n) (h : (runG ts).Drn a x z) : z.2 ≤ a.2 + (runW ts a.1 : Int) := by
  induction h with
  | stop _ => omega
  | go h d ih =>
    obtain ⟨b1, b2⟩ := nx_some (by omega) h
    have h1 := ih (Nat.mod_lt _ (by omega))
    dsimp only at h1
    rename_i a' x' t z'
    have h2 := runW_pick a'.1 t (a'.2 + 1) b1 b2
    omega
theorem runW_le (ts : List (List Int)) (a : RA) : runW ts a ≤ sumTo ts.length (fun t => (opsOf ts t).length) := sumTo_le _ fun t => Nat.sub_le _ _
theorem run_k2 {ts : List (List Int)} {picks : List Int} {drain : Bool} {z : RA × Int} (h : (runG ts).Run picks drain (ra0 ts ts.length) z) : z.2 ≤ (picks.length : Int) + (sumTo ts.length (fun t => (opsOf ts t).length) : Int) := by
  unfold Game.Run at h
  by_cases hn : (runG ts).n = 0
  · rw [if_pos hn] at h; rw [h]; dsimp only; omega
  · rw [if_neg hn] at h
    have h1 := gpicks_k (G := runG ts) picks (ra0 ts ts.length, 0)
    dsimp only at h1
    have h3 := runW_le ts ((runG ts).picks (ra0 ts ts.length, 0) picks).1
    cases drain with
    | true =>
      simp only [if_true] at h
      have h2 := drn_w (by omega) h
      omega
    | false =>
      simp only [Bool.false_eq_true, if_false] at h
      rw [h]; omega
section
variable {F : Machine → Trace → Prop} {E : Env} {w : World}
noncomputable def xrS3 : Code := rS3
set_option maxRecDepth 100000 in
set_option maxHeartbeats 2000000 in
theorem rn_enter {T : Array Value} (hs : T.size = 62) (hc : ∀ T', T'.size = 62 → (∀ j, j < 16 → j ≠ 10 → T'[j]? = T[j]?) → T'[10]? = some (.int .i64 ((0 : Nat) : Int)) → HG Try.prog 0 F E (G ((base 7).at ⟨T', []⟩ hdR) []) w) :
    HG Try.prog 0 F E (G ((base 7).at ⟨T, []⟩ [.code rT3]) []) w := by
  obtain ⟨f, hf, fz⟩ := arrfv T hs
  subst hf
  replace hc := Lib.hid hc
  clear fz hs
  have e : ([.code rT3] : List Item) = [.code (.seq (.seq rS3 (.block 0 (.loop rL))) rT13)] := congrArg (fun z => [Item.code z]) rT3_parts
  rw [e]
  clear e
  change HGn Try.prog 0 F E w 100 _
  generalize hG3 : rL = L3
  generalize hG4 : rT13 = L4
  rw [show rS3 = xrS3 from rfl]
  simp only [xrS3, rS3, rT3, rT2, rB0, Try.f7, Option.getD_some, List.range, List.range.loop, List.map_cons, List.map_nil]
  refine Idl.q (idl_hg Try.prog 0 F E w) (Idl.q (idl_hg Try.prog 0 F E w) (Idl.rg (idl_hg Try.prog 0 F E w) [0] rfl ?_))
  apply Idl.value (idl_hg Try.prog 0 F E w) rfl rfl (by first | decide | exact base_kind _ | exact baseD_kind _ | assumption)
  focus (intro w; go_simp; (try w_num); first | done | rfl)
  focus (intro w; simp [go_sem, *])
  walk_nrm
  refine Idl.re (idl_hg Try.prog 0 F E w) (Idl.bl (idl_hg Try.prog 0 F E w) (Idl.lp (idl_hg Try.prog 0 F E w) ?_))
  subst hG3 hG4
  refine hc.out _ (by simp) (fun j hj hne => ?_) (by simp)
  match j, hj with
  | 0, _ | 1, _ | 2, _ | 3, _ | 4, _ | 5, _ | 6, _ | 7, _ | 8, _ | 9, _ | 11, _ | 12, _ | 13, _ | 14, _ | 15, _ => simp
  | 10, _ => exact absurd rfl hne
  | j + 16, h => exact absurd h (by omega)
set_option maxRecDepth 100000 in
set_option maxHeartbeats 4000000 in
theorem runs_tail {ts : List (List Int)} {picks : List Int} {drain : Bool} {tv pv : Value} {ta : Option Addr} {ba bo cap : Nat} {LA : Nat → Option Addr} {LC : Nat → Nat} {T : Array Value} (hs : T.size = 62) (t0 : T[0]? = some tv) (t1 : T[1]? = some pv) (t2 : T[2]? = some (.bool drain)) (t7 : T[7]? = some (.bool true))
    (htv : tv = .slice ta ts.length cap) (hT : IntssL E w ta ba bo LA LC ts) (hI : IntsAt E w pv picks) (hn : ts.length ≤ 1000000000000) (hl : ∀ l ∈ ts, l.length ≤ 10000000000) (hnp : picks.length ≤ 10000000000) (hp64 : ∀ p ∈ picks, -9223372036854775808 ≤ p ∧ p ≤ 9223372036854775807) (hrole : E.role 0 = .gone) (hmode : ∀ b, E.mode b = 0)
    (hc : ∀ E' w' T todo, Kept 0 none E w E' w' → Stands E w E' w' → T[6]? = some (.bool true) → HG Try.prog 0 F E' (G { (base 7).at ⟨T, []⟩ todo with mode := .returning } []) w') :
    HG Try.prog 0 F E (G ((base 7).at ⟨T, []⟩ [.code rT2]) []) w := by
  have hl' : ∀ l ∈ ts, l.length ≤ 100000000000 := fun l h => Nat.le_trans (hl l h) (by decide)
  obtain ⟨z, hz⟩ := run_ex ts picks drain (ra0 ts ts.length)
  have hml := told_len hz hl
  rw [rT2_parts]
  change HGn Try.prog 0 F E w 100 _
  refine Idl.step (idl_hg Try.prog 0 F E w) _ _ _ rfl (fun _ => stepG_seq) ?_
  refine rp2 (z := z) (by rfl) hs t0 t1 t2 htv hT hI hz (by omega) hl' hp64 (fun h8 => ?_) (fun E1 w1 T1 ov hK1 hS1 s1 o1 r8 r9 hO => ?_)
  · have h1 := run_k2 hz
    have h2 := ops_sum hl h8
    omega
  refine rn_enter s1 (fun T2 s2 o2 r10 => ?_)
  have q2 : ∀ j, j < 8 → T2[j]? = T[j]? := fun j hj => (o2 j (by omega) (by omega)).trans (o1 j (by omega) (by omega) (by omega))
  refine rn_round (E0 := E) (w0 := w) (picks := picks) ⟨s2, (q2 0 (by decide)).trans t0, (q2 1 (by decide)).trans t1, (q2 2 (by decide)).trans t2, (q2 7 (by decide)).trans t7, (o2 8 (by decide) (by decide)).trans r8, (o2 9 (by decide) (by decide)).trans r9, r10, hK1, hS1, hO⟩ (by decide) htv hT hI hn hl' (by omega) hp64 hz (by omega) hrole hmode (fun E3 w3 T3 S3 => ?_)
  refine rn_round (E0 := E) (w0 := w) (picks := picks) S3 (by decide) htv hT hI hn hl' (by omega) hp64 hz (by omega) hrole hmode (fun E4 w4 T4 S4 => ?_)
  exact rn_out S4.sz S4.t10 (fun E5 w5 T5 todo hK5 hS5 r6 => hc E5 w5 T5 todo (S4.kept.trans hK5) (S4.st.trans hS5) r6)
noncomputable def xrS0 : Code := rS0
noncomputable def xrS1 : Code := rS1
set_option maxRecDepth 100000 in
set_option maxHeartbeats 4000000 in
theorem gateRuns_walk {ts : List (List Int)} {picks : List Int} {drain : Bool} {tv pv : Value} {ta : Option Addr} {ba bo cap : Nat} {LA : Nat → Option Addr} {LC : Nat → Nat} (htv : tv = .slice ta ts.length cap) (hT : IntssL E w ta ba bo LA LC ts) (hP : IntsAt E w pv picks) (hn : ts.length ≤ 1000000000000)
    (hpl : picks.length ≤ 10000000000) (hll : ∀ l ∈ ts, l.length ≤ 10000000000) (hp64 : ∀ p ∈ picks, -9223372036854775808 ≤ p ∧ p ≤ 9223372036854775807) (hrole : E.role 0 = .gone) (hmode : ∀ b, E.mode b = 0)
    (hc : ∀ E' w' T todo, Kept 0 none E w E' w' → Stands E w E' w' → T[6]? = some (.bool true) → HG Try.prog 0 F E' (G { (base 7).at ⟨T, []⟩ todo with mode := .returning } []) w') :
    HGn Try.prog 0 F E w 100 (entry 7 Try.f7 #[tv, pv, .bool drain] []) := by
  unfold entry
  rw [show Try.f7.body.getD .skip = .seq xrS0 (.seq xrS1 rT2) from rB0_parts, show Try.f7.ntmps = 62 from rfl]
  generalize hG2 : rT2 = G2
  simp only [xrS0, xrS1, rS0, rS1, rB0, Try.f7, Option.getD_some]
  walk_nrm
  refine Idl.q (idl_hg Try.prog 0 F E w) (Idl.rg (idl_hg Try.prog 0 F E w) [0] rfl ?_)
  apply Idl.value (idl_hg Try.prog 0 F E w) rfl rfl (by first | decide | exact base_kind _ | exact baseD_kind _ | assumption)
  focus (intro w; go_simp; (try w_num); first | done | rfl)
  focus (intro w; simp [go_sem, *])
  walk_nrm
  refine Idl.re (idl_hg Try.prog 0 F E w) (Idl.q (idl_hg Try.prog 0 F E w) (Idl.rg (idl_hg Try.prog 0 F E w) [0, 1] rfl ?_))
  refine Idl.callE (fn := Try.f17) (vs := #[]) (idl_hg Try.prog 0 F E w) rfl rfl (by k_ne) rfl Try.func17 rfl rfl (by simp [Act.eval]) ?_
  refine fixed06_holds hrole hmode (fun E1 w1 hK1 hS1 => ?_)
  change HGn Try.prog 0 F E1 w1 200 _
  walk_nrm
  apply Idl.value (idl_hg Try.prog 0 F E1 w1) rfl rfl (by first | decide | exact base_kind _ | exact baseD_kind _ | assumption)
  focus (intro w; go_simp; (try w_num); first | done | rfl)
  focus (intro w; simp [go_sem, *])
  walk_nrm
  refine Idl.re (idl_hg Try.prog 0 F E1 w1) ?_
  rw [← hG2]
  exact runs_tail (ts := ts) (picks := picks) (drain := drain) (tv := tv) (pv := pv) (by simp) (by simp) (by simp) (by simp) (by simp) htv (hT.stands hS1) (hP.stands hS1) hn hll hpl hp64 (hK1.le.roleH.trans hrole) (fun b => hK1.le.mode b (hmode b)) (fun E' w' T todo k s => hc E' w' T todo (hK1.trans k) (hS1.trans s))
end
section
open Go.ChangeShapes Go.WideShapes Go.Deep
variable {H : Type} {enc : TypeId × Value → H} {W : World} {base : Nat} {spare : Nat → Bool} {held : Bool}
theorem row_open {m : Nat} {c : Value} {y : DataW H × List MemPlace} (h : DataW.trod enc Try.prog W base spare held m 23 [c] = some y) :
    ∃ z : Option Addr × Nat × List Int, c = .slice z.1 z.2.2.length z.2.1 ∧ z.2.2.length ≤ Rows.uptoBulk y.1 ∧ (z.2.2 ≠ [] → ∃ la lo, z.1 = some ⟨la, lo, none⟩ ∧ ∀ j p, z.2.2[j]? = some p → W.cell? ⟨la, lo + j, none⟩ = some (.int .i64 p)) := by
  obtain ⟨ps, ⟨pa, pb, po, cap, h1, h2, h3⟩, h4, _⟩ := ints_open h
  exact ⟨(pa, cap, ps), h1, h4, fun hne => ⟨pb, po, h2 hne, fun j p hj => (h3 j p hj).1⟩⟩
theorem intss_open {m : Nat} {c : Value} {y : DataW H × List MemPlace} (h : DataW.trod enc Try.prog W base spare held m 57 [c] = some y) :
    ∃ (ts : List (List Int)) (ta : Option Addr) (ba bo cap : Nat) (LA : Nat → Option Addr) (LC : Nat → Nat), c = .slice ta ts.length cap ∧ IntssL (Env.zero W) W ta ba bo LA LC ts ∧ ts.length ≤ Rows.uptoBulk y.1 ∧ ∀ l ∈ ts, l.length ≤ Rows.uptoBulk y.1 := by
  rcases DataW.trod_slice Try.underlying57 h with ⟨hc, hy⟩ | ⟨a, len, cap, elems, rest, n, _, hc, hy, hb, hl, hm, hlen, hel, _, _⟩
  · obtain rfl : c = .slice none 0 0 := by simpa using hc
    exact ⟨[], none, 0, 0, 0, fun _ => none, fun _ => 0, rfl, ⟨fun h => absurd h (by simp), fun i l hi => by simp at hi, fun i l hi => by simp at hi⟩, Nat.zero_le _, fun l hl => by cases hl⟩
  · obtain rfl : c = .slice (some a) len cap := by simpa using hc
    have hC : Try.prog.cellsOf 23 = 1 := by kernel_rfl
    rw [hC] at hel
    have key : ∀ i, i < len → ∃ z : Option Addr × Nat × List Int, W.cell? (a.add (i * 1)) = some (.slice z.1 z.2.2.length z.2.1) ∧ z.2.2.length ≤ Rows.uptoBulk y.1 ∧ (z.2.2 ≠ [] → ∃ la lo, z.1 = some ⟨la, lo, none⟩ ∧ ∀ j p, z.2.2[j]? = some p → W.cell? ⟨la, lo + j, none⟩ = some (.int .i64 p)) := by
      intro i hi
      have he := hel i hi
      rw [List.getElem?_eq_getElem (by omega)] at he
      simp only [Option.bind_eq_some_iff] at he
      obtain ⟨cs, hcs, ht⟩ := he
      have hcc := World.cells?_some hcs
      have hl1 : cs.length = 1 := hcc.2.1
      match cs, hl1 with
      | [c0], _ =>
        obtain ⟨⟨A, cap', l⟩, rfl, hb', hops⟩ := row_open ht
        refine ⟨(A, cap', l), ?_, ?_, hops⟩
        · have := hcc.2.2 0 (by omega)
          simpa [Addr.add] using this
        · have h1 := bulk_mem (l := elems.map (·.1)) (x := elems[i].1) (List.mem_map.2 ⟨elems[i], List.getElem_mem _, rfl⟩)
          rw [hy]
          simp only [Rows.uptoBulk]
          dsimp only at hb' ⊢
          omega
    obtain ⟨zs, hzl, hp⟩ := pick_list len key
    have hlen2 : (zs.map (·.2.2)).length = len := by rw [List.length_map, hzl]
    have spot : ∀ i, i < zs.length → a = ⟨a.block, a.off, none⟩ := fun i hi => by
      have h0 := (hp 0 (by omega)).1
      have ha : a.add (0 * 1) = a := by simp [Addr.add]
      rw [ha] at h0
      have hsp := World.cell?_spot h0
      obtain ⟨ab, ao, at0⟩ := a
      simp only at hsp
      subst hsp
      rfl
    refine ⟨zs.map (·.2.2), some a, a.block, a.off, cap, fun i => (zs.getD i (none, 0, [])).1, fun i => (zs.getD i (none, 0, [])).2.1, by rw [hlen2], ⟨fun hn => ?_, fun i l hi => ?_, fun i l hi hne => ?_⟩, ?_, fun l hl' => ?_⟩
    · rw [hlen2] at hn
      exact congrArg some (spot 0 (by omega))
    · have hi' : i < zs.length := by have := (List.getElem?_eq_some_iff.1 hi).1; simpa using this
      have hsp := spot i hi'
      obtain ⟨w1, w2, w3⟩ := hp i hi'
      rw [hsp, add_at, Nat.mul_one] at w1
      have hz : zs.getD i (none, 0, []) = zs[i] := by simp [List.getD, List.getElem?_eq_getElem hi']
      have hl : l = zs[i].2.2 := by
        rw [List.getElem?_map, List.getElem?_eq_getElem hi'] at hi
        exact (Option.some.inj hi).symm
      have hv := vis_cell w1
      rw [hz, hl]
      exact ⟨w1, hv⟩
    · have hi' : i < zs.length := by have := (List.getElem?_eq_some_iff.1 hi).1; simpa using this
      obtain ⟨w1, w2, w3⟩ := hp i hi'
      have hz : zs.getD i (none, 0, []) = zs[i] := by simp [List.getD, List.getElem?_eq_getElem hi']
      have hl : l = zs[i].2.2 := by
        rw [List.getElem?_map, List.getElem?_eq_getElem hi'] at hi
        exact (Option.some.inj hi).symm
      rw [hz]
      rw [hl] at hne ⊢
      obtain ⟨la, lo, e1, e2⟩ := w3 hne
      refine ⟨la, lo, e1, ?_, e2⟩
      cases hzz : zs[i].2.2 with
      | nil => exact absurd hzz hne
      | cons op r => exact vis_cell (e2 0 op (by rw [hzz]; rfl))
    · rw [hlen2]
      have h1 := bulk_many (elems.map (·.1))
      rw [hy]
      simp only [Rows.uptoBulk]
      rw [List.length_map] at h1
      omega
    · obtain ⟨z, hz, rfl⟩ := List.mem_map.1 hl'
      obtain ⟨i, hi, rfl⟩ := List.mem_iff_getElem.1 hz
      exact (hp i hi).2.1
end
end Go.Proofs.Ytimlbbleblijnaa.Co

namespace Go.Proofs.Ytimlbbleblijnaa.Co
open Go Go.Conc Go.RowKit Go.ChangeShapes
section
variable {H : Type} {enc : TypeId × Value → H}
theorem leaving_of_cond {a : Assume} {C : Checked} {os : Os} {f : FuncId} {fn : Func} {s : OpenSpec} {k : (H : Type) → List (DataW H) → Bool} (hk : s.cond = some k) {F : Stop.Interp} {conds : List PathCond} {apart fresh handsOn again : Bool}
    (own : ownKnob C.prog.godebug = none) (started : os.Started) (hfn : C.prog.funcs[f]? = some fn)
    (witness : ∃ (w : World) (tape : Tape) (i : Input), w.os = os ∧ (w.forCall tape i).Shaped C.prog ∧ i.vars = [] ∧ Input.okWide C.prog (w.forCall tape i) .any w.heap.size f i ∧
      s.pre6 enc C.prog fn conds apart (w.forCall tape i).memory i.args ∧ a.holds C.prog (lone (Frame.enter C.prog f i.args .normal) [] (w.forCall tape i)))
    (runs : ∀ (W : World) (base : Nat) (args : Array Value) (ds gs : List (DataW H)) (before : List MemPlace),
      (∀ (j : Nat) t v, fn.params[j]? = some t → args[j]? = some v → Value.okWide C.prog W .any base t v) →
      DataW.Whole enc C.prog fn.params.toList s.vars apart W args.toList ds gs before → k H (ds ++ gs) = true →
      (DataW.weightsEach C.prog (fn.params.toList ++ s.bare.plain.varTypes C.prog) (ds ++ gs)).all (· ≤ reachBytes) = true →
      ∃ M last o w' t', runNT C.prog (M + 1) (solo (G (Frame.enter C.prog f args .normal) []) W) #[] = (.ended o w', t') ∧ runN C.prog M (solo (G (Frame.enter C.prog f args .normal) []) W) = .next last ∧
        step C.prog last = .ended o w' ∧ Go.Conc.Good C.prog (fun v W' => (s.at F).post enc C.prog fn apart fresh handsOn again W args v W') last o w' t') :
    ReturnsInLeavingWide a C os f .any (s.pre6 enc C.prog fn conds apart) ((s.at F).post enc C.prog fn apart fresh handsOn again) := by
  refine returnsInLeavingWide_of_good own started witness ?_
  intro w tape i _ _ _ hok hpre hholds
  obtain ⟨_, _, _, fn', hfn', _, _, _, _, hval⟩ := hok
  obtain rfl : fn' = fn := Option.some.inj (hfn'.symm.trans hfn)
  obtain ⟨ds, gs, before, hw, _, hkk⟩ := (OpenSpec.pre_some hk conds apart _ _).1 hpre.1
  obtain ⟨M, last, o, w', t', h1, h2, h3, h4⟩ := runs (w.forCall tape i) w.heap.size i.args ds gs before hval (DataW.Whole.of_heap (w' := w.forCall tape i) (by rfl) hw) hkk (hpre.2.weights hw)
  exact ⟨M, last, o, w', t', h1, h2, h3, h4.mono fun v hp => ChangeSpec.post_blind hp⟩
end
theorem holds_leaving {p : Pinned} {s : OpenSpec} {c : OpenClaim} (f : FuncId) (fn : Func)
    (hn : c.program = p.name) (hs : c.sum = p.sum) (hsp : c.spec = s.name)
    (hstart : c.start = .entering) (hout : c.outside = []) (hin : c.inits = []) (hun : c.under = none) (hi4 : c.initsInPlace = [] ∧ c.initsUnfollowed = false ∧ c.initsRecurse = false ∧ c.initsNamed = [] ∧ c.initsPassed = []) (hnb : c.noBlocks = false) (hlv : c.leaving = true) (hfo : c.followed = none) (hnar : c.narrowed = s.cond.isSome) (hstill : c.still = false)
    (hfn : p.checked.prog.funcNamed c.func = some f) (hf : p.checked.prog.funcs[f]? = some fn)
    (closed : joinedFacts p.checked.prog f fn s.bare c = true)
    (hinst : fn.isInstance p.checked.prog c.origin c.targs) (hwrap : fn.isWrapper p.checked.prog c.wrapper c.mainSum)
    (h : ∀ os : Os, os.Started → ∀ (H : Type) (enc : TypeId × Value → H), (∀ a b, enc a = enc b → a = b) → ∀ F : Stop.Interp,
      ReturnsInLeavingWide c.assume p.checked os f .any (c.pre enc p.checked.prog fn s) ((s.at F).post enc p.checked.prog fn c.apart c.fresh c.handsOn c.again)) : c.holds p s := by
  simp only [joinedFacts, Bool.and_eq_true, beq_iff_eq, Array.all_eq_true_iff_forall_mem, List.all_eq_true, decide_eq_true_eq] at closed
  obtain ⟨⟨⟨⟨⟨⟨⟨⟨⟨⟨⟨⟨⟨⟨⟨⟨⟨⟨⟨⟨⟨⟨⟨⟨⟨⟨⟨⟨⟨⟨⟨k1, k2⟩, k3⟩, k4⟩, k5⟩, k6⟩, k7⟩, k8⟩, k9⟩, k10⟩, k11⟩, k12⟩, k13⟩, k14⟩, k15⟩, k16⟩, k17⟩, k17b⟩, k18⟩, k19⟩, k20⟩, k21⟩, k22⟩, k23⟩, k23b⟩, k24⟩, k24b⟩, k24c⟩, k25⟩, k26⟩, k27⟩, k28⟩ := closed
  have hq : ∀ os : Os, Stop.quiet p.checked.prog os := fun os k hk => by rw [k9] at hk; cases hk
  refine ⟨k1, hn, hs, hsp, k2, k3, by unfold OpenClaim.startFits; rw [hstart]; exact k24, by unfold OpenClaim.startTold; rw [hstart]; exact ⟨hin, hun, hi4⟩, f, fn, hfn, hf, ⟨k4, k19⟩, (fun hb => by rw [hnb] at hb; cases hb), by unfold OpenClaim.namedList; rw [hfo]; exact k5, hinst, hwrap,
    k6.trans k7.symm, ⟨k8.trans k9.symm, by unfold Program.envWorded; rw [k9]; rfl, k23b⟩, k10, k11, k12, k13, k14, ⟨k15, k27, k28⟩, ⟨k16, k20⟩, ⟨k17, k21, k25, k26⟩, ⟨k22, k24b, k24c, k17b⟩, (by rw [hout, hnar]; cases hsh : c.shortTexts with | none => simp | some _ => rw [hsh] at k23; cases k23), fun n hn' => varReadable_some (k18 n hn'),
    ⟨_, by unfold OpenClaim.world; rw [hout, hstart]; exact WideRow.started_initial, hq _⟩, [], by unfold OpenClaim.lists; rw [hfo], fun os st _ H enc inj => ?_⟩
  have st' : os.Started := by unfold OpenClaim.world at st; rw [hout, hstart] at st; exact st
  rw [OpenClaim.post_not_still hstill]
  unfold OpenClaim.form
  rw [hstart, k6]
  intro F
  have e1 : c.okInput = Input.okWide := by unfold OpenClaim.okInput; rw [hnb]
  have e2 : c.atReturn p.checked.prog = leavingAtReturn p.checked.prog := by unfold OpenClaim.atReturn; rw [hlv]
  have e3 : c.always p.checked.prog [] = nothingAlways := by unfold OpenClaim.always; rw [hfo]
  have e4 : s.post enc p.checked.prog fn F c.outside c.apart c.fresh c.handsOn c.again = (s.at F).post enc p.checked.prog fn c.apart c.fresh c.handsOn c.again := by rw [hout]; rfl
  rw [e1, e2, e3]
  show ReturnsInOpen _ _ _ _ _ _ _ _ (s.post enc p.checked.prog fn F c.outside c.apart c.fresh c.handsOn c.again) _ _
  rw [e4]
  exact h os st' H enc inj F k24
end Go.Proofs.Ytimlbbleblijnaa.Co
