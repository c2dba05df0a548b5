/- Lemmas for the laws of this seat, laid together of PHl, PGdf, PHm. -/
import Derived.Test.YtimlbbleblijnaaT18
import Derived.Test.YtimlbbleblijnaaT22
import Derived.Test.YtimlbbleblijnaaRows
import Derived.ProofKit
import Derived.SizedLaws
import Derived.ChangeArms
import Derived.ChangeSame
import Derived.Lib.SmallJoins
import Derived.OpenShut
import Derived.Deep.Strs

namespace Go.Proofs.Ytimlbbleblijnaa.Co
open Go Go.Conc Go.RowKit
set_option linter.unusedVariables false
set_option linter.unusedSimpArgs false
noncomputable def oL5 : Code := .seq oS5 (.seq oS6 (.seq oS7 (.seq oS8 oT9)))
theorem oT_head2 : oT0 = .seq oS0 (.seq oS1 (.seq oS2 (.seq oS3 (.seq oS4 oL5)))) := oT_head
section
variable {F : Machine → Trace → Prop} {E : Env} {w : World} {ops : List Op3} {A : Option Addr} {la lo cap lbb B : Nat}
set_option maxRecDepth 100000 in
set_option maxHeartbeats 4000000 in
theorem wa_t4 {T : Array Value} (hs : T.size = 56) (t1 : T[1]? = some (.pointer (some ⟨lbb, 0, none⟩))) (t3 : T[3]? = some (.bool true)) (t5 : T[5]? = some (.bool true)) (V : LV ops A la lo cap lbb E w) (hlen : ops.length ≤ 10000000000000) (hrng : ∀ (i : Nat) (op : Op3), ops[i]? = some op → -9223372036854775808 ≤ op.2.2 ∧ op.2.2 ≤ 9223372036854775807) (hB : B ≤ w.heap.size)
    (hrole : E.role 0 = .gone) (hmode : ∀ b, E.mode b = 0)
    (hc : ∀ E' w' T todo, Kept 0 none E w E' w' → StandsB B E w E' w' → T[2]? = some (.bool true) → HG Try.prog 0 F E' (G { (base 5).at ⟨T, []⟩ todo with mode := .returning } []) w') :
    HGn Try.prog 0 F E w 200 (G ((base 5).at ⟨T, []⟩ [.code (.seq oS4 oL5)]) []) := by
  have P : ∀ T' : Array Value, T'.size = 56 → T'[1]? = some (.pointer (some ⟨lbb, 0, none⟩)) → HG Try.prog 0 F E (G ((base 5).at ⟨T', []⟩ [.code oL5]) []) w := fun T' h1 h2 => wa_t5 (B := B) h1 h2 V hlen hrng hB hrole hmode hc
  obtain ⟨f, hf, fz⟩ := arrfv T hs
  have e1 := fz 1 _ t1
  have e3 := fz 3 _ t3
  have e5 := fz 5 _ t5
  replace P := Lib.hid P
  clear hc hmode hrole hB hrng hlen V t1 t3 t5 fz hs
  rw [hf]
  clear hf
  generalize oL5 = L5 at P ⊢
  rw [show oS4 = xoS4 from rfl]
  simp only [xoS4, oS4, oT4, oT3, oT2, oT1, oT0, Try.f5, Option.getD_some, List.range, List.range.loop, List.map_cons, List.map_nil, e1, e3, e5]
  refine Idl.q (idl_hg Try.prog 0 F E w) (Idl.q (idl_hg Try.prog 0 F E w) (Idl.rg (idl_hg Try.prog 0 F E w) [0, 1, 2, 3, 4, 5] rfl ?_))
  apply Idl.value (idl_hg Try.prog 0 F E w) rfl rfl (by first | decide | exact Go.ConcR.Gen.base_kind _ | exact Go.ConcR.Gen.baseD_kind _ | assumption)
  focus (intro w; go_simp; (try w_num); first | done | rfl)
  focus (intro w; simp [go_sem, *])
  walk_nrm
  apply Idl.value (idl_hg Try.prog 0 F E w) rfl rfl (by first | decide | exact Go.ConcR.Gen.base_kind _ | exact Go.ConcR.Gen.baseD_kind _ | assumption)
  focus (intro w; go_simp; (try w_num); first | done | rfl)
  focus (intro w; simp [go_sem, *])
  walk_nrm
  apply Idl.value (idl_hg Try.prog 0 F E w) rfl rfl (by first | decide | exact Go.ConcR.Gen.base_kind _ | exact Go.ConcR.Gen.baseD_kind _ | assumption)
  focus (intro w; go_simp; (try w_num); first | done | rfl)
  focus (intro w; simp [go_sem, *])
  walk_nrm
  apply Idl.value (idl_hg Try.prog 0 F E w) rfl rfl (by first | decide | exact Go.ConcR.Gen.base_kind _ | exact Go.ConcR.Gen.baseD_kind _ | assumption)
  focus (intro w; go_simp; (try w_num); first | done | rfl)
  focus (intro w; simp [go_sem, *])
  walk_nrm
  apply Idl.value (idl_hg Try.prog 0 F E w) rfl rfl (by first | decide | exact Go.ConcR.Gen.base_kind _ | exact Go.ConcR.Gen.baseD_kind _ | assumption)
  focus (intro w; go_simp; (try w_num); first | done | rfl)
  focus (intro w; simp [go_sem, *])
  walk_nrm
  apply Idl.value (idl_hg Try.prog 0 F E w) rfl rfl (by first | decide | exact Go.ConcR.Gen.base_kind _ | exact Go.ConcR.Gen.baseD_kind _ | assumption)
  focus (intro w; go_simp; (try w_num); first | done | rfl)
  focus (intro w; simp [go_sem, *])
  walk_nrm
  refine Idl.re (idl_hg Try.prog 0 F E w) (Idl.cf (idl_hg Try.prog 0 F E w) rfl (Idl.sk (idl_hg Try.prog 0 F E w) ?_))
  exact P.out _ (by simp) (by simp)
set_option maxRecDepth 100000 in
set_option maxHeartbeats 4000000 in
theorem wa_t3 {T : Array Value} {xw : Nat} (hs : T.size = 56) (t1 : T[1]? = some (.pointer (some ⟨lbb, 0, none⟩))) (t3 : T[3]? = some (.bool true)) (t4 : T[4]? = some (.pointer (some ⟨xw, 0, none⟩))) (V : LV ops A la lo cap lbb E w) (hlen : ops.length ≤ 10000000000000) (hrng : ∀ (i : Nat) (op : Op3), ops[i]? = some op → -9223372036854775808 ≤ op.2.2 ∧ op.2.2 ≤ 9223372036854775807) (hB : B ≤ xw) (kx : w.heap[xw]? = some (.cells #[.int .i64 0] 46)) (kxH : E.H xw = none) (hlb : lbb ≠ xw) (hla : ops ≠ [] → la ≠ xw)
    (hrole : E.role 0 = .gone) (hmode : ∀ b, E.mode b = 0)
    (hc : ∀ E' w' T todo, Kept 0 none E w E' w' → StandsB B E w E' w' → T[2]? = some (.bool true) → HG Try.prog 0 F E' (G { (base 5).at ⟨T, []⟩ todo with mode := .returning } []) w') :
    HG Try.prog 0 F E (G ((base 5).at ⟨T, []⟩ [.code (.seq oS3 (.seq oS4 oL5))]) []) w := by
  refine HG.withH fun hWH _ => ?_
  have hWn : ∀ b, E.H b = none → E.W b = false := fun b hb => by
    cases e : E.W b with
    | false => rfl
    | true => have := hWH b e; rw [hb] at this; cases this
  have hxl := (Array.getElem?_eq_some_iff.1 kx).1
  have P : ∀ T' : Array Value, T'.size = 56 → T'[1]? = some (.pointer (some ⟨lbb, 0, none⟩)) → T'[3]? = some (.bool true) → T'[5]? = some (.bool true) → ∀ E1 w1 v1, Kept 0 none E w E1 w1 → NM xw (fun b o => w.heap[b]? = some o ∧ E.H b = none ∧ b ≠ xw) v1 E1 w1 → HGn Try.prog 0 F E1 w1 200 (G ((base 5).at ⟨T', []⟩ [.code (.seq oS4 oL5)]) []) := by
    intro T' h1 h2 h3 h4 E1 w1 v1 k1 M1
    have hk : ∀ b o, b ≠ xw → E.H b = none → w.heap[b]? = some o → E1.H b = none ∧ w1.heap[b]? = some o := fun b o hb h1 h2 => by
      obtain ⟨q1, q2, _⟩ := M1.kobj b o ⟨h2, h1, hb⟩
      exact ⟨q2, q1⟩
    have hcell : ∀ {a : Addr} {v : Value}, w.cell? a = some v → E.H a.block = none → a.block ≠ xw → w1.cell? a = some v ∧ E1.H a.block = none := fun {a v} h1 h2 h3 => by
      have hl := World.block_lt_of_cell? w _ h1
      obtain ⟨q1, q2⟩ := hk a.block _ h3 h2 (Array.getElem?_eq_getElem hl)
      exact ⟨(World.cell?_of_block (by rw [q2, Array.getElem?_eq_getElem hl])).trans h1, q1⟩
    have V1 : LV ops A la lo cap lbb E1 w1 := by
      obtain ⟨q1, q2⟩ := hk lbb _ hlb V.boxH V.box
      refine ⟨q2, q1, V.arr, fun i op hi => ?_⟩
      obtain ⟨c1, c2, c3⟩ := V.ops i op hi
      have hne := hla (fun e => by rw [e] at hi; cases hi)
      have d1 := hcell c1 c3 hne
      have d2 := hcell c2 c3 hne
      exact ⟨d1.1, d2.1, d1.2⟩
    refine wa_t4 (B := B) h1 h2 h3 h4 V1 hlen hrng (by have := k1.size; omega) (k1.le.roleH.trans hrole) (fun b => k1.le.mode b (hmode b)) (fun E' w' T2 todo k s r => hc E' w' T2 todo (k1.trans k) (StandsB.trans (fun b o hb h1 h2 => hk b o (by omega) h1 h2) s) r)
  have c1 := obj_cell V.box (o := 0) rfl
  have W1 := hWn _ V.boxH
  have hloop : ∀ (b₀ : Frame) (a₀ : Act) (ops₀ : Array Oper) (i₀ : Nat) (rest₀ : List Nat) (k₀ : List Item), (∀ E1 w1 v1, Kept 0 none E w E1 w1 → NM xw (fun b o => w.heap[b]? = some o ∧ E.H b = none ∧ b ≠ xw) v1 E1 w1 → HG Try.prog 0 F E1 (G (b₀.at (a₀.put ((ops₀[i₀]?).bind (·.dst)) (.bool true)) (.inRegion ops₀ rest₀ :: k₀)) []) w1) →
      HGn Try.prog 0 F E w 200 (entry 28 Try.f28 #[.pointer (some ⟨xw, 0, none⟩), .slice A ops.length cap, .pointer none] (b₀.at a₀ (.inRegion ops₀ (i₀ :: rest₀) :: k₀) :: [])) := by
    intro b₀ a₀ ops₀ i₀ rest₀ k₀ hfin
    refine calls_in V.arr (fun T R => ?_)
    have kc : ∀ {a : Addr} {v : Value}, w.cell? a = some v → E.H a.block = none → a.block ≠ xw → KC (fun b o => w.heap[b]? = some o ∧ E.H b = none ∧ b ≠ xw) a v := fun {a v} h1 h2 h3 => by
      have hl := World.block_lt_of_cell? w _ h1
      refine ⟨w.heap[a.block], ⟨Array.getElem?_eq_getElem hl, h2, h3⟩, fun w' hw' => ?_⟩
      rw [← h1]
      exact World.cell?_of_block (by rw [hw', Array.getElem?_eq_getElem hl])
    refine nil_loop (xb := xw) (K := fun b o => w.heap[b]? = some o ∧ E.H b = none ∧ b ≠ xw) (fun i op hi => ?_) hlen hrng ops.length 0 (by omega) E w 0 T ⟨⟨rfl, _, _, kx, rfl⟩, kxH, fun b o hk => hk, by decide⟩ R (fun E1 w1 v1 k1 _ M1 => hfin E1 w1 v1 k1 M1)
    obtain ⟨c1, c2, c3⟩ := V.ops i op hi
    have hne := hla (fun e => by rw [e] at hi; cases hi)
    exact ⟨kc c1 c3 hne, kc c2 c3 hne⟩
  obtain ⟨f, hf, fz⟩ := arrfv T hs
  have e1 := fz 1 _ t1
  have e3 := fz 3 _ t3
  have e4 := fz 4 _ t4
  replace P := Lib.hid P
  replace hloop := Lib.hid hloop
  clear hc hmode hrole hB hrng hlen V t1 t3 t4 fz hs kx kxH hlb hla hxl hWn hWH
  rw [hf]
  clear hf
  change HGn Try.prog 0 F E w 200 _
  generalize (Code.seq oS4 oL5) = L5 at P ⊢
  refine Idl.step (idl_hg Try.prog 0 F E w) _ _ _ rfl (fun _ => stepG_seq) ?_
  rw [show oS3 = xoS3 from rfl]
  simp only [xoS3, oS3, oT3, oT2, oT1, oT0, Try.f5, Option.getD_some, List.range, List.range.loop, List.map_cons, List.map_nil, e1, e3, e4]
  refine Idl.rg (idl_hg Try.prog 0 F E w) [0, 1, 2, 3] rfl ?_
  apply Idl.value (idl_hg Try.prog 0 F E w) rfl rfl (by first | decide | exact Go.ConcR.Gen.base_kind _ | exact Go.ConcR.Gen.baseD_kind _ | assumption)
  focus (intro w; go_simp; (try w_num); first | done | rfl)
  focus (intro w; simp [go_sem, *])
  walk_nrm
  refine HGn.ld c1 (fun z => by rw [W1] at z; cases z) rfl rfl (by first | decide | exact Go.ConcR.Gen.base_kind _ | exact Go.ConcR.Gen.baseD_kind _ | assumption) (fun w₁ hc₁ => ⟨by go_simp, fun e he => by (have he' := he; simp [go_sem, hc₁] at he'; exact he')⟩) ?_
  walk_nrm
  skip
  refine Idl.callE (fn := Try.f28) (vs := #[.pointer (some ⟨xw, 0, none⟩), .slice A ops.length cap, .pointer none]) (idl_hg Try.prog 0 F E w) rfl rfl (by k_ne) rfl Try.func28 rfl rfl (by simp [Act.eval]) ?_
  refine hloop.out _ _ _ _ _ _ (fun E1 w1 v1 k1 M1 => ?_)
  replace k1 := Lib.hid k1
  replace M1 := Lib.hid M1
  clear hloop c1 W1
  change HGn Try.prog 0 F E1 w1 200 _
  walk_nrm
  apply Idl.value (idl_hg Try.prog 0 F E1 w1) rfl rfl (by first | decide | exact Go.ConcR.Gen.base_kind _ | exact Go.ConcR.Gen.baseD_kind _ | assumption)
  focus (intro w; go_simp; (try w_num); first | done | rfl)
  focus (intro w; simp [go_sem, *])
  walk_nrm
  refine Idl.re (idl_hg Try.prog 0 F E1 w1) ?_
  exact P.out _ (by simp) (by simp) (by simp) (by simp) E1 w1 v1 k1.out M1.out
set_option maxRecDepth 100000 in
set_option maxHeartbeats 4000000 in
theorem wa_t1 {T : Array Value} (hs : T.size = 56) (t1 : T[1]? = some (.pointer (some ⟨lbb, 0, none⟩))) (V : LV ops A la lo cap lbb E w) (hlen : ops.length ≤ 10000000000000) (hrng : ∀ (i : Nat) (op : Op3), ops[i]? = some op → -9223372036854775808 ≤ op.2.2 ∧ op.2.2 ≤ 9223372036854775807) (hB : B ≤ w.heap.size)
    (hrole : E.role 0 = .gone) (hmode : ∀ b, E.mode b = 0)
    (hc : ∀ E' w' T todo, Kept 0 none E w E' w' → StandsB B E w E' w' → T[2]? = some (.bool true) → HG Try.prog 0 F E' (G { (base 5).at ⟨T, []⟩ todo with mode := .returning } []) w') :
    HG Try.prog 0 F E (G ((base 5).at ⟨T, []⟩ [.code (.seq oS1 (.seq oS2 (.seq oS3 (.seq oS4 oL5))))]) []) w := by
  have P : ∀ T' : Array Value, T'.size = 56 → T'[1]? = some (.pointer (some ⟨lbb, 0, none⟩)) → T'[3]? = some (.bool true) → ∀ E1 w1, Kept 0 none E w E1 w1 → Stands E w E1 w1 → HGn Try.prog 0 F E1 w1 200 (G ((base 5).at ⟨T', []⟩ [.code (.seq oS2 (.seq oS3 (.seq oS4 oL5)))]) []) := by
    intro T' h1 h2 h3 E1 w1 k1 st1
    have V1 := V.stands st1
    have hlbl := (Array.getElem?_eq_some_iff.1 V1.box).1
    have hlal : ops ≠ [] → la < w1.heap.size := fun hne => by
      obtain ⟨op, r, e⟩ := List.exists_cons_of_ne_nil hne
      obtain ⟨c1, _⟩ := V1.ops 0 op (by rw [e]; rfl)
      exact World.block_lt_of_cell? w1 _ c1
    refine Idl.step (idl_hg Try.prog 0 F E1 w1) _ _ _ rfl (fun _ => stepG_seq) ?_
    refine HG.quietM [.cells #[.int .i64 0] 46] (closed_none _) (fun T2 s => T2.size = 56 ∧ (∀ j, j < 13 → j ≠ 4 → T2[j]? = T'[j]?) ∧ T2[4]? = some (.pointer (some ⟨s, 0, none⟩))) (by kernel_rfl) (by rfl) (fun x _ hx => ?_) (fun E2 w2 T2 S2 N2 hR => ?_)
    · refine oS2_wp h1 (fun T2 x' a1 a2 a3 a4 => ⟨rfl, rfl, fun b hb => by rw [a4, Array.getElem?_push, if_neg (by omega)], (fun i o hi => ?_), a1, a2, a3⟩)
      match i, hi with
      | 0, hi => cases hi; rw [a4]; simp
    obtain ⟨s2, o2, r2⟩ := hR
    obtain ⟨n2, n2H⟩ := N2 0 _ rfl
    rw [Nat.add_zero] at n2 n2H
    have kk := k1.trans S2.kept
    refine wa_t3 (B := B) (xw := w1.heap.size) s2 ((o2 1 (by decide) (by decide)).trans h2) ((o2 3 (by decide) (by decide)).trans h3) r2 (V1.stands S2.st) hlen hrng (by have := k1.size; omega) n2 n2H (by omega) (fun hne => by have := hlal hne; omega) (kk.le.roleH.trans hrole) (fun b => kk.le.mode b (hmode b)) (fun E' w' T3 todo k s r => hc E' w' T3 todo (kk.trans k) ((st1.trans S2.st).toB.trans s) r)
  obtain ⟨f, hf, fz⟩ := arrfv T hs
  have e1 := fz 1 _ t1
  replace P := Lib.hid P
  clear hc hmode hrole hB hrng hlen V t1 fz hs
  rw [hf]
  clear hf
  change HGn Try.prog 0 F E w 200 _
  generalize (Code.seq oS2 (.seq oS3 (.seq oS4 oL5))) = L5 at P ⊢
  refine Idl.step (idl_hg Try.prog 0 F E w) _ _ _ rfl (fun _ => stepG_seq) ?_
  rw [show oS1 = xoS1 from rfl]
  simp only [xoS1, oS1, oT1, oT0, Try.f5, Option.getD_some, List.range, List.range.loop, List.map_cons, List.map_nil, e1]
  refine Idl.rg (idl_hg Try.prog 0 F E w) [0, 1] rfl ?_
  refine Idl.callE (fn := Try.f27) (vs := #[]) (idl_hg Try.prog 0 F E w) rfl rfl (by k_ne) rfl Try.func27 rfl rfl (by simp [Act.eval]) ?_
  refine fixed07_holds (fun E1 w1 k1 st1 => ?_)
  replace k1 := Lib.hid k1
  replace st1 := Lib.hid st1
  change HGn Try.prog 0 F E1 w1 200 _
  walk_nrm
  apply Idl.value (idl_hg Try.prog 0 F E1 w1) rfl rfl (by first | decide | exact Go.ConcR.Gen.base_kind _ | exact Go.ConcR.Gen.baseD_kind _ | assumption)
  focus (intro w; go_simp; (try w_num); first | done | rfl)
  focus (intro w; simp [go_sem, *])
  walk_nrm
  refine Idl.re (idl_hg Try.prog 0 F E1 w1) ?_
  exact P.out _ (by simp) (by simp) (by simp) E1 w1 k1.out st1.out
set_option maxRecDepth 100000 in
set_option maxHeartbeats 4000000 in
theorem wordAlone_walk (hA : 0 < ops.length → A = some ⟨la, lo, none⟩) (hops : ∀ (i : Nat) (op : Op3), ops[i]? = some op → w.cell? ⟨la, lo + i * 3, none⟩ = some (.int .i64 op.1) ∧ w.cell? ⟨la, lo + i * 3 + 2, none⟩ = some (.int .i64 op.2.2) ∧ E.H la = none) (hlen : ops.length ≤ 10000000000000) (hrng : ∀ (i : Nat) (op : Op3), ops[i]? = some op → -9223372036854775808 ≤ op.2.2 ∧ op.2.2 ≤ 9223372036854775807)
    (hrole : E.role 0 = .gone) (hmode : ∀ b, E.mode b = 0)
    (hc : ∀ E' w' T todo, Kept 0 none E w E' w' → Stands E w E' w' → T[2]? = some (.bool true) → HG Try.prog 0 F E' (G { (base 5).at ⟨T, []⟩ todo with mode := .returning } []) w') :
    HGn Try.prog 0 F E w 100 (entry 5 Try.f5 #[.slice A ops.length cap] []) := by
  unfold entry
  rw [show Try.f5.body.getD .skip = .seq oS0 (.seq oS1 (.seq oS2 (.seq oS3 (.seq oS4 oL5)))) from oT_head2, show Try.f5.ntmps = 56 from rfl]
  refine Idl.step (idl_hg Try.prog 0 F E w) _ _ _ rfl (fun _ => stepG_seq) ?_
  refine HG.quietM [.cells #[.slice A ops.length cap] 32] (closed_none _) (fun T2 s => T2.size = 56 ∧ T2[1]? = some (.pointer (some ⟨s, 0, none⟩))) (by kernel_rfl) (by rfl) (fun x _ hx => ?_) (fun E1 w1 T1 S1 N1 hR => ?_)
  · refine oS0_wp (v := .slice A ops.length cap) (by simp) (by simp) ⟨_, _, _, rfl⟩ (fun T2 x' a1 a2 a3 => ⟨rfl, rfl, fun b hb => by rw [a3, Array.getElem?_push, if_neg (by omega)], (fun i o hi => ?_), a1, a2⟩)
    match i, hi with
    | 0, hi => cases hi; rw [a3]; simp
  obtain ⟨s1, r1⟩ := hR
  obtain ⟨n1, n1H⟩ := N1 0 _ rfl
  rw [Nat.add_zero] at n1 n1H
  have V : LV ops A la lo cap w.heap.size E1 w1 := ⟨n1, n1H, hA, fun i op hi => by
    obtain ⟨c1, c2, c3⟩ := hops i op hi
    have d1 := S1.st.cell c1 c3
    have d2 := S1.st.cell c2 c3
    exact ⟨d1.1, d2.1, d1.2⟩⟩
  exact wa_t1 (B := w.heap.size) s1 r1 V hlen hrng S1.kept.size (S1.kept.le.roleH.trans hrole) (fun b => S1.kept.le.mode b (hmode b)) (fun E' w' T todo k s r => hc E' w' T todo (S1.kept.trans k) (fun b o h1 h2 => (S1.st.toB (B := w.heap.size)).trans s b o (Array.getElem?_eq_some_iff.1 h2).1 h1 h2) r)
end
end Go.Proofs.Ytimlbbleblijnaa.Co

namespace Go.Proofs.Ytimlbbleblijnaa.Co
open Go Go.Conc Go.RowKit Go.ChangeShapes Go.WideShapes Go.Deep
set_option linter.unusedVariables false
set_option maxRecDepth 100000
theorem pick_list {α : Type} {p : Nat → α → Prop} : ∀ n, (∀ i, i < n → ∃ x, p i x) → ∃ l : List α, l.length = n ∧ ∀ i (h : i < l.length), p i l[i]
  | 0, _ => ⟨[], rfl, fun i h => absurd h (by simp)⟩
  | n + 1, hp => by
    obtain ⟨l, hl, h⟩ := pick_list n (fun i hi => hp i (by omega))
    obtain ⟨x, hx⟩ := hp n (by omega)
    refine ⟨l ++ [x], by simp [hl], fun i hi => ?_⟩
    by_cases hi' : i < l.length
    · rw [List.getElem_append_left hi']; exact h i hi'
    · have hi2 : i = l.length := by simp at hi; omega
      subst hi2
      simp [hl, hx]
theorem add_at (b o k : Nat) : (⟨b, o, none⟩ : Addr).add k = ⟨b, o + k, none⟩ := by
  unfold Addr.add
  by_cases h : k = 0
  · simp [h]
  · simp [h]
theorem vis_cell {W : World} {a : Addr} {v : Value} (h : W.cell? a = some v) : (Env.zero W).H a.block = none := by
  show H0 W a.block = none
  unfold H0
  unfold World.cell? at h
  cases e : W.heap[a.block]? with
  | none => rfl
  | some o =>
    rw [e] at h
    cases o <;> first | rfl | (exfalso; simp at h)
section
variable {H : Type} {enc : TypeId × Value → H} {W : World} {base : Nat} {spare : Nat → Bool} {held : Bool}
end
end Go.Proofs.Ytimlbbleblijnaa.Co

namespace Go.Proofs.Ytimlbbleblijnaa.Co
open Go Go.Conc Go.RowKit Go.ChangeShapes Go.WideShapes Go.Deep
set_option linter.unusedVariables false
set_option linter.unusedSimpArgs false
set_option maxRecDepth 100000
section
variable {H : Type} {enc : TypeId × Value → H} {W : World} {base : Nat} {spare : Nat → Bool} {held : Bool}
theorem one_op2 {m : Nat} {cs : List Value} {y : DataW H × List MemPlace} (h : DataW.trod enc Try.prog W base spare held m 34 cs = some y) : ∃ x : Op3, cs = [.int .i64 x.1, .int .i64 x.2.1, .int .i64 x.2.2] ∧ -9223372036854775808 ≤ x.2.2 ∧ x.2.2 ≤ 9223372036854775807 := by
  obtain ⟨y0, y1, y2, n, hy, hl, h0, h1, h2⟩ := trod_struct3 Try.underlying34 h
  have hl2 : cs.length = 3 := hl.trans (by kernel_rfl)
  match cs, hl2 with
  | [c0, c1, c2], _ =>
    obtain ⟨a, e0, z0, b0⟩ := DataW.trod_int (k := .i64) (by kernel_rfl) (show DataW.trod enc Try.prog W base spare held n _ [c0] = some y0 from h0)
    obtain ⟨b, e1, z1, b1⟩ := DataW.trod_int (k := .i64) (by kernel_rfl) (show DataW.trod enc Try.prog W base spare held n _ [c1] = some y1 from h1)
    obtain ⟨c, e2, z2, b2⟩ := DataW.trod_int (k := .i64) (by kernel_rfl) (show DataW.trod enc Try.prog W base spare held n _ [c2] = some y2 from h2)
    obtain rfl : c0 = .int .i64 a := by simpa using e0
    obtain rfl : c1 = .int .i64 b := by simpa using e1
    obtain rfl : c2 = .int .i64 c := by simpa using e2
    have hbb := bounds_i64 b2
    exact ⟨(a, b, c), rfl, by dsimp only; omega, by dsimp only; omega⟩
theorem ops_open2 {m : Nat} {c : Value} {y : DataW H × List MemPlace} (h : DataW.trod enc Try.prog W base spare held m 32 [c] = some y) (hw : ∀ n ∈ y.1.weights Try.prog 32, n ≤ reachBytes) :
    ∃ (A : Option Addr) (cap : Nat) (l : List Op3) (la lo : Nat), c = .slice A l.length cap ∧ l.length ≤ 10000000000000 ∧ (0 < l.length → A = some ⟨la, lo, none⟩) ∧ (∀ (j : Nat) (op : Op3), l[j]? = some op →
      W.cell? ⟨la, lo + j * 3, none⟩ = some (.int .i64 op.1) ∧ W.cell? ⟨la, lo + j * 3 + 2, none⟩ = some (.int .i64 op.2.2) ∧ (Env.zero W).H la = none) ∧ ∀ (j : Nat) (op : Op3), l[j]? = some op → -9223372036854775808 ≤ op.2.2 ∧ op.2.2 ≤ 9223372036854775807 := by
  rcases DataW.trod_slice Try.underlying32 h with ⟨hc, hy⟩ | ⟨a, len, cap, elems, rest, n, _, hc, hy, hb, hl, hm, hlen, hel, _, _⟩
  · obtain rfl : c = .slice none 0 0 := by simpa using hc
    exact ⟨none, 0, [], 0, 0, rfl, Nat.zero_le _, fun h => absurd h (by simp), fun j op h => by simp at h, fun j op h => by simp at h⟩
  · obtain rfl : c = .slice (some a) len cap := by simpa using hc
    have hC : Try.prog.cellsOf 34 = 3 := by kernel_rfl
    rw [hC] at hel
    have key : ∀ i, i < len → ∃ x : Op3, W.cell? (a.add (i * 3)) = some (.int .i64 x.1) ∧ W.cell? ((a.add (i * 3)).add 2) = some (.int .i64 x.2.2) ∧ -9223372036854775808 ≤ x.2.2 ∧ x.2.2 ≤ 9223372036854775807 := by
      intro i hi
      have he := hel i hi
      rw [List.getElem?_eq_getElem (by omega)] at he
      simp only [Option.bind_eq_some_iff] at he
      obtain ⟨cs, hcs, ht⟩ := he
      obtain ⟨x, rfl, hx⟩ := one_op2 ht
      have hcc := (World.cells?_some hcs).2.2
      refine ⟨x, ?_, hcc 2 (by omega), hx⟩
      have := hcc 0 (by omega)
      simpa [Addr.add] using this
    obtain ⟨l, hll, hp⟩ := pick_list len key
    have hsz : len * 24 ≤ reachBytes := by
      rw [hy, DataW.weights, Try.underlying32] at hw
      simp only at hw
      have hB : Try.prog.bytesOf 34 = 24 := by kernel_rfl
      rw [hB] at hw
      have h1 := hw _ (List.mem_cons_self ..)
      simp only [List.length_map] at h1
      have h2 : len * 24 ≤ (elems.length + rest.length) * 24 := Nat.mul_le_mul_right 24 (by omega)
      omega
    have hR : reachBytes ≤ 140737488351232 := Nat.le_refl _
    have hsp0 : 0 < len → a.spot = none := fun hn => by
      have h0 := (hp 0 (by omega)).1
      have ha : a.add (0 * 3) = a := by simp [Addr.add]
      rw [ha] at h0
      exact World.cell?_spot h0
    have haa : 0 < len → a = ⟨a.block, a.off, none⟩ := fun hn => by
      have := hsp0 hn
      obtain ⟨ab, ao, at0⟩ := a
      simp only at this
      subst this
      rfl
    refine ⟨some a, cap, l, a.block, a.off, by rw [hll], by omega, fun hn => by rw [← haa (by omega)], fun i x hx => ?_, fun i x hx => ?_⟩
    · obtain ⟨hi, rfl⟩ := List.getElem?_eq_some_iff.1 hx
      obtain ⟨w1, w2, _⟩ := hp i hi
      rw [haa (by omega)] at w1 w2
      rw [add_at] at w1 w2
      rw [add_at] at w2
      exact ⟨w1, w2, vis_cell (a := ⟨a.block, a.off + i * 3, none⟩) w1⟩
    · obtain ⟨hi, rfl⟩ := List.getElem?_eq_some_iff.1 hx
      obtain ⟨_, _, w3⟩ := hp i hi
      exact w3
end
end Go.Proofs.Ytimlbbleblijnaa.Co
