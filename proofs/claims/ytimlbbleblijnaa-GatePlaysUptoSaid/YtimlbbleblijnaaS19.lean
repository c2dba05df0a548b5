/- Lemmas for the laws of this seat, laid together of PGce, PGcf, PGda, PGdb, PGea, PGdc. -/
import Derived.Test.YtimlbbleblijnaaS18
import Derived.BigQuiet
import Derived.Deep.QuietTactic

namespace Go.Proofs.Ytimlbbleblijnaa.Co
open Go Go.Conc Go.RowKit
set_option linter.unusedVariables false
set_option linter.unusedSimpArgs false
noncomputable def nBody : Code := Try.f29.body.getD .skip
noncomputable def n0 : Code := match nBody with | .seq x _ => x | _ => .skip
noncomputable def n1 : Code := match nBody with | .seq _ (.seq x _) => x | _ => .skip
noncomputable def n2 : Code := match nBody with | .seq _ (.seq _ x) => x | _ => .skip
theorem n_parts : nBody = .seq n0 (.seq n1 n2) := by kernel_rfl
noncomputable def y0 : Code := n0
noncomputable def y1 : Code := n1
section
variable {h : Nat} {F : Machine → Trace → Prop} {E : Env} {w : World} {b₀ : Frame} {a₀ : Act} {ops₀ : Array Oper} {i₀ : Nat} {rest₀ : List Nat} {k₀ : List Item} {cl : List Frame}
set_option maxRecDepth 100000 in
set_option maxHeartbeats 1000000 in
theorem run_many {N bcap : Nat} {ba : Option Addr} {pv dv : Value} (hN : 8 < N)
    (hc : HG Try.prog h F E (G (b₀.at (a₀.put ((ops₀[i₀]?).bind (·.dst)) (.int .i64 0)) (.inRegion ops₀ rest₀ :: k₀)) cl) w) :
    HGn Try.prog h F E w 100 (entry 29 Try.f29 #[.slice ba N bcap, pv, dv] (b₀.at a₀ (.inRegion ops₀ (i₀ :: rest₀) :: k₀) :: cl)) := by
  have q1 : decide ((8 : Int) < (N : Int)) = true := decide_eq_true (by omega)
  unfold entry
  rw [show Try.f29.body.getD .skip = .seq y0 (.seq y1 n2) from n_parts, show Try.f29.ntmps = 121 from rfl]
  generalize hG : n2 = L
  simp only [y0, y1, n0, n1, nBody, Try.f29, Option.getD_some]
  walk_nrm
  refine Idl.q (idl_hg Try.prog h F E w) (Idl.rg (idl_hg Try.prog h F E w) [0] rfl ?_)
  apply Idl.value (idl_hg Try.prog h F E w) rfl rfl (by first | decide | exact Go.ConcR.Gen.base_kind _ | exact Go.ConcR.Gen.baseD_kind _ | assumption)
  focus (intro w; go_simp; (try w_num); first | done | rfl)
  focus (intro w; simp [go_sem, *])
  walk_nrm
  refine Idl.re (idl_hg Try.prog h F E w) (Idl.q (idl_hg Try.prog h F E w) (Idl.q (idl_hg Try.prog h F E w) (Idl.rg (idl_hg Try.prog h F E w) [0, 1, 2] rfl ?_)))
  apply Idl.value (idl_hg Try.prog h F E w) rfl rfl (by first | decide | exact Go.ConcR.Gen.base_kind _ | exact Go.ConcR.Gen.baseD_kind _ | assumption)
  focus (intro w; go_simp; (try w_num); first | done | rfl)
  focus (intro w; simp [go_sem, *])
  walk_nrm
  refine Idl.value (v := .int .i64 (N : Int)) (idl_hg Try.prog h F E w) rfl rfl (by k_ne) (fun w => by simp [go_sem]) (fun w => by simp [go_sem]) ?_
  walk_nrm
  apply Idl.value (idl_hg Try.prog h F E w) rfl rfl (by first | decide | exact Go.ConcR.Gen.base_kind _ | exact Go.ConcR.Gen.baseD_kind _ | assumption)
  focus (intro w; go_simp; (try w_num); first | done | rfl)
  focus (intro w; simp [go_sem, *])
  walk_nrm
  refine Idl.re (idl_hg Try.prog h F E w) (Idl.ct (idl_hg Try.prog h F E w) rfl (Idl.q (idl_hg Try.prog h F E w) (Idl.rg (idl_hg Try.prog h F E w) [0] rfl ?_)))
  apply Idl.value (idl_hg Try.prog h F E w) rfl rfl (by first | decide | exact Go.ConcR.Gen.base_kind _ | exact Go.ConcR.Gen.baseD_kind _ | assumption)
  focus (intro w; go_simp; (try w_num); first | done | rfl)
  focus (intro w; simp [go_sem, *])
  walk_nrm
  refine Idl.re (idl_hg Try.prog h F E w) (Idl.rt (idl_hg Try.prog h F E w) ?_)
  refine Idl.leave1 (n := 1) (idl_hg Try.prog h F E w) rfl rfl Try.func29 rfl ?_
  exact hc
noncomputable def x4q : Code := q4
set_option maxRecDepth 100000 in
set_option maxHeartbeats 1000000 in
theorem play_to_run {T : Array Value} {bv pv : Value} {drain : Bool} {c : Frame} (hs : T.size = 28) (h1 : T[1]? = some pv) (h2 : T[2]? = some (.bool drain)) (h8 : T[8]? = some bv)
    (hc : ∀ T' ops i rest k, T'.size = 28 → (∀ j, j < 9 → T'[j]? = T[j]?) → (ops[i]?).bind (·.dst) = some 26 → rest = [] → k = [.code (match q4 with | .seq _ x => x | _ => .skip)] →
      HGn Try.prog h F E w 100 (entry 29 Try.f29 #[bv, pv, .bool drain] ((base 21).at ⟨T', []⟩ (.inRegion ops (i :: rest) :: k) :: c :: cl))) :
    HGn Try.prog h F E w 200 (G ((base 21).at ⟨T, []⟩ [.code q4]) (c :: cl)) := by
  obtain ⟨f, hf, fz⟩ := arrfv T hs
  have e1 := fz 1 _ h1
  have e2 := fz 2 _ h2
  have e8 := fz 8 _ h8
  clear fz
  subst hf
  change HGn Try.prog h F E w 200 (G ((base 21).at _ [.code x4q]) (c :: cl))
  simp only [x4q, q4, qBody, Try.f21, Option.getD_some, List.range, List.range.loop, List.map_cons, List.map_nil, e1, e2, e8]
  refine Idl.q (idl_hg Try.prog h F E w) (Idl.rg (idl_hg Try.prog h F E w) [0, 1, 2, 3] rfl ?_)
  apply Idl.value (idl_hg Try.prog h F E w) rfl rfl (by first | decide | exact Go.ConcR.Gen.base_kind _ | exact Go.ConcR.Gen.baseD_kind _ | assumption)
  focus (intro w; go_simp; (try w_num); first | done | rfl)
  focus (intro w; simp [go_sem, *])
  walk_nrm
  apply Idl.value (idl_hg Try.prog h F E w) rfl rfl (by first | decide | exact Go.ConcR.Gen.base_kind _ | exact Go.ConcR.Gen.baseD_kind _ | assumption)
  focus (intro w; go_simp; (try w_num); first | done | rfl)
  focus (intro w; simp [go_sem, *])
  walk_nrm
  apply Idl.value (idl_hg Try.prog h F E w) rfl rfl (by first | decide | exact Go.ConcR.Gen.base_kind _ | exact Go.ConcR.Gen.baseD_kind _ | assumption)
  focus (intro w; go_simp; (try w_num); first | done | rfl)
  focus (intro w; simp [go_sem, *])
  walk_nrm
  refine Idl.callE (fn := Try.f29) (vs := #[bv, pv, .bool drain]) (idl_hg Try.prog h F E w) rfl rfl (by k_ne) rfl Try.func29 rfl rfl (by simp [Act.eval]) ?_
  refine hc _ _ _ _ _ (by simp) (fun j hj => ?_) rfl rfl rfl
  match j, hj with
  | 0, _ | 1, _ | 2, _ | 3, _ | 4, _ | 5, _ | 6, _ | 7, _ | 8, _ => simp [e1, e2, e8]
  | n + 9, h => exact absurd h (by omega)
noncomputable def q5 : Code := match q4 with | .seq _ x => x | _ => .skip
noncomputable def q6 : Code := match q5 with | .seq x _ => x | _ => .skip
set_option maxRecDepth 100000 in
set_option maxHeartbeats 1000000 in
theorem play_out {T : Array Value} {ops : Array Oper} {mb N cap : Nat} {A : Option Addr} {v : Value} {i : Nat} (hs : T.size = 28) (h7 : T[7]? = some (.pointer (some ⟨mb, 0, none⟩))) (hcell : w.cell? ⟨mb, 0, none⟩ = some (.slice A N cap)) (hH : E.H mb = none) (hd : (ops[i]?).bind (·.dst) = some 26)
    (hc : ∀ E1 w', E.Eq h E1 → Kept h none E w E1 w' → (∀ b, E.H b = none → b < w.heap.size → w'.heap[b]? = w.heap[b]?) → HG Try.prog h F E1 (G (b₀.at (a₀.put ((ops₀[i₀]?).bind (·.dst)) (.slice A N cap)) (.inRegion ops₀ rest₀ :: k₀)) cl) w') :
    HG Try.prog h F E (G ((base 21).at ((⟨T, []⟩ : Act).put ((ops[i]?).bind (·.dst)) v) (.inRegion ops [] :: [.code q5])) (b₀.at a₀ (.inRegion ops₀ (i₀ :: rest₀) :: k₀) :: cl)) w := by
  rw [hd]
  change HGn Try.prog h F E w 100 _
  refine Idl.step (idl_hg Try.prog h F E w) _ _ _ rfl (fun _ => stepG_region_end) ?_
  obtain ⟨f, hf, fz⟩ := arrfv (n := 28) (T.setIfInBounds 26 v) (by simp [hs])
  have e7 := fz 7 _ (by rw [Array.getElem?_setIfInBounds_ne (by omega)]; exact h7)
  clear fz
  have hput : (⟨T, []⟩ : Act).put (some 26) v = ⟨T.setIfInBounds 26 v, []⟩ := rfl
  rw [hput, hf]
  clear hput hf h7
  have hq : q5 = .seq q6 .ret := by kernel_rfl
  rw [hq]
  refine Idl.step (idl_hg Try.prog h F E w) _ _ _ rfl (fun _ => stepG_seq) ?_
  refine HG.quietS (fun _ => False) (fun _ z => z.elim) (closed_none _) (Q := fun a' x x' => a'.tmps.size = 28 ∧ a'.tmps[6]? = some (.slice A N cap) ∧ x' = x) (by kernel_rfl) (by rfl) rfl (fun x hxs hx => ?_) (fun E1 w1 a' x x' hE hd hxs hx hxs' hx' hK hB hS hq => ?_)
  · have hcx : x.cell? ⟨mb, 0, none⟩ = some (.slice A N cap) := (World.cell?_of_block (hx mb hH)).trans hcell
    simp only [List.range, List.range.loop, List.map_cons, List.map_nil, e7, q6, q5, q4, qBody, Try.f21, Option.getD_some]
    go_wp2
  · obtain ⟨Ta, df⟩ := a'
    have hd' : df = [] := hd
    subst hd'
    obtain ⟨a1, a2, rfl⟩ := hq
    have hcc := hc E1 w1 hE hK (fun b hb hl => by rw [hx' b hb, hx b hb])
    obtain ⟨f2, hf2, fz⟩ := arrfv Ta a1
    have e6 := fz 6 _ a2
    clear fz
    subst hf2
    simp only [List.range, List.range.loop, List.map_cons, List.map_nil, e6]
    change HGn Try.prog h F E1 w1 100 _
    refine Idl.rt (idl_hg Try.prog h F E1 w1) ?_
    refine Idl.leave1 (n := 1) (idl_hg Try.prog h F E1 w1) rfl rfl Try.func21 rfl ?_
    exact hcc
#print axioms play_out
end
end Go.Proofs.Ytimlbbleblijnaa.Co

namespace Go.Proofs.Ytimlbbleblijnaa.Co
open Go Go.Conc Go.RowKit
open Go.ConcN (sumTo upd sumTo_upd upd_ne upd_same sumTo_congr le_sumTo)
set_option linter.unusedVariables false
set_option linter.unusedSimpArgs false
abbrev Op3 := Int × Int × Int
structure OpsAt (E : Env) (w : World) (tv : Value) (ts : List (List Op3)) : Prop where
  at_ : ∃ (ta : Option Addr) (ba bo cap : Nat) (LA : Nat → Option Addr) (LC : Nat → Nat), tv = .slice ta ts.length cap ∧ (0 < ts.length → ta = some ⟨ba, bo, none⟩) ∧ ∀ i l, ts[i]? = some l →
    (w.cell? ⟨ba, bo + i, none⟩ = some (.slice (LA i) l.length (LC i)) ∧ E.H ba = none) ∧ (l ≠ [] → ∃ la lo, LA i = some ⟨la, lo, none⟩ ∧ E.H la = none ∧ ∀ j op, l[j]? = some op →
      w.cell? ⟨la, lo + j * 3, none⟩ = some (.int .i64 op.1) ∧ w.cell? ⟨la, lo + j * 3 + 1, none⟩ = some (.int .i64 op.2.1) ∧ w.cell? ⟨la, lo + j * 3 + 2, none⟩ = some (.int .i64 op.2.2))
structure IntsAt (E : Env) (w : World) (pv : Value) (ps : List Int) : Prop where
  at_ : ∃ (pa : Option Addr) (pb po cap : Nat), pv = .slice pa ps.length cap ∧ (ps ≠ [] → pa = some ⟨pb, po, none⟩) ∧ ∀ i p, ps[i]? = some p → w.cell? ⟨pb, po + i, none⟩ = some (.int .i64 p) ∧ E.H pb = none
def Stands (E : Env) (w : World) (E' : Env) (w' : World) : Prop := ∀ b o, E.H b = none → w.heap[b]? = some o → E'.H b = none ∧ w'.heap[b]? = some o
theorem Stands.cell {E E' : Env} {w w' : World} (S : Stands E w E' w') {a : Addr} {v : Value} (h : w.cell? a = some v) (hH : E.H a.block = none) : w'.cell? a = some v ∧ E'.H a.block = none := by
  have hl := World.block_lt_of_cell? w _ h
  obtain ⟨s1, s2⟩ := S a.block _ hH (Array.getElem?_eq_getElem hl)
  exact ⟨(World.cell?_of_block (by rw [s2, Array.getElem?_eq_getElem hl])).trans h, s1⟩
theorem Stands.trans {E E' E2 : Env} {w w' w2 : World} (S : Stands E w E' w') (S2 : Stands E' w' E2 w2) : Stands E w E2 w2 := fun b o h1 h2 => by
  obtain ⟨a1, a2⟩ := S b o h1 h2
  exact S2 b o a1 a2
theorem OpsAt.stands {E E' : Env} {w w' : World} {tv : Value} {ts : List (List Op3)} (h : OpsAt E w tv ts) (S : Stands E w E' w') : OpsAt E' w' tv ts := by
  obtain ⟨ta, ba, bo, cap, LA, LC, h1, h2, h3⟩ := h.at_
  refine ⟨ta, ba, bo, cap, LA, LC, h1, h2, fun i l hi => ?_⟩
  obtain ⟨⟨q1, q2⟩, q3⟩ := h3 i l hi
  refine ⟨S.cell q1 q2, fun hne => ?_⟩
  obtain ⟨la, lo, e1, e2, e3⟩ := q3 hne
  by_cases hE : E'.H la = none
  · exact ⟨la, lo, e1, hE, fun j op hj => ⟨(S.cell (e3 j op hj).1 e2).1, (S.cell (e3 j op hj).2.1 e2).1, (S.cell (e3 j op hj).2.2 e2).1⟩⟩
  · cases l with
    | nil => exact absurd rfl hne
    | cons op l => exact absurd (S.cell (e3 0 op rfl).1 e2).2 hE
theorem IntsAt.stands {E E' : Env} {w w' : World} {pv : Value} {ps : List Int} (h : IntsAt E w pv ps) (S : Stands E w E' w') : IntsAt E' w' pv ps := by
  obtain ⟨pa, pb, po, cap, h1, h2, h3⟩ := h.at_
  exact ⟨pa, pb, po, cap, h1, h2, fun i p hi => S.cell (h3 i p hi).1 (h3 i p hi).2⟩
structure PA where
  ms : List Mk
  cnt : Nat → Nat
def nOf (ts : List (List Op3)) (t i : Nat) : Int := (((ts[t]?).bind (·[i]?)).map (·.2.2)).getD 0
def lenOf (ts : List (List Op3)) (t : Nat) : Nat := ((ts[t]?).map (·.length)).getD 0
def playG (ts : List (List Op3)) : Game PA where
  n := ts.length
  alive a t := decide (a.cnt t < lenOf ts t)
  pick a t k := ⟨a.ms ++ [((t : Int), k, (a.cnt t : Int), nOf ts t (a.cnt t))], upd a.cnt t (a.cnt t + 1)⟩
def pa0 : PA := ⟨[], fun _ => 0⟩
def playW (ts : List (List Op3)) (a : PA) : Nat := sumTo ts.length (fun t => lenOf ts t - a.cnt t)
theorem playW_pick {ts : List (List Op3)} (a : PA) (t : Nat) (k : Int) (ht : t < (playG ts).n) (ha : (playG ts).alive a t = true) : playW ts ((playG ts).pick a t k) < playW ts a := by
  have ha' : a.cnt t < lenOf ts t := of_decide_eq_true ha
  have h1 := sumTo_upd (fun t => lenOf ts t - a.cnt t) (lenOf ts t - (a.cnt t + 1)) (fun x => x) (j := ts.length) (i := t) ht
  have e : (fun t' => lenOf ts t' - upd a.cnt t (a.cnt t + 1) t') = upd (fun t => lenOf ts t - a.cnt t) t (lenOf ts t - (a.cnt t + 1)) := by
    funext t'
    by_cases e : t' = t
    · subst e
      rw [upd_same, upd_same]
    · rw [upd_ne _ _ e, upd_ne _ _ e]
  show sumTo ts.length (fun t' => lenOf ts t' - upd a.cnt t (a.cnt t + 1) t') < sumTo ts.length (fun t => lenOf ts t - a.cnt t)
  rw [e]
  have h2 : sumTo ts.length (fun a_1 => upd (fun t => lenOf ts t - a.cnt t) t (lenOf ts t - (a.cnt t + 1)) a_1) = sumTo ts.length (upd (fun t => lenOf ts t - a.cnt t) t (lenOf ts t - (a.cnt t + 1))) := rfl
  have h3 : sumTo ts.length (fun a_1 => (fun t => lenOf ts t - a.cnt t) a_1) = sumTo ts.length (fun t => lenOf ts t - a.cnt t) := rfl
  omega
theorem play_ex (ts : List (List Op3)) (picks : List Int) (drain : Bool) : ∃ z, (playG ts).Run picks drain pa0 z := Game.Run.ex (playW ts) (fun a t k h1 h2 => playW_pick a t k h1 h2) picks drain pa0
def ptOf (ts : List (List Op3)) (LB TB LA LO LC : Nat → Nat) : List PT := (List.range ts.length).map fun i => ⟨TB i, LB i, LA i, LO i, LC i, ts.getD i []⟩
theorem ptOf_get {ts : List (List Op3)} {LB TB LA LO LC : Nat → Nat} {i : Nat} (hi : i < ts.length) : (ptOf ts LB TB LA LO LC)[i]? = some ⟨TB i, LB i, LA i, LO i, LC i, ts.getD i []⟩ := by
  unfold ptOf
  rw [List.getElem?_map, List.getElem?_range hi]
  rfl
theorem ptOf_len {ts : List (List Op3)} {LB TB LA LO LC : Nat → Nat} : (ptOf ts LB TB LA LO LC).length = ts.length := by simp [ptOf]
theorem opLen_of (ts : List (List Op3)) (LB TB LA LO LC : Nat → Nat) (t : Nat) : opLen (ptOf ts LB TB LA LO LC) t = lenOf ts t := by
  unfold opLen lenOf
  by_cases h : t < ts.length
  · rw [ptOf_get h, List.getElem?_eq_getElem h]
    simp [List.getD, List.getElem?_eq_getElem h]
  · rw [List.getElem?_eq_none (by rw [ptOf_len]; omega), List.getElem?_eq_none (by omega)]
    rfl
theorem opN_of {ts : List (List Op3)} {LB TB LA LO LC : Nat → Nat} {t i : Nat} {n : Int} (h : opN (ptOf ts LB TB LA LO LC) t i = some n) : nOf ts t i = n := by
  have ht := (opN_lt h).2
  rw [ptOf_len] at ht
  unfold opN at h
  rw [ptOf_get ht] at h
  unfold nOf
  rw [List.getElem?_eq_getElem ht]
  simp only [Option.bind_some, List.getD, List.getElem?_eq_getElem ht, Option.getD_some] at h ⊢
  rw [h]; rfl
structure PR (ts : List (List Op3)) (x : RS PS PL) (a : PA) : Prop where
  len : x.1.length = ts.length
  ms : x.2.1.ms = a.ms
  cnt : x.2.1.cnt = a.cnt
  th : ∀ t, t < ts.length → (∃ n b, x.1[t]? = some (some (n, ⟨t, a.cnt t, b⟩)) ∧ a.cnt t < lenOf ts t) ∨ (x.1[t]? = some none ∧ ¬ a.cnt t < lenOf ts t)
theorem play_sim {mb : Nat} {K : Nat → Obj → Prop} {ts : List (List Op3)} {LB TB LA LO LC : Nat → Nat} : Sim (playD mb K (ptOf ts LB TB LA LO LC)) (playG ts) (PR ts) := by
  refine ⟨fun x a h => h.len, fun x a h t ht => ?_, fun x a x' t h ht ha hp => ?_, fun x a h => ⟨h.len, h.ms, h.cnt, h.th⟩⟩
  · rcases h.th t ht with ⟨n, b, e1, e2⟩ | ⟨e1, e2⟩
    · rw [e1]
      exact (decide_eq_true e2).symm
    · rw [e1]
      exact (decide_eq_false e2).symm
  · rcases h.th t ht with ⟨n, b, e1, e2⟩ | ⟨e1, e2⟩
    · unfold PickR at hp
      rw [e1] at hp
      obtain ⟨n', s', o, hm, ⟨m, hn, had⟩, rfl⟩ := hp
      dsimp only at hn had
      have hnm := opN_of hn
      have htl : t < x.1.length := by rw [h.len]; exact ht
      have hset : ∀ (y : Option (Nat × PL)) t', (x.1.set t y)[t']? = if t' = t then some y else x.1[t']? := fun y t' => by
        by_cases e : t' = t
        · subst e
          rw [if_pos rfl, List.getElem?_set_self htl]
        · rw [if_neg e, List.getElem?_set_ne (Ne.symm e)]
      have hms : (mark x.2.1 t (a.cnt t) (x.2.2 + 1) m).ms = ((playG ts).pick a t (x.2.2 + 1)).ms := by
        show x.2.1.ms ++ _ = a.ms ++ _
        rw [h.ms, hnm]
      have hcn : (mark x.2.1 t (a.cnt t) (x.2.2 + 1) m).cnt = ((playG ts).pick a t (x.2.2 + 1)).cnt := by
        show upd x.2.1.cnt t _ = upd a.cnt t _
        rw [h.cnt]
      have hct : ((playG ts).pick a t (x.2.2 + 1)).cnt t = a.cnt t + 1 := upd_same ..
      have hcn' : ∀ t', t' ≠ t → ((playG ts).pick a t (x.2.2 + 1)).cnt t' = a.cnt t' := fun t' e => upd_ne _ _ e
      have hth : ∀ t', t' ≠ t → t' < ts.length → (∃ n b, x.1[t']? = some (some (n, ⟨t', ((playG ts).pick a t (x.2.2 + 1)).cnt t', b⟩)) ∧ ((playG ts).pick a t (x.2.2 + 1)).cnt t' < lenOf ts t') ∨ (x.1[t']? = some none ∧ ¬ ((playG ts).pick a t (x.2.2 + 1)).cnt t' < lenOf ts t') := fun t' e ht' => by
        rw [hcn' t' e]; exact h.th t' ht'
      rcases had with ⟨b', n2, h3, h4⟩ | ⟨h3, h4⟩
      · cases h4
        have hlt := (opN_lt h3).1
        rw [opLen_of] at hlt
        refine ⟨by simp [h.len], hms, hcn, fun t' ht' => ?_⟩
        dsimp only
        rw [hset]
        by_cases e : t' = t
        · subst e
          rw [if_pos rfl, hct]
          exact .inl ⟨n', b', rfl, hlt⟩
        · rw [if_neg e]
          exact hth t' e ht'
      · cases h4
        rw [opLen_of] at h3
        refine ⟨by simp [h.len], hms, hcn, fun t' ht' => ?_⟩
        dsimp only
        rw [hset]
        by_cases e : t' = t
        · subst e
          rw [if_pos rfl, hct]
          exact .inr ⟨rfl, by omega⟩
        · rw [if_neg e]
          exact hth t' e ht'
    · rw [e1] at ha; cases ha
#print axioms play_sim
end Go.Proofs.Ytimlbbleblijnaa.Co

namespace Go.Proofs.Ytimlbbleblijnaa.Co
open Go Go.Conc Go.RowKit
open Go.ConcN (sumTo upd sumTo_upd upd_ne upd_same sumTo_congr le_sumTo)
set_option linter.unusedVariables false
set_option linter.unusedSimpArgs false
def cntT (l : List Mk) (t : Nat) : Nat := (l.filter (fun m => m.1 == (t : Int))).length
def lastK (l : List Mk) : Int := (l.getLast?.map (·.2.1)).getD 0
theorem cntT_snoc (l : List Mk) (m : Mk) (t : Nat) : cntT (l ++ [m]) t = cntT l t + if m.1 = (t : Int) then 1 else 0 := by
  unfold cntT
  rw [List.filter_append, List.length_append]
  by_cases h : m.1 = (t : Int)
  · simp [h]
  · simp [h]
theorem lastK_snoc (l : List Mk) (m : Mk) : lastK (l ++ [m]) = m.2.1 := by simp [lastK]
def okMk (ts : List (List Op3)) (picks : List Int) (l : List Mk) (m : Mk) : Prop :=
  ∃ t q : Nat, t < ts.length ∧ m = ((t : Int), ((q + 1 : Nat) : Int), (cntT l t : Int), nOf ts t (cntT l t)) ∧ cntT l t < lenOf ts t ∧ lastK l < ((q + 1 : Nat) : Int) ∧ ∀ p, picks[q]? = some p → pickIx p ts.length = t
def okMs (ts : List (List Op3)) (picks : List Int) (ms : List Mk) : Prop := ∀ i m, ms[i]? = some m → okMk ts picks (ms.take i) m
theorem okMs_snoc {ts : List (List Op3)} {picks : List Int} {ms : List Mk} {m : Mk} (h : okMs ts picks ms) (hm : okMk ts picks ms m) : okMs ts picks (ms ++ [m]) := by
  intro i x hx
  rcases Nat.lt_or_ge i ms.length with z | z
  · rw [List.getElem?_append_left z] at hx
    rw [List.take_append_of_le_length (Nat.le_of_lt z)]
    exact h i x hx
  · have hi : i = ms.length := by
      have := (List.getElem?_eq_some_iff.1 hx).1
      simp at this; omega
    subst hi
    rw [List.getElem?_append_right (Nat.le_refl _)] at hx
    simp at hx
    subst hx
    simpa using hm
structure GI (ts : List (List Op3)) (picks : List Int) (a : PA) (k : Nat) : Prop where
  ms : okMs ts picks a.ms
  cnt : ∀ t, cntT a.ms t = a.cnt t
  le : ∀ t, a.cnt t ≤ lenOf ts t
  last : lastK a.ms ≤ (k : Int)
theorem gi_0 (ts : List (List Op3)) (picks : List Int) : GI ts picks pa0 0 := ⟨fun i m h => by simp [pa0] at h, fun t => rfl, fun t => Nat.zero_le _, by simp [pa0, lastK]⟩
theorem GI.up {ts : List (List Op3)} {picks : List Int} {a : PA} {k : Nat} (h : GI ts picks a k) : GI ts picks a (k + 1) := ⟨h.ms, h.cnt, h.le, by have := h.last; push_cast; omega⟩
theorem GI.pick {ts : List (List Op3)} {picks : List Int} {a : PA} {k t : Nat} (h : GI ts picks a k) (ht : t < ts.length) (ha : (playG ts).alive a t = true) (hp : ∀ p, picks[k]? = some p → pickIx p ts.length = t) : GI ts picks ((playG ts).pick a t ((k : Int) + 1)) (k + 1) := by
  have ha' : a.cnt t < lenOf ts t := of_decide_eq_true ha
  have hl := h.last
  refine ⟨?_, fun t' => ?_, fun t' => ?_, ?_⟩
  · show okMs ts picks (a.ms ++ [_])
    refine okMs_snoc h.ms ⟨t, k, ht, ?_, by rw [h.cnt]; exact ha', by push_cast; omega, hp⟩
    rw [h.cnt]
    push_cast
    rfl
  · show cntT (a.ms ++ [_]) t' = upd a.cnt t (a.cnt t + 1) t'
    rw [cntT_snoc, h.cnt]
    dsimp only
    by_cases e : t' = t
    · subst e
      rw [upd_same, if_pos rfl]
    · rw [upd_ne _ _ e, if_neg (by omega), Nat.add_zero]
  · show upd a.cnt t (a.cnt t + 1) t' ≤ _
    by_cases e : t' = t
    · subst e
      rw [upd_same]; exact ha'
    · rw [upd_ne _ _ e]; exact h.le t'
  · show lastK (a.ms ++ [_]) ≤ _
    rw [lastK_snoc]
    push_cast
    exact Int.le_refl _
theorem gi_picks {ts : List (List Op3)} {picks : List Int} (hn : 0 < ts.length) : ∀ (l : List Int) (k : Nat) (a : PA), picks.drop k = l → k ≤ picks.length → GI ts picks a k → GI ts picks ((playG ts).picks (a, (k : Int)) l).1 picks.length ∧ ((playG ts).picks (a, (k : Int)) l).2 = (picks.length : Int)
  | [], k, a, hd, hk, h => by
    have : picks.length ≤ k := by
      have := congrArg List.length hd
      simp at this; omega
    obtain rfl : k = picks.length := by omega
    exact ⟨h, rfl⟩
  | p :: l, k, a, hd, hk, h => by
    have hlt : k < picks.length := by
      have := congrArg List.length hd
      simp at this; omega
    have hp : picks[k]? = some p := by
      have := congrArg (·[0]?) hd
      simpa using this
    have hd' : picks.drop (k + 1) = l := by
      have := congrArg List.tail hd
      simpa using this
    have e : (playG ts).picks (a, (k : Int)) (p :: l) = (playG ts).picks ((if (playG ts).alive a (pickIx p ts.length) = true then (playG ts).pick a (pickIx p ts.length) ((k : Int) + 1) else a), ((k + 1 : Nat) : Int)) l := by
      unfold Game.picks
      rw [List.foldl_cons]
      rfl
    rw [e]
    refine gi_picks hn l (k + 1) _ hd' (by omega) ?_
    by_cases ha : (playG ts).alive a (pickIx p ts.length) = true
    · rw [if_pos ha]
      exact h.pick (pickIx_lt p hn) ha (fun p' hp' => by rw [hp] at hp'; cases hp'; rfl)
    · rw [if_neg ha]
      exact h.up
theorem nx_none_all {alive : Nat → Bool} {n : Nat} : ∀ {m x : Nat}, x < n → nx alive n m x = none → ∀ j, j < m → alive ((x + j) % n) = false
  | 0, _, _, _, j, hj => absurd hj (by omega)
  | m + 1, x, hx, h, j, hj => by
    rw [nx] at h
    by_cases ha : alive x = true
    · rw [if_pos ha] at h; cases h
    · rw [if_neg ha] at h
      match j, hj with
      | 0, _ => rw [Nat.add_zero, Nat.mod_eq_of_lt hx]; simpa using ha
      | j + 1, hj =>
        have := nx_none_all (Nat.mod_lt _ (by omega)) h j (by omega)
        rw [Nat.mod_add_mod] at this
        rw [show x + (j + 1) = x + 1 + j by omega]
        exact this
theorem gi_drn {ts : List (List Op3)} {picks : List Int} (hn : 0 < ts.length) {a z : PA × Int} {x : Nat} (h : (playG ts).Drn a x z) : ∀ k : Nat, a.2 = (k : Int) → picks.length ≤ k → x < ts.length → GI ts picks a.1 k → k ≤ picks.length + a.1.ms.length → (∃ k' : Nat, GI ts picks z.1 k' ∧ k' ≤ picks.length + z.1.ms.length) ∧ ∀ t, t < ts.length → (playG ts).alive z.1 t = false := by
  induction h with
  | @stop a x h =>
    intro k hk hkl hx hg hk2
    refine ⟨⟨k, hg, hk2⟩, fun t ht => ?_⟩
    have := nx_none_all (m := (playG ts).n) hx h ((t + ts.length - x) % ts.length) (Nat.mod_lt _ hn)
    have e : (x + (t + ts.length - x) % ts.length) % ts.length = t := by
      rw [Nat.add_mod_mod, show x + (t + ts.length - x) = t + ts.length by omega, Nat.add_mod_right, Nat.mod_eq_of_lt ht]
    rw [e] at this
    exact this
  | @go a x t z h d ih =>
    intro k hk hkl hx hg hk2
    obtain ⟨h1, h2⟩ := nx_some hx h
    refine ih (k + 1) (by dsimp only; rw [hk]; push_cast; rfl) (by omega) (Nat.mod_lt _ hn) ?_ ?_
    rotate_left
    · show k + 1 ≤ picks.length + (a.1.ms ++ [_]).length
      rw [List.length_append]
      simp only [List.length_cons, List.length_nil]
      omega
    dsimp only
    rw [hk]
    exact hg.pick h1 h2 (fun p hp => by
      have := (List.getElem?_eq_some_iff.1 hp).1
      omega)
theorem plays_ok {ts : List (List Op3)} {picks : List Int} {drain : Bool} {a : PA} {k : Int} (h : (playG ts).Run picks drain pa0 (a, k)) :
    okMs ts picks a.ms ∧ (∀ t, cntT a.ms t ≤ lenOf ts t) ∧ (drain = true → ∀ t, t < ts.length → cntT a.ms t = lenOf ts t) ∧ (drain = false → lastK a.ms ≤ (picks.length : Int)) ∧ lastK a.ms ≤ ((picks.length + a.ms.length : Nat) : Int) := by
  unfold Game.Run at h
  by_cases hn : (playG ts).n = 0
  · rw [if_pos hn] at h
    cases h
    have hz : ts.length = 0 := hn
    exact ⟨(gi_0 ts picks).ms, fun t => Nat.zero_le _, fun _ t ht => absurd ht (by omega), fun _ => Int.natCast_nonneg _, Int.natCast_nonneg _⟩
  · rw [if_neg hn] at h
    have hn' : 0 < ts.length := Nat.pos_of_ne_zero hn
    obtain ⟨g1, g2⟩ := gi_picks (ts := ts) (picks := picks) hn' picks 0 pa0 (by simp) (Nat.zero_le _) (gi_0 ts picks)
    cases drain with
    | true =>
      simp only [if_true] at h
      obtain ⟨⟨k', g3, g5⟩, g4⟩ := gi_drn (picks := picks) hn' h picks.length g2 (Nat.le_refl _) hn' g1 (by omega)
      refine ⟨g3.ms, fun t => by rw [g3.cnt]; exact g3.le t, fun _ t ht => ?_, fun e => (by cases e), by have := g3.last; dsimp only at this g5; omega⟩
      have h5 : ¬ a.cnt t < lenOf ts t := of_decide_eq_false (g4 t ht)
      have h6 := g3.le t
      rw [g3.cnt]
      dsimp only at h6 ⊢
      omega
    | false =>
      simp only [Bool.false_eq_true, if_false] at h
      have h7 : a = ((playG ts).picks (pa0, ((0 : Nat) : Int)) picks).1 := congrArg Prod.fst h
      rw [← h7] at g1
      exact ⟨g1.ms, fun t => by rw [g1.cnt]; exact g1.le t, fun e => (by cases e), fun _ => g1.last, by have := g1.last; push_cast; omega⟩
theorem cntT_cons (m : Mk) (l : List Mk) (t : Nat) : cntT (m :: l) t = cntT l t + if m.1 = (t : Int) then 1 else 0 := by
  unfold cntT
  by_cases h : m.1 = (t : Int)
  · simp [h]
  · simp [h]
theorem sumTo_ind {n t : Nat} : sumTo n (fun t' => if (t : Int) = (t' : Int) then 1 else 0) = if t < n then 1 else 0 := by
  induction n with
  | zero => rfl
  | succ n ih =>
    have e : sumTo (n + 1) (fun t' => if (t : Int) = (t' : Int) then 1 else 0) = sumTo n (fun t' => if (t : Int) = (t' : Int) then 1 else 0) + if (t : Int) = (n : Int) then 1 else 0 := rfl
    rw [e, ih]
    by_cases h1 : t < n
    · rw [if_pos h1, if_neg (by omega), if_pos (by omega)]
    · by_cases h2 : t = n
      · subst h2
        rw [if_neg h1, if_pos rfl, if_pos (by omega)]
      · rw [if_neg h1, if_neg (by omega), if_neg (by omega)]
theorem sumTo_add {f g : Nat → Nat} : ∀ n, sumTo n (fun t => f t + g t) = sumTo n f + sumTo n g
  | 0 => rfl
  | n + 1 => by
    have e : sumTo (n + 1) (fun t => f t + g t) = sumTo n (fun t => f t + g t) + (f n + g n) := rfl
    have e1 : sumTo (n + 1) f = sumTo n f + f n := rfl
    have e2 : sumTo (n + 1) g = sumTo n g + g n := rfl
    rw [e, e1, e2, sumTo_add n]
    omega
theorem length_cntT {n : Nat} : ∀ (ms : List Mk), (∀ m ∈ ms, ∃ t : Nat, t < n ∧ m.1 = (t : Int)) → ms.length = sumTo n (cntT ms)
  | [], _ => by
    have : sumTo n (cntT []) = 0 := by
      have e : cntT [] = fun _ => 0 := rfl
      rw [e]
      induction n with
      | zero => rfl
      | succ n ih =>
        have e2 : sumTo (n + 1) (fun _ => 0) = sumTo n (fun _ => 0) + 0 := rfl
        rw [e2, ih (fun m hm => by cases hm)]
    rw [this]; rfl
  | m :: ms, h => by
    obtain ⟨t, ht, e⟩ := h m (List.mem_cons_self ..)
    have ih := length_cntT ms (fun m' hm => h m' (List.mem_cons_of_mem _ hm))
    have e1 : cntT (m :: ms) = fun t' => cntT ms t' + if (t : Int) = (t' : Int) then 1 else 0 := by
      funext t'
      rw [cntT_cons, e]
    rw [e1, sumTo_add, ← ih, sumTo_ind, if_pos ht]
    rfl
theorem okMs_len {ts : List (List Op3)} {picks : List Int} {ms : List Mk} (h : okMs ts picks ms) : ms.length = sumTo ts.length (cntT ms) :=
  length_cntT ms fun m hm => by
    obtain ⟨i, hi⟩ := List.mem_iff_getElem?.1 hm
    obtain ⟨t, q, h1, h2, _⟩ := h i m hi
    exact ⟨t, h1, by rw [h2]⟩
#print axioms plays_ok
end Go.Proofs.Ytimlbbleblijnaa.Co

namespace Go.Proofs.Ytimlbbleblijnaa.Co
open Go Go.Conc Go.RowKit
set_option linter.unusedVariables false
set_option linter.unusedSimpArgs false
theorem round_eq (p : Int) (n : Nat) (hn : 0 < n) : (if p.tmod n < 0 then p.tmod n + n else p.tmod n) = (pickIx p n : Int) := by
  unfold pickIx
  have h1 : -(n : Int) < p.tmod n := Int.lt_tmod_of_pos p (by omega)
  have h2 : p.tmod n < n := Int.tmod_lt_of_pos p (by omega)
  split
  · have e : (p.tmod n + n).tmod n = p.tmod n + n := Int.tmod_eq_of_lt (by omega) (by omega)
    rw [e]
    omega
  · have e : (p.tmod n + n).tmod n = p.tmod n := by
      rw [Int.tmod_eq_emod_of_nonneg (by omega), Int.add_emod_right, Int.emod_eq_of_lt (by omega) h2]
    rw [e]
    omega
set_option maxHeartbeats 400000 in
theorem round_any (p : Int) (n : Nat) (hn : 0 < n) (hn2 : n ≤ 1000000000000) (hp : -9223372036854775808 ≤ p ∧ p ≤ 9223372036854775807) (w : World) :
    Calls Try.prog 26 #[.int .i64 p, .int .i64 (n : Int)] w fun e w' => e = .returned (.int .i64 (pickIx p n : Int)) ∧ w' = w := by
  have h1 : -(n : Int) < p.tmod n := Int.lt_tmod_of_pos p (by omega)
  have h2 : p.tmod n < n := Int.tmod_lt_of_pos p (by omega)
  have h0 : ¬ (n : Int) = 0 := by omega
  have hr := round_eq p n hn
  obtain ⟨r, hr'⟩ : ∃ r, r = p.tmod n := ⟨_, rfl⟩
  obtain ⟨z, hz⟩ : ∃ z : Int, z = (pickIx p n : Int) := ⟨_, rfl⟩
  rw [← hz] at hr ⊢
  rw [← hr'] at hr h1 h2
  replace hz := Lib.hid hz
  have hrr : p.tmod n = r := hr'.symm
  clear hr'
  by_cases hneg : r < 0
  · rw [if_pos hneg] at hr
    have hw : IntKind.i64.wrap (r + n) = z := by rw [IntKind.wrap_i64]; omega
    replace hr := Lib.hid hr
    go_enter Try.func26, Try.ntmps26
    go_wp2
    go_ret
    exact ⟨rfl, rfl⟩
  · rw [if_neg hneg] at hr
    subst hr
    go_enter Try.func26, Try.ntmps26
    go_wp2
    go_ret
    exact ⟨rfl, rfl⟩
theorem mksV_get : ∀ {ms : List Mk} {i : Nat} {m : Mk}, ms[i]? = some m → ∀ {j : Nat}, j < 4 → (mksV ms)[i * 4 + j]? = (mkV m)[j]?
  | m0 :: ms, 0, m, h, j, hj => by
    cases h
    have e : mksV (m0 :: ms) = mkV m0 ++ mksV ms := by simp [mksV]
    rw [e, List.getElem?_append_left (by simp [mkV]; omega), Nat.zero_mul, Nat.zero_add]
  | m0 :: ms, i + 1, m, h, j, hj => by
    have e : mksV (m0 :: ms) = mkV m0 ++ mksV ms := by simp [mksV]
    have hl : (mkV m0).length = 4 := rfl
    rw [e, List.getElem?_append_right (by rw [hl]; omega), hl, show (i + 1) * 4 + j - 4 = i * 4 + j by omega]
    exact mksV_get (by simpa using h) hj
  | [], _, _, h, _, _ => by simp at h
structure AtRow (x wr : World) (ab n : Nat) (c : Nat → Nat) : Prop where
  size : wr.heap.size = x.heap.size
  old : ∀ b, b ≠ ab → wr.heap[b]? = x.heap[b]?
  row : wr.heap[ab]? = some (.cells ((List.range n).map fun t => .int .i64 (c t : Int)).toArray 3)
theorem AtRow.cell {x wr : World} {ab n t : Nat} {c : Nat → Nat} (h : AtRow x wr ab n c) (ht : t < n) : wr.cell? ⟨ab, t, none⟩ = some (.int .i64 (c t : Int)) := by
  refine obj_cell h.row ?_
  simp [ht]
theorem AtRow.set {x wr : World} {ab n t : Nat} {c : Nat → Nat} (h : AtRow x wr ab n c) (ht : t < n) : AtRow x (wr.setCell ⟨ab, t, none⟩ (.int .i64 ((c t + 1 : Nat) : Int))) ab n (fun t' => c t' + if t' = t then 1 else 0) := by
  refine ⟨by rw [← h.size]; simp [World.setCell], fun b hb => by rw [heap_setCell_ne (a := ⟨ab, t, none⟩) (fun e => hb e.symm)]; exact h.old b hb, ?_⟩
  have hl := (Array.getElem?_eq_some_iff.1 h.row).1
  have e : (wr.setCell ⟨ab, t, none⟩ (.int .i64 ((c t + 1 : Nat) : Int))).heap[ab]? = some (.cells ((((List.range n).map fun t => Value.int .i64 (c t : Int)).toArray).setIfInBounds t (.int .i64 ((c t + 1 : Nat) : Int))) 3) := heap_set (a := ⟨ab, t, none⟩) (w := wr) rfl h.row
  rw [e]
  congr 2
  refine Array.ext_getElem? fun i => ?_
  rw [Array.getElem?_setIfInBounds]
  by_cases hi : t = i
  · subst hi
    simp [ht]
  · have hi' : ¬ i = t := fun e => hi e.symm
    rw [if_neg hi]
    by_cases hin : i < n
    · simp [hin, hi']
    · simp [hin]
end Go.Proofs.Ytimlbbleblijnaa.Co

namespace Go.Proofs.Ytimlbbleblijnaa.Co
open Go Go.Conc Go.RowKit
set_option linter.unusedVariables false
set_option linter.unusedSimpArgs false
def nextF (picks : List Int) (drain : Bool) (n : Nat) (alive : Nat → Bool) (K nxt : Nat) : Int × Nat × Nat :=
  if n = 0 then (-2, K, nxt) else
  match picks[K]? with
  | some p => (if alive (pickIx p n) then (pickIx p n : Int) else -1, K + 1, nxt)
  | none => if drain then (match nx alive n n nxt with
    | some t => ((t : Int), K + 1, (t + 1) % n)
    | none => (-2, K, nxt)) else (-2, K, nxt)
def runCells (pv : Value) (drain : Bool) (K nxt : Nat) : Obj := .cells #[pv, .bool drain, .int .i64 (K : Int), .int .i64 (nxt : Int)] 89
structure RunTo (rb : Nat) (pv : Value) (drain : Bool) (K nxt : Nat) (x x' : World) : Prop where
  size : x'.heap.size = x.heap.size
  old : ∀ b, b ≠ rb → x'.heap[b]? = x.heap[b]?
  run : x'.heap[rb]? = some (runCells pv drain K nxt)
  io : x'.os = x.os ∧ x'.tape = x.tape ∧ x'.output = x.output
theorem RunTo.set2 {rb : Nat} {pv : Value} {drain : Bool} {K nxt : Nat} {x x' : World} (h : RunTo rb pv drain K nxt x x') (K' : Nat) : RunTo rb pv drain K' nxt x (x'.setCell ⟨rb, 2, none⟩ (.int .i64 (K' : Int))) := by
  refine ⟨by rw [← h.size]; simp [World.setCell], fun b hb => by rw [heap_setCell_ne (a := ⟨rb, 2, none⟩) (fun e => hb e.symm)]; exact h.old b hb, ?_, h.io⟩
  exact heap_set (a := ⟨rb, 2, none⟩) (w := x') rfl h.run
theorem RunTo.set3 {rb : Nat} {pv : Value} {drain : Bool} {K nxt : Nat} {x x' : World} (h : RunTo rb pv drain K nxt x x') (n' : Nat) : RunTo rb pv drain K n' x (x'.setCell ⟨rb, 3, none⟩ (.int .i64 (n' : Int))) := by
  refine ⟨by rw [← h.size]; simp [World.setCell], fun b hb => by rw [heap_setCell_ne (a := ⟨rb, 3, none⟩) (fun e => hb e.symm)]; exact h.old b hb, ?_, h.io⟩
  exact heap_set (a := ⟨rb, 3, none⟩) (w := x') rfl h.run
theorem RunTo.drewN {rb : Nat} {pv : Value} {drain : Bool} {K nxt : Nat} {x x' : World} (h : RunTo rb pv drain K nxt x x') (n : Nat) : RunTo rb pv drain K nxt x (x'.drewN n) := ⟨h.size, h.old, h.run, h.io⟩
theorem RunTo.drew {rb : Nat} {pv : Value} {drain : Bool} {K nxt : Nat} {x x' : World} (h : RunTo rb pv drain K nxt x x') : RunTo rb pv drain K nxt x x'.drew := ⟨h.size, h.old, h.run, h.io⟩
set_option maxRecDepth 100000 in
set_option maxHeartbeats 2000000 in
theorem next_none {x : World} {rb eb K nxt : Nat} {pv : Value} {drain : Bool} (hr : x.heap[rb]? = some (runCells pv drain K nxt)) :
    Calls Try.prog 66 #[.pointer (some ⟨rb, 0, none⟩), .slice (some ⟨eb, 0, none⟩) 0 0] x fun e x' => e = .returned (.int .i64 (-2)) ∧ RunTo rb pv drain K nxt x x' := by
  have hR : RunTo rb pv drain K nxt x x := ⟨rfl, fun _ _ => rfl, hr, rfl, rfl, rfl⟩
  replace hR := Lib.hid hR
  clear hr
  go_enter Try.func66, Try.ntmps66
  go_wp2
  go_ret
  exact ⟨rfl, hR.out⟩
set_option maxRecDepth 100000 in
set_option maxHeartbeats 2000000 in
theorem next_pick {x : World} {rb eb K nxt n np pcap pb po : Nat} {p : Int} {a : Bool} {drain : Bool} (hn0 : 0 < n) (hn : n ≤ 8) (hK : K < np) (hnp : np ≤ 1000000000000) (hp : -9223372036854775808 ≤ p ∧ p ≤ 9223372036854775807)
    (hr : x.heap[rb]? = some (runCells (.slice (some ⟨pb, po, none⟩) np pcap) drain K nxt)) (hc : x.cell? ⟨pb, po + K, none⟩ = some (.int .i64 p)) (he : x.cell? ⟨eb, pickIx p n, none⟩ = some (.bool (!a))) (d1 : rb ≠ eb) :
    Calls Try.prog 66 #[.pointer (some ⟨rb, 0, none⟩), .slice (some ⟨eb, 0, none⟩) n n] x fun e x' => e = .returned (.int .i64 (if a then (pickIx p n : Int) else -1)) ∧ RunTo rb (.slice (some ⟨pb, po, none⟩) np pcap) drain (K + 1) nxt x x' := by
  have hR : RunTo rb (.slice (some ⟨pb, po, none⟩) np pcap) drain K nxt x x := ⟨rfl, fun _ _ => rfl, hr, rfl, rfl, rfl⟩
  have hlt := pickIx_lt p hn0
  have cl := fun W => round_any p n hn0 (by omega) hp W
  obtain ⟨t, ht⟩ : ∃ t, t = pickIx p n := ⟨_, rfl⟩
  rw [← ht] at he hlt cl ⊢
  have c0 : x.cell? ⟨rb, 0, none⟩ = some (.slice (some ⟨pb, po, none⟩) np pcap) := obj_cell hr rfl
  have c2 : x.cell? ⟨rb, 2, none⟩ = some (.int .i64 (K : Int)) := obj_cell hr rfl
  have hz : x.frozen? ⟨rb, 2, none⟩ = false := obj_thaw hr 2
  have q0 : ¬ (n : Int) = 0 := by omega
  have q0' : ((n : Int) == 0) = false := by simp; omega
  have q1 : (K : Int) < (np : Int) := by omega
  have q2 : (0 : Int) ≤ (K : Int) := by omega
  have q3 : (0 : Int) ≤ (t : Int) := by omega
  have q4 : (t : Int) < (n : Int) := by omega
  have p1 : decide ((K : Int) < (np : Int)) = true := decide_eq_true q1
  have hw : IntKind.i64.wrap ((K : Int) + 1) = ((K + 1 : Nat) : Int) := by rw [IntKind.wrap_i64]; omega
  have hfin : ∀ nq : Nat, RunTo rb (.slice (some ⟨pb, po, none⟩) np pcap) drain (K + 1) nxt x ((x.drewN nq).setCell ⟨rb, 2, none⟩ (.int .i64 ((K + 1 : Nat) : Int))) := fun nq => (hR.drewN nq).set2 (K + 1)
  replace ht := Lib.hid ht
  replace hR := Lib.hid hR
  replace hr := Lib.hid hr
  replace hfin := Lib.hid hfin
  have hd1 : eb ≠ rb := fun e => d1 e.symm
  cases a with
  | true =>
    go_enter Try.func66, Try.ntmps66
    go_wp2_with fail
    go_quiet (fail)
    go_wp2_with fail
    go_quiet ((go_at_call 26; exact (cl _).mono (fun _ _ h => ⟨h.1, _, h.2⟩)))
    go_wp2_with fail
    go_ret
    exact ⟨rfl, hfin.out _⟩
  | false =>
    go_enter Try.func66, Try.ntmps66
    go_wp2_with fail
    go_quiet (fail)
    go_wp2_with fail
    go_quiet ((go_at_call 26; exact (cl _).mono (fun _ _ h => ⟨h.1, _, h.2⟩)))
    go_wp2_with fail
    go_ret
    exact ⟨rfl, hfin.out _⟩
theorem nx_stop {alive : Nat → Bool} {n : Nat} : ∀ {m x : Nat}, x < n → (∀ j, j < m → alive ((x + j) % n) = false) → nx alive n m x = none
  | 0, _, _, _ => rfl
  | m + 1, x, hx, h => by
    have h0 := h 0 (by omega)
    rw [Nat.add_zero, Nat.mod_eq_of_lt hx] at h0
    rw [nx, h0]
    simp only [Bool.false_eq_true, if_false]
    refine nx_stop (Nat.mod_lt _ (by omega)) fun j hj => ?_
    rw [Nat.mod_add_mod, show x + 1 + j = x + (j + 1) by omega]
    exact h (j + 1) (by omega)
theorem nx_first {alive : Nat → Bool} {n : Nat} : ∀ {m i x : Nat}, x < n → i < m → (∀ j, j < i → alive ((x + j) % n) = false) → alive ((x + i) % n) = true → nx alive n m x = some ((x + i) % n)
  | 0, _, _, _, h, _, _ => absurd h (by omega)
  | m + 1, 0, x, hx, _, _, ha => by
    have e : (x + 0) % n = x := by rw [Nat.add_zero, Nat.mod_eq_of_lt hx]
    rw [e] at ha ⊢
    rw [nx, if_pos ha]
  | m + 1, i + 1, x, hx, hi, h, ha => by
    have h0 := h 0 (by omega)
    rw [Nat.add_zero, Nat.mod_eq_of_lt hx] at h0
    rw [nx, h0]
    simp only [Bool.false_eq_true, if_false]
    rw [nx_first (i := i) (Nat.mod_lt _ (by omega)) (by omega) (fun j hj => by
      rw [Nat.mod_add_mod, show x + 1 + j = x + (j + 1) by omega]
      exact h (j + 1) (by omega)) (by
      rw [Nat.mod_add_mod, show x + 1 + i = x + (i + 1) by omega]
      exact ha), Nat.mod_add_mod, show x + 1 + i = x + (i + 1) by omega]
theorem tmod_next (t n : Nat) : (((t : Int) + 1).tmod (n : Int)) = (((t + 1) % n : Nat) : Int) := by
  rw [Int.tmod_eq_emod_of_nonneg (by omega)]
  push_cast
  rfl
set_option maxRecDepth 100000 in
set_option maxHeartbeats 4000000 in
theorem next_drain {x : World} {rb eb K nxt n np pcap : Nat} {pa : Option Addr} {alive : Nat → Bool} {drain : Bool} (hn0 : 0 < n) (hn : n ≤ 8) (hK : np ≤ K) (hK2 : K ≤ 1000000000000000000) (hx : nxt < n)
    (hr : x.heap[rb]? = some (runCells (.slice pa np pcap) drain K nxt)) (he : ∀ t, t < n → x.cell? ⟨eb, t, none⟩ = some (.bool (!alive t))) (d1 : rb ≠ eb) :
    Calls Try.prog 66 #[.pointer (some ⟨rb, 0, none⟩), .slice (some ⟨eb, 0, none⟩) n n] x fun e x' => ∃ r K' nxt', (r, K', nxt') = (if drain then (match nx alive n n nxt with | some t => ((t : Int), K + 1, (t + 1) % n) | none => (-2, K, nxt)) else (-2, K, nxt)) ∧ e = .returned (.int .i64 r) ∧ RunTo rb (.slice pa np pcap) drain K' nxt' x x' := by
  have hR : RunTo rb (.slice pa np pcap) drain K nxt x x := ⟨rfl, fun _ _ => rfl, hr, rfl, rfl, rfl⟩
  have c0 : x.cell? ⟨rb, 0, none⟩ = some (.slice pa np pcap) := obj_cell hr rfl
  have c1 : x.cell? ⟨rb, 1, none⟩ = some (.bool drain) := obj_cell hr rfl
  have c2 : x.cell? ⟨rb, 2, none⟩ = some (.int .i64 (K : Int)) := obj_cell hr rfl
  obtain ⟨res, hres⟩ : ∃ res : Int × Nat × Nat, res = (if drain then (match nx alive n n nxt with | some t => ((t : Int), K + 1, (t + 1) % n) | none => (-2, K, nxt)) else (-2, K, nxt)) := ⟨_, rfl⟩
  rw [← hres]
  replace hres := Lib.hid hres
  have q0 : ¬ (n : Int) = 0 := by omega
  have q0' : ((n : Int) == 0) = false := by simp; omega
  have q1 : ¬ (K : Int) < (np : Int) := by omega
  have p1 : decide ((K : Int) < (np : Int)) = false := decide_eq_false q1
  replace hr := Lib.hid hr
  replace he := Lib.hid he
  replace hR := Lib.hid hR
  replace hx := Lib.hid hx
  go_enter Try.func66, Try.ntmps66
  go_wp2_with fail
  go_quiet (fail)
  go_wp2_with fail
  go_loopw [7, 8] (fun iv tv wr => ∃ i : Nat, iv = .int .i64 (i : Int) ∧ i ≤ n ∧ (drain = false → i = 0) ∧ Hid (∀ j, j < i → alive ((nxt + j) % n) = false) ∧ Hid (RunTo rb (.slice pa np pcap) drain K ((nxt + i) % n) x wr)) (fun iv _ _ => n + 1 - natOfV iv)
  case atStart =>
    refine ⟨0, rfl, Nat.zero_le _, fun _ => rfl, fun j hj => absurd hj (by omega), ?_⟩
    show RunTo rb (.slice pa np pcap) drain K ((nxt + 0) % n) x _
    rw [Nat.add_zero, Nat.mod_eq_of_lt hx.out]
    exact hR.out.drewN _
  case round =>
    obtain ⟨i, rfl, hi, hi0, hal, hrun⟩ := hrel
    have d1' : wr.cell? ⟨rb, 1, none⟩ = some (.bool drain) := obj_cell hrun.out.run rfl
    have d2' : wr.cell? ⟨rb, 2, none⟩ = some (.int .i64 (K : Int)) := obj_cell hrun.out.run rfl
    have d3' : wr.cell? ⟨rb, 3, none⟩ = some (.int .i64 (((nxt + i) % n : Nat) : Int)) := obj_cell hrun.out.run rfl
    have hz2 : wr.frozen? ⟨rb, 2, none⟩ = false := obj_thaw hrun.out.run 2
    have hz3 : wr.frozen? ⟨rb, 3, none⟩ = false := obj_thaw hrun.out.run 3
    obtain ⟨t, ht⟩ : ∃ t, t = (nxt + i) % n := ⟨_, rfl⟩
    have htn : t < n := by rw [ht]; exact Nat.mod_lt _ hn0
    rw [← ht] at d3'
    have hct : wr.cell? ⟨eb, t, none⟩ = some (.bool (!alive t)) := (World.cell?_of_block (hrun.out.old eb (fun e => d1 e.symm))).trans (he.out t htn)
    have htm := tmod_next t n
    obtain ⟨t1, ht1⟩ : ∃ t1, t1 = (t + 1) % n := ⟨_, rfl⟩
    rw [← ht1] at htm
    have hw1 : IntKind.i64.wrap ((t : Int) + 1) = (t : Int) + 1 := by rw [IntKind.wrap_i64]; omega
    have hw2 : IntKind.i64.wrap ((K : Int) + 1) = ((K + 1 : Nat) : Int) := by rw [IntKind.wrap_i64]; omega
    have ht1' : t1 = (nxt + (i + 1)) % n := by rw [ht1, ht, Nat.mod_add_mod, Nat.add_assoc]
    replace ht := Lib.hid ht
    replace ht1 := Lib.hid ht1
    replace ht1' := Lib.hid ht1'
    cases drain with
    | false =>
      obtain rfl := hi0 rfl
      have e0 := hrun.out
      rw [Nat.add_zero, Nat.mod_eq_of_lt hx.out] at e0
      replace e0 := Lib.hid e0
      go_wp2_with fail
      go_ret
      exact ⟨-2, K, nxt, by rw [hres.out]; rfl, rfl, e0.out⟩
    | true =>
      by_cases hlt : i < n
      · have g1 : (i : Int) < (n : Int) := by omega
        have g2 : (0 : Int) ≤ (t : Int) := by omega
        have g3 : (t : Int) < (n : Int) := by omega
        have g4 : decide ((i : Int) < (n : Int)) = true := decide_eq_true g1
        have hS3 : RunTo rb (.slice pa np pcap) true K t1 x (wr.setCell ⟨rb, 3, none⟩ (.int .i64 (t1 : Int))) := hrun.out.set3 t1
        have hS2 : RunTo rb (.slice pa np pcap) true (K + 1) t1 x ((wr.setCell ⟨rb, 3, none⟩ (.int .i64 (t1 : Int))).setCell ⟨rb, 2, none⟩ (.int .i64 ((K + 1 : Nat) : Int))) := hS3.set2 (K + 1)
        replace hS3 := Lib.hid hS3
        replace hS2 := Lib.hid hS2
        have hd1 : eb ≠ rb := fun e => d1 e.symm
        cases hav : alive t with
        | true =>
          rw [hav] at hct
          replace hav := Lib.hid hav
          go_wp2_with fail
          go_ret
          refine ⟨(t : Int), K + 1, t1, ?_, rfl, hS2.out⟩
          simp only [hres.out, if_true]
          rw [nx_first (i := i) hx.out hlt hal.out (by rw [← ht.out]; exact hav.out), ← ht.out, ht1.out]
        | false =>
          rw [hav] at hct
          replace hav := Lib.hid hav
          have hiw : IntKind.i64.wrap ((i : Int) + 1) = ((i + 1 : Nat) : Int) := by rw [IntKind.wrap_i64]; omega
          go_wp2_with fail
          refine ⟨⟨i + 1, by rw [Int.natCast_add]; rfl, by omega, fun h => (by cases h), fun j hj => ?_, ?_⟩, by simp [natOfV]; omega⟩
          · by_cases hji : j < i
            · exact hal.out j hji
            · rw [show j = i by omega, ← ht.out]; exact hav.out
          · show RunTo _ _ _ _ _ _ _
            rw [← ht1'.out]
            exact hS3.out
      · obtain rfl : i = n := by omega
        have g1 : ¬ (i : Int) < (i : Int) := by omega
        have e0 := hrun.out
        rw [Nat.add_mod_right, Nat.mod_eq_of_lt hx.out] at e0
        replace e0 := Lib.hid e0
        go_wp2_with fail
        go_ret
        refine ⟨-2, K, nxt, ?_, rfl, e0.out⟩
        simp only [hres.out, if_true]
        rw [nx_stop hx.out hal.out]
theorem next_any {x : World} {rb eb K nxt n pcap pb po : Nat} {pa : Option Addr} {picks : List Int} {alive : Nat → Bool} {drain : Bool} (hn : n ≤ 8) (hK2 : K ≤ 1000000000000000000) (hnp : picks.length ≤ 1000000000000) (hp64 : ∀ p ∈ picks, -9223372036854775808 ≤ p ∧ p ≤ 9223372036854775807) (hx : 0 < n → nxt < n)
    (hr : x.heap[rb]? = some (runCells (.slice pa picks.length pcap) drain K nxt)) (hpa : picks ≠ [] → pa = some ⟨pb, po, none⟩) (hps : ∀ i p, picks[i]? = some p → x.cell? ⟨pb, po + i, none⟩ = some (.int .i64 p)) (he : ∀ t, t < n → x.cell? ⟨eb, t, none⟩ = some (.bool (!alive t))) (d1 : rb ≠ eb) :
    Calls Try.prog 66 #[.pointer (some ⟨rb, 0, none⟩), .slice (some ⟨eb, 0, none⟩) n n] x fun e x' => e = .returned (.int .i64 (nextF picks drain n alive K nxt).1) ∧ RunTo rb (.slice pa picks.length pcap) drain (nextF picks drain n alive K nxt).2.1 (nextF picks drain n alive K nxt).2.2 x x' := by
  unfold nextF
  by_cases hn0 : n = 0
  · subst hn0
    rw [if_pos rfl]
    exact next_none hr
  · rw [if_neg hn0]
    cases hp : picks[K]? with
    | some p =>
      have hlt := (List.getElem?_eq_some_iff.1 hp).1
      obtain rfl := hpa (by intro e; rw [e] at hlt; exact absurd hlt (Nat.not_lt_zero _))
      dsimp only
      exact next_pick (Nat.pos_of_ne_zero hn0) hn hlt hnp (hp64 p (List.mem_of_getElem? hp)) hr (hps K p hp) (he _ (pickIx_lt p (Nat.pos_of_ne_zero hn0))) d1
    | none =>
      dsimp only
      refine (next_drain (alive := alive) (Nat.pos_of_ne_zero hn0) hn (List.getElem?_eq_none_iff.1 hp) hK2 (hx (Nat.pos_of_ne_zero hn0)) hr he d1).mono ?_
      rintro e x' ⟨r, K', nxt', h1, rfl, h2⟩
      rw [← h1]
      exact ⟨rfl, h2⟩
#print axioms next_any
end Go.Proofs.Ytimlbbleblijnaa.Co

namespace Go.Proofs.Ytimlbbleblijnaa.Co
open Go Go.Conc Go.RowKit
set_option linter.unusedVariables false
set_option linter.unusedSimpArgs false
theorem info3 : ∃ i : TypeInfo, Try.prog.info? 3 = some i ∧ i.zero = some (.int .i64 0) ∧ i.size = 1 ∧ i.bytes = 8 := by
  have h : (Try.prog.info? 3).isSome = true := by kernel_rfl
  obtain ⟨i, hi⟩ := Option.isSome_iff_exists.1 h
  have h2 : (Try.prog.info? 3).map (fun i => (i.zero, i.size, i.bytes)) = some (some (.int .i64 0), 1, 8) := by kernel_rfl
  rw [hi] at h2
  simp only [Option.map_some, Option.some.injEq, Prod.mk.injEq] at h2
  exact ⟨i, hi, h2.1, h2.2.1, h2.2.2⟩
theorem made_eq (n : Nat) : madeCells (Value.int .i64 0).cells n = ((List.range n).map fun _ => Value.int .i64 0).toArray := by
  apply Array.ext
  · simp [madeCells]
  · intro i h1 h2
    simp [madeCells, Value.cells, Nat.mod_one]
theorem make_at (n : Nat) (hn : n ≤ 8) (x : World) : (Instr.makeSlice 23 (.int .i64 (n : Int)) (.int .i64 (n : Int))).run Try.prog x = .ok (.slice (some ⟨x.heap.size, 0, none⟩) n n) (x.alloc (.cells ((List.range n).map fun _ => Value.int .i64 0).toArray 3)) := by
  obtain ⟨i0, hi, hz, hs, hb⟩ := info3
  have h := run_makeSlice (P := Try.prog) (w := x) 23 3 i0 _ Try.underlying23 hi hz .i64 .i64 (n : Int) (n : Int) (by omega) (Int.le_refl _) (by rw [hs, Int.toNat_natCast]; omega) (by rw [hb]; push_cast; omega) (by omega)
  rw [Int.toNat_natCast, hs, Nat.mul_one, made_eq n] at h
  exact h
end Go.Proofs.Ytimlbbleblijnaa.Co
