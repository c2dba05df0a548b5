/- Lemmas for the laws of this seat, laid together of PGek, PGel, PGem, PGen, PGeo, PGep. -/
import Derived.Test.YtimlbbleblijnaaS22

namespace Go.Proofs.Ytimlbbleblijnaa.Co
open Go Go.Conc Go.RowKit
open Go.ConcN (sumTo upd sumTo_upd upd_ne upd_same sumTo_congr le_sumTo)
set_option linter.unusedVariables false
set_option linter.unusedSimpArgs false
def incO (o : Op3) : Op3 := (o.1, o.2.1, IntKind.i64.wrap (o.2.2 + 1))
def fillO (l : List Op3) (k : Nat) : List Op3 := (l.take k).map incO ++ l.drop k
theorem fillO_0 (l : List Op3) : fillO l 0 = l := by simp [fillO]
theorem fillO_all (l : List Op3) : fillO l l.length = l.map incO := by simp [fillO]
theorem fillO_get {l : List Op3} {k : Nat} {o : Op3} (h : l[k]? = some o) : (fillO l k)[k]? = some o := by
  have hk := (List.getElem?_eq_some_iff.1 h).1
  unfold fillO
  rw [List.getElem?_append_right (by simp; omega)]
  simp only [List.length_map, List.length_take, List.getElem?_drop]
  rw [← h]
  congr 1
  omega
theorem fillO_set {l : List Op3} {k : Nat} {o : Op3} (h : l[k]? = some o) : (fillO l k).set k (incO o) = fillO l (k + 1) := by
  obtain ⟨hk, he⟩ := List.getElem?_eq_some_iff.1 h
  unfold fillO
  have e0 : ((l.take k).map incO).length = k := by simp; omega
  rw [List.set_append_right _ _ (by omega), e0, Nat.sub_self, List.drop_eq_getElem_cons hk, List.set_cons_zero, List.take_add_one, h]
  simp [he]
theorem opsV_set : ∀ (l : List Op3) (k : Nat) (o : Op3) (v : Int), l[k]? = some o → (opsV l).set (k * 3 + 2) (.int .i64 v) = opsV (l.set k (o.1, o.2.1, v))
  | [], k, o, v, h => by simp at h
  | o0 :: l, 0, o, v, h => by
    have h' : o0 = o := by simpa using h
    subst h'
    simp [opsV, opV]
  | o0 :: l, k + 1, o, v, h => by
    have e : ∀ l, opsV (o0 :: l) = opV o0 ++ opsV l := fun l => by simp [opsV]
    have e0 : (opV o0).length = 3 := rfl
    rw [List.set_cons_succ, e, e, List.set_append_right _ _ (by rw [e0]; omega), e0, ← opsV_set l k o v (by simpa using h)]
    congr 2
    omega
theorem ownO_set {l : List Op3} {k : Nat} {o : Op3} {v : Int} (h : l[k]? = some o) : (ownO l).set (k * 3 + 2) (.int .i64 v) = ownO (l.set k (o.1, o.2.1, v)) := by
  have hk := (List.getElem?_eq_some_iff.1 h).1
  unfold ownO
  rw [List.set_append_left _ _ (by rw [opsV_len]; omega), opsV_set l k o v h]
structure W1 (x wr : World) (LB : Nat → Nat) (ts : List (List Op3)) (i : Nat) : Prop where
  ops : ∀ j l, j < ts.length → ts[j]? = some l → wr.heap[LB j]? = some (.cells (ownO (if j < i then l.map incO else l)).toArray 34)
  old : ∀ b, (∀ j, j < ts.length → b ≠ LB j) → wr.heap[b]? = x.heap[b]?
  size : wr.heap.size = x.heap.size
set_option maxRecDepth 100000 in
set_option maxHeartbeats 4000000 in
theorem gS12_wp {f : Nat → Value} {x : World} {B : Nat} {ov : Value} {LB : Nat → Nat} {ts : List (List Op3)} {Q : Exit → Act → World → Prop} (h8 : f 8 = ov) (hO : OwnT B x ov LB ts ts.length) (hn : ts.length ≤ 1000000000000) (hll : ∀ l ∈ ts, l.length ≤ 100000000000)
    (hQ : ∀ T' x', T'.size = 136 → (∀ j, j < 17 → T'[j]? = some (f j)) → W1 x x' LB ts ts.length → Q .normal ⟨T', []⟩ x') : gS12.wp Try.prog Q ⟨(List.map f (List.range 136)).toArray, []⟩ x := by
  obtain ⟨A, g, ocap, rfl, hA, hAb, hcs⟩ := owns_cells hO.row
  have h00 : W1 x x LB ts 0 := ⟨fun j l h1 h2 => by rw [if_neg (Nat.not_lt_zero _)]; exact hO.ops j l h1 h2, fun _ _ => rfl, rfl⟩
  replace hO := Lib.hid hO
  replace hcs := Lib.hid hcs
  simp only [List.range, List.range.loop, List.map_cons, List.map_nil, h8]
  simp only [gS12, gT12, gT11, gT10, gT9, gT8, gT7, gT6, gT5, gT4, gT3, gT2, gT1, gT0, Try.f3, Option.getD_some]
  go_wp2_with fail
  go_loopw [17] (fun v wr => ∃ i : Nat, v = .int .i64 (i : Int) ∧ i ≤ ts.length ∧ Hid (W1 x wr LB ts i)) (fun v _ => ts.length + 1 - natOfV v)
  case atStart => exact ⟨0, rfl, Nat.zero_le _, h00⟩
  case round =>
    rename World => wo
    obtain ⟨i, rfl, hi, hw⟩ := hrel
    by_cases hlt : i < ts.length
    · obtain rfl := hA (by omega)
      have g1 : (i : Int) < (ts.length : Int) := by omega
      have g2 : (0 : Int) ≤ (i : Int) := by omega
      have hiw : IntKind.i64.wrap ((i : Int) + 1) = ((i + 1 : Nat) : Int) := by rw [IntKind.wrap_i64]; omega
      have e9 : natOfV (.int .i64 ((i : Int) + 1)) = i + 1 := by simp [natOfV]
      obtain ⟨l, hl⟩ : ∃ l, ts[i]? = some l := ⟨_, List.getElem?_eq_getElem hlt⟩
      have hlen : lenOf ts i = l.length := by unfold lenOf; rw [hl]; rfl
      have hlb := hll l (List.mem_of_getElem? hl)
      have hgn : ∀ j, j < ts.length → g ≠ LB j := fun j hj e => hO.out.ne j hj (by rw [hAb (by omega), e])
      have c2 := hcs.out i _ (rowO_get hlt)
      rw [hlen] at c2
      have hb0 := hw.out.ops i l hlt hl
      have c3 : wo.cell? ⟨g, i, none⟩ = some (.slice (some ⟨LB i, 0, none⟩) l.length (l.length + 2)) := (World.cell?_of_block (a := ⟨g, i, none⟩) (hw.out.old g hgn)).trans c2
      rw [if_neg (Nat.lt_irrefl _)] at hb0
      replace hlen := Lib.hid hlen
      go_wp2_with fail
      go_loopw [18] (fun v w2 => ∃ k : Nat, v = .int .i64 (k : Int) ∧ k ≤ l.length ∧ Hid (w2.heap[LB i]? = some (.cells (ownO (fillO l k)).toArray 34)) ∧ Hid (∀ b, b ≠ LB i → w2.heap[b]? = wo.heap[b]?) ∧ Hid (w2.heap.size = wo.heap.size)) (fun v _ => l.length + 1 - natOfV v)
      case atStart => exact ⟨0, rfl, Nat.zero_le _, by rw [fillO_0]; exact hb0, fun _ _ => rfl, rfl⟩
      case round =>
        obtain ⟨k, rfl, hk, hr, ho, hz⟩ := hrel
        have c4 : wr.cell? ⟨g, i, none⟩ = some (.slice (some ⟨LB i, 0, none⟩) l.length (l.length + 2)) := (World.cell?_of_block (a := ⟨g, i, none⟩) (ho.out g (hgn i hlt))).trans c3
        by_cases hkl : k < l.length
        · obtain ⟨o, hop⟩ : ∃ o, l[k]? = some o := ⟨_, List.getElem?_eq_getElem hkl⟩
          have g3 : (k : Int) < (l.length : Int) := by omega
          have g4 : (0 : Int) ≤ (k : Int) := by omega
          have hkw : IntKind.i64.wrap ((k : Int) + 1) = ((k + 1 : Nat) : Int) := by rw [IntKind.wrap_i64]; omega
          have e8 : natOfV (.int .i64 ((k : Int) + 1)) = k + 1 := by simp [natOfV]
          have c5 : wr.cell? ⟨LB i, k * 3 + 2, none⟩ = some (.int .i64 o.2.2) := obj_cell hr.out (by rw [← Array.getElem?_toList]; exact (ownO_op (fillO_get hop)).2.2)
          have z5 := obj_thaw hr.out (k * 3 + 2)
          obtain ⟨nv, hnv⟩ : ∃ nv, nv = IntKind.i64.wrap (o.2.2 + 1) := ⟨_, rfl⟩
          have hs : (wr.setCell ⟨LB i, k * 3 + 2, none⟩ (.int .i64 nv)).heap[LB i]? = some (.cells (ownO (fillO l (k + 1))).toArray 34) := by
            have h1 := heap_set (a := ⟨LB i, k * 3 + 2, none⟩) (v := .int .i64 nv) (w := wr) rfl hr.out
            rw [h1]
            have h2 := ownO_set (v := nv) (fillO_get hop)
            rw [hnv] at h2
            have h3 := fillO_set hop
            unfold incO at h3
            rw [h3] at h2
            rw [← h2, hnv]
            congr 2
            apply Array.ext'
            simp
          have ho2 : ∀ b, b ≠ LB i → (wr.setCell ⟨LB i, k * 3 + 2, none⟩ (.int .i64 nv)).heap[b]? = wo.heap[b]? := fun b hb => (heap_setCell_ne (a := ⟨LB i, k * 3 + 2, none⟩) (fun e => hb e.symm)).trans (ho.out b hb)
          have hz2 : (wr.setCell ⟨LB i, k * 3 + 2, none⟩ (.int .i64 nv)).heap.size = wo.heap.size := by rw [← hz.out]; simp [World.setCell]
          have hnv' := hnv.symm
          replace hnv := Lib.hid hnv
          replace hs := Lib.hid hs
          replace ho2 := Lib.hid ho2
          replace hz2 := Lib.hid hz2
          go_wp2_with fail
          exact ⟨⟨k + 1, by rw [Int.natCast_add]; rfl, by omega, hs.out, ho2.out, hz2.out⟩, by rw [e8]; simp [natOfV]; omega⟩
        · obtain rfl : l.length = k := by omega
          have g3 : ¬ (l.length : Int) < (l.length : Int) := by omega
          have hw2 : W1 x wr LB ts (i + 1) := by
            refine ⟨fun j l' hj hl' => ?_, fun b hb => (ho.out b (hb i hlt)).trans (hw.out.old b hb), hz.out.trans hw.out.size⟩
            by_cases e : j = i
            · subst e
              rw [hl] at hl'
              cases hl'
              rw [if_pos (by omega), ← fillO_all]
              exact hr.out
            · have hne : LB j ≠ LB i := fun h => e (hO.out.inj j i hj hlt h)
              rw [ho.out _ hne, hw.out.ops j l' hj hl']
              by_cases h1 : j < i
              · rw [if_pos h1, if_pos (by omega)]
              · rw [if_neg h1, if_neg (by omega)]
          replace hw2 := Lib.hid hw2
          go_wp2_with fail
          exact ⟨⟨i + 1, by rw [Int.natCast_add]; rfl, by omega, hw2.out⟩, by rw [e9]; simp [natOfV]; omega⟩
    · obtain rfl : ts.length = i := by omega
      have g1 : ¬ (ts.length : Int) < (ts.length : Int) := by omega
      go_wp2_with fail
      exact hQ _ _ (by simp) (fun j hj => by
        match j, hj with
        | 0, _ | 1, _ | 2, _ | 3, _ | 4, _ | 5, _ | 6, _ | 7, _ | 8, _ | 9, _ | 10, _ | 11, _ | 12, _ | 13, _ | 14, _ | 15, _ | 16, _ => simp [h8]
        | j + 17, h => exact absurd h (by omega)) hw.out
end Go.Proofs.Ytimlbbleblijnaa.Co

namespace Go.Proofs.Ytimlbbleblijnaa.Co
open Go Go.Conc Go.RowKit
open Go.ConcN (sumTo upd sumTo_upd upd_ne upd_same sumTo_congr le_sumTo)
set_option linter.unusedVariables false
set_option linter.unusedSimpArgs false
def negI (p : Int) : Int := IntKind.i64.wrap (-1 - p)
def fillP (l : List Int) (k : Nat) : List Int := (l.take k).map negI ++ l.drop k
theorem fillP_0 (l : List Int) : fillP l 0 = l := by simp [fillP]
theorem fillP_all (l : List Int) : fillP l l.length = l.map negI := by simp [fillP]
theorem fillP_get {l : List Int} {k : Nat} {o : Int} (h : l[k]? = some o) : (fillP l k)[k]? = some o := by
  have hk := (List.getElem?_eq_some_iff.1 h).1
  unfold fillP
  rw [List.getElem?_append_right (by simp; omega)]
  simp only [List.length_map, List.length_take, List.getElem?_drop]
  rw [← h]
  congr 1
  omega
theorem fillP_set {l : List Int} {k : Nat} {o : Int} (h : l[k]? = some o) : (fillP l k).set k (negI o) = fillP l (k + 1) := by
  obtain ⟨hk, he⟩ := List.getElem?_eq_some_iff.1 h
  unfold fillP
  have e0 : ((l.take k).map negI).length = k := by simp; omega
  rw [List.set_append_right _ _ (by omega), e0, Nat.sub_self, List.drop_eq_getElem_cons hk, List.set_cons_zero, List.take_add_one, h]
  simp [he]
theorem ownI_set {l : List Int} {k : Nat} {o v : Int} (h : l[k]? = some o) : (ownI l).set k (.int .i64 v) = ownI (l.set k v) := by
  have hk := (List.getElem?_eq_some_iff.1 h).1
  unfold ownI
  rw [List.set_append_left _ _ (by simpa using hk), List.map_set]
set_option maxRecDepth 100000 in
set_option maxHeartbeats 4000000 in
theorem gS13_wp {f : Nat → Value} {x : World} {ps : List Int} {b : Nat} {Q : Exit → Act → World → Prop} (h9 : f 9 = .slice (some ⟨b, 0, none⟩) ps.length (ps.length + 2)) (hown : x.heap[b]? = some (.cells (ownI ps).toArray 3)) (hpl : ps.length ≤ 1000000000000)
    (hQ : ∀ T' x', T'.size = 136 → (∀ j, j < 17 → T'[j]? = some (f j)) → x'.heap[b]? = some (.cells (ownI (ps.map negI)).toArray 3) → (∀ c, c ≠ b → x'.heap[c]? = x.heap[c]?) → x'.heap.size = x.heap.size → Q .normal ⟨T', []⟩ x') : gS13.wp Try.prog Q ⟨(List.map f (List.range 136)).toArray, []⟩ x := by
  replace hown := Lib.hid hown
  simp only [List.range, List.range.loop, List.map_cons, List.map_nil, h9]
  simp only [gS13, gT13, gT12, gT11, gT10, gT9, gT8, gT7, gT6, gT5, gT4, gT3, gT2, gT1, gT0, Try.f3, Option.getD_some]
  go_wp2_with fail
  go_loopw [19] (fun v wr => ∃ i : Nat, v = .int .i64 (i : Int) ∧ i ≤ ps.length ∧ Hid (wr.heap[b]? = some (.cells (ownI (fillP ps i)).toArray 3)) ∧ Hid (∀ c, c ≠ b → wr.heap[c]? = x.heap[c]?) ∧ Hid (wr.heap.size = x.heap.size)) (fun v _ => ps.length + 1 - natOfV v)
  case atStart => exact ⟨0, rfl, Nat.zero_le _, by rw [fillP_0]; exact hown.out, fun _ _ => rfl, rfl⟩
  case round =>
    obtain ⟨i, rfl, hi, hr, ho, hz⟩ := hrel
    by_cases hlt : i < ps.length
    · obtain ⟨p, hp⟩ : ∃ p, ps[i]? = some p := ⟨_, List.getElem?_eq_getElem hlt⟩
      have g1 : (i : Int) < (ps.length : Int) := by omega
      have g2 : (0 : Int) ≤ (i : Int) := by omega
      have hiw : IntKind.i64.wrap ((i : Int) + 1) = ((i + 1 : Nat) : Int) := by rw [IntKind.wrap_i64]; omega
      have e9 : natOfV (.int .i64 ((i : Int) + 1)) = i + 1 := by simp [natOfV]
      have c1 : wr.cell? ⟨b, i, none⟩ = some (.int .i64 p) := obj_cell hr.out (by rw [← Array.getElem?_toList]; exact ownI_get (fillP_get hp))
      have z1 := obj_thaw hr.out i
      obtain ⟨nv, hnv⟩ : ∃ nv, nv = IntKind.i64.wrap (-1 - p) := ⟨_, rfl⟩
      have hs : (wr.setCell ⟨b, i, none⟩ (.int .i64 nv)).heap[b]? = some (.cells (ownI (fillP ps (i + 1))).toArray 3) := by
        have h1 := heap_set (a := ⟨b, i, none⟩) (v := .int .i64 nv) (w := wr) rfl hr.out
        rw [h1]
        have h2 := ownI_set (v := nv) (fillP_get hp)
        rw [hnv] at h2
        have h3 := fillP_set hp
        unfold negI at h3
        rw [h3] at h2
        rw [← h2, hnv]
        congr 2
        apply Array.ext'
        simp
      have ho2 : ∀ c, c ≠ b → (wr.setCell ⟨b, i, none⟩ (.int .i64 nv)).heap[c]? = x.heap[c]? := fun c hc => (heap_setCell_ne (a := ⟨b, i, none⟩) (fun e => hc e.symm)).trans (ho.out c hc)
      have hz2 : (wr.setCell ⟨b, i, none⟩ (.int .i64 nv)).heap.size = x.heap.size := by rw [← hz.out]; simp [World.setCell]
      have hnv' := hnv.symm
      replace hnv := Lib.hid hnv
      replace hs := Lib.hid hs
      replace ho2 := Lib.hid ho2
      replace hz2 := Lib.hid hz2
      go_wp2_with fail
      exact ⟨⟨i + 1, by rw [Int.natCast_add]; rfl, by omega, hs.out, ho2.out, hz2.out⟩, by rw [e9]; simp [natOfV]; omega⟩
    · obtain rfl : ps.length = i := by omega
      have g1 : ¬ (ps.length : Int) < (ps.length : Int) := by omega
      go_wp2_with fail
      exact hQ _ _ (by simp) (fun j hj => by
        match j, hj with
        | 0, _ | 1, _ | 2, _ | 3, _ | 4, _ | 5, _ | 6, _ | 7, _ | 8, _ | 9, _ | 10, _ | 11, _ | 12, _ | 13, _ | 14, _ | 15, _ | 16, _ => simp [h9]
        | j + 17, h => exact absurd h (by omega)) (by rw [← fillP_all]; exact hr.out) ho.out hz.out
set_option maxRecDepth 100000 in
set_option maxHeartbeats 4000000 in
theorem gS11_wp {f : Nat → Value} {x : World} {Q : Exit → Act → World → Prop} (h7 : f 7 = .bool true) (h13 : f 13 = .bool true) (h14 : f 14 = .bool true) (h15 : f 15 = .bool true) (h16 : f 16 = .bool true)
    (hQ : ∀ T', T'.size = 136 → (∀ j, j < 25 → T'[j]? = some (f j)) → Q .normal ⟨T', []⟩ x) : gS11.wp Try.prog Q ⟨(List.map f (List.range 136)).toArray, []⟩ x := by
  simp only [List.range, List.range.loop, List.map_cons, List.map_nil, h7, h13, h14, h15, h16]
  simp only [gS11, gT11, gT10, gT9, gT8, gT7, gT6, gT5, gT4, gT3, gT2, gT1, gT0, Try.f3, Option.getD_some]
  go_wp2
  exact hQ _ (by simp) (fun j hj => by
    match j, hj with
    | 0, _ | 1, _ | 2, _ | 3, _ | 4, _ | 5, _ | 6, _ | 7, _ | 8, _ | 9, _ | 10, _ | 11, _ | 12, _ | 13, _ | 14, _ | 15, _ | 16, _ | 17, _ | 18, _ | 19, _ | 20, _ | 21, _ | 22, _ | 23, _ | 24, _ => simp [h7, h13, h14, h15, h16]
    | j + 25, h => exact absurd h (by omega))
set_option maxRecDepth 100000 in
set_option maxHeartbeats 4000000 in
theorem gS19_wp {f : Nat → Value} {x : World} {Q : Exit → Act → World → Prop} (h22 : f 22 = .bool true) (h23 : f 23 = .bool true) (h24 : f 24 = .bool true)
    (hQ : ∀ T', T'.size = 136 → T'[6]? = some (.bool true) → Q .normal ⟨T', []⟩ x) : gS19.wp Try.prog Q ⟨(List.map f (List.range 136)).toArray, []⟩ x := by
  simp only [List.range, List.range.loop, List.map_cons, List.map_nil, h22, h23, h24]
  simp only [gS19, gT19, gT18, gT17, gT16, gT15, gT14, gT13, gT12, gT11, gT10, gT9, gT8, gT7, gT6, gT5, gT4, gT3, gT2, gT1, gT0, Try.f3, Option.getD_some]
  go_wp2
  exact hQ _ (by simp) (by simp)
end Go.Proofs.Ytimlbbleblijnaa.Co

namespace Go.Proofs.Ytimlbbleblijnaa.Co
open Go Go.Conc Go.RowKit
open Go.ConcN (sumTo upd sumTo_upd upd_ne upd_same sumTo_congr le_sumTo)
set_option linter.unusedVariables false
set_option linter.unusedSimpArgs false
theorem OpsAt.toX {E : Env} {w x : World} {tv : Value} {ts : List (List Op3)} (h : OpsAt E w tv ts) (hx : ∀ b, E.H b = none → x.heap[b]? = w.heap[b]?) : ∃ (ta : Option Addr) (ba bo cap : Nat) (LA : Nat → Option Addr) (LC : Nat → Nat), tv = .slice ta ts.length cap ∧ OpsX x ta ba bo LA LC ts := by
  obtain ⟨ta, ba, bo, cap, LA, LC, h1, h2, h3⟩ := h.at_
  refine ⟨ta, ba, bo, cap, LA, LC, h1, h2, fun i l hi => ?_, fun i l hi hne => ?_⟩
  · obtain ⟨⟨q1, q2⟩, _⟩ := h3 i l hi
    exact (World.cell?_of_block (a := ⟨ba, bo + i, none⟩) (hx ba q2)).trans q1
  · obtain ⟨_, q3⟩ := h3 i l hi
    obtain ⟨la, lo, e1, e2, e3⟩ := q3 hne
    refine ⟨la, lo, e1, fun j op hj => ?_⟩
    obtain ⟨k1, k2, k3⟩ := e3 j op hj
    exact ⟨(World.cell?_of_block (a := ⟨la, lo + j * 3, none⟩) (hx la e2)).trans k1, (World.cell?_of_block (a := ⟨la, lo + j * 3 + 1, none⟩) (hx la e2)).trans k2, (World.cell?_of_block (a := ⟨la, lo + j * 3 + 2, none⟩) (hx la e2)).trans k3⟩
theorem IntsAt.toX {E : Env} {w x : World} {pv : Value} {ps : List Int} (h : IntsAt E w pv ps) (hx : ∀ b, E.H b = none → x.heap[b]? = w.heap[b]?) : IntsX x pv ps := by
  obtain ⟨pa, pb, po, cap, h1, h2, h3⟩ := h.at_
  exact ⟨pa, pb, po, cap, h1, h2, fun i p hi => (World.cell?_of_block (a := ⟨pb, po + i, none⟩) (hx pb (h3 i p hi).2)).trans (h3 i p hi).1⟩
theorem OwnT.same {B n : Nat} {x w : World} {ov : Value} {LB : Nat → Nat} {ts : List (List Op3)} (h : OwnT B x ov LB ts n) (hs : ∀ b, (ov.ownBlock = some b ∨ ∃ i, i < n ∧ b = LB i) → w.heap[b]? = x.heap[b]?) : OwnT B w ov LB ts n :=
  ⟨ownsRow_same h.row fun g hg => hs g (.inl hg), h.up, h.ne, h.inj, fun i l h1 h2 => (hs _ (.inr ⟨i, h1, rfl⟩)).trans (h.ops i l h1 h2)⟩
theorem OwnT.lower {B n : Nat} {x : World} {ov : Value} {LB : Nat → Nat} {ts : List (List Op3)} (h : OwnT B x ov LB ts n) : OwnT 0 x ov LB ts n :=
  ⟨owns_lower h.row (Nat.zero_le _), fun _ _ => Nat.zero_le _, h.ne, h.inj, h.ops⟩
structure OwnV (E : Env) (w : World) (ov : Value) (LB : Nat → Nat) (ts : List (List Op3)) : Prop where
  own : OwnT 0 w ov LB ts ts.length
  oH : ∀ g, ov.ownBlock = some g → E.H g = none
  lH : ∀ i, i < ts.length → E.H (LB i) = none
theorem OwnV.of_new {E E1 : Env} {x' w' : World} {B : Nat} {ov : Value} {LB : Nat → Nat} {ts : List (List Op3)} (h : OwnT B x' ov LB ts ts.length) (hn : ∀ b, B ≤ b → E.H b = none) (hv : ∀ b, E.H b = none → w'.heap[b]? = x'.heap[b]?) (hH : E1.H = E.H) : OwnV E1 w' ov LB ts := by
  have h1 : ∀ g, ov.ownBlock = some g → E.H g = none := fun g hg => hn g (h.row.lt g hg).1
  have h2 : ∀ i, i < ts.length → E.H (LB i) = none := fun i hi => hn _ (h.up i hi)
  refine ⟨(h.same fun b hb => ?_).lower, fun g hg => by rw [hH]; exact h1 g hg, fun i hi => by rw [hH]; exact h2 i hi⟩
  rcases hb with hb | ⟨i, hi, rfl⟩
  · exact hv b (h1 b hb)
  · exact hv _ (h2 i hi)
theorem OwnV.stands {E E' : Env} {w w' : World} {ov : Value} {LB : Nat → Nat} {ts : List (List Op3)} (h : OwnV E w ov LB ts) (S : Stands E w E' w') : OwnV E' w' ov LB ts := by
  have k1 : ∀ g, ov.ownBlock = some g → E'.H g = none ∧ w'.heap[g]? = w.heap[g]? := fun g hg => by
    have hl := (h.own.row.lt g hg).2
    obtain ⟨s1, s2⟩ := S g _ (h.oH g hg) (Array.getElem?_eq_getElem hl)
    exact ⟨s1, by rw [s2, Array.getElem?_eq_getElem hl]⟩
  have k2 : ∀ i, i < ts.length → E'.H (LB i) = none ∧ w'.heap[LB i]? = w.heap[LB i]? := fun i hi => by
    have ho := h.own.ops i _ hi (List.getElem?_eq_getElem hi)
    obtain ⟨s1, s2⟩ := S _ _ (h.lH i hi) ho
    exact ⟨s1, by rw [s2, ho]⟩
  refine ⟨h.own.same fun b hb => ?_, fun g hg => (k1 g hg).1, fun i hi => (k2 i hi).1⟩
  rcases hb with hb | ⟨i, hi, rfl⟩
  · exact (k1 b hb).2
  · exact (k2 i hi).2
theorem OwnV.toX {E : Env} {w x : World} {ov : Value} {LB : Nat → Nat} {ts : List (List Op3)} (h : OwnV E w ov LB ts) (hx : ∀ b, E.H b = none → x.heap[b]? = w.heap[b]?) : OwnT 0 x ov LB ts ts.length :=
  h.own.same fun b hb => by
    rcases hb with hb | ⟨i, hi, rfl⟩
    · exact hx b (h.oH b hb)
    · exact hx _ (h.lH i hi)
theorem lenOf_get {ts : List (List Op3)} {i : Nat} {l : List Op3} (h : ts[i]? = some l) : lenOf ts i = l.length := by unfold lenOf; rw [h]; rfl
theorem OwnV.at {E : Env} {w : World} {ov : Value} {LB : Nat → Nat} {ts : List (List Op3)} (h : OwnV E w ov LB ts) : OpsAt E w ov ts := by
  obtain ⟨A, g, cap, e1, e2, e3, e4⟩ := owns_cells h.own.row
  refine ⟨⟨A, g, 0, cap, fun i => some ⟨LB i, 0, none⟩, fun i => lenOf ts i + 2, e1, e2, fun i l hi => ?_⟩⟩
  have hlt := (List.getElem?_eq_some_iff.1 hi).1
  refine ⟨⟨?_, h.oH g (e3 (by omega))⟩, fun hne => ⟨LB i, 0, rfl, h.lH i hlt, fun j op hj => ?_⟩⟩
  · have := e4 i _ (rowO_get hlt)
    show w.cell? ⟨g, 0 + i, none⟩ = some (.slice (some ⟨LB i, 0, none⟩) l.length (lenOf ts i + 2))
    rw [lenOf_get hi] at this ⊢
    rw [Nat.zero_add]
    exact this
  · obtain ⟨k1, k2, k3⟩ := ownO_op hj
    have hb := h.own.ops i l hlt hi
    rw [Nat.zero_add]
    exact ⟨obj_cell hb (by rw [← Array.getElem?_toList]; exact k1), obj_cell hb (by rw [← Array.getElem?_toList]; exact k2), obj_cell hb (by rw [← Array.getElem?_toList]; exact k3)⟩
def incT (ts : List (List Op3)) : List (List Op3) := ts.map (·.map incO)
theorem incT_len (ts : List (List Op3)) : (incT ts).length = ts.length := by simp [incT]
theorem incT_lenOf (ts : List (List Op3)) (i : Nat) : lenOf (incT ts) i = lenOf ts i := by
  unfold lenOf incT
  rw [List.getElem?_map]
  cases ts[i]? <;> simp
theorem W1.own {B : Nat} {x x' : World} {ov : Value} {LB : Nat → Nat} {ts : List (List Op3)} (h : OwnT B x ov LB ts ts.length) (k : W1 x x' LB ts ts.length) : OwnT B x' ov LB (incT ts) (incT ts).length := by
  rw [incT_len]
  have er : rowO LB (incT ts) ts.length = rowO LB ts ts.length := by
    unfold rowO
    refine List.map_congr_left fun i _ => ?_
    rw [incT_lenOf]
  refine ⟨?_, h.up, h.ne, h.inj, fun i l hi hl => ?_⟩
  · rw [er]
    exact ownsRow_same h.row fun g hg => k.old g fun j hj e => h.ne j hj (by rw [hg, e])
  · unfold incT at hl
    rw [List.getElem?_map, List.getElem?_eq_getElem hi] at hl
    have := k.ops i _ hi (List.getElem?_eq_getElem hi)
    rw [if_pos hi] at this
    rw [← Option.some.inj hl]
    exact this
structure PickV (E : Env) (w : World) (b : Nat) (ps : List Int) : Prop where
  row : w.heap[b]? = some (.cells (ownI ps).toArray 3)
  H : E.H b = none
theorem PickV.stands {E E' : Env} {w w' : World} {b : Nat} {ps : List Int} (h : PickV E w b ps) (S : Stands E w E' w') : PickV E' w' b ps := by
  obtain ⟨s1, s2⟩ := S b _ h.H h.row
  exact ⟨s2, s1⟩
theorem PickV.at {E : Env} {w : World} {b : Nat} {ps : List Int} (h : PickV E w b ps) : IntsAt E w (.slice (some ⟨b, 0, none⟩) ps.length (ps.length + 2)) ps :=
  ⟨⟨_, b, 0, _, rfl, fun _ => rfl, fun i p hi => ⟨obj_cell h.row (by rw [← Array.getElem?_toList, Nat.zero_add]; exact ownI_get hi), h.H⟩⟩⟩
structure MarkV (E : Env) (w : World) (v : Value) (ms : List Mk) : Prop where
  row : w.ownsRow 0 37 4 v ms.length (mksV ms)
  H : ∀ g, v.ownBlock = some g → E.H g = none
theorem MarkV.stands {E E' : Env} {w w' : World} {v : Value} {ms : List Mk} (h : MarkV E w v ms) (S : Stands E w E' w') : MarkV E' w' v ms := by
  have k1 : ∀ g, v.ownBlock = some g → E'.H g = none ∧ w'.heap[g]? = w.heap[g]? := fun g hg => by
    have hl := (h.row.lt g hg).2
    obtain ⟨s1, s2⟩ := S g _ (h.H g hg) (Array.getElem?_eq_getElem hl)
    exact ⟨s1, by rw [s2, Array.getElem?_eq_getElem hl]⟩
  exact ⟨ownsRow_same h.row fun g hg => (k1 g hg).2, fun g hg => (k1 g hg).1⟩
theorem MarkV.toX {E : Env} {w x : World} {v : Value} {ms : List Mk} (h : MarkV E w v ms) (hx : ∀ b, E.H b = none → x.heap[b]? = w.heap[b]?) : x.ownsRow 0 37 4 v ms.length (mksV ms) := ownsRow_same h.row fun g hg => hx g (h.H g hg)
theorem MarkV.of_new {E E1 : Env} {x' w' : World} {B : Nat} {v : Value} {ms : List Mk} (h : x'.ownsRow B 37 4 v ms.length (mksV ms)) (hn : ∀ b, B ≤ b → E.H b = none) (hv : ∀ b, E.H b = none → w'.heap[b]? = x'.heap[b]?) (hH : E1.H = E.H) : MarkV E1 w' v ms :=
  ⟨owns_lower (ownsRow_same h fun g hg => hv g (hn g (h.lt g hg).1)) (Nat.zero_le _), fun g hg => by rw [hH]; exact hn g (h.lt g hg).1⟩
end Go.Proofs.Ytimlbbleblijnaa.Co

namespace Go.Proofs.Ytimlbbleblijnaa.Co
open Go Go.Conc Go.RowKit
open Go.ConcN (sumTo upd sumTo_upd upd_ne upd_same sumTo_congr le_sumTo)
set_option linter.unusedVariables false
set_option linter.unusedSimpArgs false
section
variable {F : Machine → Trace → Prop} {E : Env} {w : World} {fr : Frame} {k : List Item} {cs : List Frame}
theorem HG.qstep (S : Nat → Prop) (hS : ∀ b, S b → E.H b = none) {c : Code} (hq : quietCode Try.prog gpF c = true) {T : Array Value} (hk : fr.kind = .normal) {R : Array Value → World → World → Prop}
    (hwp : ∀ x : World, x.heap.size = w.heap.size → (∀ b, E.H b = none → x.heap[b]? = w.heap[b]?) → c.wp Try.prog (fun e a' x' => e = .normal ∧ a'.defers = [] ∧ (∀ b, b < x.heap.size → ¬ S b → x'.heap[b]? = x.heap[b]?) ∧ R a'.tmps x x') ⟨T, []⟩ x)
    (hc : ∀ (E1 : Env) (w1 : World) (T' : Array Value) (x x' : World), Kept 0 none E w E1 w1 → E1.H = E.H → x.heap.size = w.heap.size → (∀ b, E.H b = none → x.heap[b]? = w.heap[b]?) → (∀ b, E.H b = none → w1.heap[b]? = x'.heap[b]?) → (∀ b, w.heap.size ≤ b → E.H b = none) → (∀ b o, ¬ S b → E.H b = none → w.heap[b]? = some o → E1.H b = none ∧ w1.heap[b]? = some o) → R T' x x' → HG Try.prog 0 F E1 (G (fr.at ⟨T', []⟩ k) cs) w1) :
    HG Try.prog 0 F E (G (fr.at ⟨T, []⟩ (.code c :: k)) cs) w := by
  refine HG.quietS (h := 0) S hS closed_gp (Q := fun a' x x' => R a'.tmps x x') hq hk rfl hwp (fun E1 w1 a1 x x' hE hd hxs hx hs' hx' hK hB hSo hR => ?_)
  obtain ⟨T', df⟩ := a1
  have hd' : df = [] := hd
  subst hd'
  refine hc E1 w1 T' x x' hK hE.H' hxs hx hx' hB (fun b o h0 h1 h2 => ⟨by rw [hE.H']; exact h1, ?_⟩) hR
  have hl := (Array.getElem?_eq_some_iff.1 h2).1
  rw [hx' b h1, hSo b (by omega) h0, hx b h1]
  exact h2
theorem gp2 {ts : List (List Op3)} {tv : Value} {T : Array Value} (hk : fr.kind = .normal) (hs : T.size = 136) (t0 : T[0]? = some tv) (hT : OpsAt E w tv ts) (hn : ts.length ≤ 1000000000000) (hll : ∀ l ∈ ts, l.length ≤ 100000000000)
    (hc : ∀ E1 w1 T' ov LB, Kept 0 none E w E1 w1 → Stands E w E1 w1 → T'.size = 136 → (∀ j, j < 25 → j ≠ 8 → T'[j]? = T[j]?) → T'[8]? = some ov → OwnV E1 w1 ov LB ts → (∀ i, i < ts.length → w.heap.size ≤ LB i) → HG Try.prog 0 F E1 (G (fr.at ⟨T', []⟩ k) cs) w1) :
    HG Try.prog 0 F E (G (fr.at ⟨T, []⟩ (.code gS2 :: k)) cs) w := by
  obtain ⟨f, hf, fz⟩ := arrfv T hs
  have e0 := fz 0 _ t0
  refine HG.qstep (fun _ => False) (fun _ z => z.elim) (by kernel_rfl) hk (R := fun T' x x' => T'.size = 136 ∧ (∀ j, j < 25 → j ≠ 8 → T'[j]? = T[j]?) ∧ ∃ ov LB, T'[8]? = some ov ∧ OwnT x.heap.size x' ov LB ts ts.length) (fun x hxs hx => ?_) (fun E1 w1 T' x x' hK hH hxs hx hx' hB hSt hR => ?_)
  · obtain ⟨ta, ba, bo, cap, LA, LC, rfl, hX⟩ := hT.toX hx
    rw [hf]
    refine gS2_wp e0 (copied_wp hX hn hll) (fun e x' h => by obtain ⟨ov, _, h, _⟩ := h; exact ⟨ov, h⟩) (fun T' x' rv h1 h2 h3 h4 => ?_)
    obtain ⟨ov, LB, e, h5, h6⟩ := h4
    cases e
    refine ⟨rfl, rfl, fun b hb _ => h5.block b hb, h1, fun j hj hj2 => ?_, rv, LB, h3, h6⟩
    rw [h2 j hj hj2]
    simp [show j < 136 by omega]
  · obtain ⟨h1, h2, ov, LB, h3, h4⟩ := hR
    rw [hxs] at h4
    exact hc E1 w1 T' ov LB hK (fun b o a1 a2 => hSt b o id a1 a2) h1 h2 h3 (OwnV.of_new h4 hB hx' hH) h4.up
end
end Go.Proofs.Ytimlbbleblijnaa.Co

namespace Go.Proofs.Ytimlbbleblijnaa.Co
open Go Go.Conc Go.RowKit
open Go.ConcN (sumTo upd sumTo_upd upd_ne upd_same sumTo_congr le_sumTo)
set_option linter.unusedVariables false
set_option linter.unusedSimpArgs false
section
variable {F : Machine → Trace → Prop} {E : Env} {w : World} {fr : Frame} {k : List Item} {cs : List Frame}
theorem gp7 {T : Array Value} {v0 v1 : Value} {ms : List Mk} (hk : fr.kind = .normal) (hs : T.size = 136) (t0 : T[11]? = some v0) (t1 : T[10]? = some v1) (ha : MarkV E w v0 ms) (hb : MarkV E w v1 ms) (hml : ms.length ≤ 1000000000000)
    (hc : ∀ E1 w1 T', Kept 0 none E w E1 w1 → Stands E w E1 w1 → T'.size = 136 → (∀ j, j < 25 → j ≠ 13 → T'[j]? = T[j]?) → T'[13]? = some (.bool true) → HG Try.prog 0 F E1 (G (fr.at ⟨T', []⟩ k) cs) w1) :
    HG Try.prog 0 F E (G (fr.at ⟨T, []⟩ (.code gS7 :: k)) cs) w := by
  obtain ⟨f, hf, fz⟩ := arrfv T hs
  have e0 := fz 11 _ t0
  have e1 := fz 10 _ t1
  refine HG.qstep (fun _ => False) (fun _ z => z.elim) (by kernel_rfl) hk (R := fun T' x x' => T'.size = 136 ∧ (∀ j, j < 25 → j ≠ 13 → T'[j]? = T[j]?) ∧ T'[13]? = some (.bool true)) (fun x hxs hx => ?_) (fun E1 w1 T' x x' hK hH hxs hx hx' hB hSt hR => ?_)
  · rw [hf]
    refine gS7_wp e0 e1 (same_wp (MksAt.of_owns (ha.toX hx)) (MksAt.of_owns (hb.toX hx)) hml) (fun e x' h => ⟨_, h.1⟩) (fun T' x' rv h1 h2 h3 h4 => ?_)
    obtain ⟨e, n, rfl⟩ := h4
    cases e
    refine ⟨rfl, rfl, fun b hb _ => rfl, h1, fun j hj hj2 => ?_, h3⟩
    rw [h2 j hj hj2]
    simp [show j < 136 by omega]
  · obtain ⟨h1, h2, h3⟩ := hR
    exact hc E1 w1 T' hK (fun b o a1 a2 => hSt b o id a1 a2) h1 h2 h3
theorem gp8 {T : Array Value} {v0 v1 : Value} {ms : List Mk} (hk : fr.kind = .normal) (hs : T.size = 136) (t0 : T[12]? = some v0) (t1 : T[10]? = some v1) (ha : MarkV E w v0 ms) (hb : MarkV E w v1 ms) (hml : ms.length ≤ 1000000000000)
    (hc : ∀ E1 w1 T', Kept 0 none E w E1 w1 → Stands E w E1 w1 → T'.size = 136 → (∀ j, j < 25 → j ≠ 14 → T'[j]? = T[j]?) → T'[14]? = some (.bool true) → HG Try.prog 0 F E1 (G (fr.at ⟨T', []⟩ k) cs) w1) :
    HG Try.prog 0 F E (G (fr.at ⟨T, []⟩ (.code gS8 :: k)) cs) w := by
  obtain ⟨f, hf, fz⟩ := arrfv T hs
  have e0 := fz 12 _ t0
  have e1 := fz 10 _ t1
  refine HG.qstep (fun _ => False) (fun _ z => z.elim) (by kernel_rfl) hk (R := fun T' x x' => T'.size = 136 ∧ (∀ j, j < 25 → j ≠ 14 → T'[j]? = T[j]?) ∧ T'[14]? = some (.bool true)) (fun x hxs hx => ?_) (fun E1 w1 T' x x' hK hH hxs hx hx' hB hSt hR => ?_)
  · rw [hf]
    refine gS8_wp e0 e1 (same_wp (MksAt.of_owns (ha.toX hx)) (MksAt.of_owns (hb.toX hx)) hml) (fun e x' h => ⟨_, h.1⟩) (fun T' x' rv h1 h2 h3 h4 => ?_)
    obtain ⟨e, n, rfl⟩ := h4
    cases e
    refine ⟨rfl, rfl, fun b hb _ => rfl, h1, fun j hj hj2 => ?_, h3⟩
    rw [h2 j hj hj2]
    simp [show j < 136 by omega]
  · obtain ⟨h1, h2, h3⟩ := hR
    exact hc E1 w1 T' hK (fun b o a1 a2 => hSt b o id a1 a2) h1 h2 h3
theorem gp16 {T : Array Value} {v0 v1 : Value} {ms : List Mk} (hk : fr.kind = .normal) (hs : T.size = 136) (t0 : T[21]? = some v0) (t1 : T[20]? = some v1) (ha : MarkV E w v0 ms) (hb : MarkV E w v1 ms) (hml : ms.length ≤ 1000000000000)
    (hc : ∀ E1 w1 T', Kept 0 none E w E1 w1 → Stands E w E1 w1 → T'.size = 136 → (∀ j, j < 25 → j ≠ 22 → T'[j]? = T[j]?) → T'[22]? = some (.bool true) → HG Try.prog 0 F E1 (G (fr.at ⟨T', []⟩ k) cs) w1) :
    HG Try.prog 0 F E (G (fr.at ⟨T, []⟩ (.code gS16 :: k)) cs) w := by
  obtain ⟨f, hf, fz⟩ := arrfv T hs
  have e0 := fz 21 _ t0
  have e1 := fz 20 _ t1
  refine HG.qstep (fun _ => False) (fun _ z => z.elim) (by kernel_rfl) hk (R := fun T' x x' => T'.size = 136 ∧ (∀ j, j < 25 → j ≠ 22 → T'[j]? = T[j]?) ∧ T'[22]? = some (.bool true)) (fun x hxs hx => ?_) (fun E1 w1 T' x x' hK hH hxs hx hx' hB hSt hR => ?_)
  · rw [hf]
    refine gS16_wp e0 e1 (same_wp (MksAt.of_owns (ha.toX hx)) (MksAt.of_owns (hb.toX hx)) hml) (fun e x' h => ⟨_, h.1⟩) (fun T' x' rv h1 h2 h3 h4 => ?_)
    obtain ⟨e, n, rfl⟩ := h4
    cases e
    refine ⟨rfl, rfl, fun b hb _ => rfl, h1, fun j hj hj2 => ?_, h3⟩
    rw [h2 j hj hj2]
    simp [show j < 136 by omega]
  · obtain ⟨h1, h2, h3⟩ := hR
    exact hc E1 w1 T' hK (fun b o a1 a2 => hSt b o id a1 a2) h1 h2 h3
theorem gp17 {T : Array Value} {v0 v1 : Value} {ms : List Mk} (hk : fr.kind = .normal) (hs : T.size = 136) (t0 : T[11]? = some v0) (t1 : T[10]? = some v1) (ha : MarkV E w v0 ms) (hb : MarkV E w v1 ms) (hml : ms.length ≤ 1000000000000)
    (hc : ∀ E1 w1 T', Kept 0 none E w E1 w1 → Stands E w E1 w1 → T'.size = 136 → (∀ j, j < 25 → j ≠ 23 → T'[j]? = T[j]?) → T'[23]? = some (.bool true) → HG Try.prog 0 F E1 (G (fr.at ⟨T', []⟩ k) cs) w1) :
    HG Try.prog 0 F E (G (fr.at ⟨T, []⟩ (.code gS17 :: k)) cs) w := by
  obtain ⟨f, hf, fz⟩ := arrfv T hs
  have e0 := fz 11 _ t0
  have e1 := fz 10 _ t1
  refine HG.qstep (fun _ => False) (fun _ z => z.elim) (by kernel_rfl) hk (R := fun T' x x' => T'.size = 136 ∧ (∀ j, j < 25 → j ≠ 23 → T'[j]? = T[j]?) ∧ T'[23]? = some (.bool true)) (fun x hxs hx => ?_) (fun E1 w1 T' x x' hK hH hxs hx hx' hB hSt hR => ?_)
  · rw [hf]
    refine gS17_wp e0 e1 (same_wp (MksAt.of_owns (ha.toX hx)) (MksAt.of_owns (hb.toX hx)) hml) (fun e x' h => ⟨_, h.1⟩) (fun T' x' rv h1 h2 h3 h4 => ?_)
    obtain ⟨e, n, rfl⟩ := h4
    cases e
    refine ⟨rfl, rfl, fun b hb _ => rfl, h1, fun j hj hj2 => ?_, h3⟩
    rw [h2 j hj hj2]
    simp [show j < 136 by omega]
  · obtain ⟨h1, h2, h3⟩ := hR
    exact hc E1 w1 T' hK (fun b o a1 a2 => hSt b o id a1 a2) h1 h2 h3
theorem gp9 {T : Array Value} {v0 v1 : Value} {LB : Nat → Nat} {ts : List (List Op3)} (hk : fr.kind = .normal) (hs : T.size = 136) (t0 : T[8]? = some v0) (t1 : T[0]? = some v1) (hO : OwnV E w v0 LB ts) (hT : OpsAt E w v1 ts) (hn : ts.length ≤ 1000000000000) (hll : ∀ l ∈ ts, l.length ≤ 100000000000)
    (hc : ∀ E1 w1 T', Kept 0 none E w E1 w1 → Stands E w E1 w1 → T'.size = 136 → (∀ j, j < 25 → j ≠ 15 → T'[j]? = T[j]?) → T'[15]? = some (.bool true) → HG Try.prog 0 F E1 (G (fr.at ⟨T', []⟩ k) cs) w1) :
    HG Try.prog 0 F E (G (fr.at ⟨T, []⟩ (.code gS9 :: k)) cs) w := by
  obtain ⟨f, hf, fz⟩ := arrfv T hs
  have e0 := fz 8 _ t0
  have e1 := fz 0 _ t1
  refine HG.qstep (fun _ => False) (fun _ z => z.elim) (by kernel_rfl) hk (R := fun T' x x' => T'.size = 136 ∧ (∀ j, j < 25 → j ≠ 15 → T'[j]? = T[j]?) ∧ T'[15]? = some (.bool true)) (fun x hxs hx => ?_) (fun E1 w1 T' x x' hK hH hxs hx hx' hB hSt hR => ?_)
  · obtain ⟨ta, ba, bo, cap, LA, LC, rfl, hX⟩ := hT.toX hx
    rw [hf]
    refine gS9_wp e0 e1 (stayed_wp (hO.toX hx) hX hn hll) (fun e x' h => ⟨_, h.1⟩) (fun T' x' rv h1 h2 h3 h4 => ?_)
    obtain ⟨e, n, rfl⟩ := h4
    cases e
    refine ⟨rfl, rfl, fun b hb _ => rfl, h1, fun j hj hj2 => ?_, h3⟩
    rw [h2 j hj hj2]
    simp [show j < 136 by omega]
  · obtain ⟨h1, h2, h3⟩ := hR
    exact hc E1 w1 T' hK (fun b o a1 a2 => hSt b o id a1 a2) h1 h2 h3
theorem gp10 {T : Array Value} {v0 v1 : Value} {b : Nat} {ps : List Int} (hk : fr.kind = .normal) (hs : T.size = 136) (t0 : T[9]? = some v0) (t1 : T[1]? = some v1) (hv : v0 = .slice (some ⟨b, 0, none⟩) ps.length (ps.length + 2)) (hP : PickV E w b ps) (hI : IntsAt E w v1 ps) (hpl : ps.length ≤ 1000000000000)
    (hc : ∀ E1 w1 T', Kept 0 none E w E1 w1 → Stands E w E1 w1 → T'.size = 136 → (∀ j, j < 25 → j ≠ 16 → T'[j]? = T[j]?) → T'[16]? = some (.bool true) → HG Try.prog 0 F E1 (G (fr.at ⟨T', []⟩ k) cs) w1) :
    HG Try.prog 0 F E (G (fr.at ⟨T, []⟩ (.code gS10 :: k)) cs) w := by
  obtain ⟨f, hf, fz⟩ := arrfv T hs
  have e0 := fz 9 _ t0
  have e1 := fz 1 _ t1
  refine HG.qstep (fun _ => False) (fun _ z => z.elim) (by kernel_rfl) hk (R := fun T' x x' => T'.size = 136 ∧ (∀ j, j < 25 → j ≠ 16 → T'[j]? = T[j]?) ∧ T'[16]? = some (.bool true)) (fun x hxs hx => ?_) (fun E1 w1 T' x x' hK hH hxs hx hx' hB hSt hR => ?_)
  · subst hv
    rw [hf]
    refine gS10_wp e0 e1 (kept_wp (hI.toX hx) ((hx b hP.H).trans hP.row) hpl) (fun e x' h => ⟨_, h.1⟩) (fun T' x' rv h1 h2 h3 h4 => ?_)
    obtain ⟨e, n, rfl⟩ := h4
    cases e
    refine ⟨rfl, rfl, fun b hb _ => rfl, h1, fun j hj hj2 => ?_, h3⟩
    rw [h2 j hj hj2]
    simp [show j < 136 by omega]
  · obtain ⟨h1, h2, h3⟩ := hR
    exact hc E1 w1 T' hK (fun b o a1 a2 => hSt b o id a1 a2) h1 h2 h3
theorem gp3 {T : Array Value} {pv : Value} {ps : List Int} (hk : fr.kind = .normal) (hs : T.size = 136) (t0 : T[1]? = some pv) (hI : IntsAt E w pv ps) (hpl : ps.length ≤ 1000000000000)
    (hc : ∀ E1 w1 T' b, Kept 0 none E w E1 w1 → Stands E w E1 w1 → T'.size = 136 → (∀ j, j < 25 → j ≠ 9 → T'[j]? = T[j]?) → T'[9]? = some (.slice (some ⟨b, 0, none⟩) ps.length (ps.length + 2)) → PickV E1 w1 b ps → w.heap.size ≤ b → HG Try.prog 0 F E1 (G (fr.at ⟨T', []⟩ k) cs) w1) :
    HG Try.prog 0 F E (G (fr.at ⟨T, []⟩ (.code gS3 :: k)) cs) w := by
  obtain ⟨f, hf, fz⟩ := arrfv T hs
  have e0 := fz 1 _ t0
  refine HG.qstep (fun _ => False) (fun _ z => z.elim) (by kernel_rfl) hk (R := fun T' x x' => T'.size = 136 ∧ (∀ j, j < 25 → j ≠ 9 → T'[j]? = T[j]?) ∧ T'[9]? = some (.slice (some ⟨x.heap.size, 0, none⟩) ps.length (ps.length + 2)) ∧ x'.heap[x.heap.size]? = some (.cells (ownI ps).toArray 3)) (fun x hxs hx => ?_) (fun E1 w1 T' x x' hK hH hxs hx hx' hB hSt hR => ?_)
  · rw [hf]
    refine gS3_wp e0 (ints_wp (hI.toX hx) hpl) (fun e x' h => ⟨_, h.1⟩) (fun T' x' rv h1 h2 h3 h4 => ?_)
    obtain ⟨e, h5, h6⟩ := h4
    cases e
    refine ⟨rfl, rfl, fun b hb _ => h5.block b hb, h1, fun j hj hj2 => ?_, h3, h6⟩
    rw [h2 j hj hj2]
    simp [show j < 136 by omega]
  · obtain ⟨h1, h2, h3, h4⟩ := hR
    have hb := hB x.heap.size (by omega)
    exact hc E1 w1 T' _ hK (fun b o a1 a2 => hSt b o id a1 a2) h1 h2 h3 ⟨(hx' _ hb).trans h4, by rw [hH]; exact hb⟩ (by omega)
theorem gp4 {T : Array Value} {tv pv : Value} {ts : List (List Op3)} {picks : List Int} {drain : Bool} {z : PA × Int} (hk : fr.kind = .normal) (hs : T.size = 136) (t0 : T[0]? = some tv) (t1 : T[1]? = some pv) (t2 : T[2]? = some (.bool drain)) (hz : (playG ts).Run picks drain pa0 z) (hT : OpsAt E w tv ts) (hI : IntsAt E w pv picks)
    (hnp : picks.length ≤ 100000000000) (hll : ∀ l ∈ ts, l.length ≤ 100000000000) (hp64 : ∀ p ∈ picks, -9223372036854775808 ≤ p ∧ p ≤ 9223372036854775807) (hz2 : ts.length ≤ 8 → z.2 ≤ 100000000000000) (hms : ts.length ≤ 8 → z.1.ms.length ≤ 1000000000000)
    (hc : ∀ E1 w1 T' mv, Kept 0 none E w E1 w1 → Stands E w E1 w1 → T'.size = 136 → (∀ j, j < 25 → j ≠ 10 → T'[j]? = T[j]?) → T'[10]? = some mv → MarkV E1 w1 mv (rMs ts z) → (∀ g, mv.ownBlock = some g → w.heap.size ≤ g) → HG Try.prog 0 F E1 (G (fr.at ⟨T', []⟩ k) cs) w1) :
    HG Try.prog 0 F E (G (fr.at ⟨T, []⟩ (.code gS4 :: k)) cs) w := by
  obtain ⟨f, hf, fz⟩ := arrfv T hs
  have e0 := fz 0 _ t0
  have e1 := fz 1 _ t1
  have e2 := fz 2 _ t2
  refine HG.qstep (fun _ => False) (fun _ z => z.elim) (by kernel_rfl) hk (R := fun T' x x' => T'.size = 136 ∧ (∀ j, j < 25 → j ≠ 10 → T'[j]? = T[j]?) ∧ ∃ mv, T'[10]? = some mv ∧ x'.ownsRow x.heap.size 37 4 mv (rMs ts z).length (mksV (rMs ts z))) (fun x hxs hx => ?_) (fun E1 w1 T' x x' hK hH hxs hx hx' hB hSt hR => ?_)
  · obtain ⟨ta, ba, bo, cap, LA, LC, rfl, hX⟩ := hT.toX hx
    obtain ⟨pa, pb, po, pcap, rfl, hpa, hps⟩ := hI.toX hx
    rw [hf]
    refine gS4_wp e0 e1 e2 (rplay_any hz hX hpa hps hnp hll hp64 hz2 hms) (fun e x' h => by obtain ⟨mv, h, _⟩ := h; exact ⟨mv, h⟩) (fun T' x' rv h1 h2 h3 h4 => ?_)
    obtain ⟨mv, e, h5, h6⟩ := h4
    cases e
    refine ⟨rfl, rfl, fun b hb _ => h5.block b hb, h1, fun j hj hj2 => ?_, rv, h3, h6⟩
    rw [h2 j hj hj2]
    simp [show j < 136 by omega]
  · obtain ⟨h1, h2, mv, h3, h4⟩ := hR
    rw [hxs] at h4
    exact hc E1 w1 T' mv hK (fun b o a1 a2 => hSt b o id a1 a2) h1 h2 h3 (MarkV.of_new h4 hB hx' hH) (fun g hg => (h4.lt g hg).1)
theorem gp14 {T : Array Value} {tv pv : Value} {ts : List (List Op3)} {picks : List Int} {drain : Bool} {z : PA × Int} (hk : fr.kind = .normal) (hs : T.size = 136) (t0 : T[8]? = some tv) (t1 : T[9]? = some pv) (t2 : T[2]? = some (.bool drain)) (hz : (playG ts).Run picks drain pa0 z) (hT : OpsAt E w tv ts) (hI : IntsAt E w pv picks)
    (hnp : picks.length ≤ 100000000000) (hll : ∀ l ∈ ts, l.length ≤ 100000000000) (hp64 : ∀ p ∈ picks, -9223372036854775808 ≤ p ∧ p ≤ 9223372036854775807) (hz2 : ts.length ≤ 8 → z.2 ≤ 100000000000000) (hms : ts.length ≤ 8 → z.1.ms.length ≤ 1000000000000)
    (hc : ∀ E1 w1 T' mv, Kept 0 none E w E1 w1 → Stands E w E1 w1 → T'.size = 136 → (∀ j, j < 25 → j ≠ 20 → T'[j]? = T[j]?) → T'[20]? = some mv → MarkV E1 w1 mv (rMs ts z) → (∀ g, mv.ownBlock = some g → w.heap.size ≤ g) → HG Try.prog 0 F E1 (G (fr.at ⟨T', []⟩ k) cs) w1) :
    HG Try.prog 0 F E (G (fr.at ⟨T, []⟩ (.code gS14 :: k)) cs) w := by
  obtain ⟨f, hf, fz⟩ := arrfv T hs
  have e0 := fz 8 _ t0
  have e1 := fz 9 _ t1
  have e2 := fz 2 _ t2
  refine HG.qstep (fun _ => False) (fun _ z => z.elim) (by kernel_rfl) hk (R := fun T' x x' => T'.size = 136 ∧ (∀ j, j < 25 → j ≠ 20 → T'[j]? = T[j]?) ∧ ∃ mv, T'[20]? = some mv ∧ x'.ownsRow x.heap.size 37 4 mv (rMs ts z).length (mksV (rMs ts z))) (fun x hxs hx => ?_) (fun E1 w1 T' x x' hK hH hxs hx hx' hB hSt hR => ?_)
  · obtain ⟨ta, ba, bo, cap, LA, LC, rfl, hX⟩ := hT.toX hx
    obtain ⟨pa, pb, po, pcap, rfl, hpa, hps⟩ := hI.toX hx
    rw [hf]
    refine gS14_wp e0 e1 e2 (rplay_any hz hX hpa hps hnp hll hp64 hz2 hms) (fun e x' h => by obtain ⟨mv, h, _⟩ := h; exact ⟨mv, h⟩) (fun T' x' rv h1 h2 h3 h4 => ?_)
    obtain ⟨mv, e, h5, h6⟩ := h4
    cases e
    refine ⟨rfl, rfl, fun b hb _ => h5.block b hb, h1, fun j hj hj2 => ?_, rv, h3, h6⟩
    rw [h2 j hj hj2]
    simp [show j < 136 by omega]
  · obtain ⟨h1, h2, mv, h3, h4⟩ := hR
    rw [hxs] at h4
    exact hc E1 w1 T' mv hK (fun b o a1 a2 => hSt b o id a1 a2) h1 h2 h3 (MarkV.of_new h4 hB hx' hH) (fun g hg => (h4.lt g hg).1)
end
end Go.Proofs.Ytimlbbleblijnaa.Co

namespace Go.Proofs.Ytimlbbleblijnaa.Co
open Go Go.Conc Go.RowKit
open Go.ConcN (sumTo upd sumTo_upd upd_ne upd_same sumTo_congr le_sumTo)
set_option linter.unusedVariables false
set_option linter.unusedSimpArgs false
def StandsBut (S : Nat → Prop) (E : Env) (w : World) (E' : Env) (w' : World) : Prop := ∀ b o, ¬ S b → E.H b = none → w.heap[b]? = some o → E'.H b = none ∧ w'.heap[b]? = some o
theorem MarkV.but {S : Nat → Prop} {E E' : Env} {w w' : World} {v : Value} {ms : List Mk} (h : MarkV E w v ms) (hS : StandsBut S E w E' w') (hd : ∀ g, v.ownBlock = some g → ¬ S g) : MarkV E' w' v ms := by
  have k1 : ∀ g, v.ownBlock = some g → E'.H g = none ∧ w'.heap[g]? = w.heap[g]? := fun g hg => by
    have hl := (h.row.lt g hg).2
    obtain ⟨s1, s2⟩ := hS g _ (hd g hg) (h.H g hg) (Array.getElem?_eq_getElem hl)
    exact ⟨s1, by rw [s2, Array.getElem?_eq_getElem hl]⟩
  exact ⟨ownsRow_same h.row fun g hg => (k1 g hg).2, fun g hg => (k1 g hg).1⟩
theorem PickV.but {S : Nat → Prop} {E E' : Env} {w w' : World} {b : Nat} {ps : List Int} (h : PickV E w b ps) (hS : StandsBut S E w E' w') (hd : ¬ S b) : PickV E' w' b ps := by
  obtain ⟨s1, s2⟩ := hS b _ hd h.H h.row
  exact ⟨s2, s1⟩
theorem OwnV.but {S : Nat → Prop} {E E' : Env} {w w' : World} {ov : Value} {LB : Nat → Nat} {ts : List (List Op3)} (h : OwnV E w ov LB ts) (hS : StandsBut S E w E' w') (hd : ∀ g, ov.ownBlock = some g → ¬ S g) (hd2 : ∀ i, i < ts.length → ¬ S (LB i)) : OwnV E' w' ov LB ts := by
  have k1 : ∀ g, ov.ownBlock = some g → E'.H g = none ∧ w'.heap[g]? = w.heap[g]? := fun g hg => by
    have hl := (h.own.row.lt g hg).2
    obtain ⟨s1, s2⟩ := hS g _ (hd g hg) (h.oH g hg) (Array.getElem?_eq_getElem hl)
    exact ⟨s1, by rw [s2, Array.getElem?_eq_getElem hl]⟩
  have k2 : ∀ i, i < ts.length → E'.H (LB i) = none ∧ w'.heap[LB i]? = w.heap[LB i]? := fun i hi => by
    have ho := h.own.ops i _ hi (List.getElem?_eq_getElem hi)
    obtain ⟨s1, s2⟩ := hS _ _ (hd2 i hi) (h.lH i hi) ho
    exact ⟨s1, by rw [s2, ho]⟩
  refine ⟨h.own.same fun b hb => ?_, fun g hg => (k1 g hg).1, fun i hi => (k2 i hi).1⟩
  rcases hb with hb | ⟨i, hi, rfl⟩
  · exact (k1 b hb).2
  · exact (k2 i hi).2
section
variable {F : Machine → Trace → Prop} {E : Env} {w : World} {fr : Frame} {k : List Item} {cs : List Frame}
theorem gp11 {T : Array Value} (hk : fr.kind = .normal) (hs : T.size = 136) (t7 : T[7]? = some (.bool true)) (t13 : T[13]? = some (.bool true)) (t14 : T[14]? = some (.bool true)) (t15 : T[15]? = some (.bool true)) (t16 : T[16]? = some (.bool true))
    (hc : ∀ E1 w1 T', Kept 0 none E w E1 w1 → Stands E w E1 w1 → T'.size = 136 → (∀ j, j < 25 → T'[j]? = T[j]?) → HG Try.prog 0 F E1 (G (fr.at ⟨T', []⟩ k) cs) w1) :
    HG Try.prog 0 F E (G (fr.at ⟨T, []⟩ (.code gS11 :: k)) cs) w := by
  obtain ⟨f, hf, fz⟩ := arrfv T hs
  refine HG.qstep (fun _ => False) (fun _ z => z.elim) (by kernel_rfl) hk (R := fun T' x x' => T'.size = 136 ∧ (∀ j, j < 25 → T'[j]? = T[j]?)) (fun x hxs hx => ?_) (fun E1 w1 T' x x' hK hH hxs hx hx' hB hSt hR => ?_)
  · rw [hf]
    refine gS11_wp (fz _ _ t7) (fz _ _ t13) (fz _ _ t14) (fz _ _ t15) (fz _ _ t16) (fun T' h1 h2 => ⟨rfl, rfl, fun _ _ _ => rfl, h1, fun j hj => ?_⟩)
    rw [h2 j hj]
    simp [show j < 136 by omega]
  · exact hc E1 w1 T' hK (fun b o a1 a2 => hSt b o id a1 a2) hR.1 hR.2
theorem gp12 {T : Array Value} {ov : Value} {LB : Nat → Nat} {ts : List (List Op3)} (hk : fr.kind = .normal) (hs : T.size = 136) (t8 : T[8]? = some ov) (hO : OwnV E w ov LB ts) (hn : ts.length ≤ 1000000000000) (hll : ∀ l ∈ ts, l.length ≤ 100000000000)
    (hc : ∀ E1 w1 T', Kept 0 none E w E1 w1 → StandsBut (fun b => ∃ i, i < ts.length ∧ b = LB i) E w E1 w1 → T'.size = 136 → (∀ j, j < 17 → T'[j]? = T[j]?) → OwnV E1 w1 ov LB (incT ts) → HG Try.prog 0 F E1 (G (fr.at ⟨T', []⟩ k) cs) w1) :
    HG Try.prog 0 F E (G (fr.at ⟨T, []⟩ (.code gS12 :: k)) cs) w := by
  obtain ⟨f, hf, fz⟩ := arrfv T hs
  refine HG.qstep (fun b => ∃ i, i < ts.length ∧ b = LB i) (fun b ⟨i, hi, e⟩ => by rw [e]; exact hO.lH i hi) (by kernel_rfl) hk (R := fun T' x x' => T'.size = 136 ∧ (∀ j, j < 17 → T'[j]? = T[j]?) ∧ OwnT 0 x' ov LB (incT ts) (incT ts).length) (fun x hxs hx => ?_) (fun E1 w1 T' x x' hK hH hxs hx hx' hB hSt hR => ?_)
  · rw [hf]
    refine gS12_wp (fz _ _ t8) (hO.toX hx) hn hll (fun T' x' h1 h2 h3 => ⟨rfl, rfl, fun b _ hb => h3.old b (fun j hj e => hb ⟨j, hj, e⟩), h1, fun j hj => ?_, W1.own (hO.toX hx) h3⟩)
    rw [h2 j hj]
    simp [show j < 136 by omega]
  · obtain ⟨h1, h2, h3⟩ := hR
    refine hc E1 w1 T' hK hSt h1 h2 ⟨h3.same fun b hb => ?_, fun g hg => by rw [hH]; exact hO.oH g hg, fun i hi => by rw [hH]; exact hO.lH i (by rw [incT_len] at hi; exact hi)⟩
    rcases hb with hb | ⟨i, hi, rfl⟩
    · exact hx' b (hO.oH b hb)
    · exact hx' _ (hO.lH i (by rw [incT_len] at hi; exact hi))
theorem gp13 {T : Array Value} {b : Nat} {ps : List Int} (hk : fr.kind = .normal) (hs : T.size = 136) (t9 : T[9]? = some (.slice (some ⟨b, 0, none⟩) ps.length (ps.length + 2))) (hP : PickV E w b ps) (hpl : ps.length ≤ 1000000000000)
    (hc : ∀ E1 w1 T', Kept 0 none E w E1 w1 → StandsBut (fun c => c = b) E w E1 w1 → T'.size = 136 → (∀ j, j < 17 → T'[j]? = T[j]?) → PickV E1 w1 b (ps.map negI) → HG Try.prog 0 F E1 (G (fr.at ⟨T', []⟩ k) cs) w1) :
    HG Try.prog 0 F E (G (fr.at ⟨T, []⟩ (.code gS13 :: k)) cs) w := by
  obtain ⟨f, hf, fz⟩ := arrfv T hs
  refine HG.qstep (fun c => c = b) (fun c e => by rw [e]; exact hP.H) (by kernel_rfl) hk (R := fun T' x x' => T'.size = 136 ∧ (∀ j, j < 17 → T'[j]? = T[j]?) ∧ x'.heap[b]? = some (.cells (ownI (ps.map negI)).toArray 3)) (fun x hxs hx => ?_) (fun E1 w1 T' x x' hK hH hxs hx hx' hB hSt hR => ?_)
  · rw [hf]
    refine gS13_wp (fz _ _ t9) ((hx b hP.H).trans hP.row) hpl (fun T' x' h1 h2 h3 h4 h5 => ⟨rfl, rfl, fun c _ hc => h4 c hc, h1, fun j hj => ?_, h3⟩)
    rw [h2 j hj]
    simp [show j < 136 by omega]
  · obtain ⟨h1, h2, h3⟩ := hR
    exact hc E1 w1 T' hK hSt h1 h2 ⟨(hx' b hP.H).trans h3, by rw [hH]; exact hP.H⟩
theorem gp18 {T : Array Value} {v0 v1 : Value} {ms ms' : List Mk} (hk : fr.kind = .normal) (hs : T.size = 136) (t0 : T[11]? = some v0) (t1 : T[12]? = some v1) (ha : MarkV E w v0 ms) (hb : MarkV E w v1 ms') (hne : ∀ g, v0.ownBlock = some g → v1.ownBlock ≠ some g) (hml : ms.length ≤ 100000000000) (hml' : ms'.length ≤ 100000000000)
    (hc : ∀ E1 w1 T', Kept 0 none E w E1 w1 → StandsBut (fun b => v0.ownBlock = some b ∨ v1.ownBlock = some b) E w E1 w1 → T'.size = 136 → (∀ j, j < 25 → j ≠ 24 → T'[j]? = T[j]?) → T'[24]? = some (.bool true) → HG Try.prog 0 F E1 (G (fr.at ⟨T', []⟩ k) cs) w1) :
    HG Try.prog 0 F E (G (fr.at ⟨T, []⟩ (.code gS18 :: k)) cs) w := by
  obtain ⟨f, hf, fz⟩ := arrfv T hs
  refine HG.qstep (fun b => v0.ownBlock = some b ∨ v1.ownBlock = some b) (fun b e => e.elim (ha.H b) (hb.H b)) (by kernel_rfl) hk (R := fun T' x x' => T'.size = 136 ∧ (∀ j, j < 25 → j ≠ 24 → T'[j]? = T[j]?) ∧ T'[24]? = some (.bool true)) (fun x hxs hx => ?_) (fun E1 w1 T' x x' hK hH hxs hx hx' hB hSt hR => ?_)
  · rw [hf]
    refine gS18_wp (fz _ _ t0) (fz _ _ t1) (grown_wp (ha.toX hx) (hb.toX hx) hne hml hml') (fun e x' h => ⟨_, h.1⟩) (fun T' x' rv h1 h2 h3 h4 => ?_)
    obtain ⟨e, h5⟩ := h4
    cases e
    refine ⟨rfl, rfl, fun b hb hn => h5 b hb (fun e => hn (.inl e)) (fun e => hn (.inr e)), h1, fun j hj hj2 => ?_, h3⟩
    rw [h2 j hj hj2]
    simp [show j < 136 by omega]
  · obtain ⟨h1, h2, h3⟩ := hR
    exact hc E1 w1 T' hK hSt h1 h2 h3
theorem gp19 {T : Array Value} (hk : fr.kind = .normal) (hs : T.size = 136) (t22 : T[22]? = some (.bool true)) (t23 : T[23]? = some (.bool true)) (t24 : T[24]? = some (.bool true))
    (hc : ∀ E1 w1 T', Kept 0 none E w E1 w1 → Stands E w E1 w1 → T'.size = 136 → T'[6]? = some (.bool true) → HG Try.prog 0 F E1 (G (fr.at ⟨T', []⟩ k) cs) w1) :
    HG Try.prog 0 F E (G (fr.at ⟨T, []⟩ (.code gS19 :: k)) cs) w := by
  obtain ⟨f, hf, fz⟩ := arrfv T hs
  refine HG.qstep (fun _ => False) (fun _ z => z.elim) (by kernel_rfl) hk (R := fun T' x x' => T'.size = 136 ∧ T'[6]? = some (.bool true)) (fun x hxs hx => ?_) (fun E1 w1 T' x x' hK hH hxs hx hx' hB hSt hR => ?_)
  · rw [hf]
    exact gS19_wp (fz _ _ t22) (fz _ _ t23) (fz _ _ t24) (fun T' h1 h2 => ⟨rfl, rfl, fun _ _ _ => rfl, h1, h2⟩)
  · exact hc E1 w1 T' hK (fun b o a1 a2 => hSt b o id a1 a2) hR.1 hR.2
end
end Go.Proofs.Ytimlbbleblijnaa.Co
