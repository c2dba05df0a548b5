/- The document's Parse: the walk. -/
import Derived.Test.YtgjcdhcbniholaaGreatRo
import Derived.Test.YtgjcdhcbniholaaGreatLaE
namespace Go.Proofs.YtgjcdhcbniholaaGreat.Rv
open Go.RowKit Go.Proofs.YtgjcdhcbniholaaGreat.La Go.Proofs.YtgjcdhcbniholaaGreat.Rc Go.Proofs.YtgjcdhcbniholaaGreat.Sl
set_option linter.unusedVariables false

theorem textF_ok (s : ByteArray) (frm : Nat) : ∀ (f i : Nat) (acc b : List UInt8) (n : Nat), textF s frm f i acc = .ok b n → n ≤ s.size := by
  intro f
  induction f with
  | zero => intro i acc b n h; rw [textF] at h; cases h
  | succ f ih =>
    intro i acc b n h
    rw [textF] at h
    split at h
    · rename_i hi
      split at h
      · cases h
      · split at h
        · split at h
          · cases h; omega
          · cases h
        · split at h
          · split at h
            · exact ih _ _ _ _ h
            · cases h
          · exact ih _ _ _ _ h
    · cases h
theorem textF_bad (s : ByteArray) (frm : Nat) : ∀ (f i : Nat) (acc : List UInt8) (e : Int) (n : Nat), textF s frm f i acc = .bad e n → e ≠ 0 := by
  intro f
  induction f with
  | zero => intro i acc b n h; rw [textF] at h; cases h; decide
  | succ f ih =>
    intro i acc b n h
    rw [textF] at h
    split at h
    · rename_i hi
      split at h
      · cases h; decide
      · split at h
        · split at h
          · cases h
          · cases h; assumption
        · split at h
          · split at h
            · exact ih _ _ _ _ h
            · cases h; decide
          · exact ih _ _ _ _ h
    · cases h; decide
theorem labR_ok {s : ByteArray} {l : List Lab} {p : Nat} {x : Lab} {n : Nat} (h : labR s l p = .ok x n) : n ≤ s.size := by
  unfold labR at h
  repeat (split at h; · cases h)
  split at h
  · rename_i b nn hb
    cases h
    exact textF_ok s _ _ _ _ _ _ hb
  · cases h
theorem labR_bad {s : ByteArray} {l : List Lab} {p : Nat} {e : Int} {n : Nat} (h : labR s l p = .bad e n) : e ≠ 0 := by
  unfold labR at h
  split at h
  · cases h; decide
  split at h
  · cases h; decide
  split at h
  · cases h; assumption
  split at h
  · cases h; decide
  split at h
  · cases h; decide
  split at h
  · cases h
  · rename_i b nn hb
    cases h
    exact textF_bad s _ _ _ _ _ _ hb

def RPost (w : World) (r : SRes) (e : Ending) (w' : World) : Prop :=
  match r with
  | .ok nm ls => ∃ A c, e = .returned (.tuple #[.string nm, .slice A ls.length c, .agg #[.int .i64 0, .int .i64 0]]) ∧ w'.ownsRow w.heap.size 45 2 (.slice A ls.length c) ls.length (labs ls) ∧ Below w.heap.size w w'
  | .bad x q => e = .returned (.tuple #[.string ⟨#[]⟩, .slice none 0 0, .agg #[.int .i64 x, .int .i64 (q : Int)]]) ∧ Below w.heap.size w w'

set_option maxRecDepth 100000 in
set_option maxHeartbeats 8000000 in
theorem rparse_any (s : ByteArray) (hs : s.size ≤ 140737488351232) (w : World) :
    Calls Tryz.prog 9 #[.string s] w (RPost w (serR s)) := by
  obtain ⟨i0, hinf, hz0, hz1, hz2⟩ := info_parts info41
  obtain ⟨w0, hw0⟩ : ∃ w0, w0 = w.alloc (.cells #[.int .i64 0, .int .i64 0] 29) := ⟨_, rfl⟩
  have bel0 : Below w.heap.size w w0 := by rw [hw0]; exact (Below.refl _ _).alloc (Nat.le_refl _) _
  have g2 : w0.heap[w.heap.size]? = some (.cells #[.int .i64 0, .int .i64 0] 29 (0, 0)) := by rw [hw0]; exact heap_alloc_new _ _
  have hsz0 : w0.heap.size = w.heap.size + 1 := by rw [hw0]; simp
  have cells : ∀ wr, Below (w.heap.size + 1) w0 wr → (wr.cell? ⟨w.heap.size, 0, none⟩ = some (.int .i64 0) ∧ wr.cell? ⟨w.heap.size, 1, none⟩ = some (.int .i64 0) ∧ wr.frozen? ⟨w.heap.size, 0, none⟩ = false ∧ wr.frozen? ⟨w.heap.size, 1, none⟩ = false) := by
    intro wr k
    have e2 := (k.block w.heap.size (by omega)).trans g2
    exact ⟨by rw [cell_of_row _ _ _ _ _ _ e2]; rfl, by rw [cell_of_row _ _ _ _ _ _ e2]; rfl, by simp [World.frozen?, e2], by simp [World.frozen?, e2]⟩
  have belx : ∀ wr, Below w.heap.size w wr → ∀ x y, Below w.heap.size w ((wr.setCell ⟨w.heap.size, 0, none⟩ x).setCell ⟨w.heap.size, 1, none⟩ y) := fun wr k x y =>
    (k.setCell (p := ⟨w.heap.size, 0, none⟩) (Nat.le_refl _) x).setCell (p := ⟨w.heap.size, 1, none⟩) (by simp) y
  obtain ⟨a5, a6, a7, a8⟩ := cells w0 (Below.refl _ _)
  have belw := belx w0 bel0
  obtain ⟨SR, hSR⟩ : ∃ SR, SR = serR s := ⟨_, rfl⟩
  rw [← hSR]
  unfold serR at hSR
  have q0 := rowLen_le true s 0 (Nat.zero_le _)
  rw [Nat.zero_add] at q0
  have crow := row_any s 0 true (by omega) (Nat.zero_le _)
  rw [show (rowL true (s.data.toList.drop 0)).length = La.rowLen true s 0 from rfl] at crow
  have e00 : ((0 : Nat) : Int) = 0 := rfl
  rw [e00] at crow
  clear e00
  obtain ⟨R, hR⟩ : ∃ R, R = La.rowLen true s 0 := ⟨_, rfl⟩
  obtain ⟨nm, hnm⟩ : ∃ nm, nm = rowS true s 0 := ⟨_, rfl⟩
  rw [← hnm, ← hR] at hSR
  rw [← hR] at q0 crow
  have hnm2 : s.extract 0 R = nm := by rw [hnm, hR]; unfold rowS; rw [Nat.zero_add]
  have hnsz : nm.size ≤ 9223372036854775807 := by rw [← hnm2, ByteArray.size_extract]; omega
  have cl := rname_any nm hnsz
  have hRb : (R : Int) ≤ 140737488351232 := by omega
  have hsb : (s.size : Int) ≤ 140737488351232 := by omega
  have hRsI : (R : Int) ≤ (s.size : Int) := by omega
  have hR0 : (0 : Int) ≤ (R : Int) := by omega
  replace crow := Lib.hid crow
  replace cl := Lib.hid cl
  replace hnm2 := Lib.hid hnm2
  replace hw0 := Lib.hid hw0
  replace cells := Lib.hid cells
  replace belx := Lib.hid belx
  clear hnm hR hnsz g2
  by_cases hln : nameL nm.data.toList = false
  · rw [if_pos hln] at hSR
    subst hSR
    rw [hln] at cl
    clear hln hs
    go_enter Tryz.func9, Tryz.ntmps9
    go_upto_region 1 with fail
    rw [← hw0.out]
    go_wp2_with fail
    refine (crow.out _).mono ?_
    rintro e w' ⟨rfl, hw⟩
    rw [hw]; clear hw w'
    go_wp2_with fail
    simp only [hnm2.out]
    refine (cl.out _).mono ?_
    rintro e w' ⟨rfl, hw⟩
    rw [hw]; clear hw w'
    go_wp2
    refine bodyPost_ret (v := .tuple #[.string ⟨#[]⟩, .slice none 0 0, .agg #[.int .i64 9, .int .i64 0]]) ?_ rfl ⟨rfl, belw _ _⟩
    rw [results_ttc rfl]
    go_simp
    try rfl
  rw [if_neg hln] at hSR
  have hln2 : nameL nm.data.toList = true := by simpa using hln
  rw [hln2] at cl
  clear hln hln2
  by_cases h2 : R = s.size
  · rw [if_pos h2] at hSR
    subst hSR
    have t2i : ((R : Int) == (s.size : Int)) = true := by rw [h2]; simp
    have own0 : (((w0.setCell ⟨w.heap.size, 0, none⟩ (.int .i64 0)).setCell ⟨w.heap.size, 1, none⟩ (.int .i64 0)).alloc (.cells #[] 45)).ownsRow w.heap.size 45 2 (.slice (some ⟨w.heap.size + 1, 0, none⟩) ([] : List Lab).length 0) ([] : List Lab).length (labs []) := by
      have h := World.ownsRow_made (e := 45) (size := 2) ((w0.setCell ⟨w.heap.size, 0, none⟩ (.int .i64 0)).setCell ⟨w.heap.size, 1, none⟩ (.int .i64 0)) #[] 0 (base := w.heap.size) (by simp; omega) (by decide) (by simp)
      have hsz : ((w0.setCell ⟨w.heap.size, 0, none⟩ (.int .i64 0)).setCell ⟨w.heap.size, 1, none⟩ (.int .i64 0)).heap.size = w.heap.size + 1 := by simp [hsz0]
      rw [hsz] at h
      exact h
    have belm := fun x y => (belx.out w0 bel0 x y).alloc (by simp; omega) (.cells #[] 45)
    obtain ⟨b5, b6, b7, b8⟩ := cells.out (w0.alloc (.cells #[] 45)) ((Below.refl _ _).alloc (by omega) _)
    clear h2 hs
    replace own0 := Lib.hid own0
    replace belm := Lib.hid belm
    go_enter Tryz.func9, Tryz.ntmps9
    go_upto_region 1 with fail
    rw [← hw0.out]
    go_wp2_with fail
    refine (crow.out _).mono ?_
    rintro e w' ⟨rfl, hw⟩
    rw [hw]; clear hw w'
    go_wp2_with fail
    simp only [hnm2.out]
    refine (cl.out _).mono ?_
    rintro e w' ⟨rfl, hw⟩
    rw [hw]; clear hw w'
    go_wp2
    refine bodyPost_ret (v := .tuple #[.string nm, .slice (some ⟨w.heap.size + 1, 0, none⟩) 0 0, .agg #[.int .i64 0, .int .i64 0]]) ?_ rfl ⟨_, _, rfl, own0.out, belm.out _ _⟩
    rw [results_ttc rfl]
    go_simp
    try rfl
  rw [if_neg h2] at hSR
  have t2i : ((R : Int) == (s.size : Int)) = false := by simp; omega
  have hRlt : R < s.size := by omega
  have hRltI : (R : Int) < (s.size : Int) := by omega
  clear h2
  obtain ⟨wm, hwm⟩ : ∃ wm, wm = w0.alloc (.cells #[] 45) := ⟨_, rfl⟩
  have own0 : wm.ownsRow (w.heap.size + 1) 45 2 (.slice (some ⟨w0.heap.size, 0, none⟩) 0 0) 0 [] := by
    rw [hwm]
    exact World.ownsRow_made (e := 45) (size := 2) w0 #[] 0 (base := w.heap.size + 1) (by omega) (by decide) (by simp)
  rw [hsz0] at own0
  have belm : Below (w.heap.size + 1) w0 wm := by rw [hwm]; exact (Below.refl _ _).alloc (by omega) _
  obtain ⟨b5, b6, b7, b8⟩ := cells.out wm belm
  replace hwm := Lib.hid hwm
  by_cases h3 : ¬ isAt s R 123
  · rw [if_pos h3] at hSR
    subst hSR
    have j2 : s[R] ≠ 123 := fun e => h3 ⟨hRlt, e⟩
    have t7 : ((s[R].toNat : Int) != 123) = true := by rw [bne, u8_lit s[R] 123 123 rfl]; simpa using j2
    have belm2 := belx.out wm (bel0.trans (belm.mono (by omega)))
    replace belm2 := Lib.hid belm2
    replace own0 := Lib.hid own0
    clear h3 j2 hs
    go_enter Tryz.func9, Tryz.ntmps9
    go_upto_region 1 with fail
    rw [← hw0.out]
    go_wp2_with fail
    refine (crow.out _).mono ?_
    rintro e w' ⟨rfl, hw⟩
    rw [hw]; clear hw w'
    go_wp2_with fail
    simp only [hnm2.out]
    refine (cl.out _).mono ?_
    rintro e w' ⟨rfl, hw⟩
    rw [hw]; clear hw w'
    go_upto_region 6 with fail
    rw [← hwm.out]
    go_wp2
    refine bodyPost_ret (v := .tuple #[.string ⟨#[]⟩, .slice none 0 0, .agg #[.int .i64 5, .int .i64 (R : Int)]]) ?_ rfl ⟨rfl, belm2.out _ _⟩
    rw [results_ttc rfl]
    go_simp
    try rfl
  rw [if_neg h3] at hSR
  obtain ⟨_, j2⟩ := Decidable.not_not.1 h3
  have t7 : (s[R].toNat : Int) = 123 := by rw [j2]; rfl
  clear h3 j2
  replace hSR := Lib.hid hSR
  replace own0 := Lib.hid own0
  go_enter Tryz.func9, Tryz.ntmps9
  go_upto_region 1 with fail
  rw [← hw0.out]
  go_wp2_with fail
  refine (crow.out _).mono ?_
  rintro e w' ⟨rfl, hw⟩
  rw [hw]; clear hw w'
  go_wp2_with fail
  simp only [hnm2.out]
  refine (cl.out _).mono ?_
  rintro e w' ⟨rfl, hw⟩
  rw [hw]; clear hw w'
  go_upto_region 6 with fail
  rw [← hwm.out]
  go_wp2
  clear crow cl hnm2 t7 t2i a5 a6 a7 a8 b5 b6 b7 b8 belw
  go_loopw [5, 7] (fun a v wr => ∃ (f i : Nat) (acc : List Lab) (A : Option Addr) (c : Nat), a = .int .i64 (i : Int) ∧ v = .slice A acc.length c ∧ i + 1 ≤ s.size ∧ f + acc.length = 17 ∧ acc.length ≤ 16 ∧ Hid (serF s nm f (i + 1) acc = serF s nm 17 (R + 1) []) ∧
    wr.ownsRow (w.heap.size + 1) 45 2 (.slice A acc.length c) acc.length (labs acc) ∧ Below (w.heap.size + 1) w0 wr) (fun _ v wr => 17 - lenOf v)
  case atStart => exact ⟨17, R, [], some ⟨w.heap.size + 1, 0, none⟩, 0, rfl, rfl, hRlt, rfl, by simp, Lib.hid rfl, own0.out, belm⟩
  case round =>
    obtain ⟨f, i, acc, A, c, rfl, rfl, hi, hf, ha16, hse, ho, hb⟩ := hrel
    obtain ⟨f, rfl⟩ : ∃ f', f = f' + 1 := ⟨f - 1, by omega⟩
    have hse' := hse.out
    rw [← hSR.out, serF] at hse'
    have hbs := hb.size
    have hwr : w.heap.size + 1 ≤ wr.heap.size := by omega
    have belr : Below w.heap.size w wr := bel0.trans (hb.mono (by omega))
    have hup : ∀ k, (Value.slice A acc.length c).ownBlock = some k → w.heap.size + 1 ≤ k := fun k hk => own_up ho hk
    have hrd : Rd wr wr.heap.size 2 A (labs acc) acc.length := Rd.of_own ho (fun a ha => (own_lt ho a.block (by rw [ha]; rfl)).2)
    have cl := rone_any s (i + 1) A c acc hi hs wr hrd ha16
    have e0 : ((i + 1 : Nat) : Int) = (i : Int) + 1 := by simp
    rw [e0] at cl
    clear e0 hrd hse
    have hiI : (i : Int) ≤ 140737488351232 := by omega
    replace cl := Lib.hid cl
    replace hup := Lib.hid hup
    cases hlab : labR s acc (i + 1) with
    | bad x q =>
      rw [hlab] at hse' cl
      simp only at hse'
      have hx := labR_bad hlab
      have t1 : ((x : Int) != 0) = true := by simpa using hx
      subst hse'
      clear hlab hx hs
      go_wp2_with fail
      refine cl.out.mono ?_
      rintro e w3 ⟨⟨y, rfl⟩, h5⟩
      have hb3 : Below (w.heap.size + 1) w0 w3 := hb.trans (h5.mono hwr)
      have hsz3 : wr.heap.size ≤ w3.heap.size := h5.size
      clear h5 cl
      go_upto_region 11 with fail
      obtain ⟨w6, hw6⟩ : ∃ w6, w6 = (w3.alloc (.cells #[.string y.1, .string y.2] 45)).alloc (.cells #[.int .i64 x, .int .i64 (q : Int)] 29) := ⟨_, rfl⟩
      rw [← hw6]
      have hb6 : Below (w.heap.size + 1) w0 w6 := by rw [hw6]; exact (hb3.alloc (by omega) _).alloc (by simp; omega) _
      have hnew : w6.heap[w3.heap.size + 1]? = some (.cells #[.int .i64 x, .int .i64 (q : Int)] 29 (0, 0)) := by
        have := heap_alloc_new (w3.alloc (.cells #[.string y.1, .string y.2] 45)) (.cells #[.int .i64 x, .int .i64 (q : Int)] 29)
        rw [World.size_alloc] at this
        rw [hw6]; exact this
      have y1 : w6.cell? ⟨w3.heap.size + 1, 0, none⟩ = some (.int .i64 x) := by rw [cell_of_row _ _ _ _ _ _ hnew]; rfl
      have y2 : w6.cell? ⟨w3.heap.size + 1, 1, none⟩ = some (.int .i64 (q : Int)) := by rw [cell_of_row _ _ _ _ _ _ hnew]; rfl
      obtain ⟨b5, b6, b7, b8⟩ := cells.out w6 hb6
      have bel7 := belx.out w6.drew (Below.drew (bel0.trans (hb6.mono (by omega))))
      obtain ⟨g, hg⟩ : ∃ g, g = w3.heap.size + 1 := ⟨_, rfl⟩
      rw [← hg] at y1 y2 ⊢
      have g1 : g ≠ w.heap.size := by omega
      have g3 : w.heap.size ≠ g := by omega
      replace bel7 := Lib.hid bel7
      clear hw6 hg hb6 hnew hsz3 hb3 hb belr bel0 ho
      go_wp2
      go_region
      all_goals
        go_wp2
        refine bodyPost_ret (v := .tuple #[.string ⟨#[]⟩, .slice none 0 0, .agg #[.int .i64 x, .int .i64 (q : Int)]]) ?_ rfl ⟨rfl, bel7.out _ _⟩
        rw [results_ttc rfl]
        go_simp
        try rfl
    | ok x next =>
      rw [hlab] at hse' cl
      simp only at hse'
      have hl16 := lab_len s acc (i + 1) hlab
      have hn := labR_ok hlab
      have hnI : (next : Int) ≤ 140737488351232 := by omega
      clear hlab
      replace hse' := Lib.hid hse'
      go_wp2_with fail
      refine cl.out.mono ?_
      rintro e w3 ⟨rfl, h5⟩
      have hb3 : Below (w.heap.size + 1) w0 w3 := hb.trans (h5.mono hwr)
      have ho3 := own_later ho h5
      have hsz3 : wr.heap.size ≤ w3.heap.size := h5.size
      clear h5 cl ho
      go_upto_region 11 with fail
      have hnw : ∀ j u, [Value.string x.1, Value.string x.2][j]? = some u → (((w3.alloc (.cells #[.string x.1, .string x.2] 45)).alloc (.cells #[.int .i64 0, .int .i64 0] 29)).alloc (.cells #[.string x.1, .string x.2] 45)).cell? ((⟨w3.heap.size + 1 + 1, 0, none⟩ : Addr).add j) = some u := by
        have h := World.news_of_block (cs := #[Value.string x.1, Value.string x.2]) (heap_alloc_new ((w3.alloc (.cells #[.string x.1, .string x.2] 45)).alloc (.cells #[.int .i64 0, .int .i64 0] 29)) (.cells #[.string x.1, .string x.2] 45))
        rw [World.size_alloc, World.size_alloc] at h
        exact h
      replace hnw := Lib.hid hnw
      go_upto_region 15 with (at_builtin; refine wpList_append_lies _ rfl _ _ _ rfl (w.heap.size + 1) 45 i0 _ 2 32 Tryz.underlying24 hinf hz0 hz1 hz2 rfl (by decide) _ acc.length (labs acc) (by rfl) (((ho3.alloc _).alloc _).alloc _) ⟨w3.heap.size + 1 + 1, 0, none⟩ 1 1 [.string x.1, .string x.2] (by rfl) (by rfl) hnw.out (one2 x) (by omega) (by unfold maxLen; omega) (by omega) (by simp; omega) _ rfl ?_; intro gg cap w4 ho4 hgrow hat hlt4)
      have hb4 : Below (w.heap.size + 1) w0 w4 := by
        refine Below.grown ?_ hgrow (by simp; omega) hup.out
        exact ((hb3.alloc (by omega) _).alloc (by simp; omega) _).alloc (by simp; omega) _
      rw [show labs acc ++ [Value.string x.1, Value.string x.2] = labs (acc ++ [x]) from (labs_snoc acc x).symm] at ho4
      have bel4 := belx.out w4 (bel0.trans (hb4.mono (by omega)))
      obtain ⟨b5, b6, b7, b8⟩ := cells.out w4 hb4
      clear hgrow hat hnw ho3 hb3 hsz3 hup hlt4 hbs hwr belr hb
      replace bel4 := Lib.hid bel4
      replace ho4 := Lib.hid ho4
      replace hb4 := Lib.hid hb4
      by_cases hlt : next < s.size
      · have t3 : ((next : Int) == (s.size : Int)) = false := by simp; omega
        have t4 : (next : Int) < (s.size : Int) := by omega
        by_cases hk : s[next] = 44
        · have t7 : (s[next].toNat : Int) = 44 := by rw [hk]; rfl
          have hse2 := hse'.out
          rw [if_pos ⟨hlt, hk⟩] at hse2
          replace hse2 := Lib.hid hse2
          clear hk hse' hs
          go_wp2
          exact ⟨⟨f, next, acc ++ [x], some ⟨gg, 0, none⟩, cap, rfl, by rw [List.length_append]; rfl, hlt, by simp; omega, by simp; omega, Lib.hid (hse2.out.trans hSR.out), by rw [List.length_append]; exact ho4.out, hb4.out⟩, by simp [lenOf]; omega⟩
        · by_cases hk2 : s[next] = 125
          · have t7 : (s[next].toNat : Int) = 125 := by rw [hk2]; rfl
            have hse2 := hse'.out
            rw [if_neg (fun ⟨_, h⟩ => hk h), if_neg (fun h => h ⟨hlt, hk2⟩)] at hse2
            clear hk hk2 hse' hs
            by_cases hend : next + 1 < s.size
            · rw [if_pos hend] at hse2
              subst hse2
              have t5 : (next : Int) + 1 < (s.size : Int) := by omega
              have t6 : decide ((next : Int) + 1 < (s.size : Int)) = true := decide_eq_true t5
              clear hend
              go_wp2
              refine bodyPost_ret (v := .tuple #[.string ⟨#[]⟩, .slice none 0 0, .agg #[.int .i64 5, .int .i64 ((next : Int) + 1)]]) ?_ rfl ⟨by simp, bel4.out _ _⟩
              rw [results_ttc rfl]
              go_simp
              try rfl
            · rw [if_neg hend] at hse2
              subst hse2
              have t6 : decide ((next : Int) + 1 < (s.size : Int)) = false := decide_eq_false (by omega)
              clear hend
              go_wp2
              refine bodyPost_ret (v := .tuple #[.string nm, .slice (some ⟨gg, 0, none⟩) (acc ++ [x]).length cap, .agg #[.int .i64 0, .int .i64 0]]) ?_ rfl ⟨_, _, rfl, ?_, bel4.out _ _⟩
              · rw [results_ttc rfl]
                go_simp
                try rfl
              · rw [List.length_append]
                exact own_base (own_only ho4.out (only_set (only_set (only_refl w4 (some w.heap.size)) 0 _) 1 _) (by omega)) (by omega)
          · have hse2 := hse'.out
            rw [if_neg (fun ⟨_, h⟩ => hk h), if_pos (fun ⟨_, h⟩ => hk2 h)] at hse2
            subst hse2
            have t7 : ((s[next].toNat : Int) != 44) = true := by rw [bne, u8_lit s[next] 44 44 rfl]; simpa using hk
            have t8 : ((s[next].toNat : Int) != 125) = true := by rw [bne, u8_lit s[next] 125 125 rfl]; simpa using hk2
            clear hk hk2 hse' hs
            go_wp2
            refine bodyPost_ret (v := .tuple #[.string ⟨#[]⟩, .slice none 0 0, .agg #[.int .i64 5, .int .i64 (next : Int)]]) ?_ rfl ⟨rfl, bel4.out _ _⟩
            rw [results_ttc rfl]
            go_simp
            try rfl
      · have t3 : ((next : Int) == (s.size : Int)) = true := by simp; omega
        have hse2 := hse'.out
        rw [if_neg (fun ⟨h, _⟩ => hlt h), if_pos (fun ⟨h, _⟩ => hlt h)] at hse2
        subst hse2
        clear hlt hse' hs
        go_wp2
        refine bodyPost_ret (v := .tuple #[.string ⟨#[]⟩, .slice none 0 0, .agg #[.int .i64 5, .int .i64 (next : Int)]]) ?_ rfl ⟨rfl, bel4.out _ _⟩
        rw [results_ttc rfl]
        go_simp
        try rfl
end Go.Proofs.YtgjcdhcbniholaaGreat.Rv
