/- LabelParses: the walk. -/
import Derived.Test.YtgjcdhcbniholaaGreatRq
import Derived.Test.YtgjcdhcbniholaaGreatSm
import Derived.Test.YtgjcdhcbniholaaGreatLc4
import Derived.SliceStrings
namespace Go.Proofs.YtgjcdhcbniholaaGreat.Rv
open Go.RowKit Go.Proofs.YtgjcdhcbniholaaGreat.La Go.Proofs.YtgjcdhcbniholaaGreat.Sl Go.ChangeShapes Go.WideShapes
set_option linter.unusedVariables false

theorem serF_len (s nm : ByteArray) : ∀ (f i : Nat) (acc : List Lab) (nm' : ByteArray) (l : List Lab), serF s nm f i acc = .ok nm' l → l.length ≤ acc.length + f := by
  intro f
  induction f with
  | zero => intro i acc nm' l h; rw [serF] at h; cases h
  | succ f ih =>
    intro i acc nm' l h
    rw [serF] at h
    split at h
    · cases h
    · split at h
      · have := ih _ _ _ _ h
        simp at this
        omega
      · split at h
        · cases h
        · split at h
          · cases h
          · cases h; simp
theorem serR_len {s nm : ByteArray} {l : List Lab} (h : serR s = .ok nm l) : l.length ≤ 17 := by
  unfold serR at h
  split at h
  · cases h
  split at h
  · cases h; simp
  split at h
  · cases h
  · simpa using serF_len _ _ _ _ _ _ _ h

/-- Strings that came in have no more bytes than the weights say. -/
theorem strs_sized {H : Type} {d : DataW H} {l : List ByteArray} {rest : List (DataW H)} (hd : d = .slice (l.map fun s => .lit (.string s.data.toList)) rest) (hw : ∀ n ∈ d.weights Tryz.prog 22, n ≤ reachBytes) :
    ∀ x ∈ l, x.size ≤ reachBytes := by
  subst hd
  have hu : Tryz.prog.underlying 22 = some (.slice 9) := Tryz.underlying22
  rw [DataW.weights, hu] at hw
  simp only at hw
  have hall : ∀ (m : List ByteArray), (∀ n ∈ DataW.weightsAll Tryz.prog 9 (m.map fun s => (.lit (.string s.data.toList) : DataW H)), n ≤ reachBytes) → ∀ x ∈ m, x.size ≤ reachBytes := by
    intro m
    induction m with
    | nil => intro _ x hx; simp at hx
    | cons y m ih =>
      intro hm x hx
      rw [List.map_cons, DataW.weightsAll] at hm
      rcases List.mem_cons.1 hx with e | e
      · subst e
        have h1 := hm x.data.toList.length (by simp [DataW.weights])
        simpa using h1
      · exact ih (fun n hn => hm n (by simp [hn])) x e
  exact hall l (fun n hn => hw n (by simp [hn]))

set_option maxRecDepth 100000 in
set_option maxHeartbeats 8000000 in
theorem parses_any (A : Option Addr) (n c : Nat) (S : Nat → ByteArray) (w : World) (hn : n ≤ c) (hc : c ≤ 9223372036854775807)
    (hcell : ∀ i, i < n → ∃ b off, A = some ⟨b, off, none⟩ ∧ b < w.heap.size ∧ w.cell? ⟨b, off + i, none⟩ = some (.string (S i)) ∧ (S i).size ≤ 140737488351232) :
    Calls Tryz.prog 3 #[.slice A n c] w fun e w' => e = .returned (.bool true) ∧ Below w.heap.size w w' := by
  have ca := Lib.hid (awake_any w)
  replace hcell := Lib.hid hcell
  have hnI : (n : Int) ≤ 9223372036854775807 := by omega
  go_enter Tryz.func3, Tryz.ntmps3
  go_wp2_with fail
  refine ca.out.mono ?_
  rintro e w1 ⟨rfl, h1⟩
  go_wp2
  go_loopw [16] (fun v wr => ∃ i : Nat, v = .int .i64 i ∧ i ≤ n ∧ Below w.heap.size w wr) (fun v _ => n + 1 - natOf v)
  case atStart => exact ⟨0, rfl, Nat.zero_le _, h1⟩
  case round =>
    obtain ⟨i, rfl, hi, hw⟩ := hrel
    by_cases hlt : i < n
    · obtain ⟨b, off, hA, hb, hx, hxs⟩ := hcell.out i hlt
      subst hA
      obtain ⟨s, hs⟩ : ∃ s, s = S i := ⟨_, rfl⟩
      rw [← hs] at hx hxs
      clear hs
      have hx1 := (hw.cell (p := ⟨b, off + i, none⟩) hb).trans hx
      have g0 : (0 : Int) ≤ (i : Int) := by omega
      have g1 : (i : Int) < (n : Int) := by omega
      have g2 : wrap64 (i : Int) = (i : Int) := by unfold wrap64; omega
      have hsw := hw.size
      clear hx
      have d1 := parse_any s (by omega) wr
      have d2 := rparse_any s hxs
      obtain ⟨r, hr⟩ : ∃ r, r = serR s := ⟨_, rfl⟩
      rw [← hr] at d1 d2
      have hlen : ∀ nm l, r = .ok nm l → l.length ≤ 17 := fun nm l e => serR_len (hr.symm.trans e)
      replace hlen := Lib.hid hlen
      clear hr hxs
      replace d1 := Lib.hid d1
      replace d2 := Lib.hid d2
      cases r with
      | bad x q =>
        go_wp2_with fail
        refine d1.out.mono ?_
        rintro e w2 ⟨rfl, hb2⟩
        go_wp2_with fail
        refine (d2.out _).mono ?_
        rintro e w3 ⟨rfl, hb3⟩
        have k2 := hb2.size
        have k3 := hb3.size
        have hb4 : Below w.heap.size w (w3.alloc (.cells #[.int .i64 x, .int .i64 (q : Int)] 29)) := ((hw.trans (hb2.mono hsw)).trans (hb3.mono (by omega))).alloc (by omega) _
        go_upto_region 8 with fail
        obtain ⟨w4, hw4⟩ : ∃ w4, w4 = w3.alloc (.cells #[.int .i64 x, .int .i64 (q : Int)] 29) := ⟨_, rfl⟩
        rw [← hw4] at hb4 ⊢
        have hnew : w4.heap[w3.heap.size]? = some (.cells #[.int .i64 x, .int .i64 (q : Int)] 29 (0, 0)) := by rw [hw4]; exact heap_alloc_new _ _
        have y1 : w4.cell? ⟨w3.heap.size, 0, none⟩ = some (.int .i64 x) := by rw [cell_of_row _ _ _ _ _ _ hnew]; rfl
        have y2 : w4.cell? ⟨w3.heap.size, 1, none⟩ = some (.int .i64 (q : Int)) := by rw [cell_of_row _ _ _ _ _ _ hnew]; rfl
        have cs := Sm.same_any none none 0 0 [] [] w4 (Rd.nil _ _ _ _) (Rd.nil _ _ _ _) (by simp) (by simp)
        simp only [decide_true, List.length_nil] at cs
        replace cs := Lib.hid cs
        have hs4 := hb4.size
        clear hnew hw4 d1 d2
        go_wp2_with fail
        refine cs.out.mono ?_
        rintro e w5 ⟨rfl, hb5⟩
        go_wp2
        exact ⟨⟨i + 1, by simp, by omega, hb4.trans (hb5.mono hs4)⟩, by simp [natOf]; omega⟩
      | ok nm l =>
        go_wp2_with fail
        refine d1.out.mono ?_
        rintro e w2 ⟨A1, c1, rfl, ho1, hb2⟩
        go_wp2_with fail
        refine (d2.out _).mono ?_
        rintro e w3 ⟨A2, c2, rfl, ho2, hb3⟩
        have k2 := hb2.size
        have k3 := hb3.size
        have hb4 : Below w.heap.size w (w3.alloc (.cells #[.int .i64 0, .int .i64 0] 29)) := ((hw.trans (hb2.mono hsw)).trans (hb3.mono (by omega))).alloc (by omega) _
        go_upto_region 8 with fail
        obtain ⟨w4, hw4⟩ : ∃ w4, w4 = w3.alloc (.cells #[.int .i64 0, .int .i64 0] 29) := ⟨_, rfl⟩
        rw [← hw4] at hb4 ⊢
        have hnew : w4.heap[w3.heap.size]? = some (.cells #[.int .i64 0, .int .i64 0] 29 (0, 0)) := by rw [hw4]; exact heap_alloc_new _ _
        have y1 : w4.cell? ⟨w3.heap.size, 0, none⟩ = some (.int .i64 0) := by rw [cell_of_row _ _ _ _ _ _ hnew]; rfl
        have y2 : w4.cell? ⟨w3.heap.size, 1, none⟩ = some (.int .i64 0) := by rw [cell_of_row _ _ _ _ _ _ hnew]; rfl
        have ho3 := own_later ho1 hb3
        have ho4 : w4.ownsRow wr.heap.size 45 2 (.slice A1 l.length c1) l.length (labs l) := by rw [hw4]; exact ho3.alloc _
        have ho5 : w4.ownsRow w2.heap.size 45 2 (.slice A2 l.length c2) l.length (labs l) := by rw [hw4]; exact ho2.alloc _
        have cs := Sm.same_any A1 A2 c1 c2 l l w4 (Rd.of_own ho4 (fun a ha => (own_lt ho4 a.block (by rw [ha]; rfl)).2)) (Rd.of_own ho5 (fun a ha => (own_lt ho5 a.block (by rw [ha]; rfl)).2)) (by have := hlen.out nm l rfl; omega) (by have := hlen.out nm l rfl; omega)
        simp only [decide_true] at cs
        replace cs := Lib.hid cs
        have hs4 := hb4.size
        clear hnew hw4 d1 d2 ho1 ho2 ho3 ho4 ho5
        go_wp2_with fail
        refine cs.out.mono ?_
        rintro e w5 ⟨rfl, hb5⟩
        go_wp2
        exact ⟨⟨i + 1, by simp, by omega, hb4.trans (hb5.mono hs4)⟩, by simp [natOf]; omega⟩
    · have hge : ¬ (i : Int) < (n : Int) := by omega
      go_wp2
      go_ret
      exact ⟨rfl, hw⟩
end Go.Proofs.YtgjcdhcbniholaaGreat.Rv
