/- Go's library at counts: growing, laying together; a row of one's own as sorting wants it. -/
import Derived.Test.YtonacegkhkncmaaMg1
import Derived.Test.YtonacegkhkncmaaSt2
namespace Go.Proofs.Ytonacegkhkncmaa.Mg
open Go.RowKit Go.Shelf Go.Sort Go.Proofs Go.Lib Go.Proofs.Ytonacegkhkncmaa.Sl Go.Proofs.Ytonacegkhkncmaa.Rk Go.Proofs.Ytonacegkhkncmaa.St
set_option linter.unusedVariables false

/-! Rows -/
theorem flat_cells {w : World} {b off : Nat} {l : List Cnt} (h : ∀ i c, l[i]? = some c → w.cell? ⟨b, off + i * 2, none⟩ = some (.int .i64 c.1) ∧ w.cell? ⟨b, off + i * 2 + 1, none⟩ = some (.int .u64 c.2)) :
    ∀ j u, (flat l)[j]? = some u → w.cell? ⟨b, off + j, none⟩ = some u := by
  intro j u hu
  have hj := (List.getElem?_eq_some_iff.1 hu).1
  rw [flat_len] at hj
  have hi : j / 2 < l.length := by omega
  obtain ⟨f1, f2⟩ := flat_get l (j / 2) l[j / 2] (List.getElem?_eq_getElem hi)
  obtain ⟨c1, c2⟩ := h (j / 2) l[j / 2] (List.getElem?_eq_getElem hi)
  rcases Nat.mod_two_eq_zero_or_one j with hm | hm
  · have e : j / 2 * 2 = j := by omega
    rw [e] at f1 c1
    rw [hu] at f1; cases f1; exact c1
  · have e : j / 2 * 2 + 1 = j := by omega
    rw [e] at f2
    rw [show off + j / 2 * 2 + 1 = off + j by omega] at c2
    rw [hu] at f2; cases f2; exact c2
theorem rd_of_cs {w : World} {B : Nat} {A : Option Addr} {l : List Cnt} (h : Cs w B A l) : Rd w B 2 A (flat l) l.length :=
  ⟨by rw [flat_len], fun hn => by
    obtain ⟨b, off, e, hB, hc⟩ := h.cells hn
    exact ⟨b, off, e, hB, flat_cells hc⟩⟩
theorem rowC_of_own {w : World} {base g cap : Nat} {l : List Cnt} (h : w.ownsRow base 55 2 (.slice (some ⟨g, 0, none⟩) l.length cap) l.length (flat l)) (hs : l.length < 4611686018427387904) : RowC w g 0 l.toArray 51 := by
  refine ⟨⟨encC_len, encC_one, ?_, (h.lt g rfl).2⟩, enters_cmp, fun _ _ _ _ x y => cmp_any x y _, by simpa using hs⟩
  intro j hj
  rw [size_flatK] at hj
  have hjl : j < l.length * 2 := by simpa using hj
  rw [Nat.zero_add]
  refine ⟨?_, h.frozenAt j⟩
  rw [h.cellAt j hjl, get_flatK _ _ _ _ hj]
  have hi : j / 2 < l.length := by omega
  obtain ⟨f1, f2⟩ := flat_get l (j / 2) l[j / 2] (List.getElem?_eq_getElem hi)
  have e0 : (l.toArray)[j / 2]! = l[j / 2] := by rw [getElem!_pos _ _ (by simpa using hi)]; simp
  rw [e0]
  rcases Nat.mod_two_eq_zero_or_one j with hm | hm
  · have e : j / 2 * 2 = j := by omega
    rw [e] at f1
    rw [hm]; exact f1
  · have e : j / 2 * 2 + 1 = j := by omega
    rw [e] at f2
    rw [hm]; exact f2
theorem rd_of_swk {w0 W : World} {g : Nat} {d0 : Array Cnt} {L : List Cnt} (h : SWK encC 2 w0 g 0 L.toArray W) (R : RowK encC 2 w0 g 0 d0) (hs : L.length = d0.size) : Rd W W.heap.size 2 (some ⟨g, 0, none⟩) (flat L) L.length :=
  ⟨by rw [flat_len], fun hn => by
    refine ⟨g, 0, rfl, Nat.lt_of_lt_of_le R.hblk h.le, flat_cells fun i c hi => ?_⟩
    obtain ⟨hl, e⟩ := List.getElem?_eq_some_iff.1 hi
    obtain ⟨⟨c1, _⟩, c2, _⟩ := swk_cells h R (by simpa using hs) (i := i) (by simpa using hl)
    have e0 : (L.toArray)[i]! = c := by rw [getElem!_pos _ _ (by simpa using hl)]; simp [e]
    rw [e0] at c1 c2
    exact ⟨c1, c2⟩⟩
theorem below_swk {w0 W : World} {g base : Nat} {dk : Array Cnt} (h : SWK encC 2 w0 g 0 dk W) (hg : base ≤ g) (hb : base ≤ w0.heap.size) : RowKit.Below base w0 W := by
  obtain ⟨n, os, rfl⟩ := h
  refine ⟨rfl, rfl, rfl, ?_, fun k hk => ?_⟩
  · unfold sortWorldK; rw [size_grow, size_putRowK]; show w0.heap.size ≤ w0.heap.size + _; omega
  · unfold sortWorldK
    rw [heap_grow_old _ _ (by rw [size_putRowK]; show k < w0.heap.size; omega)]
    show (w0.heap.modify g _)[k]? = w0.heap[k]?
    rw [Array.getElem?_modify, if_neg (by omega)]

/-! slices.Grow, of nil -/
def GrowPost (w : World) (e : Ending) (w' : World) : Prop := ∃ A c, e = .returned (.slice A 0 c) ∧ w'.ownsRow w.heap.size 55 2 (.slice A 0 c) 0 (flat []) ∧ RowKit.Below w.heap.size w w'
theorem grow_any (w : World) (n : Nat) (hn : n ≤ 4194304) : Calls Try.prog 60 #[.slice none 0 0, .int .i64 n] w (GrowPost w) := by
  by_cases h0 : n = 0
  · subst h0
    go_enter Try.func60, Try.ntmps60
    go_wp2
    go_ret
    exact ⟨none, 0, rfl, ⟨rfl, .inl ⟨rfl, rfl⟩⟩, RowKit.Below.refl _ _⟩
  · obtain ⟨i0, hi, hz0, hz1, hz2⟩ := info_parts infoCount
    have hrz : ∀ ty, (Builtin.append_ #[36, 3] ty #[.slice none 0 0, .int .i64 (n : Int)]).run Try.prog w =
      .ok (.slice (some ⟨w.heap.size, 0, none⟩) n (grownCap w n 0 55)) (w.drew.alloc (.cells (#[] ++ Builtin.zeroCells (Value.agg #[.int .i64 0, .int .u64 0]).cells n ++ Builtin.zeroCells (Value.agg #[.int .i64 0, .int .u64 0]).cells (grownCap w n 0 55 - n)) 55)) := fun ty => by
      have h := Lib.run_append_grow_zeros w 36 3 ty 55 i0 _ .i64 .i64 Try.underlying36 Try.underlying3 hi hz0 none 0 0 [] (run_firstCells_none w.drew i0.size 0 0 0) n (by omega) (by omega) (by omega) (by omega) (by rw [hz2]; omega)
        (growslice_fits (by omega) (by rw [hz2]; omega))
      simpa using h
    have fin : ∀ w', w' = (w.drew.alloc (.cells (#[] ++ Builtin.zeroCells (Value.agg #[.int .i64 0, .int .u64 0]).cells n ++ Builtin.zeroCells (Value.agg #[.int .i64 0, .int .u64 0]).cells (grownCap w n 0 55 - n)) 55)) → GrowPost w (.returned (.slice (some ⟨w.heap.size, 0, none⟩) 0 (grownCap w n 0 55))) w' := fun w' e => by
      have hge := grownCap_ge w n 0 55
      refine ⟨_, _, rfl, ⟨rfl, .inr ⟨w.heap.size, _, _, rfl, Nat.le_refl _, by rw [e]; exact heap_alloc_new w.drew _, Nat.zero_le _, grownCap_le_maxLen w n 0 55 (by unfold maxLen; omega), ?_, ?_⟩⟩, ?_⟩
      · simp [Builtin.zeroCells, Value.cells]; omega
      · simp [flat]
      · rw [e]; exact (RowKit.Below.refl _ w).drew.alloc (Nat.le_refl _) _
    have hG : grownCap w n 0 55 ≤ 9223372036854775807 := by
      have := grownCap_le_maxLen w n 0 55 (by unfold maxLen; omega)
      unfold maxLen at this; omega
    have hGn := grownCap_ge w n 0 55
    obtain ⟨G, hGe⟩ : ∃ G, G = grownCap w n 0 55 := ⟨_, rfl⟩
    rw [← hGe] at hrz fin hG hGn
    have h1 : ¬ ((n : Int) < 0) := by omega
    have h4 : (n : Int) > 0 := by omega
    obtain ⟨o, ho⟩ : ∃ o, o = (Obj.cells (#[] ++ Builtin.zeroCells (Value.agg #[.int .i64 0, .int .u64 0]).cells n ++ Builtin.zeroCells (Value.agg #[.int .i64 0, .int .u64 0]).cells (G - n)) 55) := ⟨_, rfl⟩
    rw [← ho] at hrz fin
    replace fin := Lib.hid fin
    replace hGe := Lib.hid hGe
    replace ho := Lib.hid ho
    clear hi hz0 hz1 hz2
    go_enter Try.func60, Try.ntmps60
    go_wp2_with (at_builtin; refine Lib.wpList_append_run _ rfl _ _ _ _ rfl _ _ rfl rfl _ _ (hrz _) ?_)
    all_goals (go_ret; exact fin.out _ rfl)

/-! slices.Concat, of two -/
def ConcatPost (w : World) (a b : List Cnt) (e : Ending) (w' : World) : Prop :=
  ∃ A c, e = .returned (.slice A (a ++ b).length c) ∧ w'.ownsRow w.heap.size 55 2 (.slice A (a ++ b).length c) (a ++ b).length (flat (a ++ b)) ∧ RowKit.Below w.heap.size w w'
set_option maxHeartbeats 2000000 in
theorem concat_any (w : World) (L : Nat) (A1 A2 : Option Addr) (a b : List Cnt) (c1 c2 : Nat) (hL : L < w.heap.size) (h1 : w.cell? ⟨L, 0, none⟩ = some (.slice A1 a.length c1)) (h2 : w.cell? ⟨L, 1, none⟩ = some (.slice A2 b.length c2))
    (ha : Rd w w.heap.size 2 A1 (flat a) a.length) (hb : Rd w w.heap.size 2 A2 (flat b) b.length) (hn : a.length + b.length ≤ 4194304) :
    Calls Try.prog 49 #[.slice (some ⟨L, 0, none⟩) 2 2] w (ConcatPost w a b) := by
  obtain ⟨i0, hi, hz0, hz1, hz2⟩ := info_parts infoCount
  have ci := grow_any w (a.length + b.length) hn
  obtain ⟨m, hm⟩ : ∃ m, m = a.length := ⟨_, rfl⟩
  obtain ⟨n, hnn⟩ : ∃ n, n = b.length := ⟨_, rfl⟩
  rw [← hm] at ha h1 hn ci
  rw [← hnn] at hb h2 hn ci
  have hmI : (m : Int) + (n : Int) ≤ 4194304 := by omega
  have eI : ((m + n : Nat) : Int) = (m : Int) + (n : Int) := by omega
  rw [eI] at ci
  replace hm := Lib.hid hm
  replace hnn := Lib.hid hnn
  clear eI
  replace ci := Lib.hid ci
  replace ha := Lib.hid ha
  replace hb := Lib.hid hb
  go_enter Try.func49, Try.ntmps49
  go_wp2
  go_loopg [3, 11] (3) (fun kx s i wr => wr = w ∧ ((i = .int .i64 0 ∧ s = .int .i64 0 ∧ 2 ≤ kx) ∨ (i = .int .i64 1 ∧ s = .int .i64 (m : Int) ∧ 1 ≤ kx) ∨ (i = .int .i64 2 ∧ s = .int .i64 ((m : Int) + (n : Int)))))
  case atStart => exact ⟨rfl, .inl ⟨rfl, rfl, by omega⟩⟩
  case round =>
    obtain ⟨hw, hr⟩ := hrel
    obtain rfl := hw.symm
    clear hw
    rcases hr with ⟨rfl, rfl, hk⟩ | ⟨rfl, rfl, hk⟩ | ⟨rfl, rfl⟩
    · go_wp2
      go_roundg 1
      case measure => omega
      case rel => exact ⟨rfl, .inr (.inl ⟨rfl, by simp, by omega⟩)⟩
    · go_wp2
      go_roundg 0
      case measure => omega
      case rel => exact ⟨rfl, .inr (.inr ⟨rfl, by simp⟩)⟩
    · go_wp2_with fail
      refine ci.out.mono ?_
      rintro e w1 ⟨A, c, rfl, ho, hb1⟩
      clear ci
      have c1' : w1.cell? ⟨L, 0, none⟩ = some (.slice A1 m c1) := (hb1.cell (p := ⟨L, 0, none⟩) hL).trans h1
      have c2' : w1.cell? ⟨L, 1, none⟩ = some (.slice A2 n c2) := (hb1.cell (p := ⟨L, 1, none⟩) hL).trans h2
      clear h1 h2
      obtain ⟨B, hB⟩ : ∃ B, B = w.heap.size := ⟨_, rfl⟩
      rw [← hB] at ho
      have st : Hid (w1.ownsRow B 55 2 (.slice A 0 c) 0 (flat []) ∧ RowKit.Below B w w1) := ⟨ho, by rw [hB]; exact hb1⟩
      have hBL : L < B := by omega
      have hBw : B ≤ w1.heap.size := by rw [hB]; exact hb1.size
      have ra : Hid (Rd w1 B 2 A1 (flat a) m) := by rw [hB]; exact ha.out.below hb1
      have rb : Hid (Rd w1 B 2 A2 (flat b) n) := by rw [hB]; exact hb.out.below hb1
      have goal2 : ∀ (A : Option Addr) (c : Nat) (wz : World), wz.ownsRow B 55 2 (.slice A (m + n) c) (m + n) (flat a ++ flat b) → RowKit.Below B w wz → ConcatPost w a b (.returned (.slice A (m + n) c)) wz := fun A c wz o y => by
        have e : m + n = (a ++ b).length := by rw [hm.out, hnn.out, List.length_append]
        rw [e, ← flat_append] at o
        rw [e]
        exact ⟨A, c, rfl, own_base o (by rw [hB]; exact Nat.le_refl _), by rw [← hB]; exact y⟩
      replace goal2 := Lib.hid goal2
      clear ho hb1 ha hb
      replace hB := Lib.hid hB
      have mixed : True := trivial
      go_wp2_with fail
      go_loopg [6, 27] (3) (fun kx s i wz => RowKit.Below B w1 wz ∧ ((∃ A c, i = .int .i64 0 ∧ s = .slice A 0 c ∧ 2 ≤ kx ∧ Hid (wz.ownsRow B 55 2 (.slice A 0 c) 0 (flat []) ∧ RowKit.Below B w wz)) ∨ (∃ A c, i = .int .i64 1 ∧ s = .slice A m c ∧ 1 ≤ kx ∧ Hid (wz.ownsRow B 55 2 (.slice A m c) m (flat a) ∧ RowKit.Below B w wz)) ∨ (∃ A c, i = .int .i64 2 ∧ s = .slice A (m + n) c ∧ Hid (wz.ownsRow B 55 2 (.slice A (m + n) c) (m + n) (flat a ++ flat b) ∧ RowKit.Below B w wz))))
      case atStart => exact ⟨RowKit.Below.refl _ _, .inl ⟨A, c, rfl, rfl, by omega, st⟩⟩
      case round =>
        obtain ⟨hbz, hr⟩ := hrel
        have hBz : B ≤ wr.heap.size := Nat.le_trans hBw hbz.size
        have k1 : wr.cell? ⟨L, 0, none⟩ = some (.slice A1 m c1) := (hbz.cell (p := ⟨L, 0, none⟩) hBL).trans c1'
        have k2 : wr.cell? ⟨L, 1, none⟩ = some (.slice A2 n c2) := (hbz.cell (p := ⟨L, 1, none⟩) hBL).trans c2'
        have ra' := ra.out.below hbz
        have rb' := rb.out.below hbz
        clear c1' c2' ra rb st
        rcases hr with ⟨A, c, rfl, rfl, hk, hs⟩ | ⟨A, c, rfl, rfl, hk, hs⟩ | ⟨A, c, rfl, rfl, hs⟩
        · obtain ⟨ho, hbb⟩ := hs.out
          go_wp2_with (at_builtin; refine wpList_append_rd rfl (.tmp 31) (.tmp 32) _ rfl B 55 Try.underlying36 hi hz0 hz1 hz2 rfl (by decide) rfl ho rfl ra' (flat_one _) (by unfold maxLen; omega) (by omega) hBz ?_; intro A4 c4 w4 ho4 hb4 hs4)
          go_roundg 1
          case measure => omega
          case rel => exact ⟨hbz.trans hb4, .inr (.inl ⟨A4, c4, rfl, by simp, by omega, by simpa [flat] using ho4, hbb.trans hb4⟩)⟩
        · obtain ⟨ho, hbb⟩ := hs.out
          go_wp2_with (at_builtin; refine wpList_append_rd rfl (.tmp 31) (.tmp 32) _ rfl B 55 Try.underlying36 hi hz0 hz1 hz2 rfl (by decide) rfl ho rfl rb' (flat_one _) (by unfold maxLen; omega) (by omega) hBz ?_; intro A4 c4 w4 ho4 hb4 hs4)
          go_roundg 0
          case measure => omega
          case rel => exact ⟨hbz.trans hb4, .inr (.inr ⟨A4, c4, rfl, rfl, ho4, hbb.trans hb4⟩)⟩
        · obtain ⟨ho, hbb⟩ := hs.out
          have fin := goal2.out A c wr ho hbb
          replace fin := Lib.hid fin
          clear hs goal2 ho
          go_wp2
          go_ret
          exact fin.out
end Go.Proofs.Ytonacegkhkncmaa.Mg
