/- Lemmas for the laws of this seat, laid together of St2, Mg2, St3. -/
import Derived.Test.YtpiegngjpnpohaaGreatL10

namespace Go.Proofs.YtpiegngjpnpohaaGreat.St
open Go.RowKit Go.Sort Go.Shelf Go.Proofs Go.Lib
set_option linter.unusedVariables false
def cmpC (x y : Cnt) : Int := if x.1 < y.1 then -1 else if y.1 < x.1 then 1 else 0
theorem cmpC_neg (x y : Cnt) : cmpC x y < 0 ↔ x.1 < y.1 := by
  unfold cmpC
  split
  · simp; assumption
  · split <;> simp <;> omega
structure RowC (w0 : World) (blk off : Nat) (d0 : Array Cnt) (g : Nat) : Prop where
  R : RowK encC 2 w0 blk off d0
  eg : ∀ args w, (callFunc g args).run Tryz.prog w = .ok (.enter g args) w
  cmp : CmpLays Tryz.prog g #[] encC 2 cmpC blk off d0.size w0
  small : d0.size < 4611686018427387904
def MergePost (w0 : World) (blk off : Nat) (X Z Y : List Cnt) (e : Ending) (w' : World) : Prop := e = .returned (.tuple #[]) ∧ ∃ W : List Cnt, W.Perm Z ∧ Srt W ∧ SWK encC 2 w0 blk off (X ++ W ++ Y).toArray w'
section
variable {w0 W : World} {blk off : Nat} {d0 dk : Array Cnt}
theorem swk_look (h : SWK encC 2 w0 blk off dk W) (R : RowK encC 2 w0 blk off d0) (hs : dk.size = d0.size) {i : Nat} (hi : i < dk.size) {x : Cnt} (hx : x = dk[i]!) :
    (∀ n os, (grow (W.drewN n) os).cell? ⟨blk, off + i * 2, none⟩ = some (.int .i64 x.1)) ∧ (∀ n os, (grow (W.drewN n) os).cell? ⟨blk, off + i * 2 + 1, none⟩ = some (.int .u64 x.2)) := by
  subst hx
  exact ⟨fun n os => (swk_cells (h.grown n os) R hs hi).1.1, fun n os => (swk_cells (h.grown n os) R hs hi).2.1⟩
theorem swk_cmp {g : Nat} (h : SWK encC 2 w0 blk off dk W) (C : RowC w0 blk off d0 g) (hs : dk.size = d0.size) (x y : Cnt) (n : Nat) (os : Array Obj) :
    Calls Tryz.prog g #[.agg #[.int .i64 x.1, .int .u64 x.2], .agg #[.int .i64 y.1, .int .u64 y.2]] (grow (W.drewN n) os) fun e w' => e = .returned (.int .i64 (cmpC x y)) ∧ ∃ q os', w' = grow ((grow (W.drewN n) os).drewN q) os' :=
  h.cmp C.cmp hs x y n os
end
set_option maxRecDepth 100000 in
set_option maxHeartbeats 2000000 in
theorem merge_left (w0 w : World) (blk off cap a b g : Nat) (d0 : Array Cnt) (X V Y : List Cnt) (u : Cnt) (C : RowC w0 blk off d0 g) (ha : a = X.length) (hb : b = X.length + 1 + V.length) (hN : d0.size = X.length + 1 + V.length + Y.length)
    (hV : Srt V) (S : SWK encC 2 w0 blk off (X ++ (u :: V) ++ Y).toArray w) :
    Calls Tryz.prog 208 #[.slice (some ⟨blk, off, none⟩) d0.size cap, .int .i64 a, .int .i64 ((a + 1 : Nat) : Int), .int .i64 b, .func (.func g) #[] #[]] w (MergePost w0 blk off X (u :: V) Y) := by
  obtain ⟨N, hNs⟩ : ∃ N, N = d0.size := ⟨_, rfl⟩
  have hsz := C.small
  rw [← hNs] at hN hsz ⊢
  have hNI : (N : Int) < 4611686018427387904 := by omega
  have haN : a + 1 ≤ b := by omega
  have hbN : b ≤ N := by omega
  have hdz : (X ++ (u :: V) ++ Y).toArray.size = d0.size := by simp; omega
  have hu : u = (X ++ (u :: V) ++ Y).toArray[a]! := by
    have := at_mid (X := X) (U := u :: V) (Y := Y) (k := a) (i := 0) (by omega) (by simp)
    rw [List.append_assoc]
    rw [this]; rfl
  have hv : ∀ i, a + 1 ≤ i → i < b → V[i - (a + 1)]! = (X ++ (u :: V) ++ Y).toArray[i]! := fun i h1 h2 => by
    have := at_mid (X := X) (U := u :: V) (Y := Y) (k := i) (i := i - a) (by omega) (by simp; omega)
    rw [List.append_assoc, this]
    obtain ⟨j, rfl⟩ : ∃ j, i = a + 1 + j := ⟨i - (a + 1), by omega⟩
    rw [show a + 1 + j - (a + 1) = j by omega, show a + 1 + j - a = j + 1 by omega]; rfl
  have hVl : V.length = b - (a + 1) := by omega
  have hle := fun i j (h1 : i ≤ j) (h2 : j < V.length) => hV.le h1 h2
  have hSV := Lib.hid hV
  have S0 := Lib.hid S
  have HC := Lib.hid C
  replace hu := Lib.hid hu
  replace hv := Lib.hid hv
  replace hVl := Lib.hid hVl
  replace hle := Lib.hid hle
  replace hNs := Lib.hid hNs
  replace hN := Lib.hid hN
  replace ha := Lib.hid ha
  replace hdz := Lib.hid hdz
  have eg := C.eg
  clear S C hb hV
  have h1 : ((a + 1 : Nat) : Int) - (a : Int) = 1 := by omega
  have e1 : ((a + 1 : Nat) : Int) = (a : Int) + 1 := by omega
  rw [e1] at h1 ⊢
  have mixed : Tryz.prog.follows .mixedOrders = true := by kernel_rfl
  go_enter Tryz.func208, Tryz.ntmps208
  go_wp2
  go_loopg [10, 11] (b - (a + 1)) (fun kx s10 s11 wr => ∃ (i j : Nat), s10 = .int .i64 (i : Int) ∧ s11 = .int .i64 (j : Int) ∧ a + 1 ≤ i ∧ i ≤ j ∧ j ≤ b ∧ j - i ≤ kx ∧ Hid (∀ t, t < i - (a + 1) → (V[t]!).1 < u.1) ∧ Hid (∀ t, j - (a + 1) ≤ t → t < V.length → u.1 ≤ (V[t]!).1) ∧
    Hid (SWK encC 2 w0 blk off (X ++ (u :: V) ++ Y).toArray wr))
  case atStart => exact ⟨a + 1, b, by simp, rfl, Nat.le_refl _, by omega, Nat.le_refl _, by omega, fun t ht => absurd ht (by omega), fun t h1 h2 => absurd h2 (by have := hVl.out; omega), S0⟩
  case round =>
    clear S0
    obtain ⟨i, j, rfl, rfl, hi, hij, hj, hkx, p1, p2, S1⟩ := hrel
    by_cases hlt : i < j
    · obtain ⟨h, hh⟩ : ∃ h, h = (i + j) / 2 := ⟨_, rfl⟩
      have hh1 : i ≤ h := by omega
      have hh2 : h < j := by omega
      have k1 : ((i : Int) + (j : Int)) / 2 = (h : Int) := by omega
      have k2 : (i : Int) < (j : Int) := by omega
      have k3 : (0 : Int) ≤ (i : Int) + (j : Int) := by omega
      have k4 : (i : Int) + (j : Int) < 9223372036854775808 := by omega
      have k5 : (h : Int) < (N : Int) := by omega
      have k6 : (a : Int) < (N : Int) := by omega
      replace hh := Lib.hid hh
      obtain ⟨x, hx⟩ : ∃ x, x = V[h - (a + 1)]! := ⟨_, rfl⟩
      obtain ⟨c0, c1⟩ := swk_look S1.out HC.out.R hdz.out (i := h) (by rw [hdz.out, ← hNs.out]; omega) (x := x) (by rw [hx]; exact hv.out h (by omega) (by omega))
      obtain ⟨d0', d1'⟩ := swk_look S1.out HC.out.R hdz.out (i := a) (by rw [hdz.out, ← hNs.out]; omega) (x := u) hu.out
      have hc := swk_cmp S1.out HC.out hdz.out x u
      replace hx := Lib.hid hx
      by_cases hlv : cmpC x u < 0
      · have hlu := (cmpC_neg x u).1 hlv
        obtain ⟨cv, hcv⟩ : ∃ cv, cv = cmpC x u := ⟨_, rfl⟩
        rw [← hcv] at hc hlv
        replace hcv := Lib.hid hcv
        replace hlu := Lib.hid hlu
        go_wp2_with fail
        go_quiet_grown (first | (go_at_fn g; refine Calls.grown_of (hc _ _)))
        have S2 : Hid (SWK encC 2 w0 blk off (X ++ (u :: V) ++ Y).toArray (grow (wr.drewN nq) osq)) := S1.out.grown nq osq
        clear c0 c1 d0' d1' hc S1
        generalize grow (wr.drewN nq) osq = w2 at S2 ⊢
        clear nq osq
        go_wp2_with fail
        go_roundg (j - (h + 1))
        case measure => omega
        case rel => exact ⟨h + 1, j, by simp, rfl, by omega, by omega, hj, Nat.le_refl _, fun t ht => by
          by_cases e : t < i - (a + 1)
          · exact p1.out t e
          · have := hle.out t (h - (a + 1)) (by omega) (by have := hVl.out; omega)
            have h2 := hlu.out
            rw [hx.out] at h2
            omega, p2, S2⟩
      · have hlu : u.1 ≤ x.1 := by
          have := (cmpC_neg x u)
          omega
        obtain ⟨cv, hcv⟩ : ∃ cv, cv = cmpC x u := ⟨_, rfl⟩
        rw [← hcv] at hc hlv
        replace hcv := Lib.hid hcv
        replace hlu := Lib.hid hlu
        have hdv : decide (cv < 0) = false := decide_eq_false hlv
        clear hlv
        go_wp2_with fail
        go_quiet_grown (first | (go_at_fn g; refine Calls.grown_of (hc _ _)))
        have S2 : Hid (SWK encC 2 w0 blk off (X ++ (u :: V) ++ Y).toArray (grow (wr.drewN nq) osq)) := S1.out.grown nq osq
        clear c0 c1 d0' d1' hc S1
        generalize grow (wr.drewN nq) osq = w2 at S2 ⊢
        clear nq osq
        go_wp2_with fail
        go_roundg (h - i)
        case measure => omega
        case rel => exact ⟨i, h, rfl, rfl, hi, hh1, by omega, Nat.le_refl _, p1, fun t h1 h2 => by
          have := hle.out (h - (a + 1)) t h1 h2
          have h2 := hlu.out
          rw [hx.out] at h2
          omega, S2⟩
    · obtain rfl : i = j := by omega
      obtain ⟨p, rfl⟩ : ∃ p, i = a + 1 + p := ⟨i - (a + 1), by omega⟩
      have hpV : p ≤ V.length := by have := hVl.out; omega
      rw [show a + 1 + p - (a + 1) = p by omega] at p1 p2
      have hge : ¬ ((a + 1 + p : Nat) : Int) < ((a + 1 + p : Nat) : Int) := by omega
      have hWs : Srt (V.take p ++ u :: V.drop p) := hSV.out.insert (fun i h1 _ => by have := p1.out i h1; omega) (fun i h1 h2 => p2.out i h1 h2)
      have hWp := insert_perm V u p
      replace hWs := Lib.hid hWs
      replace hWp := Lib.hid hWp
      have hpz : a + 1 + p ≤ N := by omega
      have hpI : ((a + 1 + p : Nat) : Int) - 1 = ((a + p : Nat) : Int) := by omega
      replace hpV := Lib.hid hpV
      clear p1 p2 hle hkx hij hi hj
      obtain ⟨q, hq⟩ : ∃ q, q = a + 1 + p := ⟨_, rfl⟩
      rw [← hq] at hge hpI hpz ⊢
      have hq1 : (1 : Int) ≤ (q : Int) := by omega
      have hpz' : (q : Int) ≤ (N : Int) := by omega
      replace hq := Lib.hid hq
      clear hpI h1
      have S3 : Hid (SWK encC 2 w0 blk off (X ++ (V.take 0 ++ u :: V.drop 0) ++ Y).toArray wr) := S1.out
      clear S1
      go_wp2
      go_loopg [13] (p) (fun kx s13 wr => ∃ k : Nat, s13 = .int .i64 ((a + k : Nat) : Int) ∧ k ≤ p ∧ p - k ≤ kx ∧ Hid (SWK encC 2 w0 blk off (X ++ (V.take k ++ u :: V.drop k) ++ Y).toArray wr))
      case atStart => exact ⟨0, rfl, Nat.zero_le _, by omega, S3⟩
      case round =>
        clear S3
        obtain ⟨k, rfl, hk, hkx, S1⟩ := hrel
        by_cases hlt : k < p
        · have hVk : k < V.length := by have := hpV.out; omega
          have hak : a + k + 1 < N := by have := hq.out; omega
          have hz : (X ++ (V.take k ++ u :: V.drop k) ++ Y).toArray.size = d0.size := by rw [← hNs.out, hN.out]; simp; omega
          obtain ⟨⟨i0, j0⟩, ⟨i1, j1⟩⟩ := swk_cells S1.out HC.out.R hz (i := a + k) (by rw [hz, ← hNs.out]; omega)
          obtain ⟨⟨p0, q0⟩, ⟨p1, q1⟩⟩ := swk_cells S1.out HC.out.R hz (i := a + k + 1) (by rw [hz, ← hNs.out]; omega)
          have S2 := swk_swap S1.out HC.out.R (i := a + k) (j := a + k + 1) (by rw [hz, ← hNs.out]; omega) (by rw [hz, ← hNs.out]; omega) _ _ rfl rfl
          rw [up_step hVk (by rw [ha.out]) (by rw [ha.out])] at S2
          generalize (X ++ (V.take k ++ u :: V.drop k) ++ Y).toArray[a + k]! = x at *
          generalize (X ++ (V.take k ++ u :: V.drop k) ++ Y).toArray[a + k + 1]! = y at *
          obtain ⟨x1, x2⟩ := x
          obtain ⟨y1, y2⟩ := y
          simp only at i0 i1 p0 p1
          have t1 : ∀ w2 : World, w2 = (((wr.drew.setCell ⟨blk, off + (a + k) * 2, none⟩ (.int .i64 y1)).setCell ⟨blk, off + (a + k) * 2 + 1, none⟩ (.int .u64 y2)).setCell ⟨blk, off + (a + k + 1) * 2, none⟩ (.int .i64 x1)).setCell ⟨blk, off + (a + k + 1) * 2 + 1, none⟩ (.int .u64 x2) → Hid (SWK encC 2 w0 blk off (X ++ (V.take (k + 1) ++ u :: V.drop (k + 1)) ++ Y).toArray w2) := by
            intro w2 h; subst h; exact S2
          replace t1 := Lib.hid t1
          obtain ⟨c, hc⟩ : ∃ c, c = a + k := ⟨_, rfl⟩
          rw [← hc] at i0 i1 j0 j1 p0 p1 q0 q1 t1 ⊢
          have g1 : (c : Int) < (q : Int) - 1 := by have := hq.out; omega
          have g2 : (c : Int) < (N : Int) := by have := hq.out; omega
          have g3 : (c : Int) + 1 < (N : Int) := by have := hq.out; omega
          have g4 : ((c : Int) + 1).toNat = c + 1 := by omega
          have g5 : IntKind.i64.wrap ((c : Int) + 1) = (c : Int) + 1 := by rw [IntKind.wrap_i64]; omega
          have g6 : (0 : Int) ≤ (c : Int) + 1 := by omega
          replace hc := Lib.hid hc
          clear S2 S1 hz
          go_wp2_with fail
          go_region
          go_wp2
          go_roundg (p - (k + 1))
          case measure => omega
          case rel => exact ⟨k + 1, by rw [show a + (k + 1) = c + 1 by have := hc.out; omega]; simp, by omega, Nat.le_refl _, t1.out _ rfl⟩
        · obtain rfl : k = p := by omega
          obtain ⟨c, hc⟩ : ∃ c, c = a + k := ⟨_, rfl⟩
          rw [← hc]
          have hge2 : decide ((c : Int) < (q : Int) - 1) = false := decide_eq_false (by have := hq.out; omega)
          have hcI : (c : Int) ≤ (N : Int) := by have := hq.out; omega
          replace hc := Lib.hid hc
          go_wp2
          go_end0
          exact ⟨rfl, _, hWp.out, hWs.out, S1.out⟩
end Go.Proofs.YtpiegngjpnpohaaGreat.St

namespace Go.Proofs.YtpiegngjpnpohaaGreat.Mg
open Go.RowKit Go.Shelf Go.Sort Go.Proofs Go.Lib Go.Proofs.YtpiegngjpnpohaaGreat.Sl Go.Proofs.YtpiegngjpnpohaaGreat.Rk Go.Proofs.YtpiegngjpnpohaaGreat.St
set_option linter.unusedVariables false
theorem flat_cells {w : World} {b off : Nat} {l : List Cnt} (h : ∀ i c, l[i]? = some c → w.cell? ⟨b, off + i * 2, none⟩ = some (.int .i64 c.1) ∧ w.cell? ⟨b, off + i * 2 + 1, none⟩ = some (.int .u64 c.2)) :
    ∀ j u, (flat l)[j]? = some u → w.cell? ⟨b, off + j, none⟩ = some u := by
  intro j u hu
  have hj := (List.getElem?_eq_some_iff.1 hu).1
  rw [flat_len] at hj
  have hi : j / 2 < l.length := by omega
  obtain ⟨f1, f2⟩ := flat_get l (j / 2) l[j / 2] (List.getElem?_eq_getElem hi)
  obtain ⟨c1, c2⟩ := h (j / 2) l[j / 2] (List.getElem?_eq_getElem hi)
  rcases Nat.mod_two_eq_zero_or_one j with hm | hm
  · have e : j / 2 * 2 = j := by omega
    rw [e] at f1 c1
    rw [hu] at f1; cases f1; exact c1
  · have e : j / 2 * 2 + 1 = j := by omega
    rw [e] at f2
    rw [show off + j / 2 * 2 + 1 = off + j by omega] at c2
    rw [hu] at f2; cases f2; exact c2
theorem rd_of_cs {w : World} {B : Nat} {A : Option Addr} {l : List Cnt} (h : Cs w B A l) : Rd w B 2 A (flat l) l.length :=
  ⟨by rw [flat_len], fun hn => by
    obtain ⟨b, off, e, hB, hc⟩ := h.cells hn
    exact ⟨b, off, e, hB, flat_cells hc⟩⟩
theorem rowC_of_own {w : World} {base g cap : Nat} {l : List Cnt} (h : w.ownsRow base 54 2 (.slice (some ⟨g, 0, none⟩) l.length cap) l.length (flat l)) (hs : l.length < 4611686018427387904) : RowC w g 0 l.toArray 164 := by
  refine ⟨⟨encC_len, encC_one, ?_, (h.lt g rfl).2⟩, enters_cmp, fun _ _ _ _ x y => cmp_any x y _, by simpa using hs⟩
  intro j hj
  rw [size_flatK] at hj
  have hjl : j < l.length * 2 := by simpa using hj
  rw [Nat.zero_add]
  refine ⟨?_, h.frozenAt j⟩
  rw [h.cellAt j hjl, get_flatK _ _ _ _ hj]
  have hi : j / 2 < l.length := by omega
  obtain ⟨f1, f2⟩ := flat_get l (j / 2) l[j / 2] (List.getElem?_eq_getElem hi)
  have e0 : (l.toArray)[j / 2]! = l[j / 2] := by rw [getElem!_pos _ _ (by simpa using hi)]; simp
  rw [e0]
  rcases Nat.mod_two_eq_zero_or_one j with hm | hm
  · have e : j / 2 * 2 = j := by omega
    rw [e] at f1
    rw [hm]; exact f1
  · have e : j / 2 * 2 + 1 = j := by omega
    rw [e] at f2
    rw [hm]; exact f2
theorem rd_of_swk {w0 W : World} {g : Nat} {d0 : Array Cnt} {L : List Cnt} (h : SWK encC 2 w0 g 0 L.toArray W) (R : RowK encC 2 w0 g 0 d0) (hs : L.length = d0.size) : Rd W W.heap.size 2 (some ⟨g, 0, none⟩) (flat L) L.length :=
  ⟨by rw [flat_len], fun hn => by
    refine ⟨g, 0, rfl, Nat.lt_of_lt_of_le R.hblk h.le, flat_cells fun i c hi => ?_⟩
    obtain ⟨hl, e⟩ := List.getElem?_eq_some_iff.1 hi
    obtain ⟨⟨c1, _⟩, c2, _⟩ := swk_cells h R (by simpa using hs) (i := i) (by simpa using hl)
    have e0 : (L.toArray)[i]! = c := by rw [getElem!_pos _ _ (by simpa using hl)]; simp [e]
    rw [e0] at c1 c2
    exact ⟨c1, c2⟩⟩
theorem below_swk {w0 W : World} {g base : Nat} {dk : Array Cnt} (h : SWK encC 2 w0 g 0 dk W) (hg : base ≤ g) (hb : base ≤ w0.heap.size) : RowKit.Below base w0 W := by
  obtain ⟨n, os, rfl⟩ := h
  refine ⟨rfl, rfl, rfl, ?_, fun k hk => ?_⟩
  · unfold sortWorldK; rw [size_grow, size_putRowK]; show w0.heap.size ≤ w0.heap.size + _; omega
  · unfold sortWorldK
    rw [heap_grow_old _ _ (by rw [size_putRowK]; show k < w0.heap.size; omega)]
    show (w0.heap.modify g _)[k]? = w0.heap[k]?
    rw [Array.getElem?_modify, if_neg (by omega)]
def GrowPost (w : World) (e : Ending) (w' : World) : Prop := ∃ A c, e = .returned (.slice A 0 c) ∧ w'.ownsRow w.heap.size 54 2 (.slice A 0 c) 0 (flat []) ∧ RowKit.Below w.heap.size w w'
theorem grow_any (w : World) (n : Nat) (hn : n ≤ 4194304) : Calls Tryz.prog 194 #[.slice none 0 0, .int .i64 n] w (GrowPost w) := by
  by_cases h0 : n = 0
  · subst h0
    go_enter Tryz.func194, Tryz.ntmps194
    go_wp2
    go_ret
    exact ⟨none, 0, rfl, ⟨rfl, .inl ⟨rfl, rfl⟩⟩, RowKit.Below.refl _ _⟩
  · obtain ⟨i0, hi, hz0, hz1, hz2⟩ := info_parts infoCount
    have hrz : ∀ ty, (Builtin.append_ #[46, 3] ty #[.slice none 0 0, .int .i64 (n : Int)]).run Tryz.prog w =
      .ok (.slice (some ⟨w.heap.size, 0, none⟩) n (grownCap w n 0 54)) (w.drew.alloc (.cells (#[] ++ Builtin.zeroCells (Value.agg #[.int .i64 0, .int .u64 0]).cells n ++ Builtin.zeroCells (Value.agg #[.int .i64 0, .int .u64 0]).cells (grownCap w n 0 54 - n)) 54)) := fun ty => by
      have h := Lib.run_append_grow_zeros w 46 3 ty 54 i0 _ .i64 .i64 Tryz.underlying46 Tryz.underlying3 hi hz0 none 0 0 [] (run_firstCells_none w.drew i0.size 0 0 0) n (by omega) (by omega) (by omega) (by omega) (by rw [hz2]; omega)
        (growslice_fits (by omega) (by rw [hz2]; omega))
      simpa using h
    have fin : ∀ w', w' = (w.drew.alloc (.cells (#[] ++ Builtin.zeroCells (Value.agg #[.int .i64 0, .int .u64 0]).cells n ++ Builtin.zeroCells (Value.agg #[.int .i64 0, .int .u64 0]).cells (grownCap w n 0 54 - n)) 54)) → GrowPost w (.returned (.slice (some ⟨w.heap.size, 0, none⟩) 0 (grownCap w n 0 54))) w' := fun w' e => by
      have hge := grownCap_ge w n 0 54
      refine ⟨_, _, rfl, ⟨rfl, .inr ⟨w.heap.size, _, _, rfl, Nat.le_refl _, by rw [e]; exact heap_alloc_new w.drew _, Nat.zero_le _, grownCap_le_maxLen w n 0 54 (by unfold maxLen; omega), ?_, ?_⟩⟩, ?_⟩
      · simp [Builtin.zeroCells, Value.cells]; omega
      · simp [flat]
      · rw [e]; exact (RowKit.Below.refl _ w).drew.alloc (Nat.le_refl _) _
    have hG : grownCap w n 0 54 ≤ 9223372036854775807 := by
      have := grownCap_le_maxLen w n 0 54 (by unfold maxLen; omega)
      unfold maxLen at this; omega
    have hGn := grownCap_ge w n 0 54
    obtain ⟨G, hGe⟩ : ∃ G, G = grownCap w n 0 54 := ⟨_, rfl⟩
    rw [← hGe] at hrz fin hG hGn
    have h1 : ¬ ((n : Int) < 0) := by omega
    have h4 : (n : Int) > 0 := by omega
    obtain ⟨o, ho⟩ : ∃ o, o = (Obj.cells (#[] ++ Builtin.zeroCells (Value.agg #[.int .i64 0, .int .u64 0]).cells n ++ Builtin.zeroCells (Value.agg #[.int .i64 0, .int .u64 0]).cells (G - n)) 54) := ⟨_, rfl⟩
    rw [← ho] at hrz fin
    replace fin := Lib.hid fin
    replace hGe := Lib.hid hGe
    replace ho := Lib.hid ho
    clear hi hz0 hz1 hz2
    go_enter Tryz.func194, Tryz.ntmps194
    go_wp2_with (at_builtin; refine Lib.wpList_append_run _ rfl _ _ _ _ rfl _ _ rfl rfl _ _ (hrz _) ?_)
    all_goals (go_ret; exact fin.out _ rfl)
def ConcatPost (w : World) (a b : List Cnt) (e : Ending) (w' : World) : Prop :=
  ∃ A c, e = .returned (.slice A (a ++ b).length c) ∧ w'.ownsRow w.heap.size 54 2 (.slice A (a ++ b).length c) (a ++ b).length (flat (a ++ b)) ∧ RowKit.Below w.heap.size w w'
set_option maxRecDepth 100000 in
set_option maxHeartbeats 2000000 in
theorem concat_any (w : World) (L : Nat) (A1 A2 : Option Addr) (a b : List Cnt) (c1 c2 : Nat) (hL : L < w.heap.size) (h1 : w.cell? ⟨L, 0, none⟩ = some (.slice A1 a.length c1)) (h2 : w.cell? ⟨L, 1, none⟩ = some (.slice A2 b.length c2))
    (ha : Rd w w.heap.size 2 A1 (flat a) a.length) (hb : Rd w w.heap.size 2 A2 (flat b) b.length) (hn : a.length + b.length ≤ 4194304) :
    Calls Tryz.prog 162 #[.slice (some ⟨L, 0, none⟩) 2 2] w (ConcatPost w a b) := by
  obtain ⟨i0, hi, hz0, hz1, hz2⟩ := info_parts infoCount
  have ci := grow_any w (a.length + b.length) hn
  obtain ⟨m, hm⟩ : ∃ m, m = a.length := ⟨_, rfl⟩
  obtain ⟨n, hnn⟩ : ∃ n, n = b.length := ⟨_, rfl⟩
  rw [← hm] at ha h1 hn ci
  rw [← hnn] at hb h2 hn ci
  have hmI : (m : Int) + (n : Int) ≤ 4194304 := by omega
  have eI : ((m + n : Nat) : Int) = (m : Int) + (n : Int) := by omega
  rw [eI] at ci
  replace hm := Lib.hid hm
  replace hnn := Lib.hid hnn
  clear eI
  replace ci := Lib.hid ci
  replace ha := Lib.hid ha
  replace hb := Lib.hid hb
  go_enter Tryz.func162, Tryz.ntmps162
  go_wp2
  go_loopg [3, 11] (3) (fun kx s i wr => wr = w ∧ ((i = .int .i64 0 ∧ s = .int .i64 0 ∧ 2 ≤ kx) ∨ (i = .int .i64 1 ∧ s = .int .i64 (m : Int) ∧ 1 ≤ kx) ∨ (i = .int .i64 2 ∧ s = .int .i64 ((m : Int) + (n : Int)))))
  case atStart => exact ⟨rfl, .inl ⟨rfl, rfl, by omega⟩⟩
  case round =>
    obtain ⟨hw, hr⟩ := hrel
    obtain rfl := hw.symm
    clear hw
    rcases hr with ⟨rfl, rfl, hk⟩ | ⟨rfl, rfl, hk⟩ | ⟨rfl, rfl⟩
    · go_wp2
      go_roundg 1
      case measure => omega
      case rel => exact ⟨rfl, .inr (.inl ⟨rfl, by simp, by omega⟩)⟩
    · go_wp2
      go_roundg 0
      case measure => omega
      case rel => exact ⟨rfl, .inr (.inr ⟨rfl, by simp⟩)⟩
    · go_wp2_with fail
      refine ci.out.mono ?_
      rintro e w1 ⟨A, c, rfl, ho, hb1⟩
      clear ci
      have c1' : w1.cell? ⟨L, 0, none⟩ = some (.slice A1 m c1) := (hb1.cell (p := ⟨L, 0, none⟩) hL).trans h1
      have c2' : w1.cell? ⟨L, 1, none⟩ = some (.slice A2 n c2) := (hb1.cell (p := ⟨L, 1, none⟩) hL).trans h2
      clear h1 h2
      obtain ⟨B, hB⟩ : ∃ B, B = w.heap.size := ⟨_, rfl⟩
      rw [← hB] at ho
      have st : Hid (w1.ownsRow B 54 2 (.slice A 0 c) 0 (flat []) ∧ RowKit.Below B w w1) := ⟨ho, by rw [hB]; exact hb1⟩
      have hBL : L < B := by omega
      have hBw : B ≤ w1.heap.size := by rw [hB]; exact hb1.size
      have ra : Hid (Rd w1 B 2 A1 (flat a) m) := by rw [hB]; exact ha.out.below hb1
      have rb : Hid (Rd w1 B 2 A2 (flat b) n) := by rw [hB]; exact hb.out.below hb1
      have goal2 : ∀ (A : Option Addr) (c : Nat) (wz : World), wz.ownsRow B 54 2 (.slice A (m + n) c) (m + n) (flat a ++ flat b) → RowKit.Below B w wz → ConcatPost w a b (.returned (.slice A (m + n) c)) wz := fun A c wz o y => by
        have e : m + n = (a ++ b).length := by rw [hm.out, hnn.out, List.length_append]
        rw [e, ← flat_append] at o
        rw [e]
        exact ⟨A, c, rfl, own_base o (by rw [hB]; exact Nat.le_refl _), by rw [← hB]; exact y⟩
      replace goal2 := Lib.hid goal2
      clear ho hb1 ha hb
      replace hB := Lib.hid hB
      have mixed : True := trivial
      go_wp2_with fail
      go_loopg [6, 27] (3) (fun kx s i wz => RowKit.Below B w1 wz ∧ ((∃ A c, i = .int .i64 0 ∧ s = .slice A 0 c ∧ 2 ≤ kx ∧ Hid (wz.ownsRow B 54 2 (.slice A 0 c) 0 (flat []) ∧ RowKit.Below B w wz)) ∨ (∃ A c, i = .int .i64 1 ∧ s = .slice A m c ∧ 1 ≤ kx ∧ Hid (wz.ownsRow B 54 2 (.slice A m c) m (flat a) ∧ RowKit.Below B w wz)) ∨ (∃ A c, i = .int .i64 2 ∧ s = .slice A (m + n) c ∧ Hid (wz.ownsRow B 54 2 (.slice A (m + n) c) (m + n) (flat a ++ flat b) ∧ RowKit.Below B w wz))))
      case atStart => exact ⟨RowKit.Below.refl _ _, .inl ⟨A, c, rfl, rfl, by omega, st⟩⟩
      case round =>
        obtain ⟨hbz, hr⟩ := hrel
        have hBz : B ≤ wr.heap.size := Nat.le_trans hBw hbz.size
        have k1 : wr.cell? ⟨L, 0, none⟩ = some (.slice A1 m c1) := (hbz.cell (p := ⟨L, 0, none⟩) hBL).trans c1'
        have k2 : wr.cell? ⟨L, 1, none⟩ = some (.slice A2 n c2) := (hbz.cell (p := ⟨L, 1, none⟩) hBL).trans c2'
        have ra' := ra.out.below hbz
        have rb' := rb.out.below hbz
        clear c1' c2' ra rb st
        rcases hr with ⟨A, c, rfl, rfl, hk, hs⟩ | ⟨A, c, rfl, rfl, hk, hs⟩ | ⟨A, c, rfl, rfl, hs⟩
        · obtain ⟨ho, hbb⟩ := hs.out
          go_wp2_with (at_builtin; refine wpList_append_rd rfl (.tmp 31) (.tmp 32) _ rfl B 54 Tryz.underlying46 hi hz0 hz1 hz2 rfl (by decide) rfl ho rfl ra' (flat_one _) (by unfold maxLen; omega) (by omega) hBz ?_; intro A4 c4 w4 ho4 hb4 hs4)
          go_roundg 1
          case measure => omega
          case rel => exact ⟨hbz.trans hb4, .inr (.inl ⟨A4, c4, rfl, by simp, by omega, by simpa [flat] using ho4, hbb.trans hb4⟩)⟩
        · obtain ⟨ho, hbb⟩ := hs.out
          go_wp2_with (at_builtin; refine wpList_append_rd rfl (.tmp 31) (.tmp 32) _ rfl B 54 Tryz.underlying46 hi hz0 hz1 hz2 rfl (by decide) rfl ho rfl rb' (flat_one _) (by unfold maxLen; omega) (by omega) hBz ?_; intro A4 c4 w4 ho4 hb4 hs4)
          go_roundg 0
          case measure => omega
          case rel => exact ⟨hbz.trans hb4, .inr (.inr ⟨A4, c4, rfl, rfl, ho4, hbb.trans hb4⟩)⟩
        · obtain ⟨ho, hbb⟩ := hs.out
          have fin := goal2.out A c wr ho hbb
          replace fin := Lib.hid fin
          clear hs goal2 ho
          go_wp2
          go_ret
          exact fin.out
end Go.Proofs.YtpiegngjpnpohaaGreat.Mg

namespace Go.Proofs.YtpiegngjpnpohaaGreat.St
open Go.RowKit Go.Sort Go.Shelf Go.Proofs Go.Lib
set_option linter.unusedVariables false
set_option maxRecDepth 100000 in
set_option maxHeartbeats 2000000 in
theorem merge_right (w0 w : World) (blk off cap a m g : Nat) (d0 : Array Cnt) (X V Y : List Cnt) (u : Cnt) (C : RowC w0 blk off d0 g) (ha : a = X.length) (hm : m = X.length + V.length) (hV2 : 2 ≤ V.length) (hN : d0.size = X.length + 1 + V.length + Y.length)
    (hV : Srt V) (S : SWK encC 2 w0 blk off (X ++ (V ++ [u]) ++ Y).toArray w) :
    Calls Tryz.prog 208 #[.slice (some ⟨blk, off, none⟩) d0.size cap, .int .i64 a, .int .i64 m, .int .i64 ((m + 1 : Nat) : Int), .func (.func g) #[] #[]] w (MergePost w0 blk off X (V ++ [u]) Y) := by
  obtain ⟨N, hNs⟩ : ∃ N, N = d0.size := ⟨_, rfl⟩
  have hsz := C.small
  rw [← hNs] at hN hsz ⊢
  have hNI : (N : Int) < 4611686018427387904 := by omega
  have hmN : m + 1 ≤ N := by omega
  have ham : a + 2 ≤ m := by omega
  have hdz : (X ++ (V ++ [u]) ++ Y).toArray.size = d0.size := by simp; omega
  have hu : u = (X ++ (V ++ [u]) ++ Y).toArray[m]! := by
    have := at_mid (X := X) (U := V ++ [u]) (Y := Y) (k := m) (i := V.length) (by omega) (by simp)
    rw [List.append_assoc]
    rw [this]; simp
  have hv : ∀ i, a ≤ i → i < m → V[i - a]! = (X ++ (V ++ [u]) ++ Y).toArray[i]! := fun i h1 h2 => by
    have := at_mid (X := X) (U := V ++ [u]) (Y := Y) (k := i) (i := i - a) (by omega) (by simp; omega)
    rw [List.append_assoc, this]
    rw [getElem!_pos V (i - a) (by omega), getElem!_pos (V ++ [u]) (i - a) (by simp; omega), List.getElem_append_left]
  have hVl : V.length = m - a := by omega
  have hle := fun i j (h1 : i ≤ j) (h2 : j < V.length) => hV.le h1 h2
  have hSV := Lib.hid hV
  have S0 := Lib.hid S
  have HC := Lib.hid C
  replace hu := Lib.hid hu
  replace hv := Lib.hid hv
  replace hVl := Lib.hid hVl
  replace hle := Lib.hid hle
  replace hNs := Lib.hid hNs
  replace hN := Lib.hid hN
  replace ha := Lib.hid ha
  replace hdz := Lib.hid hdz
  have eg := C.eg
  clear S C hV hm hV2
  have h1 : ((m : Int) - (a : Int) == 1) = false := beq_eq_false_iff_ne.2 (by omega)
  have h2 : (m : Int) + 1 - (m : Int) = 1 := by omega
  have e1 : ((m + 1 : Nat) : Int) = (m : Int) + 1 := by omega
  have e2 : (a : Int) ≤ (m : Int) := by omega
  have e3 : (m : Int) < (N : Int) := by omega
  rw [e1] at ⊢
  have mixed : Tryz.prog.follows .mixedOrders = true := by kernel_rfl
  go_enter Tryz.func208, Tryz.ntmps208
  go_wp2
  go_loopg [14, 15] (m - a) (fun kx s10 s11 wr => ∃ (i j : Nat), s10 = .int .i64 (i : Int) ∧ s11 = .int .i64 (j : Int) ∧ a ≤ i ∧ i ≤ j ∧ j ≤ m ∧ j - i ≤ kx ∧ Hid (∀ t, t < i - a → (V[t]!).1 ≤ u.1) ∧ Hid (∀ t, j - a ≤ t → t < V.length → u.1 ≤ (V[t]!).1) ∧
    Hid (SWK encC 2 w0 blk off (X ++ (V ++ [u]) ++ Y).toArray wr))
  case atStart => exact ⟨a, m, rfl, rfl, Nat.le_refl _, by omega, Nat.le_refl _, by omega, fun t ht => absurd ht (by omega), fun t h1 h2 => absurd h2 (by have := hVl.out; omega), S0⟩
  case round =>
    clear S0
    obtain ⟨i, j, rfl, rfl, hi, hij, hj, hkx, p1, p2, S1⟩ := hrel
    by_cases hlt : i < j
    · obtain ⟨h, hh⟩ : ∃ h, h = (i + j) / 2 := ⟨_, rfl⟩
      have hh1 : i ≤ h := by omega
      have hh2 : h < j := by omega
      have k1 : ((i : Int) + (j : Int)) / 2 = (h : Int) := by omega
      have k2 : (i : Int) < (j : Int) := by omega
      have k3 : (0 : Int) ≤ (i : Int) + (j : Int) := by omega
      have k4 : (i : Int) + (j : Int) < 9223372036854775808 := by omega
      have k5 : (h : Int) < (N : Int) := by omega
      replace hh := Lib.hid hh
      obtain ⟨x, hx⟩ : ∃ x, x = V[h - a]! := ⟨_, rfl⟩
      obtain ⟨c0, c1⟩ := swk_look S1.out HC.out.R hdz.out (i := h) (by rw [hdz.out, ← hNs.out]; omega) (x := x) (by rw [hx]; exact hv.out h (by omega) (by omega))
      obtain ⟨d0', d1'⟩ := swk_look S1.out HC.out.R hdz.out (i := m) (by rw [hdz.out, ← hNs.out]; omega) (x := u) hu.out
      have hc := swk_cmp S1.out HC.out hdz.out u x
      replace hx := Lib.hid hx
      by_cases hlv : cmpC u x < 0
      · have hlu := (cmpC_neg u x).1 hlv
        obtain ⟨cv, hcv⟩ : ∃ cv, cv = cmpC u x := ⟨_, rfl⟩
        rw [← hcv] at hc hlv
        replace hcv := Lib.hid hcv
        replace hlu := Lib.hid hlu
        go_wp2_with fail
        go_quiet_grown (first | (go_at_fn g; refine Calls.grown_of (hc _ _)))
        have S2 : Hid (SWK encC 2 w0 blk off (X ++ (V ++ [u]) ++ Y).toArray (grow (wr.drewN nq) osq)) := S1.out.grown nq osq
        clear c0 c1 d0' d1' hc S1
        generalize grow (wr.drewN nq) osq = w2 at S2 ⊢
        clear nq osq
        go_wp2_with fail
        go_roundg (h - i)
        case measure => omega
        case rel => exact ⟨i, h, rfl, rfl, hi, hh1, by omega, Nat.le_refl _, p1, fun t h1 h2 => by
          have := hle.out (h - a) t h1 h2
          have h2 := hlu.out
          rw [hx.out] at h2
          omega, S2⟩
      · have hlu : x.1 ≤ u.1 := by
          have := (cmpC_neg u x)
          omega
        obtain ⟨cv, hcv⟩ : ∃ cv, cv = cmpC u x := ⟨_, rfl⟩
        rw [← hcv] at hc hlv
        replace hcv := Lib.hid hcv
        replace hlu := Lib.hid hlu
        have hdv : decide (cv < 0) = false := decide_eq_false hlv
        clear hlv
        go_wp2_with fail
        go_quiet_grown (first | (go_at_fn g; refine Calls.grown_of (hc _ _)))
        have S2 : Hid (SWK encC 2 w0 blk off (X ++ (V ++ [u]) ++ Y).toArray (grow (wr.drewN nq) osq)) := S1.out.grown nq osq
        clear c0 c1 d0' d1' hc S1
        generalize grow (wr.drewN nq) osq = w2 at S2 ⊢
        clear nq osq
        go_wp2_with fail
        go_roundg (j - (h + 1))
        case measure => omega
        case rel => exact ⟨h + 1, j, by simp, rfl, by omega, by omega, hj, Nat.le_refl _, fun t ht => by
          by_cases e : t < i - a
          · exact p1.out t e
          · have := hle.out t (h - a) (by omega) (by have := hVl.out; omega)
            have h2 := hlu.out
            rw [hx.out] at h2
            omega, p2, S2⟩
    · obtain rfl : i = j := by omega
      obtain ⟨p, rfl⟩ : ∃ p, i = a + p := ⟨i - a, by omega⟩
      have hpV : p ≤ V.length := by have := hVl.out; omega
      rw [show a + p - a = p by omega] at p1 p2
      have hge : ¬ ((a + p : Nat) : Int) < ((a + p : Nat) : Int) := by omega
      have hWs : Srt (V.take p ++ u :: V.drop p) := hSV.out.insert (fun i h1 _ => p1.out i h1) (fun i h1 h2 => p2.out i h1 h2)
      have hWp : (V.take p ++ u :: V.drop p).Perm (V ++ [u]) := (insert_perm V u p).trans (by simpa using (List.perm_append_comm (l₁ := [u]) (l₂ := V)))
      replace hWs := Lib.hid hWs
      replace hWp := Lib.hid hWp
      have hpz : a + p ≤ N := by omega
      replace hpV := Lib.hid hpV
      clear p1 p2 hle hkx hij hi hj
      obtain ⟨q, hq⟩ : ∃ q, q = a + p := ⟨_, rfl⟩
      rw [← hq] at hge hpz ⊢
      have hpz' : (q : Int) ≤ (N : Int) := by omega
      replace hq := Lib.hid hq
      have S3 : Hid (SWK encC 2 w0 blk off (X ++ (V.take (m - a) ++ u :: V.drop (m - a)) ++ Y).toArray wr) := by
        have := S1.out
        have hl := hVl.out
        rw [List.take_of_length_le (by omega), List.drop_of_length_le (by omega)]
        exact this
      clear S1 h2 h1
      go_wp2
      go_loopg [17] (m - a) (fun kx s13 wr => ∃ k : Nat, s13 = .int .i64 ((a + k : Nat) : Int) ∧ p ≤ k ∧ k ≤ V.length ∧ k ≤ kx ∧ Hid (SWK encC 2 w0 blk off (X ++ (V.take k ++ u :: V.drop k) ++ Y).toArray wr))
      case atStart => exact ⟨m - a, by rw [show a + (m - a) = m by omega], by have := hpV.out; have := hVl.out; omega, by have := hVl.out; omega, by omega, S3⟩
      case round =>
        clear S3
        obtain ⟨k, rfl, hk, hkV, hkx, S1⟩ := hrel
        by_cases hlt : p < k
        · obtain ⟨k, rfl⟩ : ∃ k', k = k' + 1 := ⟨k - 1, by omega⟩
          have hVk : k < V.length := by omega
          have hak : a + k + 1 < N := by have := hVl.out; omega
          have hz : (X ++ (V.take (k + 1) ++ u :: V.drop (k + 1)) ++ Y).toArray.size = d0.size := by rw [← hNs.out, hN.out]; simp; omega
          obtain ⟨⟨i0, j0⟩, ⟨i1, j1⟩⟩ := swk_cells S1.out HC.out.R hz (i := a + k) (by rw [hz, ← hNs.out]; omega)
          obtain ⟨⟨p0, q0⟩, ⟨p1, q1⟩⟩ := swk_cells S1.out HC.out.R hz (i := a + k + 1) (by rw [hz, ← hNs.out]; omega)
          have S2 := swk_swap S1.out HC.out.R (i := a + k + 1) (j := a + k) (by rw [hz, ← hNs.out]; omega) (by rw [hz, ← hNs.out]; omega) _ _ rfl rfl
          rw [down_step hVk (by rw [ha.out]) (by rw [ha.out])] at S2
          generalize (X ++ (V.take (k + 1) ++ u :: V.drop (k + 1)) ++ Y).toArray[a + k]! = y at *
          generalize (X ++ (V.take (k + 1) ++ u :: V.drop (k + 1)) ++ Y).toArray[a + k + 1]! = x at *
          obtain ⟨x1, x2⟩ := x
          obtain ⟨y1, y2⟩ := y
          simp only at i0 i1 p0 p1
          have t1 : ∀ w2 : World, w2 = (((wr.drew.setCell ⟨blk, off + (a + k + 1) * 2, none⟩ (.int .i64 y1)).setCell ⟨blk, off + (a + k + 1) * 2 + 1, none⟩ (.int .u64 y2)).setCell ⟨blk, off + (a + k) * 2, none⟩ (.int .i64 x1)).setCell ⟨blk, off + (a + k) * 2 + 1, none⟩ (.int .u64 x2) → Hid (SWK encC 2 w0 blk off (X ++ (V.take k ++ u :: V.drop k) ++ Y).toArray w2) := by
            intro w2 h; subst h; exact S2
          replace t1 := Lib.hid t1
          rw [show a + (k + 1) = a + k + 1 by omega]
          obtain ⟨c, hc⟩ : ∃ c, c = a + k := ⟨_, rfl⟩
          rw [← hc] at i0 i1 j0 j1 p0 p1 q0 q1 t1 hak ⊢
          have g1 : (q : Int) < (c : Int) + 1 := by have := hq.out; omega
          have g2 : (c : Int) < (N : Int) := by omega
          have g3 : (c : Int) + 1 < (N : Int) := by omega
          have g4 : ((c : Int) + 1).toNat = c + 1 := by omega
          have g5 : IntKind.i64.wrap ((c : Int)) = (c : Int) := by rw [IntKind.wrap_i64]; omega
          have g6 : (0 : Int) ≤ (c : Int) + 1 := by omega
          have g7 : IntKind.i64.wrap ((c : Int) + 1) = (c : Int) + 1 := by rw [IntKind.wrap_i64]; omega
          have ec : ((c + 1 : Nat) : Int) = (c : Int) + 1 := by omega
          rw [ec]
          replace hc := Lib.hid hc
          clear S2 S1 hz ec
          go_wp2_with fail
          go_region
          go_wp2
          go_roundg (k)
          case measure => omega
          case rel => exact ⟨k, by rw [← hc.out], by omega, by omega, Nat.le_refl _, t1.out _ rfl⟩
        · obtain rfl : p = k := by omega
          rw [← hq.out]
          clear hk hkV hkx hlt
          go_wp2
          go_end0
          exact ⟨rfl, _, hWp.out, hWs.out, S1.out⟩
end Go.Proofs.YtpiegngjpnpohaaGreat.St
