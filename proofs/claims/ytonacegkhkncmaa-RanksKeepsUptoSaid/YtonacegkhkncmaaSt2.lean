/- Go's stable sorting at counts: merging in place. -/
import Derived.Test.YtonacegkhkncmaaSt1
namespace Go.Proofs.Ytonacegkhkncmaa.St
open Go.RowKit Go.Sort Go.Shelf Go.Proofs Go.Lib
set_option linter.unusedVariables false

def cmpC (x y : Cnt) : Int := if x.1 < y.1 then -1 else if y.1 < x.1 then 1 else 0
theorem cmpC_neg (x y : Cnt) : cmpC x y < 0 ↔ x.1 < y.1 := by
  unfold cmpC
  split
  · simp; assumption
  · split <;> simp <;> omega

/-- What is told of the row, of the comparing function, once. -/
structure RowC (w0 : World) (blk off : Nat) (d0 : Array Cnt) (g : Nat) : Prop where
  R : RowK encC 2 w0 blk off d0
  eg : ∀ args w, (callFunc g args).run Try.prog w = .ok (.enter g args) w
  cmp : CmpLays Try.prog g #[] encC 2 cmpC blk off d0.size w0
  small : d0.size < 4611686018427387904

def MergePost (w0 : World) (blk off : Nat) (X Z Y : List Cnt) (e : Ending) (w' : World) : Prop := e = .returned (.tuple #[]) ∧ ∃ W : List Cnt, W.Perm Z ∧ Srt W ∧ SWK encC 2 w0 blk off (X ++ W ++ Y).toArray w'

section
variable {w0 W : World} {blk off : Nat} {d0 dk : Array Cnt}
/-- The cells of a count, in every world of the class. -/
theorem swk_look (h : SWK encC 2 w0 blk off dk W) (R : RowK encC 2 w0 blk off d0) (hs : dk.size = d0.size) {i : Nat} (hi : i < dk.size) {x : Cnt} (hx : x = dk[i]!) :
    (∀ n os, (grow (W.drewN n) os).cell? ⟨blk, off + i * 2, none⟩ = some (.int .i64 x.1)) ∧ (∀ n os, (grow (W.drewN n) os).cell? ⟨blk, off + i * 2 + 1, none⟩ = some (.int .u64 x.2)) := by
  subst hx
  exact ⟨fun n os => (swk_cells (h.grown n os) R hs hi).1.1, fun n os => (swk_cells (h.grown n os) R hs hi).2.1⟩
theorem swk_cmp {g : Nat} (h : SWK encC 2 w0 blk off dk W) (C : RowC w0 blk off d0 g) (hs : dk.size = d0.size) (x y : Cnt) (n : Nat) (os : Array Obj) :
    Calls Try.prog g #[.agg #[.int .i64 x.1, .int .u64 x.2], .agg #[.int .i64 y.1, .int .u64 y.2]] (grow (W.drewN n) os) fun e w' => e = .returned (.int .i64 (cmpC x y)) ∧ ∃ q os', w' = grow ((grow (W.drewN n) os).drewN q) os' :=
  h.cmp C.cmp hs x y n os
end

set_option maxRecDepth 100000 in
set_option maxHeartbeats 2000000 in
/-- One on the left. -/
theorem merge_left (w0 w : World) (blk off cap a b g : Nat) (d0 : Array Cnt) (X V Y : List Cnt) (u : Cnt) (C : RowC w0 blk off d0 g) (ha : a = X.length) (hb : b = X.length + 1 + V.length) (hN : d0.size = X.length + 1 + V.length + Y.length)
    (hV : Srt V) (S : SWK encC 2 w0 blk off (X ++ (u :: V) ++ Y).toArray w) :
    Calls Try.prog 65 #[.slice (some ⟨blk, off, none⟩) d0.size cap, .int .i64 a, .int .i64 ((a + 1 : Nat) : Int), .int .i64 b, .func (.func g) #[] #[]] w (MergePost w0 blk off X (u :: V) Y) := by
  obtain ⟨N, hNs⟩ : ∃ N, N = d0.size := ⟨_, rfl⟩
  have hsz := C.small
  rw [← hNs] at hN hsz ⊢
  have hNI : (N : Int) < 4611686018427387904 := by omega
  have haN : a + 1 ≤ b := by omega
  have hbN : b ≤ N := by omega
  have hdz : (X ++ (u :: V) ++ Y).toArray.size = d0.size := by simp; omega
  have hu : u = (X ++ (u :: V) ++ Y).toArray[a]! := by
    have := at_mid (X := X) (U := u :: V) (Y := Y) (k := a) (i := 0) (by omega) (by simp)
    rw [List.append_assoc]
    rw [this]; rfl
  have hv : ∀ i, a + 1 ≤ i → i < b → V[i - (a + 1)]! = (X ++ (u :: V) ++ Y).toArray[i]! := fun i h1 h2 => by
    have := at_mid (X := X) (U := u :: V) (Y := Y) (k := i) (i := i - a) (by omega) (by simp; omega)
    rw [List.append_assoc, this]
    obtain ⟨j, rfl⟩ : ∃ j, i = a + 1 + j := ⟨i - (a + 1), by omega⟩
    rw [show a + 1 + j - (a + 1) = j by omega, show a + 1 + j - a = j + 1 by omega]; rfl
  have hVl : V.length = b - (a + 1) := by omega
  have hle := fun i j (h1 : i ≤ j) (h2 : j < V.length) => hV.le h1 h2
  have hSV := Lib.hid hV
  have S0 := Lib.hid S
  have HC := Lib.hid C
  replace hu := Lib.hid hu
  replace hv := Lib.hid hv
  replace hVl := Lib.hid hVl
  replace hle := Lib.hid hle
  replace hNs := Lib.hid hNs
  replace hN := Lib.hid hN
  replace ha := Lib.hid ha
  replace hdz := Lib.hid hdz
  have eg := C.eg
  clear S C hb hV
  have h1 : ((a + 1 : Nat) : Int) - (a : Int) = 1 := by omega
  have e1 : ((a + 1 : Nat) : Int) = (a : Int) + 1 := by omega
  rw [e1] at h1 ⊢
  have mixed : Try.prog.follows .mixedOrders = true := by kernel_rfl
  go_enter Try.func65, Try.ntmps65
  go_wp2
  go_loopg [10, 11] (b - (a + 1)) (fun kx s10 s11 wr => ∃ (i j : Nat), s10 = .int .i64 (i : Int) ∧ s11 = .int .i64 (j : Int) ∧ a + 1 ≤ i ∧ i ≤ j ∧ j ≤ b ∧ j - i ≤ kx ∧ Hid (∀ t, t < i - (a + 1) → (V[t]!).1 < u.1) ∧ Hid (∀ t, j - (a + 1) ≤ t → t < V.length → u.1 ≤ (V[t]!).1) ∧
    Hid (SWK encC 2 w0 blk off (X ++ (u :: V) ++ Y).toArray wr))
  case atStart => exact ⟨a + 1, b, by simp, rfl, Nat.le_refl _, by omega, Nat.le_refl _, by omega, fun t ht => absurd ht (by omega), fun t h1 h2 => absurd h2 (by have := hVl.out; omega), S0⟩
  case round =>
    clear S0
    obtain ⟨i, j, rfl, rfl, hi, hij, hj, hkx, p1, p2, S1⟩ := hrel
    by_cases hlt : i < j
    · obtain ⟨h, hh⟩ : ∃ h, h = (i + j) / 2 := ⟨_, rfl⟩
      have hh1 : i ≤ h := by omega
      have hh2 : h < j := by omega
      have k1 : ((i : Int) + (j : Int)) / 2 = (h : Int) := by omega
      have k2 : (i : Int) < (j : Int) := by omega
      have k3 : (0 : Int) ≤ (i : Int) + (j : Int) := by omega
      have k4 : (i : Int) + (j : Int) < 9223372036854775808 := by omega
      have k5 : (h : Int) < (N : Int) := by omega
      have k6 : (a : Int) < (N : Int) := by omega
      replace hh := Lib.hid hh
      obtain ⟨x, hx⟩ : ∃ x, x = V[h - (a + 1)]! := ⟨_, rfl⟩
      obtain ⟨c0, c1⟩ := swk_look S1.out HC.out.R hdz.out (i := h) (by rw [hdz.out, ← hNs.out]; omega) (x := x) (by rw [hx]; exact hv.out h (by omega) (by omega))
      obtain ⟨d0', d1'⟩ := swk_look S1.out HC.out.R hdz.out (i := a) (by rw [hdz.out, ← hNs.out]; omega) (x := u) hu.out
      have hc := swk_cmp S1.out HC.out hdz.out x u
      replace hx := Lib.hid hx
      by_cases hlv : cmpC x u < 0
      · have hlu := (cmpC_neg x u).1 hlv
        obtain ⟨cv, hcv⟩ : ∃ cv, cv = cmpC x u := ⟨_, rfl⟩
        rw [← hcv] at hc hlv
        replace hcv := Lib.hid hcv
        replace hlu := Lib.hid hlu
        go_wp2_with fail
        go_quiet_grown (first | (go_at_fn g; refine Calls.grown_of (hc _ _)))
        have S2 : Hid (SWK encC 2 w0 blk off (X ++ (u :: V) ++ Y).toArray (grow (wr.drewN nq) osq)) := S1.out.grown nq osq
        clear c0 c1 d0' d1' hc S1
        generalize grow (wr.drewN nq) osq = w2 at S2 ⊢
        clear nq osq
        go_wp2_with fail
        go_roundg (j - (h + 1))
        case measure => omega
        case rel => exact ⟨h + 1, j, by simp, rfl, by omega, by omega, hj, Nat.le_refl _, fun t ht => by
          by_cases e : t < i - (a + 1)
          · exact p1.out t e
          · have := hle.out t (h - (a + 1)) (by omega) (by have := hVl.out; omega)
            have h2 := hlu.out
            rw [hx.out] at h2
            omega, p2, S2⟩
      · have hlu : u.1 ≤ x.1 := by
          have := (cmpC_neg x u)
          omega
        obtain ⟨cv, hcv⟩ : ∃ cv, cv = cmpC x u := ⟨_, rfl⟩
        rw [← hcv] at hc hlv
        replace hcv := Lib.hid hcv
        replace hlu := Lib.hid hlu
        have hdv : decide (cv < 0) = false := decide_eq_false hlv
        clear hlv
        go_wp2_with fail
        go_quiet_grown (first | (go_at_fn g; refine Calls.grown_of (hc _ _)))
        have S2 : Hid (SWK encC 2 w0 blk off (X ++ (u :: V) ++ Y).toArray (grow (wr.drewN nq) osq)) := S1.out.grown nq osq
        clear c0 c1 d0' d1' hc S1
        generalize grow (wr.drewN nq) osq = w2 at S2 ⊢
        clear nq osq
        go_wp2_with fail
        go_roundg (h - i)
        case measure => omega
        case rel => exact ⟨i, h, rfl, rfl, hi, hh1, by omega, Nat.le_refl _, p1, fun t h1 h2 => by
          have := hle.out (h - (a + 1)) t h1 h2
          have h2 := hlu.out
          rw [hx.out] at h2
          omega, S2⟩
    · obtain rfl : i = j := by omega
      obtain ⟨p, rfl⟩ : ∃ p, i = a + 1 + p := ⟨i - (a + 1), by omega⟩
      have hpV : p ≤ V.length := by have := hVl.out; omega
      rw [show a + 1 + p - (a + 1) = p by omega] at p1 p2
      have hge : ¬ ((a + 1 + p : Nat) : Int) < ((a + 1 + p : Nat) : Int) := by omega
      have hWs : Srt (V.take p ++ u :: V.drop p) := hSV.out.insert (fun i h1 _ => by have := p1.out i h1; omega) (fun i h1 h2 => p2.out i h1 h2)
      have hWp := insert_perm V u p
      replace hWs := Lib.hid hWs
      replace hWp := Lib.hid hWp
      have hpz : a + 1 + p ≤ N := by omega
      have hpI : ((a + 1 + p : Nat) : Int) - 1 = ((a + p : Nat) : Int) := by omega
      replace hpV := Lib.hid hpV
      clear p1 p2 hle hkx hij hi hj
      obtain ⟨q, hq⟩ : ∃ q, q = a + 1 + p := ⟨_, rfl⟩
      rw [← hq] at hge hpI hpz ⊢
      have hq1 : (1 : Int) ≤ (q : Int) := by omega
      have hpz' : (q : Int) ≤ (N : Int) := by omega
      replace hq := Lib.hid hq
      clear hpI h1
      have S3 : Hid (SWK encC 2 w0 blk off (X ++ (V.take 0 ++ u :: V.drop 0) ++ Y).toArray wr) := S1.out
      clear S1
      go_wp2
      go_loopg [13] (p) (fun kx s13 wr => ∃ k : Nat, s13 = .int .i64 ((a + k : Nat) : Int) ∧ k ≤ p ∧ p - k ≤ kx ∧ Hid (SWK encC 2 w0 blk off (X ++ (V.take k ++ u :: V.drop k) ++ Y).toArray wr))
      case atStart => exact ⟨0, rfl, Nat.zero_le _, by omega, S3⟩
      case round =>
        clear S3
        obtain ⟨k, rfl, hk, hkx, S1⟩ := hrel
        by_cases hlt : k < p
        · have hVk : k < V.length := by have := hpV.out; omega
          have hak : a + k + 1 < N := by have := hq.out; omega
          have hz : (X ++ (V.take k ++ u :: V.drop k) ++ Y).toArray.size = d0.size := by rw [← hNs.out, hN.out]; simp; omega
          obtain ⟨⟨i0, j0⟩, ⟨i1, j1⟩⟩ := swk_cells S1.out HC.out.R hz (i := a + k) (by rw [hz, ← hNs.out]; omega)
          obtain ⟨⟨p0, q0⟩, ⟨p1, q1⟩⟩ := swk_cells S1.out HC.out.R hz (i := a + k + 1) (by rw [hz, ← hNs.out]; omega)
          have S2 := swk_swap S1.out HC.out.R (i := a + k) (j := a + k + 1) (by rw [hz, ← hNs.out]; omega) (by rw [hz, ← hNs.out]; omega) _ _ rfl rfl
          rw [up_step hVk (by rw [ha.out]) (by rw [ha.out])] at S2
          generalize (X ++ (V.take k ++ u :: V.drop k) ++ Y).toArray[a + k]! = x at *
          generalize (X ++ (V.take k ++ u :: V.drop k) ++ Y).toArray[a + k + 1]! = y at *
          obtain ⟨x1, x2⟩ := x
          obtain ⟨y1, y2⟩ := y
          simp only at i0 i1 p0 p1
          have t1 : ∀ w2 : World, w2 = (((wr.drew.setCell ⟨blk, off + (a + k) * 2, none⟩ (.int .i64 y1)).setCell ⟨blk, off + (a + k) * 2 + 1, none⟩ (.int .u64 y2)).setCell ⟨blk, off + (a + k + 1) * 2, none⟩ (.int .i64 x1)).setCell ⟨blk, off + (a + k + 1) * 2 + 1, none⟩ (.int .u64 x2) → Hid (SWK encC 2 w0 blk off (X ++ (V.take (k + 1) ++ u :: V.drop (k + 1)) ++ Y).toArray w2) := by
            intro w2 h; subst h; exact S2
          replace t1 := Lib.hid t1
          obtain ⟨c, hc⟩ : ∃ c, c = a + k := ⟨_, rfl⟩
          rw [← hc] at i0 i1 j0 j1 p0 p1 q0 q1 t1 ⊢
          have g1 : (c : Int) < (q : Int) - 1 := by have := hq.out; omega
          have g2 : (c : Int) < (N : Int) := by have := hq.out; omega
          have g3 : (c : Int) + 1 < (N : Int) := by have := hq.out; omega
          have g4 : ((c : Int) + 1).toNat = c + 1 := by omega
          have g5 : IntKind.i64.wrap ((c : Int) + 1) = (c : Int) + 1 := by rw [IntKind.wrap_i64]; omega
          have g6 : (0 : Int) ≤ (c : Int) + 1 := by omega
          replace hc := Lib.hid hc
          clear S2 S1 hz
          go_wp2_with fail
          go_region
          go_wp2
          go_roundg (p - (k + 1))
          case measure => omega
          case rel => exact ⟨k + 1, by rw [show a + (k + 1) = c + 1 by have := hc.out; omega]; simp, by omega, Nat.le_refl _, t1.out _ rfl⟩
        · obtain rfl : k = p := by omega
          obtain ⟨c, hc⟩ : ∃ c, c = a + k := ⟨_, rfl⟩
          rw [← hc]
          have hge2 : decide ((c : Int) < (q : Int) - 1) = false := decide_eq_false (by have := hq.out; omega)
          have hcI : (c : Int) ≤ (N : Int) := by have := hq.out; omega
          replace hc := Lib.hid hc
          go_wp2
          go_end0
          exact ⟨rfl, _, hWp.out, hWs.out, S1.out⟩
end Go.Proofs.Ytonacegkhkncmaa.St
