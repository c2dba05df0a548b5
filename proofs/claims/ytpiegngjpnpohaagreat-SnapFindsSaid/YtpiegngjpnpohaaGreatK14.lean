/- Lemmas for the laws of this seat, laid together of St3. -/
import Derived.Test.YtpiegngjpnpohaaGreatK13

namespace Go.Proofs.YtpiegngjpnpohaaGreat.St
open Go.RowKit Go.Sort Go.Shelf Go.Proofs Go.Lib
set_option linter.unusedVariables false
set_option maxRecDepth 100000 in
set_option maxHeartbeats 2000000 in
theorem merge_right (w0 w : World) (blk off cap a m g : Nat) (d0 : Array Cnt) (X V Y : List Cnt) (u : Cnt) (C : RowC w0 blk off d0 g) (ha : a = X.length) (hm : m = X.length + V.length) (hV2 : 2 ≤ V.length) (hN : d0.size = X.length + 1 + V.length + Y.length)
    (hV : Srt V) (S : SWK encC 2 w0 blk off (X ++ (V ++ [u]) ++ Y).toArray w) :
    Calls Tryz.prog 208 #[.slice (some ⟨blk, off, none⟩) d0.size cap, .int .i64 a, .int .i64 m, .int .i64 ((m + 1 : Nat) : Int), .func (.func g) #[] #[]] w (MergePost w0 blk off X (V ++ [u]) Y) := by
  obtain ⟨N, hNs⟩ : ∃ N, N = d0.size := ⟨_, rfl⟩
  have hsz := C.small
  rw [← hNs] at hN hsz ⊢
  have hNI : (N : Int) < 4611686018427387904 := by omega
  have hmN : m + 1 ≤ N := by omega
  have ham : a + 2 ≤ m := by omega
  have hdz : (X ++ (V ++ [u]) ++ Y).toArray.size = d0.size := by simp; omega
  have hu : u = (X ++ (V ++ [u]) ++ Y).toArray[m]! := by
    have := at_mid (X := X) (U := V ++ [u]) (Y := Y) (k := m) (i := V.length) (by omega) (by simp)
    rw [List.append_assoc]
    rw [this]; simp
  have hv : ∀ i, a ≤ i → i < m → V[i - a]! = (X ++ (V ++ [u]) ++ Y).toArray[i]! := fun i h1 h2 => by
    have := at_mid (X := X) (U := V ++ [u]) (Y := Y) (k := i) (i := i - a) (by omega) (by simp; omega)
    rw [List.append_assoc, this]
    rw [getElem!_pos V (i - a) (by omega), getElem!_pos (V ++ [u]) (i - a) (by simp; omega), List.getElem_append_left]
  have hVl : V.length = m - a := by omega
  have hle := fun i j (h1 : i ≤ j) (h2 : j < V.length) => hV.le h1 h2
  have hSV := Lib.hid hV
  have S0 := Lib.hid S
  have HC := Lib.hid C
  replace hu := Lib.hid hu
  replace hv := Lib.hid hv
  replace hVl := Lib.hid hVl
  replace hle := Lib.hid hle
  replace hNs := Lib.hid hNs
  replace hN := Lib.hid hN
  replace ha := Lib.hid ha
  replace hdz := Lib.hid hdz
  have eg := C.eg
  clear S C hV hm hV2
  have h1 : ((m : Int) - (a : Int) == 1) = false := beq_eq_false_iff_ne.2 (by omega)
  have h2 : (m : Int) + 1 - (m : Int) = 1 := by omega
  have e1 : ((m + 1 : Nat) : Int) = (m : Int) + 1 := by omega
  have e2 : (a : Int) ≤ (m : Int) := by omega
  have e3 : (m : Int) < (N : Int) := by omega
  rw [e1] at ⊢
  have mixed : Tryz.prog.follows .mixedOrders = true := by kernel_rfl
  go_enter Tryz.func208, Tryz.ntmps208
  go_wp2
  go_loopg [14, 15] (m - a) (fun kx s10 s11 wr => ∃ (i j : Nat), s10 = .int .i64 (i : Int) ∧ s11 = .int .i64 (j : Int) ∧ a ≤ i ∧ i ≤ j ∧ j ≤ m ∧ j - i ≤ kx ∧ Hid (∀ t, t < i - a → (V[t]!).1 ≤ u.1) ∧ Hid (∀ t, j - a ≤ t → t < V.length → u.1 ≤ (V[t]!).1) ∧
    Hid (SWK encC 2 w0 blk off (X ++ (V ++ [u]) ++ Y).toArray wr))
  case atStart => exact ⟨a, m, rfl, rfl, Nat.le_refl _, by omega, Nat.le_refl _, by omega, fun t ht => absurd ht (by omega), fun t h1 h2 => absurd h2 (by have := hVl.out; omega), S0⟩
  case round =>
    clear S0
    obtain ⟨i, j, rfl, rfl, hi, hij, hj, hkx, p1, p2, S1⟩ := hrel
    by_cases hlt : i < j
    · obtain ⟨h, hh⟩ : ∃ h, h = (i + j) / 2 := ⟨_, rfl⟩
      have hh1 : i ≤ h := by omega
      have hh2 : h < j := by omega
      have k1 : ((i : Int) + (j : Int)) / 2 = (h : Int) := by omega
      have k2 : (i : Int) < (j : Int) := by omega
      have k3 : (0 : Int) ≤ (i : Int) + (j : Int) := by omega
      have k4 : (i : Int) + (j : Int) < 9223372036854775808 := by omega
      have k5 : (h : Int) < (N : Int) := by omega
      replace hh := Lib.hid hh
      obtain ⟨x, hx⟩ : ∃ x, x = V[h - a]! := ⟨_, rfl⟩
      obtain ⟨c0, c1⟩ := swk_look S1.out HC.out.R hdz.out (i := h) (by rw [hdz.out, ← hNs.out]; omega) (x := x) (by rw [hx]; exact hv.out h (by omega) (by omega))
      obtain ⟨d0', d1'⟩ := swk_look S1.out HC.out.R hdz.out (i := m) (by rw [hdz.out, ← hNs.out]; omega) (x := u) hu.out
      have hc := swk_cmp S1.out HC.out hdz.out u x
      replace hx := Lib.hid hx
      by_cases hlv : cmpC u x < 0
      · have hlu := (cmpC_neg u x).1 hlv
        obtain ⟨cv, hcv⟩ : ∃ cv, cv = cmpC u x := ⟨_, rfl⟩
        rw [← hcv] at hc hlv
        replace hcv := Lib.hid hcv
        replace hlu := Lib.hid hlu
        go_wp2_with fail
        go_quiet_grown (first | (go_at_fn g; refine Calls.grown_of (hc _ _)))
        have S2 : Hid (SWK encC 2 w0 blk off (X ++ (V ++ [u]) ++ Y).toArray (grow (wr.drewN nq) osq)) := S1.out.grown nq osq
        clear c0 c1 d0' d1' hc S1
        generalize grow (wr.drewN nq) osq = w2 at S2 ⊢
        clear nq osq
        go_wp2_with fail
        go_roundg (h - i)
        case measure => omega
        case rel => exact ⟨i, h, rfl, rfl, hi, hh1, by omega, Nat.le_refl _, p1, fun t h1 h2 => by
          have := hle.out (h - a) t h1 h2
          have h2 := hlu.out
          rw [hx.out] at h2
          omega, S2⟩
      · have hlu : x.1 ≤ u.1 := by
          have := (cmpC_neg u x)
          omega
        obtain ⟨cv, hcv⟩ : ∃ cv, cv = cmpC u x := ⟨_, rfl⟩
        rw [← hcv] at hc hlv
        replace hcv := Lib.hid hcv
        replace hlu := Lib.hid hlu
        have hdv : decide (cv < 0) = false := decide_eq_false hlv
        clear hlv
        go_wp2_with fail
        go_quiet_grown (first | (go_at_fn g; refine Calls.grown_of (hc _ _)))
        have S2 : Hid (SWK encC 2 w0 blk off (X ++ (V ++ [u]) ++ Y).toArray (grow (wr.drewN nq) osq)) := S1.out.grown nq osq
        clear c0 c1 d0' d1' hc S1
        generalize grow (wr.drewN nq) osq = w2 at S2 ⊢
        clear nq osq
        go_wp2_with fail
        go_roundg (j - (h + 1))
        case measure => omega
        case rel => exact ⟨h + 1, j, by simp, rfl, by omega, by omega, hj, Nat.le_refl _, fun t ht => by
          by_cases e : t < i - a
          · exact p1.out t e
          · have := hle.out t (h - a) (by omega) (by have := hVl.out; omega)
            have h2 := hlu.out
            rw [hx.out] at h2
            omega, p2, S2⟩
    · obtain rfl : i = j := by omega
      obtain ⟨p, rfl⟩ : ∃ p, i = a + p := ⟨i - a, by omega⟩
      have hpV : p ≤ V.length := by have := hVl.out; omega
      rw [show a + p - a = p by omega] at p1 p2
      have hge : ¬ ((a + p : Nat) : Int) < ((a + p : Nat) : Int) := by omega
      have hWs : Srt (V.take p ++ u :: V.drop p) := hSV.out.insert (fun i h1 _ => p1.out i h1) (fun i h1 h2 => p2.out i h1 h2)
      have hWp : (V.take p ++ u :: V.drop p).Perm (V ++ [u]) := (insert_perm V u p).trans (by simpa using (List.perm_append_comm (l₁ := [u]) (l₂ := V)))
      replace hWs := Lib.hid hWs
      replace hWp := Lib.hid hWp
      have hpz : a + p ≤ N := by omega
      replace hpV := Lib.hid hpV
      clear p1 p2 hle hkx hij hi hj
      obtain ⟨q, hq⟩ : ∃ q, q = a + p := ⟨_, rfl⟩
      rw [← hq] at hge hpz ⊢
      have hpz' : (q : Int) ≤ (N : Int) := by omega
      replace hq := Lib.hid hq
      have S3 : Hid (SWK encC 2 w0 blk off (X ++ (V.take (m - a) ++ u :: V.drop (m - a)) ++ Y).toArray wr) := by
        have := S1.out
        have hl := hVl.out
        rw [List.take_of_length_le (by omega), List.drop_of_length_le (by omega)]
        exact this
      clear S1 h2 h1
      go_wp2
      go_loopg [17] (m - a) (fun kx s13 wr => ∃ k : Nat, s13 = .int .i64 ((a + k : Nat) : Int) ∧ p ≤ k ∧ k ≤ V.length ∧ k ≤ kx ∧ Hid (SWK encC 2 w0 blk off (X ++ (V.take k ++ u :: V.drop k) ++ Y).toArray wr))
      case atStart => exact ⟨m - a, by rw [show a + (m - a) = m by omega], by have := hpV.out; have := hVl.out; omega, by have := hVl.out; omega, by omega, S3⟩
      case round =>
        clear S3
        obtain ⟨k, rfl, hk, hkV, hkx, S1⟩ := hrel
        by_cases hlt : p < k
        · obtain ⟨k, rfl⟩ : ∃ k', k = k' + 1 := ⟨k - 1, by omega⟩
          have hVk : k < V.length := by omega
          have hak : a + k + 1 < N := by have := hVl.out; omega
          have hz : (X ++ (V.take (k + 1) ++ u :: V.drop (k + 1)) ++ Y).toArray.size = d0.size := by rw [← hNs.out, hN.out]; simp; omega
          obtain ⟨⟨i0, j0⟩, ⟨i1, j1⟩⟩ := swk_cells S1.out HC.out.R hz (i := a + k) (by rw [hz, ← hNs.out]; omega)
          obtain ⟨⟨p0, q0⟩, ⟨p1, q1⟩⟩ := swk_cells S1.out HC.out.R hz (i := a + k + 1) (by rw [hz, ← hNs.out]; omega)
          have S2 := swk_swap S1.out HC.out.R (i := a + k + 1) (j := a + k) (by rw [hz, ← hNs.out]; omega) (by rw [hz, ← hNs.out]; omega) _ _ rfl rfl
          rw [down_step hVk (by rw [ha.out]) (by rw [ha.out])] at S2
          generalize (X ++ (V.take (k + 1) ++ u :: V.drop (k + 1)) ++ Y).toArray[a + k]! = y at *
          generalize (X ++ (V.take (k + 1) ++ u :: V.drop (k + 1)) ++ Y).toArray[a + k + 1]! = x at *
          obtain ⟨x1, x2⟩ := x
          obtain ⟨y1, y2⟩ := y
          simp only at i0 i1 p0 p1
          have t1 : ∀ w2 : World, w2 = (((wr.drew.setCell ⟨blk, off + (a + k + 1) * 2, none⟩ (.int .i64 y1)).setCell ⟨blk, off + (a + k + 1) * 2 + 1, none⟩ (.int .u64 y2)).setCell ⟨blk, off + (a + k) * 2, none⟩ (.int .i64 x1)).setCell ⟨blk, off + (a + k) * 2 + 1, none⟩ (.int .u64 x2) → Hid (SWK encC 2 w0 blk off (X ++ (V.take k ++ u :: V.drop k) ++ Y).toArray w2) := by
            intro w2 h; subst h; exact S2
          replace t1 := Lib.hid t1
          rw [show a + (k + 1) = a + k + 1 by omega]
          obtain ⟨c, hc⟩ : ∃ c, c = a + k := ⟨_, rfl⟩
          rw [← hc] at i0 i1 j0 j1 p0 p1 q0 q1 t1 hak ⊢
          have g1 : (q : Int) < (c : Int) + 1 := by have := hq.out; omega
          have g2 : (c : Int) < (N : Int) := by omega
          have g3 : (c : Int) + 1 < (N : Int) := by omega
          have g4 : ((c : Int) + 1).toNat = c + 1 := by omega
          have g5 : IntKind.i64.wrap ((c : Int)) = (c : Int) := by rw [IntKind.wrap_i64]; omega
          have g6 : (0 : Int) ≤ (c : Int) + 1 := by omega
          have g7 : IntKind.i64.wrap ((c : Int) + 1) = (c : Int) + 1 := by rw [IntKind.wrap_i64]; omega
          have ec : ((c + 1 : Nat) : Int) = (c : Int) + 1 := by omega
          rw [ec]
          replace hc := Lib.hid hc
          clear S2 S1 hz ec
          go_wp2_with fail
          go_region
          go_wp2
          go_roundg (k)
          case measure => omega
          case rel => exact ⟨k, by rw [← hc.out], by omega, by omega, Nat.le_refl _, t1.out _ rfl⟩
        · obtain rfl : p = k := by omega
          rw [← hq.out]
          clear hk hkV hkx hlt
          go_wp2
          go_end0
          exact ⟨rfl, _, hWp.out, hWs.out, S1.out⟩
end Go.Proofs.YtpiegngjpnpohaaGreat.St
