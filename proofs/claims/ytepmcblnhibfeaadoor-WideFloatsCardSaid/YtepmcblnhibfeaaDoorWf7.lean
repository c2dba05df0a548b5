/- The document's Float: the walk. -/
import Derived.Test.YtepmcblnhibfeaaDoorWf6
import Derived.Test.YtepmcblnhibfeaaDoorReg
namespace Go.Proofs.YtepmcblnhibfeaaDoor.Wf
open Go.RowKit Ieee Go.Proofs.YtepmcblnhibfeaaDoor.Wi
set_option linter.unusedVariables false

theorem ret_u64 {b b' : Nat} (h : b = b') : Ending.returned (.int .u64 (b : Int)) = .returned (.int .u64 (b' : Int)) := by rw [h]

set_option maxRecDepth 100000 in
set_option maxHeartbeats 4000000 in
theorem rfloat_walk (x y hi lo : Int) (N : Nat) (e : (N : Int) = hi * 18446744073709551616 + lo) (h0 : 0 ≤ hi) (h1 : hi ≤ 9223372036854775808) (l0 : 0 ≤ lo) (l1 : lo ≤ 18446744073709551615) (hN : N ≠ 0) (w : World)
    (c : ∀ w, Calls Tryd.prog 44 #[.agg #[.int .i64 x, .int .u64 y]] w fun e w' => e = .returned (.tuple #[.int .u64 hi, .int .u64 lo]) ∧ Below w.heap.size w w') :
    Calls Tryd.prog 35 #[.agg #[.int .i64 x, .int .u64 y]] w fun e w' => e = .returned (.int .u64 ((wordOf x (rung N) : Nat) : Int)) ∧ Below w.heap.size w w' := by
  have hlg : N.log2 < 128 := (Nat.log2_lt hN).2 (by omega)
  have hN128 : N < 2 ^ 128 := by omega
  have hr := rung_lt (N := N) (by omega)
  obtain ⟨nI, hnI⟩ : ∃ nI : Int, nI = ((N.log2 + 1 : Nat) : Int) := ⟨_, rfl⟩
  have cb := rbits_any N hi lo e h0 (by omega) l0 l1 hN
  rw [← hnI] at cb
  have hsp := sig_parts hN
  obtain ⟨hs1, hs2⟩ := sig_between hN
  obtain ⟨sh, hsh⟩ : ∃ sh, sh = N.log2 - 52 := ⟨_, rfl⟩
  obtain ⟨up, hup⟩ : ∃ up, up = 52 - N.log2 := ⟨_, rfl⟩
  rw [← hsh, ← hup] at hsp
  obtain ⟨sI, hsI⟩ : ∃ sI : Int, nI - 53 = sI := ⟨_, rfl⟩
  have hsc : sI = (sh : Int) - (up : Int) ∧ (sh = 0 ∨ up = 0) := by omega
  have hn1 : 1 ≤ nI := by omega
  have hn2 : nI ≤ 128 := by omega
  have hsI1 : sI ≤ 75 := by omega
  have hsI2 : -53 ≤ sI := by omega
  have e1 : x < 0 → wordOf x (rung N) = 9223372036854775808 + rung N := fun h => by rw [wordOf, if_pos h]
  have e2 : ¬ x < 0 → wordOf x (rung N) = rung N := fun h => by rw [wordOf, if_neg h]
  have etop := top_bit (rung N) (by omega)
  have hMb : N / 2 ^ sh < 9007199254740992 := by
    have hp : 0 < 2 ^ up := Nat.two_pow_pos up
    have : N / 2 ^ sh * 1 ≤ N / 2 ^ sh * 2 ^ up := Nat.mul_le_mul_left _ hp
    rw [Nat.mul_one] at this
    have : addR (hbB N sh) (ovB N sh) (decide (N / 2 ^ sh * 2 ^ up % 2 = 1)) ≤ 1 := by unfold addR; split <;> omega
    by_cases hz : N.log2 ≤ 52
    · have : sh = 0 := by omega
      subst this
      rw [Nat.pow_zero, Nat.div_one]
      have := Nat.lt_log2_self (n := N)
      have : 2 ^ (N.log2 + 1) ≤ 2 ^ 53 := Nat.pow_le_pow_right (by decide) (by omega)
      omega
    · rw [hsh]; exact (rnd_between hN (by omega)).2
  have hMj : ∀ j, j ≤ up → N / 2 ^ sh * 2 ^ j ≤ 9007199254740992 := fun j hj => by
    have h1 : 2 ^ j ≤ 2 ^ up := Nat.pow_le_pow_right (by decide) hj
    have h2 := Nat.mul_le_mul_left (N / 2 ^ sh) h1
    omega
  have ht : ((hi == 0) = false) ∨ ((hi == 0) = true ∧ (lo == 0) = false) := by
    by_cases ha : hi = 0
    · exact .inr ⟨by simp [ha], by simp; omega⟩
    · exact .inl (by simpa using ha)
  replace e := Lib.hid e
  replace hN := Lib.hid hN
  replace e1 := Lib.hid e1
  replace e2 := Lib.hid e2
  replace hsp := Lib.hid hsp
  replace hMj := Lib.hid hMj
  replace hsc := Lib.hid hsc
  replace hnI := Lib.hid hnI
  replace hMb := Lib.hid hMb
  replace hsh := Lib.hid hsh
  replace hup := Lib.hid hup
  rcases ht with t1 | ⟨t1, t2⟩
  all_goals
    go_enter Tryd.func35, Tryd.ntmps35
    go_wp2_with fail
    refine (c _).mono ?_
    rintro e' w1 ⟨rfl, b1⟩
    obtain ⟨k1, k2, k3, k4⟩ := kept2 b1 (g := w.heap.size) (.int .i64 x) (.int .u64 y) (by go_size) (by go_cell) (by go_cell) (by go_cell) (by go_cell)
    have bw := joined (w := w) (by go_grown) b1
    clear b1
    go_wp2_with fail
    refine (cb _).mono ?_
    rintro e' w2 ⟨rfl, rfl⟩
    go_wp2_with fail
    go_loopw [3, 4, 7, 8, 9] (fun h l o b i wr => ∃ (k : Nat) (hi lo : Int) (ov hb : Bool), h = .int .u64 hi ∧ l = .int .u64 lo ∧ o = .bool ov ∧ b = .bool hb ∧ i = .int .i64 (k : Int) ∧ k ≤ sh ∧ 0 ≤ hi ∧ hi ≤ 18446744073709551615 ∧ 0 ≤ lo ∧ lo ≤ 18446744073709551615 ∧ Hid (((N / 2 ^ k : Nat) : Int) = hi * 18446744073709551616 + lo) ∧ Hid (ov = ovB N k) ∧ Hid (hb = hbB N k) ∧ w2 = wr) (fun _ _ _ _ i _ => (sh - (RowKit.intOf i).toNat))
    case atStart => exact ⟨0, hi, lo, false, false, rfl, rfl, rfl, rfl, rfl, by omega, h0, by omega, l0, l1, by show ((N / 2 ^ 0 : Nat) : Int) = _; rw [Nat.pow_zero, Nat.div_one]; exact e.out, rfl, rfl, rfl⟩
    case round =>
      clear h0 h1 l0 l1 e
      obtain ⟨k, a, b, ov, hb, rfl, rfl, rfl, rfl, rfl, hk, h0, h1, l0, l1, e, hov, hhb, rfl⟩ := hrel
      by_cases hlt : k < sh
      · have hlt' : (k : Int) < sI := by have := hsc.out; omega
        obtain ⟨h, l, cc, g1, g2, g3, g4, g5, g6, g7, g8⟩ := halve_i e.out h0 h1 l0 l1
        obtain ⟨p, q, o1, o2, o3⟩ := odd_i e.out l0 l1
        rw [half_div] at g1
        rw [← hb_next] at o3
        have o4 := ov_next N k
        rw [← hov.out, ← hhb.out] at o4
        replace g1 := Lib.hid g1
        replace o3 := Lib.hid o3
        replace o4 := Lib.hid o4
        clear e h0 h1 hov hhb
        cases ov <;> cases q
        all_goals
          go_wp2
          exact ⟨⟨k + 1, h, l, _, _, rfl, rfl, rfl, rfl, by go_num, by omega, g2, g3, g4, g5, g1, o4.out.symm, o3.out, trivial⟩, by simp [RowKit.intOf]; omega⟩
      · obtain rfl : k = sh := by omega
        have hM := hMb.out
        have hlo : b = ((N / 2 ^ k : Nat) : Int) ∧ a = 0 := by have := e.out; omega
        obtain ⟨hl1, hl2⟩ := hlo
        obtain ⟨M, hMM⟩ : ∃ M, M = N / 2 ^ k := ⟨_, rfl⟩
        rw [← hMM] at hl1
        have hMj' : ∀ j, j ≤ up → M * 2 ^ j ≤ 9007199254740992 := by rw [hMM]; exact hMj.out
        have hsp' : sig N = M * 2 ^ up + addR hb ov (decide (M * 2 ^ up % 2 = 1)) := by rw [hMM, hov.out, hhb.out]; exact hsp.out
        have hge : ¬ (k : Int) < sI := by have := hsc.out; omega
        have hsc' : sI + (up : Int) = (k : Int) ∧ (k = 0 ∨ up = 0) := by have := hsc.out; omega
        subst hl1
        clear hM hMM hlt e hov hhb h0 h1 l0 l1 hMj hsp hsc hMb
        replace hMj' := Lib.hid hMj'
        replace hsp' := Lib.hid hsp'
        replace hsc' := Lib.hid hsc'
        go_wp2_with fail
        go_loopw [4, 10] (fun l i wr => ∃ j : Nat, j ≤ up ∧ l = .int .u64 ((M * 2 ^ j : Nat) : Int) ∧ i = .int .i64 (sI + (j : Int)) ∧ w2 = wr) (fun _ i _ => (-(RowKit.intOf i)).toNat)
        case atStart => exact ⟨0, by omega, by rw [Nat.pow_zero, Nat.mul_one], by rw [show sI + ((0 : Nat) : Int) = sI by omega], rfl⟩
        case round =>
          obtain ⟨j, hj, rfl, rfl, rfl⟩ := hrel
          by_cases hjl : j < up
          · have hneg : sI + (j : Int) < 0 := by have := hsc'.out; omega
            have hb1 := hMj'.out (j + 1) (by omega)
            rw [Nat.pow_succ, ← Nat.mul_assoc] at hb1
            have hw : IntKind.u64.wrap (((M * 2 ^ j : Nat) : Int) * 2) = ((M * 2 ^ (j + 1) : Nat) : Int) := by
              rw [Nat.pow_succ, ← Nat.mul_assoc, IntKind.wrap_u64]; omega
            generalize M * 2 ^ j = X at *
            clear hb1
            go_wp2
            exact ⟨⟨j + 1, by omega, rfl, by rw [show sI + ((j + 1 : Nat) : Int) = sI + (j : Int) + 1 by omega], trivial⟩, by simp [RowKit.intOf]; omega⟩
          · obtain rfl : j = up := by omega
            have hnn : ¬ sI + (j : Int) < 0 := by have := hsc'.out; omega
            have hb1 := hMj'.out j (by omega)
            have hfin := hsp'.out
            obtain ⟨p2, nJ, G1, G2, H1, H2, X1, q2, z1, z2, z3, z4, z5, z6, z7, z8, z9, z10, V, hV, hE⟩ := tail_nums hN.out hN128 hnI.out hb1 hfin
            clear hfin hb1 hj hjl hsp' hMj' hsc' hnI
            generalize M * 2 ^ j = X at *
            replace hN128 := Lib.hid hN128
            clear hs1 hs2 hlg hr
            have hcase : (hb = false ∧ V = (X : Int)) ∨ (hb = true ∧ ov = true ∧ V = X1) ∨ (hb = true ∧ ov = false ∧ q2 = true ∧ V = X1) ∨ (hb = true ∧ ov = false ∧ q2 = false ∧ V = (X : Int)) := by
              revert hV; cases hb <;> cases ov <;> cases q2 <;> simp
            clear hV
            rcases hcase with ⟨rfl, hV⟩ | ⟨rfl, rfl, hV⟩ | ⟨rfl, rfl, rfl, hV⟩ | ⟨rfl, rfl, rfl, hV⟩
            all_goals
              subst hV
              rcases hE with ⟨F, y1, y2, y3⟩ | ⟨y1, y2, y3, y4⟩
              all_goals
                by_cases hx : x < 0
                all_goals
                  go_wp2
                  go_ret
                  first | exact ⟨ret_u64 (e1.out hx).symm, bw⟩ | exact ⟨ret_u64 (e2.out hx).symm, bw⟩

theorem rfloat_zero (w : World) :
    Calls Tryd.prog 35 #[I128 0] w fun e w' => e = .returned (.int .u64 0) ∧ Below w.heap.size w w' := by
  have c := fun w => rsize_any in_zero w
  have e1 : hU (absI 0) = 0 := by decide
  have e2 : loI (absI 0) = 0 := by decide
  rw [e1, e2] at c
  clear e1 e2
  unfold I128 at c ⊢
  rw [hi0, lo0] at c ⊢
  go_enter Tryd.func35, Tryd.ntmps35
  go_wp2_with fail
  refine (c _).mono ?_
  rintro e w1 ⟨rfl, b1⟩
  have bw := joined (w := w) (by go_grown) b1
  go_wp2
  go_ret
  exact ⟨rfl, bw⟩

theorem rfloat_any {a : Int} (ha : In a) (w : World) :
    Calls Tryd.prog 35 #[I128 a] w fun e w' => e = .returned (.int .u64 ((fw a : Nat) : Int)) ∧ Below w.heap.size w w' := by
  by_cases h0 : a = 0
  · subst h0
    have e : fw 0 = 0 := by decide
    rw [e]; exact rfloat_zero w
  · obtain ⟨hi, lo, e1, e2, h1, h2, e3⟩ := abs_parts ha
    have c := fun w => rsize_any ha w
    rw [e1, e2] at c
    have e : wordOf (hiI a) (rung (hi * 18446744073709551616 + lo)) = fw a := by
      rw [e3]
      obtain ⟨hn, hp⟩ := hi_neg ha
      unfold wordOf fw absI
      by_cases g : a < 0
      · rw [if_pos (hn g), if_pos g, if_pos g, show (-a).toNat = a.natAbs by omega]
      · rw [if_neg (hp g), if_neg g, if_neg g, show a.toNat = a.natAbs by omega]
    have h := rfloat_walk (hiI a) (loI a) hi lo (hi * 18446744073709551616 + lo) (by omega) (by omega) (by omega) (by omega) (by omega) (by unfold absI at e3; split at e3 <;> omega) w c
    rw [e] at h
    exact h

theorem floats_any {a : Int} (ha : In a) (w : World) (htab : Tab w) :
    Calls Tryd.prog 8 #[I128 a] w fun e w' => e = .returned (.bool true) ∧ Below w.heap.size w w' := by
  have c1 := fun w => float_any ha w
  have c2 := fun w => rfloat_any ha w
  have cf := fun w h => fixed_any w h
  have hb := bits_run (fw a)
  unfold I128 at *
  clear ha
  go_enter Tryd.func8, Tryd.ntmps8
  go_wp2_with fail
  refine Reg.region_below (by kernel_rfl) (by kernel_rfl) ?_
  intro S _ f hf hs
  have k0 := Reg.keepc hf (g := w.heap.size) (o := 0) (v := .int .i64 (hiI a)) (by simp) (by go_cell)
  have k1 := Reg.keepc hf (g := w.heap.size) (o := 1) (v := .int .u64 (loI a)) (by simp) (by go_cell)
  have lw : ∀ s, Below w.heap.size w (f s) := fun s => joined (w := w) (by go_grown) (hf s)
  have ht := fun s => htab.stays (lw s)
  repeat (go_big_quiet_step ((first | (go_at_call 34; with_reducible exact Reg.met hs (c1 _)) | (go_at_call 35; with_reducible exact Reg.met hs (c2 _)) | (go_at_call 10; with_reducible exact Reg.met hs (cf _ (ht _))))))
  refine wpQuiet_nil ?_
  intro s
  go_wp2
  go_ret
  exact ⟨rfl, lw s⟩

end Go.Proofs.YtepmcblnhibfeaaDoor.Wf
