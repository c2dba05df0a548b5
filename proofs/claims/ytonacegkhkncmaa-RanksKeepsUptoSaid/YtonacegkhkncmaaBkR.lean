/- The walks of the document's answer for buckets: the same values as package bucket gives. -/
import Derived.Test.YtonacegkhkncmaaBk
import Derived.LoopTactic
namespace Go.Proofs.Ytonacegkhkncmaa.Bk
open Go.RowKit
set_option linter.unusedVariables false
open Go.Proofs.Ytonacegkhkncmaa.BkM

theorem prec_t (p : Int) (h : good p) (w : World) :
    Calls Try.prog 43 #[.int .i64 p] w fun e w' => e = .returned (.bool true) ∧ w = w' := by
  obtain ⟨h1, h2⟩ := h
  go_enter Try.func43, Try.ntmps43
  go_wp2
  go_ret
  exact ⟨rfl, rfl⟩

theorem prec_f (p : Int) (h : ¬ good p) (w : World) :
    Calls Try.prog 43 #[.int .i64 p] w fun e w' => e = .returned (.bool false) ∧ w = w' := by
  have h : p < 1 ∨ 14 < p := by unfold good at h; omega
  rcases h with h | h
  all_goals
    go_enter Try.func43, Try.ntmps43
    go_wp2
    go_ret
    exact ⟨ret_bool (by simp <;> omega), rfl⟩

theorem pow_two_in {n : Nat} (h : n ≤ 14) : wrap64 ((2 : Int) ^ n) = ((2 ^ n : Nat) : Int) := by rw [wrap_pow (by omega)]; simp

theorem rlen_end {n : Nat} (h2 : n ≤ 14) (h : good n) : wrap64 (wrap64 ((2 : Int) ^ n) * (64 - (n : Int))) = lenI n := by
  rw [wrap_pow (by omega), Int.mul_comm]; exact len_end h2 h

theorem rlength_any (p : Int) (w : World) :
    Calls Try.prog 20 #[.int .i64 p] w fun e w' => e = .returned (.int .i64 (lenI p)) ∧ w = w' := by
  by_cases h : good p
  · obtain ⟨h1, h2⟩ := id h
    obtain ⟨n, rfl⟩ := Int.eq_ofNat_of_zero_le (a := p) (by omega)
    go_enter Try.func20, Try.ntmps20
    go_wp2_with (first | (go_at_call 43; refine (prec_t _ h _).mono ?_; rintro e w' ⟨rfl, rfl⟩))
    go_ret
    exact ⟨ret_int (rlen_end (by omega) h), rfl⟩
  · go_enter Try.func20, Try.ntmps20
    go_wp2_with (first | (go_at_call 43; refine (prec_f _ h _).mono ?_; rintro e w' ⟨rfl, rfl⟩))
    go_ret
    exact ⟨ret_int (by simp [lenI, h]), rfl⟩

theorem shr_gt {u k : Nat} (h0 : u ≠ 0) (h : k < u.log2) : (1 : Int) < (u : Int) / 2 ^ k := by
  have h1 : 2 ^ u.log2 ≤ u := Nat.log2_self_le h0
  have h2 : 2 ^ (k + 1) ≤ 2 ^ u.log2 := Nat.pow_le_pow_right (by decide) h
  have h3 : 2 ≤ u / 2 ^ k := by rw [Nat.le_div_iff_mul_le (pow_pos' k)]; rw [Nat.pow_succ] at h2; omega
  have e : (u : Int) / 2 ^ k = ((u / 2 ^ k : Nat) : Int) := by simp
  rw [e]; omega
theorem shr_le {u k : Nat} (h0 : u ≠ 0) (h : k = u.log2) : ¬ (1 : Int) < (u : Int) / 2 ^ k := by
  have h1 : u < 2 ^ (u.log2 + 1) := Nat.lt_log2_self
  have h3 : u / 2 ^ k < 2 := by rw [Nat.div_lt_iff_lt_mul (pow_pos' k), h]; rw [Nat.pow_succ] at h1; omega
  have e : (u : Int) / 2 ^ k = ((u / 2 ^ k : Nat) : Int) := by simp
  rw [e]; omega

theorem ridx_end {n u : Nat} (h1 : n ≤ u.log2) (h0 : u ≠ 0) (h2 : n ≤ 14) (h : good n) (hu : u ≤ 9223372036854775807) :
    wrap64 (wrap64 (((u.log2 : Int) - n) * wrap64 (2 ^ n)) + (u : Int) / 2 ^ (u.log2 - n)) = idxI n u := by
  have hb := bitLen_log2 h0 (by omega)
  have := idx_end (n := n) (u := u) (by omega) h2 h hu
  rw [wrap_pow (by omega), ← this]
  rw [hb]
  have e : ((u.log2 + 1 : Nat) : Int) - 1 - n = (u.log2 : Int) - n := by omega
  have e2 : u.log2 + 1 - 1 - n = u.log2 - n := by omega
  rw [e, e2]

theorem rindex_any (p v : Int) (hv : v ≤ 9223372036854775807) (w : World) :
    Calls Try.prog 14 #[.int .i64 p, .int .i64 v] w fun e w' => e = .returned (.tuple #[.int .i64 (idxI p v), .int .i64 (idxE p v)]) ∧ ∃ n, w' = w.drewN n := by
  by_cases h : good p
  · by_cases h0 : v < 0
    · go_enter Try.func14, Try.ntmps14
      go_wp2_with (first | (go_at_call 43; refine (prec_t _ h _).mono ?_; rintro e w' ⟨rfl, rfl⟩))
      go_ret2
      exact ⟨ret_int2 (by simp [idxI, h]; omega) (by simp [idxE, h, h0]), 0, rfl⟩
    · obtain ⟨h1, h2⟩ := id h
      obtain ⟨n, rfl⟩ := Int.eq_ofNat_of_zero_le (a := p) (by omega)
      obtain ⟨u, rfl⟩ := Int.eq_ofNat_of_zero_le (a := v) (by omega)
      have e1 := wrap_pow (n := n) (by omega)
      by_cases hu : (u : Int) < 2 ^ n
      · have hu' : (u : Int) < wrap64 (2 ^ n) := by rw [e1]; exact hu
        clear e1
        go_enter Try.func14, Try.ntmps14
        go_wp2_with (first | (go_at_call 43; refine (prec_t _ h _).mono ?_; rintro e w' ⟨rfl, rfl⟩))
        go_ret2
        have hu2 : u < 2 ^ n := by exact_mod_cast hu
        exact ⟨ret_int2 (by simp [idxI, h, bk, hu2]) (by simp [idxE, h, h0]), 0, rfl⟩
      · have hu' : ¬ (u : Int) < wrap64 (2 ^ n) := by rw [e1]; exact hu
        clear e1
        have hu2 : 2 ^ n ≤ u := by
          have : (2 : Int) ^ n ≤ u := by omega
          exact_mod_cast this
        have hn0 := pow_pos' n
        have hl1 : n ≤ u.log2 := (Nat.le_log2 (by omega)).2 hu2
        have hl2 : u.log2 < 63 := (Nat.log2_lt (by omega)).2 (by omega)
        have hu0 : 0 < u := by omega
        clear hn0 hu hu2
        go_enter Try.func14, Try.ntmps14
        go_wp2_with (first | (go_at_call 43; refine (prec_t _ h _).mono ?_; rintro e w' ⟨rfl, rfl⟩))
        go_loop [6] (fun e => ∃ k : Nat, k ≤ u.log2 ∧ e = .int .i64 k) (fun e => u.log2 - (intOf e).toNat)
        case atStart => exact ⟨0, Nat.zero_le _, rfl⟩
        case round =>
          obtain ⟨k, hk, rfl⟩ := hrel
          by_cases hlt : k < u.log2
          · have ht := shr_gt (by omega) hlt
            go_wp2
            go_round
            case rel => exact ⟨k + 1, by omega, by go_num⟩
            case measure => simp [intOf]; omega
          · obtain rfl : k = u.log2 := by omega
            have ht := shr_le (u := u) (by omega) rfl
            go_wp2
            go_quiet (fail)
            go_wp2
            go_ret2
            refine ⟨ret_int2 ?_ ?_, _, rfl⟩
            · exact ridx_end hl1 (by omega) (by omega) h (by omega)
            · simp [idxE, h]
  · go_enter Try.func14, Try.ntmps14
    go_wp2_with (first | (go_at_call 43; refine (prec_f _ h _).mono ?_; rintro e w' ⟨rfl, rfl⟩))
    go_ret2
    exact ⟨ret_int2 (by simp [idxI, h]) (by simp [idxE, h]), 0, rfl⟩

theorem rlow_big {n u : Nat} (h : good n) (h3 : ¬ lenI n ≤ u) (h0 : ¬ (u : Int) < 0) (hi : (u : Int) ≤ 9223372036854775807) (hu : ¬ (u : Int) < 2 ^ n) (hu' : ¬ (u : Int) < wrap64 (2 ^ n)) (w : World) :
    Calls Try.prog 16 #[.int .i64 n, .int .i64 u] w fun e w' => e = .returned (.tuple #[.int .i64 (lowI n u), .int .i64 (lowE n u)]) ∧ ∃ n, w' = w.drewN n := by
  obtain ⟨k, m, a, e, hk, k1, k2, k3, l1, l2, l3, l4⟩ := ends_facts h h3 hu
  replace l1 := Lib.hid l1; replace l2 := Lib.hid l2; replace l3 := Lib.hid l3; replace l4 := Lib.hid l4; replace e := Lib.hid e
  obtain ⟨h1, h2⟩ := id h
  have e0 := wrap_pow (n := n) (by omega)
  have p1 : (1 : Int) ≤ 2 ^ n := by have := pow_pos' n; have : 1 ≤ 2 ^ n := this; exact_mod_cast this
  have p2 : (2 : Int) ^ n ≤ 16384 := by have h5 := Int.ofNat_le.2 (pow14 (n := n) (by omega)); rw [Int.natCast_pow] at h5; exact h5
  obtain ⟨P, hP⟩ : ∃ P, (2 : Int) ^ n = P := ⟨_, rfl⟩
  rw [hP] at k1 k2 p1 p2
  have e1 : wrap64 ((2 : Int) ^ n) = P := by rw [e0, hP]
  rw [e1] at hu'
  have kq : wrap64 ((u : Int) / P) = (u : Int) / P := by
    obtain ⟨q1, q2⟩ := IntWalk.tdiv_le (u : Int) P (by omega) (by omega)
    exact IntWalk.wrap64_in _ (by constructor <;> omega)
  clear hu hP e0
  go_enter Try.func16, Try.ntmps16
  go_wp2_with (first | (go_at_call 43; refine (prec_t _ h _).mono ?_; rintro e w' ⟨rfl, rfl⟩) | (go_at_call 20; refine (rlength_any _ _).mono ?_; rintro e w' ⟨rfl, rfl⟩))
  go_ret2
  refine ⟨ret_int2 ?_ l4.out.symm, 0, rfl⟩
  rw [l1.out]; exact shl_end l3.out

theorem rlow_any (p i : Int) (hi : i ≤ 9223372036854775807) (w : World) :
    Calls Try.prog 16 #[.int .i64 p, .int .i64 i] w fun e w' => e = .returned (.tuple #[.int .i64 (lowI p i), .int .i64 (lowE p i)]) ∧ ∃ n, w' = w.drewN n := by
  by_cases h : good p
  · by_cases h0 : i < 0
    · go_enter Try.func16, Try.ntmps16
      go_wp2_with (first | (go_at_call 43; refine (prec_t _ h _).mono ?_; rintro e w' ⟨rfl, rfl⟩))
      go_ret2
      have e : lowE p i = 2 := by simp [lowE, h, h0]
      exact ⟨ret_int2 (by simp [lowI, e]) e.symm, 0, rfl⟩
    · by_cases h3 : lenI p ≤ i
      · go_enter Try.func16, Try.ntmps16
        go_wp2_with (first | (go_at_call 43; refine (prec_t _ h _).mono ?_; rintro e w' ⟨rfl, rfl⟩) | (go_at_call 20; refine (rlength_any _ _).mono ?_; rintro e w' ⟨rfl, rfl⟩))
        go_ret2
        have e : lowE p i = 2 := by simp [lowE, h, h3]
        exact ⟨ret_int2 (by simp [lowI, e]) e.symm, 0, rfl⟩
      · obtain ⟨h1, h2⟩ := id h
        obtain ⟨n, rfl⟩ := Int.eq_ofNat_of_zero_le (a := p) (by omega)
        obtain ⟨u, rfl⟩ := Int.eq_ofNat_of_zero_le (a := i) (by omega)
        have e1 := wrap_pow (n := n) (by omega)
        have he : lowE n u = 0 := by simp [lowE, h, h0, h3]
        replace he := Lib.hid he
        by_cases hu : (u : Int) < 2 ^ n
        · have hu' : (u : Int) < wrap64 (2 ^ n) := by rw [e1]; exact hu
          clear e1
          go_enter Try.func16, Try.ntmps16
          go_wp2_with (first | (go_at_call 43; refine (prec_t _ h _).mono ?_; rintro e w' ⟨rfl, rfl⟩) | (go_at_call 20; refine (rlength_any _ _).mono ?_; rintro e w' ⟨rfl, rfl⟩))
          go_ret2
          have hu2 : u < 2 ^ n := by exact_mod_cast hu
          exact ⟨ret_int2 (by simp [lowI, he.out, lo, hu2]) he.out.symm, 0, rfl⟩
        · have hu' : ¬ (u : Int) < wrap64 (2 ^ n) := by rw [e1]; exact hu
          exact rlow_big h h3 h0 hi hu hu' w
  · go_enter Try.func16, Try.ntmps16
    go_wp2_with (first | (go_at_call 43; refine (prec_f _ h _).mono ?_; rintro e w' ⟨rfl, rfl⟩))
    go_ret2
    have e : lowE p i = 1 := by simp [lowE, h]
    exact ⟨ret_int2 (by simp [lowI, e]) e.symm, 0, rfl⟩

theorem hig_next {p i : Int} (h : lowE p i = 0) : (i + 1 = lenI p → higI p i = 9223372036854775807) ∧ (i + 1 ≠ lenI p → lowE p (i + 1) = 0 ∧ higI p i = lowI p (i + 1) - 1) := by
  have hg : good p := by
    apply Classical.byContradiction; intro h'; simp [lowE, h'] at h
  have hb : ¬ (i < 0 ∨ lenI p ≤ i) := by
    intro h'; simp [lowE, hg, h'] at h
  obtain ⟨h1, h2⟩ := id hg
  obtain ⟨n, rfl⟩ := Int.eq_ofNat_of_zero_le (a := p) (by omega)
  obtain ⟨u, rfl⟩ := Int.eq_ofNat_of_zero_le (a := i) (by omega)
  have hl : lenI n = (((64 - n) * 2 ^ n : Nat) : Int) := by rw [lenI, if_pos hg, Int.toNat_natCast]
  constructor
  · intro e
    have := hi_last (p := n) (i := u) (by omega) (by omega)
    rw [higI, lowI, morI, if_pos h, if_pos h, Int.toNat_natCast, Int.toNat_natCast]; omega
  · intro e
    have h' : lowE n ((u : Int) + 1) = 0 := by
      have : ¬ ((u : Int) + 1 < 0 ∨ lenI n ≤ u + 1) := by omega
      simp only [lowE, hg, not_true, if_false, this]
    refine ⟨h', ?_⟩
    have := lo_succ n u
    rw [higI, lowI, morI, lowI, if_pos h, if_pos h, if_pos h', Int.toNat_natCast, Int.toNat_natCast]
    have e2 : ((u : Int) + 1).toNat = u + 1 := by omega
    rw [e2]; omega

theorem lowE_lt {p i : Int} (h : lowE p i = 0) : 0 ≤ i ∧ i < lenI p ∧ lenI p ≤ 1048576 := by
  have hg : good p := by
    apply Classical.byContradiction; intro h'; simp [lowE, h'] at h
  have hb : ¬ (i < 0 ∨ lenI p ≤ i) := by
    intro h'; simp [lowE, hg, h'] at h
  obtain ⟨h1, h2⟩ := id hg
  have := size14 (n := p.toNat) (by omega)
  rw [lenI, if_pos hg] at *
  omega

theorem rhigh_any (p i : Int) (hi : i ≤ 9223372036854775807) (w : World) :
    Calls Try.prog 18 #[.int .i64 p, .int .i64 i] w fun e w' => e = .returned (.tuple #[.int .i64 (higI p i), .int .i64 (lowE p i)]) ∧ ∃ n, w' = w.drewN n := by
  have c1 := rlow_any p i hi
  by_cases hE : lowE p i = 0
  · obtain ⟨q1, q2⟩ := hig_next hE
    obtain ⟨r1, r2, r3⟩ := lowE_lt hE
    obtain ⟨s1, s2, s3⟩ := @lo_rng p i
    have c2 := rlow_any p (i + 1) (by omega)
    by_cases hl : i + 1 = lenI p
    · have g := q1 hl
      have hb : (i + 1 == lenI p) = true := beq_iff_eq.2 hl
      have hb0 : (lowE p i != 0) = false := by simp [hE]
      replace hE := Lib.hid hE; replace g := Lib.hid g
      clear q1 q2 hl c2 hi
      go_enter Try.func18, Try.ntmps18
      go_wp2_with (first | (go_at_call 16; refine (c1 _).mono ?_; rintro e w' ⟨rfl, n, rfl⟩) | (go_at_call 20; refine (rlength_any _ _).mono ?_; rintro e w' ⟨rfl, rfl⟩))
      go_ret2
      exact ⟨ret_int2 g.out.symm hE.out.symm, _, rfl⟩
    · obtain ⟨g0, g⟩ := q2 hl
      obtain ⟨t1, t2, t3⟩ := @lo_rng p (i + 1)
      have hb : (i + 1 == lenI p) = false := beq_eq_false_iff_ne.2 hl
      have hb0 : (lowE p i != 0) = false := by simp [hE]
      replace hE := Lib.hid hE; replace g := Lib.hid g; replace g0 := Lib.hid g0
      clear q1 q2 hl hi
      go_enter Try.func18, Try.ntmps18
      go_wp2_with fail
      refine (c1 _).mono ?_; rintro e w' ⟨rfl, n, rfl⟩
      go_wp2_with fail
      refine (rlength_any _ _).mono ?_; rintro e w' ⟨rfl, rfl⟩
      go_wp2_with fail
      refine (c2 _).mono ?_; rintro e w' ⟨rfl, n, rfl⟩
      go_wp2
      go_ret2
      exact ⟨ret_int2 g.out.symm hE.out.symm, _, rfl⟩
  · have hb0 : (lowE p i != 0) = true := by simp [hE]
    have g : higI p i = 0 := by rw [higI, lowI, morI, if_neg hE, if_neg hE]; rfl
    replace hE := Lib.hid hE; replace g := Lib.hid g
    clear hi
    go_enter Try.func18, Try.ntmps18
    go_wp2_with (first | (go_at_call 16; refine (c1 _).mono ?_; rintro e w' ⟨rfl, n, rfl⟩))
    go_ret2
    exact ⟨ret_int2 g.out.symm rfl, _, rfl⟩
end Go.Proofs.Ytonacegkhkncmaa.Bk
