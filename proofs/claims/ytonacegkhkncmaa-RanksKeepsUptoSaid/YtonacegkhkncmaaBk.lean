/- The walks of package bucket: what each function of it returns. -/
import Derived.Test.YtonacegkhkncmaaChecked
import Derived.Test.YtonacegkhkncmaaBkM
import Derived.Test.YtonacegkhkncmaaShelf
import Derived.WalkKit
import Derived.BigQuiet
import Derived.Deep.QuietTactic
import Derived.RegionTactic
import Derived.ChangeAlike
import Derived.Outline
import Derived.Lib.Hide
import Derived.Lib.ItoaNum
import Derived.IntWalk
namespace Go.Proofs.Ytonacegkhkncmaa.Bk
open Go.RowKit
open Go.Proofs.Ytonacegkhkncmaa.BkM

def good (p : Int) : Prop := 1 ≤ p ∧ p ≤ 14
instance (p : Int) : Decidable (good p) := by unfold good; exact inferInstance

def lenI (p : Int) : Int := if good p then (((64 - p.toNat) * 2 ^ p.toNat : Nat) : Int) else 0
def idxI (p v : Int) : Int := if good p ∧ 0 ≤ v then (bk p.toNat v.toNat : Int) else 0
def idxE (p v : Int) : Int := if ¬ good p then 1 else if v < 0 then 2 else 0
def lowE (p i : Int) : Int := if ¬ good p then 1 else if i < 0 ∨ lenI p ≤ i then 2 else 0
def lowI (p i : Int) : Int := if lowE p i = 0 then (lo p.toNat i.toNat : Int) else 0
def morI (p i : Int) : Int := if lowE p i = 0 then (mo p.toNat i.toNat : Int) else 0

theorem ret_int {k : IntKind} {a b : Int} (h : a = b) : Ending.returned (.int k a) = .returned (.int k b) := by rw [h]
theorem ret_bool {a b : Bool} (h : a = b) : Ending.returned (.bool a) = .returned (.bool b) := by rw [h]
theorem ret_int2 {k l : IntKind} {a b c d : Int} (h : a = b) (h' : c = d) : Ending.returned (.tuple #[.int k a, .int l c]) = .returned (.tuple #[.int k b, .int l d]) := by rw [h, h']

theorem right_t (p : Int) (h : good p) (w : World) :
    Calls Try.prog 41 #[.int .i64 p] w fun e w' => e = .returned (.bool true) ∧ w = w' := by
  obtain ⟨h1, h2⟩ := h
  go_enter Try.func41, Try.ntmps41
  go_wp2
  go_ret
  exact ⟨rfl, rfl⟩

theorem right_f (p : Int) (h : ¬ good p) (w : World) :
    Calls Try.prog 41 #[.int .i64 p] w fun e w' => e = .returned (.bool false) ∧ w = w' := by
  have h : p < 1 ∨ 14 < p := by unfold good at h; omega
  rcases h with h | h
  all_goals
    go_enter Try.func41, Try.ntmps41
    go_wp2
    go_ret
    exact ⟨ret_bool (by simp <;> omega), rfl⟩

theorem bitLen_log2 {u : Nat} (h0 : u ≠ 0) (h : u < 2 ^ 64) : Lib.bitLen u = u.log2 + 1 := by
  obtain ⟨h1, h2, h3⟩ := Lib.bitLenAux_bounds 64 u h h0
  have e : Lib.bitLenAux 64 u = Lib.bitLen u := rfl
  rw [e] at h1 h2 h3
  have := (Nat.log2_eq_iff h0 (k := Lib.bitLen u - 1)).2 ⟨h2, by rw [Nat.sub_add_cancel h1]; exact h3⟩
  omega

theorem wrap_pow {n : Nat} (h : n ≤ 62) : wrap64 ((2 : Int) ^ n) = 2 ^ n := by
  have h1 : (2 : Int) ^ n ≤ 2 ^ 62 := by
    have := Nat.pow_le_pow_right (n := 2) (by decide) h
    exact_mod_cast this
  have h2 : (0 : Int) ≤ 2 ^ n := Int.pow_nonneg (by decide)
  exact IntWalk.wrap64_in _ (by omega)

theorem pow14 {n : Nat} (h : n ≤ 14) : 2 ^ n ≤ 16384 := Nat.pow_le_pow_right (n := 2) (by decide) h
theorem size14 {n : Nat} (h : n ≤ 14) : (64 - n) * 2 ^ n ≤ 1048576 := Nat.le_trans (Nat.mul_le_mul (by omega) (pow14 h)) (by decide : 64 * 16384 ≤ 1048576)

theorem len_end {n : Nat} (h2 : n ≤ 14) (h : good n) : wrap64 ((64 - (n : Int)) * 2 ^ n) = lenI n := by
  have e : (64 - (n : Int)) * 2 ^ n = (((64 - n) * 2 ^ n : Nat) : Int) := by
    rw [Int.natCast_mul, Int.ofNat_sub (by omega)]; simp
  have := size14 h2
  rw [e, lenI, if_pos h, Int.toNat_natCast]
  exact IntWalk.wrap64_in _ (by omega)

theorem idx_end {n u : Nat} (h1 : n + 1 ≤ Lib.bitLen u) (h2 : n ≤ 14) (h : good n) (hu : u ≤ 9223372036854775807) :
    wrap64 (wrap64 (((Lib.bitLen u : Int) - 1 - n) * 2 ^ n) + (u : Int) / 2 ^ (Lib.bitLen u - 1 - n)) = idxI n u := by
  have h0 : u ≠ 0 := by rintro rfl; simp [Lib.bitLen, Lib.bitLenAux] at h1
  have hb := bitLen_log2 h0 (by omega)
  have hge : ¬ u < 2 ^ n := by
    have := (Nat.le_log2 h0 (k := n)).1 (by omega); omega
  have e1 : (Lib.bitLen u : Int) - 1 - n = ((u.log2 - n : Nat) : Int) := by omega
  have e2 : Lib.bitLen u - 1 - n = u.log2 - n := by omega
  have hk : bk n u = (u.log2 - n) * 2 ^ n + u / 2 ^ (u.log2 - n) := by rw [bk, if_neg hge]
  have hl := bk_lt (p := n) (v := u) (by omega) (by omega)
  have hs := size14 h2
  rw [e1, e2, idxI, if_pos ⟨h, by omega⟩, Int.toNat_natCast, Int.toNat_natCast]
  have e3 : ((u.log2 - n : Nat) : Int) * 2 ^ n = (((u.log2 - n) * 2 ^ n : Nat) : Int) := by rw [Int.natCast_mul]; simp
  have e4 : (u : Int) / 2 ^ (u.log2 - n) = ((u / 2 ^ (u.log2 - n) : Nat) : Int) := by simp
  rw [hk] at hl ⊢
  rw [e3, e4]
  generalize (u.log2 - n) * 2 ^ n = a at *
  generalize u / 2 ^ (u.log2 - n) = b at *
  have w1 : wrap64 (a : Int) = a := IntWalk.wrap64_in _ (by omega)
  rw [w1, IntWalk.wrap64_in _ (by omega)]; omega

theorem length_any (p : Int) (w : World) :
    Calls Try.prog 19 #[.int .i64 p] w fun e w' => e = .returned (.int .i64 (lenI p)) ∧ w = w' := by
  by_cases h : good p
  · obtain ⟨h1, h2⟩ := id h
    obtain ⟨n, rfl⟩ := Int.eq_ofNat_of_zero_le (a := p) (by omega)
    go_enter Try.func19, Try.ntmps19
    go_wp2_with (first | (go_at_call 41; refine (right_t _ h _).mono ?_; rintro e w' ⟨rfl, rfl⟩))
    go_ret
    exact ⟨ret_int (len_end (by omega) h), rfl⟩
  · go_enter Try.func19, Try.ntmps19
    go_wp2_with (first | (go_at_call 41; refine (right_f _ h _).mono ?_; rintro e w' ⟨rfl, rfl⟩))
    go_ret
    exact ⟨ret_int (by simp [lenI, h]), rfl⟩

theorem index_any (p v : Int) (hv : v ≤ 9223372036854775807) (w : World) :
    Calls Try.prog 13 #[.int .i64 p, .int .i64 v] w fun e w' => e = .returned (.tuple #[.int .i64 (idxI p v), .int .i64 (idxE p v)]) ∧ ∃ n, w' = w.drewN n := by
  by_cases h : good p
  · by_cases h0 : v < 0
    · go_enter Try.func13, Try.ntmps13
      go_wp2_with (first | (go_at_call 41; refine (right_t _ h _).mono ?_; rintro e w' ⟨rfl, rfl⟩))
      go_ret2
      exact ⟨ret_int2 (by simp [idxI, h]; omega) (by simp [idxE, h, h0]), 0, rfl⟩
    · obtain ⟨h1, h2⟩ := id h
      obtain ⟨n, rfl⟩ := Int.eq_ofNat_of_zero_le (a := p) (by omega)
      obtain ⟨u, rfl⟩ := Int.eq_ofNat_of_zero_le (a := v) (by omega)
      have e1 := wrap_pow (n := n) (by omega)
      by_cases hu : (u : Int) < 2 ^ n
      · have hu' : (u : Int) < wrap64 (2 ^ n) := by rw [e1]; exact hu
        clear e1
        go_enter Try.func13, Try.ntmps13
        go_wp2_with (first | (go_at_call 41; refine (right_t _ h _).mono ?_; rintro e w' ⟨rfl, rfl⟩))
        go_ret2
        have hu2 : u < 2 ^ n := by exact_mod_cast hu
        exact ⟨ret_int2 (by simp [idxI, h, bk, hu2]) (by simp [idxE, h, h0]), 0, rfl⟩
      · have hu' : ¬ (u : Int) < wrap64 (2 ^ n) := by rw [e1]; exact hu
        clear e1
        have hu2 : 2 ^ n ≤ u := by
          have : (2 : Int) ^ n ≤ u := by omega
          exact_mod_cast this
        have hn0 := pow_pos' n
        have hb := bitLen_log2 (u := u) (by omega) (by omega)
        have hl1 : n ≤ u.log2 := (Nat.le_log2 (by omega)).2 hu2
        have hl2 : u.log2 < 63 := (Nat.log2_lt (by omega)).2 (by omega)
        have hb1 : n + 1 ≤ Lib.bitLen u := by omega
        have hb2 : Lib.bitLen u ≤ 63 := by omega
        clear hb hl1 hl2 hn0 hu hu2
        go_enter Try.func13, Try.ntmps13
        go_wp2_with (first | (go_at_call 41; refine (right_t _ h _).mono ?_; rintro e w' ⟨rfl, rfl⟩) | (go_at_call 42; refine (Try.bits_Len64 _ _ (by omega) (by omega)).mono ?_; rintro e w' ⟨rfl, rfl⟩))
        go_quiet (fail)
        go_wp2
        go_ret2
        exact ⟨ret_int2 (idx_end hb1 (by omega) h (by omega)) (by simp [idxE, h]), _, rfl⟩
  · go_enter Try.func13, Try.ntmps13
    go_wp2_with (first | (go_at_call 41; refine (right_f _ h _).mono ?_; rintro e w' ⟨rfl, rfl⟩))
    go_ret2
    exact ⟨ret_int2 (by simp [idxI, h]) (by simp [idxE, h]), 0, rfl⟩

theorem shl_end {m k : Nat} (h : m * 2 ^ k + 2 ^ k ≤ 9223372036854775808) : wrap64 ((m : Int) * 2 ^ k) = ((m * 2 ^ k : Nat) : Int) := by
  have e : (m : Int) * 2 ^ k = ((m * 2 ^ k : Nat) : Int) := by rw [Int.natCast_mul]; simp
  have := pow_pos' k
  rw [e, IntWalk.wrap64_in _ (by omega)]

theorem shl1_end {k : Nat} (h : k ≤ 62) : wrap64 (wrap64 ((2 : Int) ^ k) - 1) = ((2 ^ k - 1 : Nat) : Int) := by
  have h1 : 2 ^ k ≤ 2 ^ 62 := Nat.pow_le_pow_right (by decide) h
  have h2 := pow_pos' k
  have e : (2 : Int) ^ k = ((2 ^ k : Nat) : Int) := by simp
  rw [wrap_pow h, e, IntWalk.wrap64_in _ (by omega)]; omega

theorem ret_int3 {k l m : IntKind} {a b c d e f : Int} (h : a = b) (h' : c = d) (h'' : e = f) : Ending.returned (.tuple #[.int k a, .int l c, .int m e]) = .returned (.tuple #[.int k b, .int l d, .int m f]) := by rw [h, h', h'']

theorem ends_facts {n u : Nat} (h : good n) (h3 : ¬ lenI n ≤ u) (hu : ¬ (u : Int) < 2 ^ n) :
    ∃ k m a : Nat, u = a + m ∧ k ≤ 62 ∧ wrap64 ((u : Int) / 2 ^ n - 1) = (k : Int) ∧ wrap64 ((k : Int) * 2 ^ n) = (a : Int) ∧ wrap64 ((u : Int) - (a : Int)) = (m : Int) ∧
      lowI n u = ((m * 2 ^ k : Nat) : Int) ∧ morI n u = ((2 ^ k - 1 : Nat) : Int) ∧ m * 2 ^ k + 2 ^ k ≤ 9223372036854775808 ∧ lowE n u = 0 := by
  obtain ⟨h1, h2⟩ := id h
  have hn : n ≤ 14 := by omega
  have hge : 2 ^ n ≤ u := by
    have : (2 : Int) ^ n ≤ u := by omega
    exact_mod_cast this
  obtain ⟨k, m, m1, m2, e, ek⟩ := split_i hge
  have hl : u < (64 - n) * 2 ^ n := by
    rw [lenI, if_pos h, Int.toNat_natCast] at h3; omega
  have hs := size14 hn
  have hp := pow_pos' n
  have hk : k ≤ 62 := by
    have : k * 2 ^ n < 63 * 2 ^ n := by
      have : (64 - n) * 2 ^ n ≤ 63 * 2 ^ n := Nat.mul_le_mul_right _ (by omega)
      omega
    have := Nat.lt_of_mul_lt_mul_right this
    omega
  have hE : lowE n u = 0 := by
    have : ¬ (u : Int) < 0 := by omega
    simp [lowE, h, h3, this]
  obtain ⟨l1, l2⟩ := lo_of (p := n) (k := k) m1 m2
  have hh := hi_lt (p := n) (i := u) (by omega) hl
  rw [e, l1, l2] at hh
  refine ⟨k, m, k * 2 ^ n, e, hk, ?_, ?_, ?_, ?_, ?_, ?_, hE⟩
  · have e5 : (u : Int) / 2 ^ n = ((u / 2 ^ n : Nat) : Int) := by simp
    have : 1 ≤ u / 2 ^ n := (Nat.le_div_iff_mul_le hp).2 (by omega)
    rw [e5, IntWalk.wrap64_in _ (by omega)]; omega
  · have e5 : (k : Int) * 2 ^ n = ((k * 2 ^ n : Nat) : Int) := by rw [Int.natCast_mul]; simp
    have : k * 2 ^ n ≤ u := by omega
    rw [e5, IntWalk.wrap64_in _ (by omega)]
  · rw [IntWalk.wrap64_in _ (by omega)]; omega
  · rw [lowI, if_pos hE, Int.toNat_natCast, Int.toNat_natCast, e, l1]
  · rw [morI, if_pos hE, Int.toNat_natCast, Int.toNat_natCast, e, l2]
  · have := pow_pos' k; omega

theorem ends_big {n u : Nat} (h : good n) (h3 : ¬ lenI n ≤ u) (h0 : ¬ (u : Int) < 0) (hi : (u : Int) ≤ 9223372036854775807) (hu : ¬ (u : Int) < 2 ^ n) (hu' : ¬ (u : Int) < wrap64 (2 ^ n)) (w : World) :
    Calls Try.prog 44 #[.int .i64 n, .int .i64 u] w fun e w' => e = .returned (.tuple #[.int .i64 (lowI n u), .int .i64 (morI n u), .int .i64 (lowE n u)]) ∧ ∃ n, w' = w.drewN n := by
  obtain ⟨k, m, a, e, hk, k1, k2, k3, l1, l2, l3, l4⟩ := ends_facts h h3 hu
  replace l1 := Lib.hid l1; replace l2 := Lib.hid l2; replace l3 := Lib.hid l3; replace l4 := Lib.hid l4; replace e := Lib.hid e
  obtain ⟨h1, h2⟩ := id h
  clear hu
  go_enter Try.func44, Try.ntmps44
  go_wp2_with (first | (go_at_call 41; refine (right_t _ h _).mono ?_; rintro e w' ⟨rfl, rfl⟩) | (go_at_call 19; refine (length_any _ _).mono ?_; rintro e w' ⟨rfl, rfl⟩))
  go_quiet (fail)
  go_wp2
  go_ret3
  exact ⟨ret_int3 (by rw [l1.out]; exact shl_end l3.out) (by rw [l2.out]; exact shl1_end hk) l4.out.symm, _, rfl⟩

theorem ends_any (p i : Int) (hi0 : -9223372036854775808 ≤ i) (hi : i ≤ 9223372036854775807) (w : World) :
    Calls Try.prog 44 #[.int .i64 p, .int .i64 i] w fun e w' => e = .returned (.tuple #[.int .i64 (lowI p i), .int .i64 (morI p i), .int .i64 (lowE p i)]) ∧ ∃ n, w' = w.drewN n := by
  by_cases h : good p
  · by_cases h0 : i < 0
    · go_enter Try.func44, Try.ntmps44
      go_wp2_with (first | (go_at_call 41; refine (right_t _ h _).mono ?_; rintro e w' ⟨rfl, rfl⟩))
      go_ret3
      have e : lowE p i = 2 := by simp [lowE, h, h0]
      exact ⟨ret_int3 (by simp [lowI, e]) (by simp [morI, e]) e.symm, 0, rfl⟩
    · by_cases h3 : lenI p ≤ i
      · go_enter Try.func44, Try.ntmps44
        go_wp2_with (first | (go_at_call 41; refine (right_t _ h _).mono ?_; rintro e w' ⟨rfl, rfl⟩) | (go_at_call 19; refine (length_any _ _).mono ?_; rintro e w' ⟨rfl, rfl⟩))
        go_ret3
        have e : lowE p i = 2 := by simp [lowE, h, h3]
        exact ⟨ret_int3 (by simp [lowI, e]) (by simp [morI, e]) e.symm, 0, rfl⟩
      · obtain ⟨h1, h2⟩ := id h
        obtain ⟨n, rfl⟩ := Int.eq_ofNat_of_zero_le (a := p) (by omega)
        obtain ⟨u, rfl⟩ := Int.eq_ofNat_of_zero_le (a := i) (by omega)
        have e1 := wrap_pow (n := n) (by omega)
        have he : lowE n u = 0 := by simp [lowE, h, h0, h3]
        replace he := Lib.hid he
        by_cases hu : (u : Int) < 2 ^ n
        · have hu' : (u : Int) < wrap64 (2 ^ n) := by rw [e1]; exact hu
          clear e1
          go_enter Try.func44, Try.ntmps44
          go_wp2_with (first | (go_at_call 41; refine (right_t _ h _).mono ?_; rintro e w' ⟨rfl, rfl⟩) | (go_at_call 19; refine (length_any _ _).mono ?_; rintro e w' ⟨rfl, rfl⟩))
          go_ret3
          have hu2 : u < 2 ^ n := by exact_mod_cast hu
          exact ⟨ret_int3 (by simp [lowI, he.out, lo, hu2]) (by simp [morI, he.out, mo, hu2]) he.out.symm, 0, rfl⟩
        · have hu' : ¬ (u : Int) < wrap64 (2 ^ n) := by rw [e1]; exact hu
          clear e1
          exact ends_big h h3 h0 hi hu hu' w
  · go_enter Try.func44, Try.ntmps44
    go_wp2_with (first | (go_at_call 41; refine (right_f _ h _).mono ?_; rintro e w' ⟨rfl, rfl⟩))
    go_ret3
    have e : lowE p i = 1 := by simp [lowE, h]
    exact ⟨ret_int3 (by simp [lowI, e]) (by simp [morI, e]) e.symm, 0, rfl⟩

theorem lo_rng {p i : Int} : 0 ≤ lowI p i ∧ 0 ≤ morI p i ∧ lowI p i + morI p i ≤ 9223372036854775807 := by
  by_cases e : lowE p i = 0
  · have hg : good p := by
      apply Classical.byContradiction; intro h; simp [lowE, h] at e
    have hb : ¬ (i < 0 ∨ lenI p ≤ i) := by
      intro h; simp [lowE, hg, h] at e
    obtain ⟨h1, h2⟩ := id hg
    obtain ⟨n, rfl⟩ := Int.eq_ofNat_of_zero_le (a := p) (by omega)
    obtain ⟨u, rfl⟩ := Int.eq_ofNat_of_zero_le (a := i) (by omega)
    rw [lowI, morI, if_pos e, if_pos e]
    rw [lenI, if_pos hg] at hb
    rw [Int.toNat_natCast, Int.toNat_natCast] at *
    have := hi_lt (p := n) (i := u) (by omega) (by omega)
    omega
  · simp [lowI, morI, e]

theorem low_any (p i : Int) (hi0 : -9223372036854775808 ≤ i) (hi : i ≤ 9223372036854775807) (w : World) :
    Calls Try.prog 15 #[.int .i64 p, .int .i64 i] w fun e w' => e = .returned (.tuple #[.int .i64 (lowI p i), .int .i64 (lowE p i)]) ∧ ∃ n, w' = w.drewN n := by
  have hE := ends_any p i hi0 hi
  clear hi0 hi
  go_enter Try.func15, Try.ntmps15
  go_wp2_with (first | (go_at_call 44; refine (hE _).mono ?_; rintro e w' ⟨rfl, n, rfl⟩))
  go_ret2
  exact ⟨rfl, _, rfl⟩

def higI (p i : Int) : Int := lowI p i + morI p i

theorem high_any (p i : Int) (hi0 : -9223372036854775808 ≤ i) (hi : i ≤ 9223372036854775807) (w : World) :
    Calls Try.prog 17 #[.int .i64 p, .int .i64 i] w fun e w' => e = .returned (.tuple #[.int .i64 (higI p i), .int .i64 (lowE p i)]) ∧ ∃ n, w' = w.drewN n := by
  have hE := ends_any p i hi0 hi
  have hr := @lo_rng p i
  obtain ⟨r1, r2, r3⟩ := hr
  clear hi0 hi
  go_enter Try.func17, Try.ntmps17
  go_wp2_with (first | (go_at_call 44; refine (hE _).mono ?_; rintro e w' ⟨rfl, n, rfl⟩))
  go_ret2
  exact ⟨rfl, _, rfl⟩
end Go.Proofs.Ytonacegkhkncmaa.Bk
