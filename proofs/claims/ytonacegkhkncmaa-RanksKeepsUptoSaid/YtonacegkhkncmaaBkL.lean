/- The walks of the statements on buckets: each returns true, whatever the numbers. -/
import Derived.Test.YtonacegkhkncmaaBkR
import Derived.RowKit3
namespace Go.Proofs.Ytonacegkhkncmaa.Bk
open Go.RowKit
open Go.Proofs.Ytonacegkhkncmaa.BkM
set_option linter.unusedVariables false

theorem grown_drewN {w w' : World} (h : Grown w w') (n : Nat) : Grown w (w'.drewN n) := h

theorem idx_small {p v : Int} : -9223372036854775808 ≤ idxI p v ∧ (v ≤ 9223372036854775807 → idxI p v ≤ 1048576) := by
  unfold idxI
  by_cases h : good p ∧ 0 ≤ v
  · rw [if_pos h]
    obtain ⟨⟨h1, h2⟩, h3⟩ := h
    refine ⟨by omega, fun h4 => ?_⟩
    have := bk_lt (p := p.toNat) (v := v.toNat) (by omega) (by omega)
    have := size14 (n := p.toNat) (by omega)
    omega
  · rw [if_neg h]; exact ⟨by omega, fun _ => by omega⟩

theorem awake_t (w : World) :
    Calls Try.prog 12 #[] w fun e w' => e = .returned (.bool true) ∧ ∃ n, w' = w.drewN n := by
  have a1 : (lenI 3 == 488) = true := by decide +kernel
  have a2 : (idxI 3 35 == 24) = true := by decide +kernel
  have a3 : (idxE 3 35 == 0) = true := by decide +kernel
  have a4 : (lowI 3 24 == 32) = true := by decide +kernel
  have a5 : (lowE 3 24 == 0) = true := by decide +kernel
  have a6 : (higI 3 24 == 35) = true := by decide +kernel
  have a7 : (idxE 0 1 == 1) = true := by decide +kernel
  go_enter Try.func12, Try.ntmps12
  go_wp2_with fail
  refine (index_any _ _ (by decide) _).mono ?_; rintro e w' ⟨rfl, n1, rfl⟩
  go_wp2_with fail
  refine (low_any _ _ (by decide) (by decide) _).mono ?_; rintro e w' ⟨rfl, n2, rfl⟩
  go_wp2_with fail
  refine (high_any _ _ (by decide) (by decide) _).mono ?_; rintro e w' ⟨rfl, n3, rfl⟩
  go_wp2_with fail
  refine (index_any _ _ (by decide) _).mono ?_; rintro e w' ⟨rfl, n4, rfl⟩
  go_wp2_with (first | (go_at_call 19; refine (length_any _ _).mono ?_; rintro e w' ⟨rfl, rfl⟩))
  go_ret
  exact ⟨rfl, _, rfl⟩

theorem tells_t (p v i : Int) (hv : v ≤ 9223372036854775807) (hi0 : -9223372036854775808 ≤ i) (hi : i ≤ 9223372036854775807) (w : World) :
    Calls Try.prog 4 #[.int .i64 p, .int .i64 v, .int .i64 i] w fun e w' => e = .returned (.bool true) ∧ Grown w w' := by
  have c1 := index_any p v hv
  have c2 := rindex_any p v hv
  have c3 := low_any p i hi0 hi
  have c4 := rlow_any p i hi
  have c5 := high_any p i hi0 hi
  have c6 := rhigh_any p i hi
  clear hv hi0 hi
  go_enter Try.func4, Try.ntmps4
  go_wp2_with (first | (go_at_call 12; refine (awake_t _).mono ?_; rintro e w' ⟨rfl, n, rfl⟩) | (go_at_call 13; refine (c1 _).mono ?_; rintro e w' ⟨rfl, n, rfl⟩) | (go_at_call 14; refine (c2 _).mono ?_; rintro e w' ⟨rfl, n, rfl⟩) | (go_at_call 15; refine (c3 _).mono ?_; rintro e w' ⟨rfl, n, rfl⟩) | (go_at_call 16; refine (c4 _).mono ?_; rintro e w' ⟨rfl, n, rfl⟩) | (go_at_call 17; refine (c5 _).mono ?_; rintro e w' ⟨rfl, n, rfl⟩) | (go_at_call 18; refine (c6 _).mono ?_; rintro e w' ⟨rfl, n, rfl⟩) | (go_at_call 19; refine (length_any _ _).mono ?_; rintro e w' ⟨rfl, rfl⟩) | (go_at_call 20; refine (rlength_any _ _).mono ?_; rintro e w' ⟨rfl, rfl⟩))
  go_ret
  exact ⟨rfl, grown_drewN (Grown.refl _) _⟩
end Go.Proofs.Ytonacegkhkncmaa.Bk
