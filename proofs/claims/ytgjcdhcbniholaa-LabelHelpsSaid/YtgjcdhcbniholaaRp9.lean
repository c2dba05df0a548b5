/- LabelHelps: the walk. -/
import Derived.Test.YtgjcdhcbniholaaRp8
namespace Go.Proofs.Ytgjcdhcbniholaa.Rp
open Go.RowKit Go.Proofs.Ytgjcdhcbniholaa.La
set_option linter.unusedVariables false

set_option maxRecDepth 100000 in
set_option maxHeartbeats 8000000 in
theorem helps_any (A : Option Addr) (n c : Nat) (S : Nat → ByteArray) (w : World) (hn : n ≤ c) (hc : c ≤ 9223372036854775807)
    (hcell : ∀ i, i < n → ∃ b off, A = some ⟨b, off, none⟩ ∧ b < w.heap.size ∧ w.cell? ⟨b, off + i, none⟩ = some (.string (S i)) ∧ (S i).size ≤ 9223372036854775807) :
    Calls Try.prog 6 #[.slice A n c] w fun e w' => e = .returned (.bool true) ∧ Below w.heap.size w w' := by
  have ca := Lib.hid (awake_any w)
  replace hcell := Lib.hid hcell
  have hnI : (n : Int) ≤ 9223372036854775807 := by omega
  go_enter Try.func6, Try.ntmps6
  go_wp2_with fail
  refine ca.out.mono ?_
  rintro e w1 ⟨rfl, h1⟩
  go_wp2
  go_loopw [13] (fun v wr => ∃ i : Nat, v = .int .i64 i ∧ i ≤ n ∧ Below w.heap.size w wr) (fun v _ => n + 1 - natOf v)
  case atStart => exact ⟨0, rfl, Nat.zero_le _, h1⟩
  case round =>
    obtain ⟨i, rfl, hi, hw⟩ := hrel
    by_cases hlt : i < n
    · obtain ⟨b, off, hA, hb, hx, hxs⟩ := hcell.out i hlt
      subst hA
      obtain ⟨s, hs⟩ : ∃ s, s = S i := ⟨_, rfl⟩
      rw [← hs] at hx hxs
      clear hs
      have hx1 := (hw.cell (p := ⟨b, off + i, none⟩) hb).trans hx
      have g0 : (0 : Int) ≤ (i : Int) := by omega
      have g1 : (i : Int) < (n : Int) := by omega
      have g2 : wrap64 (i : Int) = (i : Int) := by unfold wrap64; omega
      have hsw := hw.size
      clear hx
      by_cases hbig : (536870912 : Int) < (s.size : Int)
      · go_wp2
        exact ⟨⟨i + 1, by simp, by omega, hw⟩, by simp [natOf]; omega⟩
      · have hsz : s.size ≤ 536870912 := by omega
        have d1 := unhelp_any s (by omega)
        have d2 := runhelp_any s (by omega)
        have d3 := help_any s (by omega)
        have d4 := rhelp_any s (by omega)
        obtain ⟨r, hr⟩ : ∃ r, r = unhR s := ⟨_, rfl⟩
        rw [← hr] at d1 d2
        clear hr hxs
        replace d1 := Lib.hid d1
        replace d2 := Lib.hid d2
        replace d3 := Lib.hid d3
        replace d4 := Lib.hid d4
        cases r with
        | none =>
          go_wp2_with fail
          refine (d1.out _).mono ?_
          rintro e w2 ⟨rfl, hb2⟩
          unfold unhE
          go_wp2_with fail
          refine (d2.out _).mono ?_
          rintro e w3 ⟨rfl, hb3⟩
          unfold unhE
          go_wp2_with fail
          refine (d3.out _).mono ?_
          rintro e w4 ⟨rfl, hb4⟩
          go_wp2_with fail
          refine (d4.out _).mono ?_
          rintro e w5 ⟨rfl, hb5⟩
          have k2 := hb2.size
          have k3 := hb3.size
          have k4 := hb4.size
          go_wp2
          exact ⟨⟨i + 1, by simp, by omega, (((hw.trans (hb2.mono hsw)).trans (hb3.mono (by omega))).trans (hb4.mono (by omega))).trans (hb5.mono (by omega))⟩, by simp [natOf]; omega⟩
        | some l =>
          go_wp2_with fail
          refine (d1.out _).mono ?_
          rintro e w2 ⟨rfl, hb2⟩
          unfold unhE
          go_wp2_with fail
          refine (d2.out _).mono ?_
          rintro e w3 ⟨rfl, hb3⟩
          unfold unhE
          go_wp2_with fail
          refine (d3.out _).mono ?_
          rintro e w4 ⟨rfl, hb4⟩
          go_wp2_with fail
          refine (d4.out _).mono ?_
          rintro e w5 ⟨rfl, hb5⟩
          have k2 := hb2.size
          have k3 := hb3.size
          have k4 := hb4.size
          go_wp2
          exact ⟨⟨i + 1, by simp, by omega, (((hw.trans (hb2.mono hsw)).trans (hb3.mono (by omega))).trans (hb4.mono (by omega))).trans (hb5.mono (by omega))⟩, by simp [natOf]; omega⟩
    · have hge : ¬ (i : Int) < (n : Int) := by omega
      go_wp2
      go_ret
      exact ⟨rfl, hw⟩
end Go.Proofs.Ytgjcdhcbniholaa.Rp
