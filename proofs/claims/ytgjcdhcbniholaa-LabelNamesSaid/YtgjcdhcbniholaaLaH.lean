/- LabelNames. -/
import Derived.Test.YtgjcdhcbniholaaLaG
import Derived.SliceStrings
namespace Go.Proofs.Ytgjcdhcbniholaa.La
open Go.RowKit Go.Proofs.Ytgjcdhcbniholaa.Sl
set_option linter.unusedVariables false

set_option maxRecDepth 100000 in
set_option maxHeartbeats 4000000 in
theorem names_nil (c : Nat) (A : Option Addr) (w : World) :
    Calls Try.prog 4 #[.slice A 0 c] w fun e w' => e = .returned (.bool true) ∧ Below w.heap.size w w' := by
  have ca := Lib.hid (awake_any w)
  go_enter Try.func4, Try.ntmps4
  go_wp2_with fail
  refine ca.out.mono ?_
  rintro e w1 ⟨rfl, h1⟩
  go_wp2
  go_loopw [9] (fun v wr => v = .int .i64 0 ∧ wr = w1) (fun v _ => 0)
  case atStart => exact ⟨rfl, rfl⟩
  case round =>
    obtain ⟨rfl, rfl⟩ := hrel
    go_wp2
    go_ret
    exact ⟨rfl, h1⟩

set_option maxRecDepth 100000 in
set_option maxHeartbeats 4000000 in
theorem names_any (b off n c : Nat) (S : Nat → ByteArray) (w : World) (hn : n ≤ c) (hc : c ≤ 9223372036854775807) (hcell : ∀ i, i < n → w.cell? ⟨b, off + i, none⟩ = some (.string (S i)) ∧ (S i).size ≤ 9223372036854775807) (hb : b < w.heap.size) :
    Calls Try.prog 4 #[.slice (some ⟨b, off, none⟩) n c] w fun e w' => e = .returned (.bool true) ∧ Below w.heap.size w w' := by
  have ca := Lib.hid (awake_any w)
  replace hcell := Lib.hid hcell
  go_enter Try.func4, Try.ntmps4
  go_wp2_with fail
  refine ca.out.mono ?_
  rintro e w1 ⟨rfl, h1⟩
  go_wp2
  go_loopw [9] (fun v wr => ∃ i : Nat, v = .int .i64 i ∧ i ≤ n ∧ wr = w1) (fun v _ => n + 1 - natOf v)
  case atStart => exact ⟨0, rfl, Nat.zero_le _, rfl⟩
  case round =>
    obtain ⟨i, rfl, hi, rfl⟩ := hrel
    by_cases hlt : i < n
    · have hd := h1
      obtain ⟨hx, hxs⟩ := hcell.out i hlt
      obtain ⟨s, hs⟩ : ∃ s, s = S i := ⟨_, rfl⟩
      rw [← hs] at hx hxs
      clear hs
      have hx1 := (h1.cell (p := ⟨b, off + i, none⟩) hb).trans hx
      have g0 : (0 : Int) ≤ (i : Int) := by omega
      have g1 : (i : Int) < (n : Int) := by omega
      have g2 : wrap64 (i : Int) = (i : Int) := by unfold wrap64; omega
      have d1 := name_any s hxs
      have d2 := rname_any s hxs
      have d3 := lname_any s hxs
      have d4 := rlname_any s hxs
      clear hx hxs
      replace d1 := Lib.hid d1
      replace d2 := Lib.hid d2
      replace d3 := Lib.hid d3
      replace d4 := Lib.hid d4
      go_wp2_with fail
      refine (d1.out _).mono ?_
      rintro e w' ⟨rfl, hw⟩
      rw [hw]; clear hw w'
      go_wp2_with fail
      refine (d2.out _).mono ?_
      rintro e w' ⟨rfl, hw⟩
      rw [hw]; clear hw w'
      go_wp2_with fail
      refine (d3.out _).mono ?_
      rintro e w' ⟨rfl, hw⟩
      rw [hw]; clear hw w'
      go_wp2_with fail
      refine (d4.out _).mono ?_
      rintro e w' ⟨rfl, hw⟩
      rw [hw]; clear hw w'
      go_wp2
      exact ⟨⟨i + 1, by simp, by omega, by first | trivial | rfl⟩, by simp [natOf]; omega⟩
    · have hge : ¬ (i : Int) < (n : Int) := by omega
      go_wp2
      go_ret
      exact ⟨rfl, h1⟩

end Go.Proofs.Ytgjcdhcbniholaa.La
