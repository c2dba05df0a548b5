/- The reader: row, escaped. -/
import Derived.Test.YtgjcdhcbniholaaGreatLa6
namespace Go.Proofs.YtgjcdhcbniholaaGreat.La
open Go.RowKit
set_option linter.unusedVariables false

/-- Where the reader stands, out of the world. -/
def posOf (w : World) (g : Nat) : Nat := match w.cell? ⟨g, 1, none⟩ with
  | some (.int _ n) => n.toNat
  | _ => 0
theorem posOf_eq {w : World} {g : Nat} {s : ByteArray} {p er bad : Int} (h : Rdr w g s p er bad) : posOf w g = p.toNat := by unfold posOf; rw [h.c1]

theorem ret_cut {s : ByteArray} {p i j : Nat} (h : i = j) : Ending.returned (.string (s.extract p i)) = .returned (.string (s.extract p j)) := by rw [h]

set_option maxHeartbeats 2000000 in
theorem mrow_any {w : World} {g : Nat} {s : ByteArray} {p : Nat} {er bad : Int} (h : Rdr w g s p er bad) (colon : Bool) (hp : p ≤ s.size) (hs : s.size ≤ 140737488355328) :
    Calls Tryz.prog 48 #[.pointer (some ⟨g, 0, none⟩), .bool colon] w fun e' w' =>
      e' = .returned (.string (s.extract p (p + (rowL colon (s.data.toList.drop p)).length))) ∧ Rdr w' g s ((p + (rowL colon (s.data.toList.drop p)).length : Nat) : Int) er bad ∧ w.grownBy w' (some g) := by
  obtain ⟨R, hR⟩ : ∃ R, R = (rowL colon (s.data.toList.drop p)).length := ⟨_, rfl⟩
  have hRl : p + R ≤ s.size := by
    have := rowL_len colon (s.data.toList.drop p)
    rw [List.length_drop, len_data] at this; omega
  have hst : ∀ k, k ≤ R → (k < R ↔ ∃ b, s.data.toList[p + k]? = some b ∧ isR colon b = true) := by
    intro k hk
    have := rowL_step colon (s.data.toList.drop p) (k := k) (by omega)
    rw [← hR, List.getElem?_drop] at this; exact this
  rw [← hR]
  clear hR
  obtain ⟨a, b0, b1, b2, b3, b4, b5, b6⟩ := id h
  replace hst := Lib.hid hst
  replace h := Lib.hid h
  have hpI : (p : Int) ≤ 140737488355328 := by omega
  go_enter Tryz.func48, Tryz.ntmps48
  go_wp2
  go_loopw [] (fun wr => ∃ i : Nat, p ≤ i ∧ i ≤ p + R ∧ Rdr wr g s (i : Int) er bad ∧ w.grownBy wr (some g)) (fun wr => s.size + 1 - posOf wr g)
  case atStart => exact ⟨p, by omega, by omega, h.out, only_refl w _⟩
  case round =>
    clear a b0 b1 b2 b3 b4 b5 b6
    obtain ⟨i, hi0, hi1, hr, hg⟩ := hrel
    have hm := posOf_eq hr
    have hs' := hst.out (i - p) (by omega)
    rw [show p + (i - p) = i by omega] at hs'
    obtain ⟨a, b0, b1, b2, b3, b4, b5, b6⟩ := id hr
    have hiI : (i : Int) ≤ 140737488355328 := by omega
    by_cases hlt : i < s.size
    · rw [get_data s hlt] at hs'
      have hs2 : i - p < R ↔ isR colon s[i] = true := by simpa using hs'
      have cl := letter_any (s[i].toNat : Int)
      have e58 := is58 s[i]
      have hcase : (isL (s[i].toNat : Int) = true ∧ i < p + R) ∨ (isL (s[i].toNat : Int) = false ∧ colon = true ∧ (s[i] == 58) = true ∧ i < p + R) ∨ (isL (s[i].toNat : Int) = false ∧ colon = true ∧ (s[i] == 58) = false ∧ i = p + R) ∨ (isL (s[i].toNat : Int) = false ∧ colon = false ∧ i = p + R) := by
        unfold isR isLB at hs2
        revert hs2
        cases isL (s[i].toNat : Int) <;> cases colon <;> cases (s[i] == 58) <;> simp <;> omega
      clear hs' hs2 hs
      replace hr := Lib.hid hr
      replace hg := Lib.hid hg
      replace hm := Lib.hid hm
      rcases hcase with ⟨h1, h2⟩ | ⟨h1, rfl, h3, h2⟩ | ⟨h1, rfl, h3, h2⟩ | ⟨h1, rfl, h2⟩
      · rw [h1] at cl
        clear e58
        go_wp2_with fail
        go_quiet ((go_at_call 46; exact Calls.quiet_of_same (cl _)))
        go_wp2
        have hr2 := (hr.out.drewN nq).set1 ((i : Int) + 1)
        have hm2 := posOf_eq hr2
        exact ⟨⟨i + 1, by omega, by omega, hr2, only_set (only_drewN hg.out _) 1 _⟩, by rw [hm2, hm.out]; omega⟩
      · rw [h1] at cl
        rw [h3] at e58
        go_wp2_with fail
        go_quiet ((go_at_call 46; exact Calls.quiet_of_same (cl _)))
        go_wp2
        have hr2 := (hr.out.drewN nq).set1 ((i : Int) + 1)
        have hm2 := posOf_eq hr2
        exact ⟨⟨i + 1, by omega, by omega, hr2, only_set (only_drewN hg.out _) 1 _⟩, by rw [hm2, hm.out]; omega⟩
      · rw [h1] at cl
        rw [h3] at e58
        replace h2 := Lib.hid h2
        go_wp2_with fail
        go_quiet ((go_at_call 46; exact Calls.quiet_of_same (cl _)))
        go_wp2
        go_quiet (fail)
        go_wp2
        go_ret
        exact ⟨ret_cut h2.out, h2.out ▸ ((hr.out.drewN _).drewN _), only_drewN (only_drewN hg.out _) _⟩
      · rw [h1] at cl
        replace h2 := Lib.hid h2
        clear e58
        go_wp2_with fail
        go_quiet ((go_at_call 46; exact Calls.quiet_of_same (cl _)))
        go_wp2
        go_quiet (fail)
        go_wp2
        go_ret
        exact ⟨ret_cut h2.out, h2.out ▸ ((hr.out.drewN _).drewN _), only_drewN (only_drewN hg.out _) _⟩
    · have h2 : i = p + R := by omega
      clear hs' hs
      replace h2 := Lib.hid h2
      replace hr := Lib.hid hr
      replace hg := Lib.hid hg
      go_wp2_with fail
      go_quiet (fail)
      go_wp2
      go_quiet (fail)
      go_wp2
      go_ret
      exact ⟨ret_cut h2.out, h2.out ▸ ((hr.out.drewN _).drewN _), only_drewN (only_drewN hg.out _) _⟩

end Go.Proofs.YtgjcdhcbniholaaGreat.La
