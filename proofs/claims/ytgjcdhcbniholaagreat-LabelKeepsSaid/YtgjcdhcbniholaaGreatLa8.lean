/- The reader: what stands behind a backslash. -/
import Derived.Test.YtgjcdhcbniholaaGreatLa7
namespace Go.Proofs.YtgjcdhcbniholaaGreat.La
open Go.RowKit
set_option linter.unusedVariables false

/-- The byte that an escape says. -/
def escL (b : UInt8) : Option UInt8 := if b = 92 ∨ b = 34 then some b else if b = 110 then some 10 else none

theorem u8_lit (b c : UInt8) (n : Int) (hn : (c.toNat : Int) = n) : ((b.toNat : Int) == n) = decide (b = c) := by
  rw [Bool.eq_iff_iff, beq_iff_eq, decide_eq_true_iff, ← hn]
  constructor
  · intro h; exact UInt8.toNat_inj.1 (by omega)
  · rintro rfl; rfl

theorem ret_b2 {b c : UInt8} (h : b = c) : Ending.returned (.tuple #[.int .u8 (b.toNat : Int), .bool true]) = .returned (.tuple #[.int .u8 (c.toNat : Int), .bool true]) := by rw [h]

set_option maxHeartbeats 1000000 in
/-- An escape that may be. -/
theorem esc_yes {w : World} {g : Nat} {s : ByteArray} {p : Nat} {er bad : Int} (h : Rdr w g s p er bad) (c : UInt8) (hp : p + 1 < s.size) (hc : escL s[p + 1] = some c) (hs : s.size ≤ 140737488355328) :
    Calls Tryz.prog 71 #[.pointer (some ⟨g, 0, none⟩)] w fun e' w' => e' = .returned (.tuple #[.int .u8 (c.toNat : Int), .bool true]) ∧ Rdr w' g s ((p + 2 : Nat) : Int) er bad ∧ w.grownBy w' (some g) := by
  have h1 := h.set1 ((p : Int) + 2)
  have hq : ∃ q : Nat, q = p + 1 ∧ ((p : Int) + 2 - 1 = (q : Int)) := ⟨p + 1, rfl, by omega⟩
  obtain ⟨q, hq1, hq2⟩ := hq
  have hlt : q < s.size := by omega
  have e0 : s[p + 1] = s[q] := by simp only [hq1]
  rw [e0] at hc
  have hcase : (s[q] = 92 ∧ c = 92) ∨ (s[q] = 34 ∧ c = 34) ∨ (s[q] = 110 ∧ c = 10) := by
    unfold escL at hc
    by_cases a : s[q] = 92
    · rw [if_pos (Or.inl a)] at hc; left; exact ⟨a, by rw [← a]; exact (Option.some.inj hc).symm⟩
    · by_cases b : s[q] = 34
      · rw [if_pos (Or.inr b)] at hc; right; left; exact ⟨b, by rw [← b]; exact (Option.some.inj hc).symm⟩
      · rw [if_neg (by rintro (x | x) <;> contradiction)] at hc
        by_cases d : s[q] = 110
        · rw [if_pos d] at hc; right; right; exact ⟨d, (Option.some.inj hc).symm⟩
        · rw [if_neg d] at hc; cases hc
  have t1 := u8_lit s[q] 92 92 rfl
  have t2 := u8_lit s[q] 34 34 rfl
  have t3 := u8_lit s[q] 110 110 rfl
  have hle : (p : Int) + 2 ≤ (s.size : Int) := by omega
  have hpI : (p : Int) ≤ 140737488355328 := by omega
  obtain ⟨a, b0, b1, b2, b3, b4, b5, b6⟩ := id h
  replace h := Lib.hid h
  have x1 := only_set (only_refl w (some g)) 1 (.int .i64 ((p : Int) + 2))
  replace x1 := Lib.hid x1
  replace h1 := Lib.hid h1
  clear hp hs e0 hc hq1
  rcases hcase with ⟨hb, rfl⟩ | ⟨hb, rfl⟩ | ⟨hb, rfl⟩
  · rw [hb] at t1 t2 t3
    have t1' : ((s[q].toNat : Int) == 92) = true := by rw [hb]; rfl
    have hb' : (s[q].toNat : Int) = 92 := by rw [hb]; rfl
    clear t1 t2 t3 hb
    go_enter Tryz.func71, Tryz.ntmps71
    go_wp2
    go_quiet (fail)
    go_wp2
    go_quiet (fail)
    go_wp2
    go_quiet (fail)
    go_wp2
    go_ret2
    exact ⟨rfl, (by repeat (first | exact h1.out | refine Rdr.drewN ?_ _)), (by repeat (first | exact x1.out | refine only_drewN ?_ _))⟩
  · rw [hb] at t1 t2 t3
    have hb' : (s[q].toNat : Int) = 34 := by rw [hb]; rfl
    clear t1 t2 t3 hb
    go_enter Tryz.func71, Tryz.ntmps71
    go_wp2
    go_quiet (fail)
    go_wp2
    go_quiet (fail)
    go_wp2
    go_quiet (fail)
    go_wp2
    go_ret2
    exact ⟨rfl, (by repeat (first | exact h1.out | refine Rdr.drewN ?_ _)), (by repeat (first | exact x1.out | refine only_drewN ?_ _))⟩
  · have hb' : (s[q].toNat : Int) = 110 := by rw [hb]; rfl
    clear t1 t2 t3 hb
    go_enter Tryz.func71, Tryz.ntmps71
    go_wp2
    go_quiet (fail)
    go_wp2
    go_quiet (fail)
    go_wp2
    go_ret2
    exact ⟨rfl, (by repeat (first | exact h1.out | refine Rdr.drewN ?_ _)), (by repeat (first | exact x1.out | refine only_drewN ?_ _))⟩

set_option maxHeartbeats 1000000 in
/-- One that may not: noted. -/
theorem esc_no {w : World} {g : Nat} {s : ByteArray} {p : Nat} {er bad : Int} (h : Rdr w g s p er bad) (hp : p < s.size) (hc : ∀ h : p + 1 < s.size, escL s[p + 1] = none) (hs : s.size ≤ 140737488355328) :
    Calls Tryz.prog 71 #[.pointer (some ⟨g, 0, none⟩)] w fun e' w' => e' = .returned (.tuple #[.int .u8 0, .bool false]) ∧ (∃ p', Rdr w' g s p' 5 p) ∧ w.grownBy w' (some g) := by
  have h1 := h.set1 ((p : Int) + 2)
  have x1 := only_set (only_refl w (some g)) 1 (.int .i64 ((p : Int) + 2))
  have hpI : (p : Int) ≤ 140737488355328 := by omega
  obtain ⟨q, hq1, hq2, hq3⟩ : ∃ q : Nat, q = p + 1 ∧ ((p : Int) + 2 - 1 = (q : Int)) ∧ ((p : Int) + 2 - 2 = (p : Int)) := ⟨p + 1, rfl, by omega, by omega⟩
  by_cases hlt : q < s.size
  · have hc' := hc (by omega)
    have e0 : s[p + 1] = s[q] := by simp only [hq1]
    rw [e0] at hc'
    have hn : s[q] ≠ 92 ∧ s[q] ≠ 34 ∧ s[q] ≠ 110 := by
      unfold escL at hc'
      refine ⟨fun a => ?_, fun a => ?_, fun a => ?_⟩
      · rw [if_pos (Or.inl a)] at hc'; cases hc'
      · rw [if_pos (Or.inr a)] at hc'; cases hc'
      · by_cases b : s[q] = 92 ∨ s[q] = 34
        · rw [if_pos b] at hc'; cases hc'
        · rw [if_neg b, if_pos a] at hc'; cases hc'
    have t1 : ((s[q].toNat : Int) == 92) = false := by rw [u8_lit s[q] 92 92 rfl]; exact decide_eq_false hn.1
    have t2 : ((s[q].toNat : Int) == 34) = false := by rw [u8_lit s[q] 34 34 rfl]; exact decide_eq_false hn.2.1
    have t3 : ((s[q].toNat : Int) == 110) = false := by rw [u8_lit s[q] 110 110 rfl]; exact decide_eq_false hn.2.2
    have hle : (p : Int) + 2 ≤ (s.size : Int) := by omega
    obtain ⟨a, b0, b1, b2, b3, b4, b5, b6⟩ := id h
    clear h hp hc hs hc' e0 hn hq1
    replace x1 := Lib.hid x1
    replace h1 := Lib.hid h1
    go_enter Tryz.func71, Tryz.ntmps71
    go_wp2
    go_quiet (fail)
    go_wp2
    go_quiet (fail)
    go_wp2_with fail
    refine (fail_any (s := s) (p := (p : Int) + 2) (er := er) (bad := bad) (by repeat (first | exact h1.out | refine Rdr.drewN ?_ _)) 5 p).mono ?_
    rintro e' w' ⟨rfl, h2, h3⟩
    go_wp2
    go_ret2
    exact ⟨rfl, ⟨_, h2⟩, only_trans (by repeat (first | exact x1.out | refine only_drewN ?_ _)) h3⟩
  · have hle : ¬ (p : Int) + 2 ≤ (s.size : Int) := by omega
    obtain ⟨a, b0, b1, b2, b3, b4, b5, b6⟩ := id h
    clear h hp hc hs hq1 hlt
    replace x1 := Lib.hid x1
    replace h1 := Lib.hid h1
    go_enter Tryz.func71, Tryz.ntmps71
    go_wp2
    go_quiet (fail)
    go_wp2_with fail
    refine (fail_any (s := s) (p := (p : Int) + 2) (er := er) (bad := bad) (by repeat (first | exact h1.out | refine Rdr.drewN ?_ _)) 5 p).mono ?_
    rintro e' w' ⟨rfl, h2, h3⟩
    go_wp2
    go_ret2
    exact ⟨rfl, ⟨_, h2⟩, only_trans (by repeat (first | exact x1.out | refine only_drewN ?_ _)) h3⟩

end Go.Proofs.YtgjcdhcbniholaaGreat.La
