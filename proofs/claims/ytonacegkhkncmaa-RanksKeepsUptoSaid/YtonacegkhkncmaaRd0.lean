/- The document's own May, Total, At, AtMost, Quantile, Same of counts. -/
import Derived.Test.YtonacegkhkncmaaRkQ
namespace Go.Proofs.Ytonacegkhkncmaa.Rk
open Go.RowKit Go.Proofs.Ytonacegkhkncmaa.Bk
set_option linter.unusedVariables false

theorem rtotal_any (w : World) (B : Nat) (A : Option Addr) (l : List (Int × Int)) (cap : Nat) (h : Cs w B A l) (hB : B ≤ w.heap.size) :
    Calls Try.prog 34 #[.slice A l.length cap] w fun e w' => e = .returned (.int .u64 (totF 0 l)) ∧ Below w.heap.size w w' := by
  have hl := h.len
  unfold maxLen at hl
  go_enter Try.func34, Try.ntmps34
  go_wp2
  go_loopw [3, 4] (fun n i wr => ∃ k : Nat, k ≤ l.length ∧ i = .int .i64 k ∧ n = .int .u64 (totF 0 (l.take k)) ∧ Below w.heap.size w wr) (fun _ i _ => l.length - (intOf i).toNat)
  case atStart => exact ⟨0, Nat.zero_le _, rfl, rfl, Below.refl _ _⟩
  case round =>
    obtain ⟨k, hk, rfl, rfl, hb⟩ := hrel
    by_cases hlt : k < l.length
    · obtain ⟨b, off, rfl, hbB, hc⟩ := (h.below (hb.mono hB)).cells (by omega)
      obtain ⟨h1, h2⟩ := hc k l[k] (List.getElem?_eq_getElem hlt)
      have hs := totF_snoc 0 hlt
      clear hc
      replace hs := Lib.hid hs
      go_wp2
      exact ⟨⟨k + 1, by omega, by go_num, by rw [hs.out], hb⟩, by simp [intOf]; omega⟩
    · go_wp2
      go_ret
      exact ⟨by rw [List.take_of_length_le (by omega)]; rfl, hb⟩

/-! At -/
/-- At place k, n are still looked for: the answer is the whole's. -/
theorem at_step {l : List (Int × Int)} {k : Nat} (h : k < l.length) (n : Int) : atF n (l.drop k) = if n ≤ l[k].2 then some l[k].1 else atF (n - l[k].2) (l.drop (k + 1)) := by
  rw [List.drop_eq_getElem_cons h, atF]
theorem rat_any (w : World) (B : Nat) (l : List (Int × Int)) (a : Option Addr) (cap : Nat) (n : Int) (hl : Cs w B a l) (hB : B ≤ w.heap.size) (hn : 0 ≤ n) (hn1 : n ≤ 18446744073709551615) :
    Calls Try.prog 31 #[.slice a l.length cap, .int .u64 n] w fun e w' => e = .returned (.tuple #[.int .i64 (atI l n), .int .i64 (atE l n)]) ∧ Below w.heap.size w w' := by
  have hlen := hl.len
  unfold maxLen at hlen
  obtain ⟨ri, hri⟩ : ∃ x, x = atI l n := ⟨_, rfl⟩
  obtain ⟨re, hre⟩ : ∃ x, x = atE l n := ⟨_, rfl⟩
  rw [← hri, ← hre]
  have st : Hid (∃ s, s = n ∧ 0 ≤ s ∧ s ≤ 18446744073709551615 ∧ (s = 0 → ri = 0 ∧ re = 2) ∧ (0 < s → ri = (atF s (l.drop 0)).getD 0 ∧ re = if (atF s (l.drop 0)).isSome then 0 else 2)) := by
    refine Lib.hid ⟨n, rfl, hn, hn1, fun e => ?_, fun e => ?_⟩
    · rw [hri, hre, atI, atE, if_pos e, if_pos e]; exact ⟨rfl, rfl⟩
    · rw [hri, hre, atI, atE, if_neg (by omega), if_neg (by omega)]; exact ⟨rfl, rfl⟩
  clear hri hre
  go_enter Try.func31, Try.ntmps31
  go_wp2
  go_loopw [1, 6] (fun r i wr => ∃ (k : Nat) (s : Int), k ≤ l.length ∧ i = .int .i64 k ∧ r = .int .u64 s ∧ 0 ≤ s ∧ s ≤ 18446744073709551615 ∧ Hid ((s = 0 → ri = 0 ∧ re = 2) ∧ (0 < s → ri = (atF s (l.drop k)).getD 0 ∧ re = if (atF s (l.drop k)).isSome then 0 else 2)) ∧ w = wr) (fun _ i _ => l.length - (intOf i).toNat)
  case atStart =>
    obtain ⟨s, rfl, s1, s2, s3, s4⟩ := st.out
    exact ⟨0, s, Nat.zero_le _, rfl, rfl, s1, s2, Lib.hid ⟨s3, s4⟩, rfl⟩
  case round =>
    clear st hn hn1
    obtain ⟨k, s, hk, rfl, rfl, s1, s2, s3, rfl⟩ := hrel
    by_cases hs0 : s = 0
    · obtain ⟨e1, e2⟩ := s3.out.1 hs0
      subst e1; subst e2; subst hs0
      clear s3
      by_cases hlt : k < l.length
      · have hd : decide (k < l.length) = true := decide_eq_true hlt
        go_wp2
        go_ret2
        exact ⟨rfl, Below.refl _ _⟩
      · have hd : decide (k < l.length) = false := decide_eq_false hlt
        go_wp2
        go_ret2
        exact ⟨rfl, Below.refl _ _⟩
    · obtain ⟨e1, e2⟩ := s3.out.2 (by omega)
      have hs : 0 < s := by omega
      have hsd : decide (0 < s) = true := decide_eq_true hs
      clear s3
      by_cases hlt : k < l.length
      · obtain ⟨b, off, rfl, hbB, hc⟩ := hl.cells (by omega)
        obtain ⟨h1, h2⟩ := hc k l[k] (List.getElem?_eq_getElem hlt)
        have hok := hl.ok l[k] (List.getElem_mem hlt)
        rw [at_step hlt] at e1 e2
        generalize l[k] = x at *
        obtain ⟨x1, x2⟩ := x
        obtain ⟨o1, o2, o3, o4⟩ := hok
        simp only at h1 h2 o1 o2 o3 o4 e1 e2
        have hd : decide (k < l.length) = true := decide_eq_true hlt
        clear hc
        by_cases hle : s ≤ x2
        · rw [if_pos hle] at e1 e2
          have f1 : ri = x1 := e1
          have f2 : re = 0 := e2
          clear e1 e2
          subst f1; subst f2
          go_wp2
          go_ret2
          exact ⟨rfl, Below.refl _ _⟩
        · rw [if_neg hle] at e1 e2
          have e5 : 0 ≤ s - x2 := by omega
          have e6 : s - x2 ≤ 18446744073709551615 := by omega
          have nx : Hid ((s - x2 = 0 → ri = 0 ∧ re = 2) ∧ (0 < s - x2 → ri = (atF (s - x2) (l.drop (k + 1))).getD 0 ∧ re = if (atF (s - x2) (l.drop (k + 1))).isSome then 0 else 2)) := Lib.hid ⟨fun e => absurd e (by omega), fun _ => ⟨e1, e2⟩⟩
          clear e1 e2
          go_wp2
          exact ⟨⟨k + 1, s - x2, by omega, by go_num, rfl, e5, e6, nx, trivial⟩, by simp [intOf]; omega⟩
      · rw [List.drop_of_length_le (by omega)] at e1 e2
        have f1 : ri = 0 := e1
        have f2 : re = 2 := e2
        clear e1 e2
        subst f1; subst f2
        have hd : decide (k < l.length) = false := decide_eq_false hlt
        go_wp2
        go_ret2
        exact ⟨rfl, Below.refl _ _⟩
end Go.Proofs.Ytonacegkhkncmaa.Rk
