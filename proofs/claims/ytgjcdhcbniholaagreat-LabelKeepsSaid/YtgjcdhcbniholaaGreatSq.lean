/- slices.Equal on labels. -/
import Derived.Test.YtgjcdhcbniholaaGreatLc1
import Derived.Test.YtgjcdhcbniholaaGreatSm
import Derived.Test.YtgjcdhcbniholaaGreatLaG
import Derived.BigQuiet
import Derived.Laws.StructEq
namespace Go.Proofs.YtgjcdhcbniholaaGreat.Sq
open Go.RowKit Go.Proofs.YtgjcdhcbniholaaGreat.La Go.Proofs.YtgjcdhcbniholaaGreat.Sl
set_option linter.unusedVariables false

set_option maxRecDepth 100000 in
set_option maxHeartbeats 8000000 in
theorem equal_any (A1 A2 : Option Addr) (c1 c2 : Nat) (l m : List Lab) (w : World) (h1 : Rd w w.heap.size 2 A1 (labs l) l.length) (h2 : Rd w w.heap.size 2 A2 (labs m) m.length) (hl : l.length ≤ 140737488355328) (hm : m.length ≤ 140737488355328) :
    Calls Tryz.prog 42 #[.slice A1 l.length c1, .slice A2 m.length c2] w fun e w' => e = .returned (.bool (decide (l = m))) ∧ Below w.heap.size w w' := by
  obtain ⟨n, hn⟩ : ∃ n, n = l.length := ⟨_, rfl⟩
  obtain ⟨k, hk⟩ : ∃ k, k = m.length := ⟨_, rfl⟩
  obtain ⟨res, hres⟩ : ∃ res, res = decide (l = m) := ⟨_, rfl⟩
  have hnI : (n : Int) ≤ 140737488355328 := by omega
  rw [← hn, ← hk, ← hres]
  rw [← hn] at h1
  rw [← hk] at h2
  replace h1 := Lib.hid h1
  replace h2 := Lib.hid h2
  clear hl hm
  by_cases hnk : n = k
  · obtain rfl := hnk
    replace hn := Lib.hid hn
    replace hk := Lib.hid hk
    replace hres := Lib.hid hres
    go_enter Tryz.func42, Tryz.ntmps42
    go_wp2
    go_loopw [13] (fun v wr => ∃ i : Nat, v = .int .i64 (i : Int) ∧ i ≤ n ∧ Hid (l.take i = m.take i) ∧ Below w.heap.size w wr) (fun v _ => n + 1 - natOf' v)
    case atStart => exact ⟨0, rfl, Nat.zero_le _, Lib.hid (by simp), Below.refl _ _⟩
    case round =>
      obtain ⟨i, rfl, hi, hpre, hw⟩ := hrel
      by_cases hlt : i < n
      · have hil : i < l.length := by rw [← hn.out]; exact hlt
        have him : i < m.length := by rw [← hk.out]; exact hlt
        obtain ⟨b1, o1, hA1, hb1, p0, p1⟩ := rd_lab h1.out i hil hn.out
        obtain ⟨b2, o2, hA2, hb2, q0, q1⟩ := rd_lab h2.out i him hk.out
        subst hA1; subst hA2
        obtain ⟨x, hx⟩ : ∃ x, x = l[i] := ⟨_, rfl⟩
        obtain ⟨y, hy⟩ : ∃ y, y = m[i] := ⟨_, rfl⟩
        rw [← hx] at p0 p1
        rw [← hy] at q0 q1
        have z0 := (hw.cell (p := ⟨b1, o1 + i * 2, none⟩) hb1).trans p0
        have z1 := (hw.cell (p := ⟨b1, o1 + i * 2 + 1, none⟩) hb1).trans p1
        have z2 := (hw.cell (p := ⟨b2, o2 + i * 2, none⟩) hb2).trans q0
        have z3 := (hw.cell (p := ⟨b2, o2 + i * 2 + 1, none⟩) hb2).trans q1
        have g0 : (0 : Int) ≤ (i : Int) := by omega
        have g1 : (i : Int) < (n : Int) := by omega
        have g2 : wrap64 (i : Int) = (i : Int) := by unfold wrap64; omega
        clear p0 p1 q0 q1
        obtain ⟨xa, xb⟩ := x
        obtain ⟨ya, yb⟩ := y
        dsimp only at z0 z1 z2 z3
        have hgd : ∀ w x y, (eqGuard .neq 45 x y (.agg #[.string xa, .string xb]) (.agg #[.string ya, .string yb])).run Tryz.prog w = .ok () w := fun w x y => run_eqGuard_agg (w := w) _ _ x y _ _ (by kernel_rfl)
        have hne := Sm.ne_fact xa xb ya yb
        by_cases hxy : (xa, xb) = (ya, yb)
        · have hst : l.take (i + 1) = m.take (i + 1) := by
            rw [List.take_add_one, List.take_add_one, hpre.out, List.getElem?_eq_getElem hil, List.getElem?_eq_getElem him, ← hx, ← hy, hxy]
          rw [decide_eq_true hxy] at hne
          replace hst := Lib.hid hst
          clear hxy hx hy hil him
          go_wp2
          go_quiet (fail)
          go_wp2
          exact ⟨⟨i + 1, by simp, hlt, hst, below_drewN hw _⟩, by simp [natOf']; omega⟩
        · have hr : res = false := by
            rw [hres.out]
            simp
            intro e
            subst e
            exact hxy (hx.trans hy.symm)
          rw [decide_eq_false hxy] at hne
          subst hr
          clear hxy hx hy hil him
          go_wp2
          go_quiet (fail)
          go_wp2
          go_ret
          exact ⟨rfl, below_drewN hw _⟩
      · obtain rfl : i = n := by omega
        have hr : res = true := by
          rw [hres.out]
          have := hpre.out
          rw [List.take_of_length_le (by rw [← hn.out]; exact Nat.le_refl _), List.take_of_length_le (by rw [← hk.out]; exact Nat.le_refl _)] at this
          simpa using this
        subst hr
        go_wp2
        go_ret
        exact ⟨rfl, hw⟩
  · have hr : res = false := by
      rw [hres]
      simp
      intro e
      exact hnk (by rw [hn, hk, e])
    subst hr
    have t1 : ((n : Int) != (k : Int)) = true := by simp; omega
    go_enter Tryz.func42, Tryz.ntmps42
    go_wp2
    go_ret
    exact ⟨rfl, Below.refl _ _⟩
end Go.Proofs.YtgjcdhcbniholaaGreat.Sq
