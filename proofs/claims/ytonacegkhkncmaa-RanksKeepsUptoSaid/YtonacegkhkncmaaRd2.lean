/- The document's Same of counts. -/
import Derived.Test.YtonacegkhkncmaaRd1
import Derived.Laws.StructEq
namespace Go.Proofs.Ytonacegkhkncmaa.Rk
open Go.RowKit Go.Proofs.Ytonacegkhkncmaa.Bk
set_option linter.unusedVariables false

theorem eqC (a b c d : Int) (w : World) : (Op.equalIn 10000 55 (.agg #[.int .i64 a, .int .u64 b]) (.agg #[.int .i64 c, .int .u64 d])).run Try.prog w = .ok (a == c && b == d) w := by
  have u3 := Try.underlying3
  have u39 := Try.underlying39
  have a3 := Try.isAgg3
  have a39 := Try.isAgg39
  have hS : Try.prog.underlying 55 = some (.struct (Try.prog.fieldsOf 55)) := by kernel_rfl
  have hp : Try.prog.stoodInHeld 55 = false := by kernel_rfl
  rw [show (10000 : Nat) = 9999 + 1 from rfl, run_equalIn_agg w 9999 55 _ _ hS hp]
  simp only [Program.fieldsOf, Try.underlying55]
  go_simp
  by_cases h1 : a = c <;> by_cases h2 : b = d <;> simp [h1, h2]

/-! Same -/
set_option maxHeartbeats 1000000 in
theorem same_any (w : World) (B : Nat) (A1 A2 : Option Addr) (a b : List (Int × Int)) (c1 c2 : Nat) (h1 : Cs w B A1 a) (h2 : Cs w B A2 b) (hB : B ≤ w.heap.size) :
    Calls Try.prog 35 #[.slice A1 a.length c1, .slice A2 b.length c2] w fun e w' => e = .returned (.bool (decide (a = b))) ∧ Below w.heap.size w w' := by
  have l1 := h1.len
  have l2 := h2.len
  unfold maxLen at l1 l2
  by_cases hl : a.length = b.length
  · have hl2 : (a.length != b.length) = false := by simp [hl]
    have hl3 : (a.length == b.length) = true := by simp [hl]
    have hl4 : ((a.length : Int) == (b.length : Int)) = true := by simp [hl]
    obtain ⟨n, hn⟩ : ∃ n, n = b.length := ⟨_, rfl⟩
    have hl5 := hl
    rw [← hn] at hl hl2 hl3 hl4 l2
    obtain ⟨res, hres⟩ : ∃ r, r = decide (a = b) := ⟨_, rfl⟩
    rw [hl] at hl2 hl3 hl4 l1 ⊢
    rw [← hres, ← hn]
    replace hres := Lib.hid hres
    replace hl := Lib.hid hl
    replace hl5 := Lib.hid hl5
    replace hn := Lib.hid hn
    go_enter Try.func35, Try.ntmps35
    go_wp2
    go_loopw [5] (fun i wr => ∃ k : Nat, k ≤ n ∧ i = .int .i64 k ∧ Hid (a.take k = b.take k) ∧ Below w.heap.size w wr) (fun i _ => n - (intOf i).toNat)
    case atStart => exact ⟨0, Nat.zero_le _, rfl, Lib.hid rfl, Below.refl _ _⟩
    case round =>
      obtain ⟨k, hk, rfl, he, hb⟩ := hrel
      by_cases hlt : k < n
      · have ka : k < a.length := by rw [hl.out]; exact hlt
        have kb : k < b.length := by rw [← hn.out]; exact hlt
        obtain ⟨b1, o1, rfl, hb1, q1⟩ := (h1.below (hb.mono hB)).cells (by omega)
        obtain ⟨b2, o2, rfl, hb2, q2⟩ := (h2.below (hb.mono hB)).cells (by omega)
        obtain ⟨x1, x2⟩ := q1 k a[k] (List.getElem?_eq_getElem ka)
        obtain ⟨y1, y2⟩ := q2 k b[k] (List.getElem?_eq_getElem kb)
        have hnx : a[k] = b[k] → Hid (a.take (k + 1) = b.take (k + 1)) := fun e => Lib.hid (by rw [take_snoc ka, take_snoc kb, he.out, e])
        have hdf : a[k] ≠ b[k] → res = false := fun e => by
          rw [hres.out, decide_eq_false_iff_not]
          intro h; subst h; exact e rfl
        clear q1 q2
        generalize a[k] = u at *
        generalize b[k] = v at *
        obtain ⟨u1, u2⟩ := u
        obtain ⟨v1, v2⟩ := v
        simp only [Prod.mk.injEq, ne_eq] at x1 x2 y1 y2 hnx hdf
        by_cases hu : u1 = v1 ∧ u2 = v2
        · obtain ⟨rfl, rfl⟩ := hu
          have nx := hnx ⟨rfl, rfl⟩
          clear hnx hdf
          go_wp2
          go_quiet (fail)
          go_wp2
          exact ⟨⟨k + 1, by omega, by go_num, nx, below_drewN hb _⟩, by simp [intOf]; omega⟩
        · have rs := hdf hu
          subst rs
          clear hnx hdf
          have hb2 : (u1 == v1 && u2 == v2) = false := by
            rw [Bool.and_eq_false_iff, beq_eq_false_iff_ne, beq_eq_false_iff_ne]
            by_cases e : u1 = v1
            · right; intro e2; exact hu ⟨e, e2⟩
            · exact .inl e
          have hq := eqC u1 u2 v1 v2
          rw [hb2] at hq
          replace hu := Lib.hid hu
          go_wp2
          go_quiet (fail)
          go_wp2
          go_ret
          exact ⟨rfl, below_drewN hb _⟩
      · have rs : res = true := by
          have := he.out
          rw [List.take_of_length_le (by rw [hl.out]; omega), List.take_of_length_le (by rw [← hn.out]; omega)] at this
          rw [hres.out, this]; simp
        subst rs
        go_wp2
        go_ret
        exact ⟨rfl, hb⟩
  · have hl2 : (a.length != b.length) = true := by simp [hl]
    have hl4 : ((a.length : Int) == (b.length : Int)) = false := beq_eq_false_iff_ne.2 (by omega)
    have hl3 : (a.length == b.length) = false := beq_eq_false_iff_ne.2 hl
    have hr : decide (a = b) = false := decide_eq_false fun h => hl (by rw [h])
    rw [hr]
    replace hl := Lib.hid hl
    replace hr := Lib.hid hr
    go_enter Try.func35, Try.ntmps35
    go_wp2
    go_ret
    exact ⟨rfl, Below.refl _ _⟩
end Go.Proofs.Ytonacegkhkncmaa.Rk
