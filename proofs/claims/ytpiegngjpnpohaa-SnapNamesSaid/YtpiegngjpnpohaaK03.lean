/- Lemmas for the laws of this seat, laid together of RkA, RkI, DivM, WdP, WdR, RkQ, RkP, RkS, RkC, Rd1. -/
import Derived.Test.YtpiegngjpnpohaaK00
import Derived.Test.YtpiegngjpnpohaaK01
import Derived.Test.YtpiegngjpnpohaaK02
import Derived.WalkSmall
import Derived.LoopTactic
import Derived.RangeFuncNested
import Derived.RangeFuncBound
import Derived.RangeFuncCalls
import Derived.RangeFuncLeaves
import Derived.Shelf.Abstract
import Derived.Shelf.RegionOpen
import Derived.WalkKit
import Derived.OwnWalkIn
import Derived.TacticsInMore
import Derived.LoopNIn
import Derived.LoopIn
import Derived.Test.YtpiegngjpnpohaaChecked
import Derived.BigQuiet
import Derived.Deep.QuietTactic
import Derived.RegionTactic
import Derived.ChangeAlike
import Derived.Outline
import Derived.Lib.Hide
import Derived.IntWalk
import Derived.Lib.ItoaNum
import Derived.Deep.DeepCutAuto
import Derived.Deep.CutBlock
import Derived.RowKit3

namespace Go.Proofs.Ytpiegngjpnpohaa.Rk
open Go.RowKit Go.Proofs.Ytpiegngjpnpohaa.Bk
set_option linter.unusedVariables false
def sumN (l : List (Int × Int)) : Int := (l.map (·.2)).sum
def chk (p : Int) : Option Int → List (Int × Int) → Int
  | _, [] => 0
  | prev, c :: r => if c.1 < 0 ∨ lenI p ≤ c.1 then 2 else if (∃ q, prev = some q ∧ c.1 ≤ q) then 15 else if c.2 = 0 then 16 else chk p (some c.1) r
def mayE (p : Int) (l : List (Int × Int)) : Int := if ¬ good p then 1 else if chk p none l ≠ 0 then chk p none l else if 9223372036854775807 < sumN l then 3 else 0
def prevOf (l : List (Int × Int)) (k : Nat) : Option Int := if k = 0 then none else (l[k - 1]?).map (·.1)
def At (p : Int) (l : List (Int × Int)) (k : Nat) : Prop := chk p none l = chk p (prevOf l k) (l.drop k)
theorem At.zero (p : Int) (l : List (Int × Int)) : At p l 0 := rfl
theorem prevOf_succ {l : List (Int × Int)} {k : Nat} (h : k < l.length) : prevOf l (k + 1) = some l[k].1 := by
  simp [prevOf, h]
theorem chk_at {p : Int} {l : List (Int × Int)} {k : Nat} (h : k < l.length) : chk p (prevOf l k) (l.drop k) =
    if l[k].1 < 0 ∨ lenI p ≤ l[k].1 then 2 else if (∃ q, prevOf l k = some q ∧ l[k].1 ≤ q) then 15 else if l[k].2 = 0 then 16 else chk p (some l[k].1) (l.drop (k + 1)) := by
  rw [List.drop_eq_getElem_cons h, chk]
theorem At.range {p : Int} {l : List (Int × Int)} {k : Nat} (ha : At p l k) (h : k < l.length) (h1 : l[k].1 < 0 ∨ lenI p ≤ l[k].1) : chk p none l = 2 := by
  rw [ha, chk_at h, if_pos h1]
theorem At.order {p : Int} {l : List (Int × Int)} {k : Nat} (ha : At p l k) (h : k < l.length) (h1 : 0 ≤ l[k].1) (h1' : l[k].1 < lenI p) (h0 : 0 < k) (h2 : l[k].1 ≤ (l[k - 1]'(by omega)).1) : chk p none l = 15 := by
  rw [ha, chk_at h, if_neg (by omega), if_pos]
  exact ⟨(l[k - 1]'(by omega)).1, by simp [prevOf, show k ≠ 0 by omega, show k - 1 < l.length by omega], h2⟩
theorem At.empty {p : Int} {l : List (Int × Int)} {k : Nat} (ha : At p l k) (h : k < l.length) (h1 : 0 ≤ l[k].1) (h1' : l[k].1 < lenI p) (h2 : ∀ h0 : 0 < k, ¬ l[k].1 ≤ (l[k - 1]'(by omega)).1) (h3 : l[k].2 = 0) : chk p none l = 16 := by
  rw [ha, chk_at h, if_neg (by omega), if_neg, if_pos h3]
  rintro ⟨q, hq, hle⟩
  unfold prevOf at hq
  by_cases h0 : k = 0
  · simp [h0] at hq
  · rw [if_neg h0, List.getElem?_eq_getElem (by omega)] at hq
    simp at hq
    exact h2 (by omega) (by omega)
theorem At.next {p : Int} {l : List (Int × Int)} {k : Nat} (ha : At p l k) (h : k < l.length) (h1 : 0 ≤ l[k].1) (h1' : l[k].1 < lenI p) (h2 : ∀ h0 : 0 < k, ¬ l[k].1 ≤ (l[k - 1]'(by omega)).1) (h3 : l[k].2 ≠ 0) : At p l (k + 1) := by
  unfold At
  rw [ha, chk_at h, if_neg (by omega), if_neg, if_neg h3, prevOf_succ h]
  rintro ⟨q, hq, hle⟩
  unfold prevOf at hq
  by_cases h0 : k = 0
  · simp [h0] at hq
  · rw [if_neg h0, List.getElem?_eq_getElem (by omega)] at hq
    simp at hq
    exact h2 (by omega) (by omega)
theorem At.done {p : Int} {l : List (Int × Int)} {k : Nat} (ha : At p l k) (h : l.length ≤ k) : chk p none l = 0 := by
  rw [ha, List.drop_of_length_le h]; unfold chk; rfl
theorem sumN_snoc {l : List (Int × Int)} {k : Nat} (h : k < l.length) : sumN (l.take (k + 1)) = sumN (l.take k) + l[k].2 := by
  rw [take_snoc h, sumN, List.map_append, List.sum_append]; simp [sumN]
theorem sumN_nonneg {l : List (Int × Int)} (h : ∀ c ∈ l, okC c) : 0 ≤ sumN l := by
  induction l with
  | nil => simp [sumN]
  | cons c r ih =>
    have := ih fun x hx => h x (List.mem_cons_of_mem _ hx)
    have h2 := h c (List.mem_cons_self ..)
    unfold okC at h2
    simp only [sumN, List.map_cons, List.sum_cons] at this ⊢; omega
theorem sumN_take_le {l : List (Int × Int)} (h : ∀ c ∈ l, okC c) (k : Nat) : sumN (l.take k) ≤ sumN l := by
  have e : sumN l = sumN (l.take k) + sumN (l.drop k) := by
    rw [sumN, sumN, sumN, ← List.sum_append, ← List.map_append, List.take_append_drop]
  have := sumN_nonneg (l := l.drop k) fun c hc => h c (List.mem_of_mem_drop hc)
  omega
theorem lenI_rng (p : Int) : 0 ≤ lenI p ∧ lenI p ≤ 1048576 := by
  unfold lenI
  by_cases h : good p
  · rw [if_pos h]
    have := size14 (n := p.toNat) (by have := h.2; omega)
    omega
  · rw [if_neg h]; omega
theorem lenI_ge {p : Int} (h : good p) : 2 ≤ lenI p := by
  obtain ⟨h1, h2⟩ := id h
  have := Nat.mul_le_mul (show 2 ≤ 64 - p.toNat by omega) (BkM.pow_pos' p.toNat)
  rw [lenI, if_pos h]; omega
theorem may_bad (w : World) (p : Int) (l : List (Int × Int)) (A : Option Addr) (cap : Nat) (hp : ¬ good p) :
    Calls Try.prog 56 #[.int .i64 p, .slice A l.length cap] w fun e w' => e = .returned (.int .i64 (mayE p l)) ∧ Below w.heap.size w w' := by
  have c := length_any p
  have e : lenI p = 0 := by simp [lenI, hp]
  rw [e] at c
  have e1 : mayE p l = 1 := by rw [mayE, if_pos hp]
  replace e1 := Lib.hid e1
  clear e
  go_enter Try.func56, Try.ntmps56
  go_wp2_with (first | (go_at_call 78; refine (c _).mono ?_; rintro e w' ⟨rfl, rfl⟩))
  go_ret
  exact ⟨ret_int e1.out.symm, Below.refl _ _⟩
set_option maxRecDepth 100000 in
set_option maxHeartbeats 1000000 in
theorem may_good (w : World) (B : Nat) (p : Int) (l : List (Int × Int)) (A : Option Addr) (cap : Nat) (hp : good p) (h : Cs w B A l) (hB : B ≤ w.heap.size) :
    Calls Try.prog 56 #[.int .i64 p, .slice A l.length cap] w fun e w' => e = .returned (.int .i64 (mayE p l)) ∧ Below w.heap.size w w' := by
  have hl := h.len
  unfold maxLen at hl
  have c := length_any p
  have n0 := lenI_ge hp
  have n1 := lenI_rng p
  obtain ⟨_, n1⟩ := n1
  have n2 : (lenI p == 0) = false := beq_eq_false_iff_ne.2 (by omega)
  have em : mayE p l = if chk p none l ≠ 0 then chk p none l else if 9223372036854775807 < sumN l then 3 else 0 := by rw [mayE, if_neg (by simpa using hp)]
  replace em := Lib.hid em
  replace hp := Lib.hid hp
  generalize hN : lenI p = N at *
  replace hN := Lib.hid hN
  go_enter Try.func56, Try.ntmps56
  go_wp2_with (first | (go_at_call 78; refine (c _).mono ?_; rintro e w' ⟨rfl, rfl⟩))
  go_loopw [17] (fun i wr => ∃ k : Nat, k ≤ l.length ∧ i = .int .i64 k ∧ At p l k ∧ Below w.heap.size w wr) (fun i _ => l.length - (intOf i).toNat)
  case atStart => exact ⟨0, Nat.zero_le _, rfl, At.zero _ _, Below.refl _ _⟩
  case round =>
    obtain ⟨k, hk, rfl, ha, hb⟩ := hrel
    replace ha := Lib.hid ha
    by_cases hlt : k < l.length
    · obtain ⟨b, off, rfl, hbB, hc⟩ := (h.below (hb.mono hB)).cells (by omega)
      obtain ⟨h1, h2⟩ := hc k l[k] (List.getElem?_eq_getElem hlt)
      have hok := h.ok l[k] (List.getElem_mem hlt)
      obtain ⟨o1, o2, o3, o4⟩ := hok
      by_cases r1 : l[k].1 < 0
      · have e := ha.out.range hlt (by omega)
        replace e := Lib.hid e
        clear hc
        go_wp2
        go_ret
        exact ⟨ret_int (by rw [em.out, e.out]; rfl), hb.alloc hb.size _⟩
      by_cases r2 : N ≤ l[k].1
      · have e := ha.out.range hlt (by rw [hN.out]; omega)
        replace e := Lib.hid e
        clear hc
        go_wp2
        go_ret
        exact ⟨ret_int (by rw [em.out, e.out]; rfl), hb.alloc hb.size _⟩
      have hks : k = 0 ∨ 0 < k := Nat.eq_zero_or_pos k
      have hq : 0 < k → ∃ q : Int × Int, l[k - 1]? = some q ∧ wr.cell? ⟨b, off + (k - 1) * 2, none⟩ = some (.int .i64 q.1) ∧ (l[k].1 ≤ q.1 → chk p none l = 15) ∧ (¬ l[k].1 ≤ q.1 → (l[k].2 = 0 → chk p none l = 16) ∧ (l[k].2 ≠ 0 → At p l (k + 1))) := fun h0 => by
        have hx : k - 1 < l.length := by omega
        refine ⟨l[k - 1], List.getElem?_eq_getElem hx, (hc (k - 1) _ (List.getElem?_eq_getElem hx)).1, fun hle => ha.out.order hlt (by omega) (by rw [hN.out]; omega) h0 hle, fun hn => ⟨fun h3 => ha.out.empty hlt (by omega) (by rw [hN.out]; omega) (fun _ => hn) h3, fun h3 => ha.out.next hlt (by omega) (by rw [hN.out]; omega) (fun _ => hn) h3⟩⟩
      have hz : k = 0 → (l[k].2 = 0 → chk p none l = 16) ∧ (l[k].2 ≠ 0 → At p l (k + 1)) := fun h0 =>
        ⟨fun h3 => ha.out.empty hlt (by omega) (by rw [hN.out]; omega) (fun h => absurd h (by omega)) h3, fun h3 => ha.out.next hlt (by omega) (by rw [hN.out]; omega) (fun h => absurd h (by omega)) h3⟩
      clear hc
      generalize l[k] = x at *
      obtain ⟨x1, x2⟩ := x
      simp only at h1 h2 o1 o2 o3 o4 r1 r2 hq hz
      rcases hks with hk0 | hk0
      · obtain ⟨hz1, hz2⟩ := hz hk0
        have hk0' : decide ((0 : Int) < (k : Int)) = false := decide_eq_false (by omega)
        have hk0'' : decide (0 < k) = false := decide_eq_false (by omega)
        clear hz hq hk0
        by_cases r3 : x2 = 0
        · have e := hz1 r3
          replace e := Lib.hid e
          have r3' : ((x2 : Int) == 0) = true := beq_iff_eq.2 r3
          clear r3 hz1 hz2
          go_wp2
          go_quiet (fail)
          go_wp2
          go_ret
          exact ⟨ret_int (by rw [em.out, e.out]; rfl), below_drewN (hb.alloc hb.size _) _⟩
        · have e := hz2 r3
          replace e := Lib.hid e
          have r3' : ((x2 : Int) == 0) = false := beq_eq_false_iff_ne.2 r3
          clear r3 hz1 hz2
          go_wp2
          go_quiet (fail)
          go_wp2
          exact ⟨⟨k + 1, by omega, by go_num, e.out, below_drewN (hb.alloc hb.size _) _⟩, by simp [intOf]; omega⟩
      · obtain ⟨⟨q1, q2⟩, hq1, hq2, hq3, hq4⟩ := hq hk0
        simp only at hq2 hq3 hq4
        have hk0' : decide ((0 : Int) < (k : Int)) = true := decide_eq_true (by omega)
        have hk0'' : decide (0 < k) = true := decide_eq_true (by omega)
        have hk1 : k - 1 < l.length := by omega
        have hbs : b < wr.heap.size := by have := hb.size; omega
        have hq2' : ∀ o : Obj, (wr.alloc o).cell? ⟨b, off + (k - 1) * 2, none⟩ = some (.int .i64 q1) := fun o => (World.cell?_alloc_lt wr o ⟨b, off + (k - 1) * 2, none⟩ hbs).trans hq2
        have w1 : IntKind.i64.wrap ((k : Int) - 1) = (k : Int) - 1 := IntWalk.i64_in _ (by omega)
        have w2 : (0 : Int) ≤ (k : Int) - 1 := by omega
        have w3 : ((k : Int) - 1).toNat = k - 1 := by omega
        have w4 : (k : Int) - 1 < (l.length : Int) := by omega
        clear hz hq hq1
        by_cases hle : x1 ≤ q1
        · have e := hq3 hle
          replace e := Lib.hid e
          clear hq3 hq4
          go_wp2
          go_quiet (fail)
          go_wp2
          go_ret
          exact ⟨ret_int (by rw [em.out, e.out]; rfl), below_drewN (hb.alloc hb.size _) _⟩
        · obtain ⟨hz1, hz2⟩ := hq4 hle
          clear hq3 hq4
          by_cases r3 : x2 = 0
          · have e := hz1 r3
            replace e := Lib.hid e
            have r3' : ((x2 : Int) == 0) = true := beq_iff_eq.2 r3
            clear r3 hz1 hz2
            go_wp2
            go_quiet (fail)
            go_wp2
            go_ret
            exact ⟨ret_int (by rw [em.out, e.out]; rfl), below_drewN (hb.alloc hb.size _) _⟩
          · have e := hz2 r3
            replace e := Lib.hid e
            have r3' : ((x2 : Int) == 0) = false := beq_eq_false_iff_ne.2 r3
            clear r3 hz1 hz2
            go_wp2
            go_quiet (fail)
            go_wp2
            exact ⟨⟨k + 1, by omega, by go_num, e.out, below_drewN (hb.alloc hb.size _) _⟩, by simp [intOf]; omega⟩
    · have e := ha.out.done (by omega)
      rw [e] at em
      replace em : mayE p l = if 9223372036854775807 < sumN l then 3 else 0 := em.out
      replace em := Lib.hid em
      replace e := Lib.hid e
      have hsn := sumN_nonneg h.ok
      replace hsn := Lib.hid hsn
      go_wp2_with fail
      go_loopw [8, 53] (fun r i wr => ∃ (k : Nat) (s : Int), k ≤ l.length ∧ i = .int .i64 k ∧ r = .int .u64 s ∧ 0 ≤ s ∧ s ≤ 9223372036854775807 ∧ Hid (sumN (l.take k) + s = 9223372036854775807) ∧ Below w.heap.size w wr) (fun _ i _ => l.length - (intOf i).toNat)
      case atStart => exact ⟨0, 9223372036854775807, Nat.zero_le _, rfl, rfl, by omega, by omega, by rw [List.take_zero]; exact rfl, hb⟩
      case round =>
        clear hk ha hb hlt
        obtain ⟨k, s, hk, rfl, rfl, s1, s2, s3, hb⟩ := hrel
        by_cases hlt : k < l.length
        · obtain ⟨b, off, rfl, hbB, hc⟩ := (h.below (hb.mono hB)).cells (by omega)
          obtain ⟨h1, h2⟩ := hc k l[k] (List.getElem?_eq_getElem hlt)
          have hok := h.ok l[k] (List.getElem_mem hlt)
          have hsn1 := sumN_snoc hlt
          have hsn2 := sumN_take_le h.ok (k + 1)
          clear hc
          generalize l[k] = x at *
          obtain ⟨x1, x2⟩ := x
          obtain ⟨o1, o2, o3, o4⟩ := hok
          simp only at h1 h2 o1 o2 o3 o4 hsn1
          by_cases hx : s < x2
          · have e3 : 9223372036854775807 < sumN l := by have := s3.out; omega
            replace e3 := Lib.hid e3
            replace hsn1 := Lib.hid hsn1; replace hsn2 := Lib.hid hsn2
            go_wp2
            go_ret
            exact ⟨ret_int (by rw [em.out, if_pos e3.out]), hb.alloc hb.size _⟩
          · have e4 : Hid (sumN (l.take (k + 1)) + (s - x2) = 9223372036854775807) := by have := s3.out; show _ = _; omega
            have e5 : 0 ≤ s - x2 := by omega
            replace hsn1 := Lib.hid hsn1; replace hsn2 := Lib.hid hsn2
            go_wp2
            exact ⟨⟨k + 1, s - x2, by omega, by go_num, rfl, by omega, by omega, e4, hb.alloc hb.size _⟩, by simp [intOf]; omega⟩
        · have e3 : ¬ 9223372036854775807 < sumN l := by
            have := s3.out
            rw [List.take_of_length_le (by omega)] at this; omega
          replace e3 := Lib.hid e3
          go_wp2
          go_ret
          exact ⟨ret_int (by rw [em.out, if_neg (by have := e3.out; omega)]), hb⟩
theorem may_any (w : World) (B : Nat) (p : Int) (l : List (Int × Int)) (A : Option Addr) (cap : Nat) (h : Cs w B A l) (hB : B ≤ w.heap.size) :
    Calls Try.prog 56 #[.int .i64 p, .slice A l.length cap] w fun e w' => e = .returned (.int .i64 (mayE p l)) ∧ Below w.heap.size w w' := by
  by_cases hp : good p
  · exact may_good w B p l A cap hp h hB
  · exact may_bad w p l A cap hp
end Go.Proofs.Ytpiegngjpnpohaa.Rk

namespace Go.Proofs.Ytpiegngjpnpohaa.Rk
open Go.RowKit
set_option linter.unusedVariables false
attribute [local go_sem] Oper.semAt_some
def stp (Bn : Nat) (A B : World) : Prop := (∃ o, B = A.alloc o) ∨ (∃ v, B = A.setCell ⟨Bn, 0, none⟩ v)
def kpt (h Bl Bn : Nat) (A B : World) : Prop := ∀ k, (k < h ∨ k = Bl ∨ k = Bn) → B.heap[k]? = A.heap[k]?
theorem kpt.cell {h Bl Bn : Nat} {A B : World} (hk : kpt h Bl Bn A B) {b o : Nat} (hb : b < h ∨ b = Bl ∨ b = Bn) : B.cell? ⟨b, o, none⟩ = A.cell? ⟨b, o, none⟩ := World.cell?_of_block (hk b hb)
theorem Cs.kpt {h Bl Bn : Nat} {A B : World} {a : Option Addr} {l : List (Int × Int)} (hc : Cs A h a l) (hk : kpt h Bl Bn A B) : Cs B h a l :=
  ⟨hc.len, hc.ok, fun hl => by
    obtain ⟨b, off, e, hB, hcc⟩ := hc.cells hl
    exact ⟨b, off, e, hB, fun i c hi => ⟨(hk.cell (.inl hB)).trans (hcc i c hi).1, (hk.cell (.inl hB)).trans (hcc i c hi).2⟩⟩⟩
theorem stp_below {B Bn : Nat} {w X Y : World} (h : Below B w X) (hs : stp Bn X Y) (hB : B ≤ Bn) (hX : B ≤ X.heap.size) : Below B w Y := by
  rcases hs with ⟨o, rfl⟩ | ⟨v, rfl⟩
  · exact h.alloc hX o
  · exact h.setCell (p := ⟨Bn, 0, none⟩) hB v
theorem stp_boxed {b Bn : Nat} {X Y : World} {t : TypeId} {u : Value} (h : Boxed X b t u) (hs : stp Bn X Y) (hne : b ≠ Bn) : Boxed Y b t u := by
  rcases hs with ⟨o, rfl⟩ | ⟨v, rfl⟩
  · exact h.alloc o
  · exact h.other hne v
structure IAt (w : World) (pre : List ((Int × Int) × Int)) (W : World) : Prop where
  no : ∀ x ∈ pre, x.2 ≠ 0
  b4 : Boxed W w.heap.size 3 (.int .i64 0)
  b5 : Boxed W (w.heap.size + 1) 23 (.int .i64 0)
  bel : Below w.heap.size w W
  sz : w.heap.size + 4 ≤ W.heap.size
structure IxAt (w : World) (c : Code) (pre : List ((Int × Int) × Int)) (W : World) : Prop where
  ret : c = .ret
  ex : ∃ (pr : List ((Int × Int) × Int)) (x : (Int × Int) × Int), pre = pr ++ [x] ∧ x.2 = 0 ∧ (∀ y ∈ pr, y.2 ≠ 0) ∧ Boxed W w.heap.size 3 (.int .i64 x.1.1)
  b5 : Boxed W (w.heap.size + 1) 23 (.int .i64 0)
  bel : Below w.heap.size w W
theorem IAt.own (w : World) {B : Nat} (hB : w.heap.size ≤ B) : OwnFrom B (IAt w) := fun s X Y row hs hg hr =>
  ⟨hs.no, Own.from (boxed_own w.heap.size 3 (fun (_ : Unit) => Value.int .i64 0)) B () X Y row hs.b4 hg hr, Own.from (boxed_own (w.heap.size + 1) 23 (fun (_ : Unit) => Value.int .i64 0)) B () X Y row hs.b5 hg hr,
    ownFrom_below (β := Unit) (Nat.le_refl _) hB () X Y row hs.bel hg hr, Nat.le_trans hs.sz hg.size⟩
theorem IxAt.own (w : World) {B : Nat} (hB : w.heap.size ≤ B) (c : Code) : OwnFrom B (IxAt w c) := fun s X Y row hs hg hr =>
  ⟨hs.ret, by
    obtain ⟨pr, x, e1, e2, e3, e4⟩ := hs.ex
    exact ⟨pr, x, e1, e2, e3, Own.from (boxed_own w.heap.size 3 (fun (_ : Unit) => Value.int .i64 x.1.1)) B () X Y row e4 hg hr⟩, Own.from (boxed_own (w.heap.size + 1) 23 (fun (_ : Unit) => Value.int .i64 0)) B () X Y row hs.b5 hg hr,
    ownFrom_below (β := Unit) (Nat.le_refl _) hB () X Y row hs.bel hg hr⟩
theorem IAt.stp {w : World} {s : List ((Int × Int) × Int)} {X Y : World} (hi : IAt w s X) (hs : stp (w.heap.size + 1 + 1 + 1) X Y) : IAt w s Y :=
  ⟨hi.no, stp_boxed hi.b4 hs (by omega), stp_boxed hi.b5 hs (by omega), stp_below hi.bel hs (by omega) hi.bel.size, by
    have := hi.sz
    rcases hs with ⟨o, rfl⟩ | ⟨v, rfl⟩
    · simp; omega
    · simp [World.setCell]; omega⟩
theorem IxAt.stp {w : World} {c : Code} {s : List ((Int × Int) × Int)} {X Y : World} (hi : IxAt w c s X) (hs : Rk.stp (w.heap.size + 1 + 1 + 1) X Y) : IxAt w c s Y :=
  ⟨hi.ret, by
    obtain ⟨pr, x, e1, e2, e3, e4⟩ := hi.ex
    exact ⟨pr, x, e1, e2, e3, stp_boxed e4 hs (by omega)⟩, stp_boxed hi.b5 hs (by omega), stp_below hi.bel hs (by omega) hi.bel.size⟩
end Go.Proofs.Ytpiegngjpnpohaa.Rk

namespace Go.Proofs.Ytpiegngjpnpohaa.DivM
set_option linter.unusedVariables false
structure Inv (B y1 y0 u32 u1 qh rh : Nat) : Prop where
  sum : qh * y1 + rh = u32
  ge : (u32 * B + u1) / (y1 * B + y0) ≤ qh
end Go.Proofs.Ytpiegngjpnpohaa.DivM

namespace Go.Proofs.Ytpiegngjpnpohaa.WdP
open Go.RowKit Go.Proofs.Ytpiegngjpnpohaa.DivM
set_option linter.unusedVariables false
def hiM (a b : Nat) : Nat := a * b / 18446744073709551616
def loM (a b : Nat) : Nat := a * b % 18446744073709551616
theorem mul_any (a b : Nat) (ha : a ≤ 18446744073709551615) (hb : b ≤ 18446744073709551615) (w : World) :
    Calls Try.prog 80 #[.int .u64 a, .int .u64 b] w fun e w' => e = .returned (.tuple #[.int .u64 (hiM a b : Nat), .int .u64 (loM a b : Nat)]) ∧ ∃ n, w' = w.drewN n := by
  have c := Try.bits_Mul64 a b (by omega) (by omega)
  clear ha hb
  go_enter Try.func80, Try.ntmps80
  go_wp2_with (first | (go_at_call 87; refine (c _).mono ?_; rintro e w' ⟨rfl, rfl⟩))
  go_ret2
  exact ⟨rfl, 0, rfl⟩
end Go.Proofs.Ytpiegngjpnpohaa.WdP

namespace Go.Proofs.Ytpiegngjpnpohaa.WdP
open Go.RowKit Go.Proofs.Ytpiegngjpnpohaa.DivM
set_option linter.unusedVariables false
theorem bit_step' {T y b q r : Nat} (hy : 0 < y) (hb : b ≤ 1) (hd : y * q + r = T) (hm : r < y) :
    (y ≤ 2 * r + b → (2 * T + b) % y = 2 * r + b - y ∧ (2 * T + b) / y = 2 * q + 1) ∧ (2 * r + b < y → (2 * T + b) % y = 2 * r + b ∧ (2 * T + b) / y = 2 * q) := by
  constructor
  · intro h
    have e : 2 * T + b = y * (2 * q + 1) + (2 * r + b - y) := by
      rw [Nat.mul_add, Nat.mul_one, Nat.mul_left_comm]; omega
    rw [e, Nat.mul_add_mod, Nat.mul_add_div hy, Nat.mod_eq_of_lt (by omega), Nat.div_eq_of_lt (by omega)]
    exact ⟨rfl, by omega⟩
  · intro h
    have e : 2 * T + b = y * (2 * q) + (2 * r + b) := by
      rw [Nat.mul_left_comm]; omega
    rw [e, Nat.mul_add_mod, Nat.mul_add_div hy, Nat.mod_eq_of_lt (by omega), Nat.div_eq_of_lt (by omega)]
    exact ⟨rfl, by omega⟩
theorem half_step (V m : Nat) : V / 2 ^ m = 2 * (V / 2 ^ (m + 1)) + V / 2 ^ m % 2 := by
  rw [Nat.pow_succ, ← Nat.div_div_eq_div_mul]; omega
theorem bit_of {hi lo m : Nat} (hm : m < 64) : (hi * 18446744073709551616 + lo) / 2 ^ m % 2 = lo / 2 ^ m % 2 := by
  have e : hi * 18446744073709551616 = 2 ^ m * (hi * 2 ^ (63 - m) * 2) := by
    have : 18446744073709551616 = 2 ^ m * 2 ^ (63 - m) * 2 := by
      rw [← Nat.pow_add, show m + (63 - m) = 63 by omega]
    rw [this]; simp only [Nat.mul_left_comm, Nat.mul_comm]
  rw [e, Nat.mul_add_div (Nat.pow_pos (by decide))]; omega
theorem q_fits {hi lo y m : Nat} (hh : hi < y) (hlo : lo ≤ 18446744073709551615) (hm : 1 ≤ m) : (hi * 18446744073709551616 + lo) / 2 ^ m / y ≤ 9223372036854775807 := by
  have h1 : (hi * 18446744073709551616 + lo) / 2 ^ m / y < 9223372036854775808 := by
    rw [Nat.div_lt_iff_lt_mul (by omega), Nat.div_lt_iff_lt_mul (Nat.pow_pos (by decide))]
    have h2 : 2 ≤ 2 ^ m := Nat.pow_le_pow_right (n := 2) (by decide) hm
    have h3 : 9223372036854775808 * y * 2 ≤ 9223372036854775808 * y * 2 ^ m := Nat.mul_le_mul_left _ h2
    omega
  omega
structure St (hi lo y m r q : Nat) : Prop where
  r : r = (hi * 18446744073709551616 + lo) / 2 ^ m % y
  q : q = (hi * 18446744073709551616 + lo) / 2 ^ m / y
theorem St.start {hi lo y : Nat} (hh : hi < y) (hlo : lo ≤ 18446744073709551615) : St hi lo y 64 hi 0 := by
  have : (hi * 18446744073709551616 + lo) / 2 ^ 64 = hi := by omega
  exact ⟨by rw [this, Nat.mod_eq_of_lt hh], by rw [this, Nat.div_eq_of_lt hh]⟩
theorem St.step {hi lo y k r q b : Nat} (h : St hi lo y (k + 1) r q) (hh : hi < y) (hlo : lo ≤ 18446744073709551615) (hk : k < 64) (hb : b = lo / 2 ^ k % 2) :
    r < y ∧ q ≤ 9223372036854775807 ∧ (y ≤ 2 * r + b → St hi lo y k (2 * r + b - y) (2 * q + 1)) ∧ (2 * r + b < y → St hi lo y k (2 * r + b) (2 * q)) := by
  obtain ⟨hr, hq⟩ := h
  obtain ⟨V, hV⟩ : ∃ V, V = hi * 18446744073709551616 + lo := ⟨_, rfl⟩
  have hs := half_step V k
  have hbit := bit_of (hi := hi) (lo := lo) hk
  have hfit := q_fits (m := k + 1) hh hlo (by omega)
  rw [← hV] at hr hq hbit hfit
  rw [hbit, ← hb] at hs
  rw [← hq] at hfit
  obtain ⟨T, hT⟩ : ∃ T, T = V / 2 ^ (k + 1) := ⟨_, rfl⟩
  rw [← hT] at hr hq hs
  have hd := Nat.div_add_mod T y
  have hm := Nat.mod_lt T (show 0 < y by omega)
  rw [← hq, ← hr] at hd
  rw [← hr] at hm
  obtain ⟨t1, t2⟩ := bit_step' (T := T) (b := b) (show 0 < y by omega) (by omega) hd hm
  refine ⟨hm, hfit, fun h => ?_, fun h => ?_⟩
  · obtain ⟨a, c⟩ := t1 h
    exact ⟨by rw [← hV, hs, a], by rw [← hV, hs, c]⟩
  · obtain ⟨a, c⟩ := t2 h
    exact ⟨by rw [← hV, hs, a], by rw [← hV, hs, c]⟩
end Go.Proofs.Ytpiegngjpnpohaa.WdP

namespace Go.Proofs.Ytpiegngjpnpohaa.Rk
open Go.RowKit Go.Proofs.Ytpiegngjpnpohaa.Bk
set_option linter.unusedVariables false
def flat (l : List (Int × Int)) : List Value := l.flatMap fun c => [.int .i64 c.1, .int .u64 c.2]
theorem flat_len (l : List (Int × Int)) : (flat l).length = l.length * 2 := by
  induction l with
  | nil => rfl
  | cons c r ih => simp [flat] at ih ⊢; omega
theorem flat_get : ∀ (l : List (Int × Int)) (i : Nat) (c : Int × Int), l[i]? = some c → (flat l)[i * 2]? = some (.int .i64 c.1) ∧ (flat l)[i * 2 + 1]? = some (.int .u64 c.2)
  | [], i, c, h => by simp at h
  | d :: r, 0, c, h => by simp at h; subst h; simp [flat]
  | d :: r, i + 1, c, h => by
    have := flat_get r i c (by simpa using h)
    rw [show (i + 1) * 2 = i * 2 + 1 + 1 by omega]
    simp only [flat, List.flatMap_cons, List.cons_append, List.nil_append, List.getElem?_cons_succ] at this ⊢
    exact this
end Go.Proofs.Ytpiegngjpnpohaa.Rk

namespace Go.Proofs.Ytpiegngjpnpohaa.Rk
open Go.RowKit Go.Proofs.Ytpiegngjpnpohaa.Bk
set_option linter.unusedVariables false
def stepC (cs : List (Int × Int)) (k : Int) : List (Int × Int) :=
  match cs.getLast? with
  | some c => if c.1 = k then cs.dropLast ++ [(c.1, c.2 + 1)] else cs ++ [(k, 1)]
  | none => [(k, 1)]
theorem stepC_same (cs : List (Int × Int)) (k n : Int) : stepC (cs ++ [(k, n)]) k = cs ++ [(k, n + 1)] := by simp [stepC]
theorem stepC_other (cs : List (Int × Int)) (j n k : Int) (h : j ≠ k) : stepC (cs ++ [(j, n)]) k = cs ++ [(j, n)] ++ [(k, 1)] := by simp [stepC, h]
def expand (cs : List (Int × Int)) : List Int := cs.flatMap fun c => List.replicate c.2.toNat c.1
structure Inv (ks : List Int) (cs : List (Int × Int)) : Prop where
  rise : (cs.map (·.1)).Pairwise (· < ·)
  pos : ∀ c ∈ cs, 1 ≤ c.2
  exp : expand cs = ks
theorem Inv.nil : Inv [] [] := ⟨by simp, by simp, rfl⟩
theorem Inv.step {ks : List Int} {cs : List (Int × Int)} (h : Inv ks cs) (k : Int) (hk : ∀ j ∈ ks, j ≤ k) : Inv (ks ++ [k]) (stepC cs k) := by
  rcases List.eq_nil_or_concat cs with rfl | ⟨r, ⟨j, n⟩, rfl⟩
  · have := h.exp
    simp [expand] at this
    subst this
    exact ⟨by simp [stepC], by simp [stepC], by simp [stepC, expand]⟩
  · rw [List.concat_eq_append] at h ⊢
    have hn := h.pos (j, n) (by simp)
    simp only at hn
    have hjks : j ∈ ks := by
      rw [← h.exp]
      exact List.mem_flatMap.2 ⟨(j, n), by simp, by simp; omega⟩
    have hjk := hk j hjks
    have hr := h.rise
    rw [List.map_append, List.pairwise_append] at hr
    by_cases e : j = k
    · subst e
      rw [stepC_same]
      refine ⟨by have := h.rise; simpa using this, fun c hc => ?_, ?_⟩
      · rcases List.mem_append.1 hc with hc | hc
        · exact h.pos c (by simp [hc])
        · rw [List.mem_singleton.1 hc]; show 1 ≤ n + 1; omega
      · rw [← h.exp]
        have e2 : (n + 1).toNat = n.toNat + 1 := by omega
        simp [expand, e2, List.replicate_succ']
    · rw [stepC_other _ _ _ _ e]
      refine ⟨?_, fun c hc => ?_, ?_⟩
      · rw [List.map_append, List.pairwise_append]
        refine ⟨h.rise, by simp, fun a ha b hb => ?_⟩
        simp at hb
        subst hb
        rw [List.map_append] at ha
        rcases List.mem_append.1 ha with ha | ha
        · have := hr.2.2 a ha j (by simp); omega
        · simp at ha; omega
      · rcases List.mem_append.1 hc with hc | hc
        · exact h.pos c hc
        · rw [List.mem_singleton.1 hc]; show (1 : Int) ≤ 1; omega
      · rw [← h.exp]; simp [expand]
theorem rise_len : ∀ (l : List Int) (a N : Int), l.Pairwise (· < ·) → (∀ x ∈ l, a ≤ x ∧ x < N) → (l.length : Int) ≤ max 0 (N - a)
  | [], a, N, _, _ => by simp; omega
  | x :: r, a, N, h, hb => by
    have h1 := List.pairwise_cons.1 h
    have h2 := hb x (by simp)
    have := rise_len r (x + 1) N h1.2 (fun y hy => ⟨by have := h1.1 y hy; omega, (hb y (by simp [hy])).2⟩)
    simp only [List.length_cons]; omega
theorem totF_sum : ∀ (cs : List (Int × Int)) (n : Int), 0 ≤ n → (∀ c ∈ cs, 0 ≤ c.2) → n + sumN cs ≤ 18446744073709551615 → totF n cs = n + sumN cs
  | [], n, _, _, _ => by simp [totF, sumN]
  | c :: r, n, h0, h, hb => by
    have hc := h c (by simp)
    have hs : 0 ≤ sumN r := by
      clear hb
      induction r with
      | nil => simp [sumN]
      | cons d t ih =>
        have := ih fun x hx => h x (by simp at hx ⊢; rcases hx with hx | hx <;> simp [hx])
        have := h d (by simp)
        simp only [sumN, List.map_cons, List.sum_cons] at *; omega
    have e : sumN (c :: r) = c.2 + sumN r := by simp [sumN]
    rw [e] at hb ⊢
    have e2 : totF n (c :: r) = totF (IntKind.u64.wrap (n + c.2)) r := rfl
    rw [e2, IntWalk.u64_in _ (by omega), totF_sum r _ (by omega) (fun x hx => h x (by simp [hx])) (by omega)]; omega
end Go.Proofs.Ytpiegngjpnpohaa.Rk

namespace Go.Proofs.Ytpiegngjpnpohaa.Rk
open Go.RowKit Go.Proofs.Ytpiegngjpnpohaa.Sl
set_option linter.unusedVariables false
def ic (l : List Int) : List Value := l.map (Value.int .i64)
def SortPost (w : World) (l : List Int) (e : Ending) (w' : World) : Prop :=
  ∃ A c ys, e = .returned (.slice A l.length c) ∧ w'.ownsRow w.heap.size 2 1 (.slice A l.length c) l.length (ic ys) ∧ ys.Perm l ∧ ys.Pairwise (· ≤ ·) ∧ Below w.heap.size w w'
structure Merg (l us bs os : List Int) : Prop where
  perm : (os ++ (us ++ bs)).Perm l
  s1 : us.Pairwise (· ≤ ·)
  s2 : bs.Pairwise (· ≤ ·)
  s3 : os.Pairwise (· ≤ ·)
  le : ∀ o ∈ os, ∀ x ∈ us ++ bs, o ≤ x
theorem Merg.len {l us bs os : List Int} (h : Merg l us bs os) : os.length + us.length + bs.length = l.length := by
  have := h.perm.length_eq
  simp at this; omega
theorem pw_snoc {os : List Int} {x : Int} (h : os.Pairwise (· ≤ ·)) (hx : ∀ o ∈ os, o ≤ x) : (os ++ [x]).Pairwise (· ≤ ·) :=
  List.pairwise_append.2 ⟨h, List.pairwise_singleton _ _, fun a ha b hb => by rw [List.mem_singleton.1 hb]; exact hx a ha⟩
theorem Merg.left {l us bs os : List Int} {x y : Int} (h : Merg l (x :: us) (y :: bs) os) (hxy : x ≤ y) : Merg l us (y :: bs) (os ++ [x]) := by
  have h1 := List.pairwise_cons.1 h.s1
  have h2 := List.pairwise_cons.1 h.s2
  refine ⟨by have := h.perm; simpa using this, h1.2, h.s2, pw_snoc h.s3 (fun o ho => h.le o ho x (by simp)), fun o ho z hz => ?_⟩
  rcases List.mem_append.1 ho with ho | ho
  · exact h.le o ho z (by simp at hz ⊢; rcases hz with hz | hz | hz <;> simp [hz])
  · rw [List.mem_singleton.1 ho]
    simp at hz
    rcases hz with hz | rfl | hz
    · exact h1.1 z hz
    · exact hxy
    · have := h2.1 z hz; omega
theorem Merg.right {l us bs os : List Int} {x y : Int} (h : Merg l (x :: us) (y :: bs) os) (hxy : ¬ x ≤ y) : Merg l (x :: us) bs (os ++ [y]) := by
  have h1 := List.pairwise_cons.1 h.s1
  have h2 := List.pairwise_cons.1 h.s2
  refine ⟨?_, h.s1, h2.2, pw_snoc h.s3 (fun o ho => h.le o ho y (by simp)), fun o ho z hz => ?_⟩
  · have := h.perm
    refine List.Perm.trans ?_ this
    rw [List.append_assoc]
    refine List.Perm.append_left os ?_
    exact (List.perm_middle (a := y) (l₁ := x :: us) (l₂ := bs)).symm
  rcases List.mem_append.1 ho with ho | ho
  · exact h.le o ho z (by simp at hz ⊢; rcases hz with hz | hz | hz <;> simp [hz])
  · rw [List.mem_singleton.1 ho]
    simp at hz
    rcases hz with rfl | hz | hz
    · omega
    · have := h1.1 z hz; omega
    · exact h2.1 z hz
theorem Merg.done {l us bs os : List Int} (h : Merg l us bs os) (h0 : us = [] ∨ bs = []) : (os ++ us ++ bs).Perm l ∧ (os ++ us ++ bs).Pairwise (· ≤ ·) := by
  refine ⟨by rw [List.append_assoc]; exact h.perm, ?_⟩
  rcases h0 with rfl | rfl
  · simp only [List.append_nil]
    exact List.pairwise_append.2 ⟨h.s3, h.s2, fun a ha b hb => h.le a ha b (by simp [hb])⟩
  · simp only [List.append_nil]
    exact List.pairwise_append.2 ⟨h.s3, h.s1, fun a ha b hb => h.le a ha b (by simp [hb])⟩
def lenOf : Value → Nat
  | .slice _ n _ => n
  | _ => 0
end Go.Proofs.Ytpiegngjpnpohaa.Rk

namespace Go.Proofs.Ytpiegngjpnpohaa.Rk
open Go.RowKit Go.Proofs.Ytpiegngjpnpohaa.Sl Go.Proofs.Ytpiegngjpnpohaa.Bk
set_option linter.unusedVariables false
theorem infoCount : (Try.prog.info? 77).map (fun i => (i.zero, i.size, i.bytes)) = some (some (.agg #[.int .i64 0, .int .u64 0]), 2, 16) := by kernel_rfl
theorem flat_one (l : List (Int × Int)) : ∀ u ∈ flat l, u.oneCell' = true := by
  intro u hu
  obtain ⟨c, _, h⟩ := List.mem_flatMap.1 hu
  simp at h
  rcases h with rfl | rfl <;> rfl
theorem flat_snoc (l : List (Int × Int)) (c : Int × Int) : flat (l ++ [c]) = flat l ++ [.int .i64 c.1, .int .u64 c.2] := by simp [flat]
end Go.Proofs.Ytpiegngjpnpohaa.Rk

namespace Go.Proofs.Ytpiegngjpnpohaa.Rk
open Go.RowKit Go.Proofs.Ytpiegngjpnpohaa.Bk
set_option linter.unusedVariables false
def Left (l : List (Int × Int)) (k : Nat) (s : Int) (m : Bool) : Prop := (m = false → sumN (l.take k) + s = 9223372036854775807) ∧ (m = true → 9223372036854775807 < sumN l)
theorem Left.next {l : List (Int × Int)} {k : Nat} {s : Int} {m : Bool} (h : Left l k s m) (hk : k < l.length) (hok : ∀ c ∈ l, okC c) (hs : 0 ≤ s) : Left l (k + 1) (IntKind.u64.wrap (s - l[k].2)) (m || decide (s < l[k].2)) := by
  have h1 := sumN_snoc hk
  have h2 := sumN_take_le hok (k + 1)
  have h3 := sumN_nonneg (l := l.take k) fun c hc => hok c (List.mem_of_mem_take hc)
  have o := hok l[k] (List.getElem_mem hk)
  unfold okC at o
  refine ⟨fun e => ?_, fun e => ?_⟩
  · rw [Bool.or_eq_false_iff] at e
    have := h.1 e.1
    have e2 := of_decide_eq_false e.2
    rw [IntWalk.u64_in _ (by omega)]; omega
  · rcases Bool.or_eq_true_iff.1 e with e | e
    · exact h.2 e
    · have e2 := of_decide_eq_true e
      cases hm : m with
      | true => exact h.2 hm
      | false => have := h.1 hm; omega
end Go.Proofs.Ytpiegngjpnpohaa.Rk
