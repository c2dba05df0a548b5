/- Lemmas for the laws of this seat, laid together of RkA, RkI, DivM, Div. -/
import Derived.Test.YtpiegngjpnpohaaGreatL00
import Derived.Test.YtpiegngjpnpohaaGreatL06
import Derived.WalkSmall
import Derived.RangeFuncNested
import Derived.RangeFuncBound
import Derived.RangeFuncCalls
import Derived.RangeFuncLeaves
import Derived.Shelf.Abstract
import Derived.Shelf.RegionOpen
import Derived.WalkKit
import Derived.OwnWalkIn
import Derived.TacticsInMore
import Derived.LoopNIn
import Derived.LoopIn
import Derived.Test.YtpiegngjpnpohaaGreatChecked
import Derived.BigQuiet
import Derived.Deep.QuietTactic
import Derived.RegionTactic
import Derived.ChangeAlike
import Derived.Outline
import Derived.Lib.Hide
import Derived.LoopTactic
import Derived.IntWalk
import Derived.Lib.ItoaNum
import Derived.Deep.DeepCutAuto
import Derived.Deep.CutBlock

namespace Go.Proofs.YtpiegngjpnpohaaGreat.Rk
open Go.RowKit Go.Proofs.YtpiegngjpnpohaaGreat.Bk
set_option linter.unusedVariables false
def sumN (l : List (Int × Int)) : Int := (l.map (·.2)).sum
def chk (p : Int) : Option Int → List (Int × Int) → Int
  | _, [] => 0
  | prev, c :: r => if c.1 < 0 ∨ lenI p ≤ c.1 then 2 else if (∃ q, prev = some q ∧ c.1 ≤ q) then 15 else if c.2 = 0 then 16 else chk p (some c.1) r
def mayE (p : Int) (l : List (Int × Int)) : Int := if ¬ good p then 1 else if chk p none l ≠ 0 then chk p none l else if 9223372036854775807 < sumN l then 3 else 0
def prevOf (l : List (Int × Int)) (k : Nat) : Option Int := if k = 0 then none else (l[k - 1]?).map (·.1)
def At (p : Int) (l : List (Int × Int)) (k : Nat) : Prop := chk p none l = chk p (prevOf l k) (l.drop k)
theorem At.zero (p : Int) (l : List (Int × Int)) : At p l 0 := rfl
theorem prevOf_succ {l : List (Int × Int)} {k : Nat} (h : k < l.length) : prevOf l (k + 1) = some l[k].1 := by
  simp [prevOf, h]
theorem chk_at {p : Int} {l : List (Int × Int)} {k : Nat} (h : k < l.length) : chk p (prevOf l k) (l.drop k) =
    if l[k].1 < 0 ∨ lenI p ≤ l[k].1 then 2 else if (∃ q, prevOf l k = some q ∧ l[k].1 ≤ q) then 15 else if l[k].2 = 0 then 16 else chk p (some l[k].1) (l.drop (k + 1)) := by
  rw [List.drop_eq_getElem_cons h, chk]
theorem At.range {p : Int} {l : List (Int × Int)} {k : Nat} (ha : At p l k) (h : k < l.length) (h1 : l[k].1 < 0 ∨ lenI p ≤ l[k].1) : chk p none l = 2 := by
  rw [ha, chk_at h, if_pos h1]
theorem At.order {p : Int} {l : List (Int × Int)} {k : Nat} (ha : At p l k) (h : k < l.length) (h1 : 0 ≤ l[k].1) (h1' : l[k].1 < lenI p) (h0 : 0 < k) (h2 : l[k].1 ≤ (l[k - 1]'(by omega)).1) : chk p none l = 15 := by
  rw [ha, chk_at h, if_neg (by omega), if_pos]
  exact ⟨(l[k - 1]'(by omega)).1, by simp [prevOf, show k ≠ 0 by omega, show k - 1 < l.length by omega], h2⟩
theorem At.empty {p : Int} {l : List (Int × Int)} {k : Nat} (ha : At p l k) (h : k < l.length) (h1 : 0 ≤ l[k].1) (h1' : l[k].1 < lenI p) (h2 : ∀ h0 : 0 < k, ¬ l[k].1 ≤ (l[k - 1]'(by omega)).1) (h3 : l[k].2 = 0) : chk p none l = 16 := by
  rw [ha, chk_at h, if_neg (by omega), if_neg, if_pos h3]
  rintro ⟨q, hq, hle⟩
  unfold prevOf at hq
  by_cases h0 : k = 0
  · simp [h0] at hq
  · rw [if_neg h0, List.getElem?_eq_getElem (by omega)] at hq
    simp at hq
    exact h2 (by omega) (by omega)
theorem At.next {p : Int} {l : List (Int × Int)} {k : Nat} (ha : At p l k) (h : k < l.length) (h1 : 0 ≤ l[k].1) (h1' : l[k].1 < lenI p) (h2 : ∀ h0 : 0 < k, ¬ l[k].1 ≤ (l[k - 1]'(by omega)).1) (h3 : l[k].2 ≠ 0) : At p l (k + 1) := by
  unfold At
  rw [ha, chk_at h, if_neg (by omega), if_neg, if_neg h3, prevOf_succ h]
  rintro ⟨q, hq, hle⟩
  unfold prevOf at hq
  by_cases h0 : k = 0
  · simp [h0] at hq
  · rw [if_neg h0, List.getElem?_eq_getElem (by omega)] at hq
    simp at hq
    exact h2 (by omega) (by omega)
theorem At.done {p : Int} {l : List (Int × Int)} {k : Nat} (ha : At p l k) (h : l.length ≤ k) : chk p none l = 0 := by
  rw [ha, List.drop_of_length_le h]; unfold chk; rfl
theorem sumN_snoc {l : List (Int × Int)} {k : Nat} (h : k < l.length) : sumN (l.take (k + 1)) = sumN (l.take k) + l[k].2 := by
  rw [take_snoc h, sumN, List.map_append, List.sum_append]; simp [sumN]
theorem sumN_nonneg {l : List (Int × Int)} (h : ∀ c ∈ l, okC c) : 0 ≤ sumN l := by
  induction l with
  | nil => simp [sumN]
  | cons c r ih =>
    have := ih fun x hx => h x (List.mem_cons_of_mem _ hx)
    have h2 := h c (List.mem_cons_self ..)
    unfold okC at h2
    simp only [sumN, List.map_cons, List.sum_cons] at this ⊢; omega
theorem sumN_take_le {l : List (Int × Int)} (h : ∀ c ∈ l, okC c) (k : Nat) : sumN (l.take k) ≤ sumN l := by
  have e : sumN l = sumN (l.take k) + sumN (l.drop k) := by
    rw [sumN, sumN, sumN, ← List.sum_append, ← List.map_append, List.take_append_drop]
  have := sumN_nonneg (l := l.drop k) fun c hc => h c (List.mem_of_mem_drop hc)
  omega
theorem lenI_rng (p : Int) : 0 ≤ lenI p ∧ lenI p ≤ 1048576 := by
  unfold lenI
  by_cases h : good p
  · rw [if_pos h]
    have := size14 (n := p.toNat) (by have := h.2; omega)
    omega
  · rw [if_neg h]; omega
theorem lenI_ge {p : Int} (h : good p) : 2 ≤ lenI p := by
  obtain ⟨h1, h2⟩ := id h
  have := Nat.mul_le_mul (show 2 ≤ 64 - p.toNat by omega) (BkM.pow_pos' p.toNat)
  rw [lenI, if_pos h]; omega
theorem may_bad (w : World) (p : Int) (l : List (Int × Int)) (A : Option Addr) (cap : Nat) (hp : ¬ good p) :
    Calls Tryz.prog 118 #[.int .i64 p, .slice A l.length cap] w fun e w' => e = .returned (.int .i64 (mayE p l)) ∧ Below w.heap.size w w' := by
  have c := length_any p
  have e : lenI p = 0 := by simp [lenI, hp]
  rw [e] at c
  have e1 : mayE p l = 1 := by rw [mayE, if_pos hp]
  replace e1 := Lib.hid e1
  clear e
  go_enter Tryz.func118, Tryz.ntmps118
  go_wp2_with (first | (go_at_call 171; refine (c _).mono ?_; rintro e w' ⟨rfl, rfl⟩))
  go_ret
  exact ⟨ret_int e1.out.symm, Below.refl _ _⟩
set_option maxRecDepth 100000 in
set_option maxHeartbeats 1000000 in
theorem may_good (w : World) (B : Nat) (p : Int) (l : List (Int × Int)) (A : Option Addr) (cap : Nat) (hp : good p) (h : Cs w B A l) (hB : B ≤ w.heap.size) :
    Calls Tryz.prog 118 #[.int .i64 p, .slice A l.length cap] w fun e w' => e = .returned (.int .i64 (mayE p l)) ∧ Below w.heap.size w w' := by
  have hl := h.len
  unfold maxLen at hl
  have c := length_any p
  have n0 := lenI_ge hp
  have n1 := lenI_rng p
  obtain ⟨_, n1⟩ := n1
  have n2 : (lenI p == 0) = false := beq_eq_false_iff_ne.2 (by omega)
  have em : mayE p l = if chk p none l ≠ 0 then chk p none l else if 9223372036854775807 < sumN l then 3 else 0 := by rw [mayE, if_neg (by simpa using hp)]
  replace em := Lib.hid em
  replace hp := Lib.hid hp
  generalize hN : lenI p = N at *
  replace hN := Lib.hid hN
  go_enter Tryz.func118, Tryz.ntmps118
  go_wp2_with (first | (go_at_call 171; refine (c _).mono ?_; rintro e w' ⟨rfl, rfl⟩))
  go_loopw [17] (fun i wr => ∃ k : Nat, k ≤ l.length ∧ i = .int .i64 k ∧ At p l k ∧ Below w.heap.size w wr) (fun i _ => l.length - (intOf i).toNat)
  case atStart => exact ⟨0, Nat.zero_le _, rfl, At.zero _ _, Below.refl _ _⟩
  case round =>
    obtain ⟨k, hk, rfl, ha, hb⟩ := hrel
    replace ha := Lib.hid ha
    by_cases hlt : k < l.length
    · obtain ⟨b, off, rfl, hbB, hc⟩ := (h.below (hb.mono hB)).cells (by omega)
      obtain ⟨h1, h2⟩ := hc k l[k] (List.getElem?_eq_getElem hlt)
      have hok := h.ok l[k] (List.getElem_mem hlt)
      obtain ⟨o1, o2, o3, o4⟩ := hok
      by_cases r1 : l[k].1 < 0
      · have e := ha.out.range hlt (by omega)
        replace e := Lib.hid e
        clear hc
        go_wp2
        go_ret
        exact ⟨ret_int (by rw [em.out, e.out]; rfl), hb.alloc hb.size _⟩
      by_cases r2 : N ≤ l[k].1
      · have e := ha.out.range hlt (by rw [hN.out]; omega)
        replace e := Lib.hid e
        clear hc
        go_wp2
        go_ret
        exact ⟨ret_int (by rw [em.out, e.out]; rfl), hb.alloc hb.size _⟩
      have hks : k = 0 ∨ 0 < k := Nat.eq_zero_or_pos k
      have hq : 0 < k → ∃ q : Int × Int, l[k - 1]? = some q ∧ wr.cell? ⟨b, off + (k - 1) * 2, none⟩ = some (.int .i64 q.1) ∧ (l[k].1 ≤ q.1 → chk p none l = 15) ∧ (¬ l[k].1 ≤ q.1 → (l[k].2 = 0 → chk p none l = 16) ∧ (l[k].2 ≠ 0 → At p l (k + 1))) := fun h0 => by
        have hx : k - 1 < l.length := by omega
        refine ⟨l[k - 1], List.getElem?_eq_getElem hx, (hc (k - 1) _ (List.getElem?_eq_getElem hx)).1, fun hle => ha.out.order hlt (by omega) (by rw [hN.out]; omega) h0 hle, fun hn => ⟨fun h3 => ha.out.empty hlt (by omega) (by rw [hN.out]; omega) (fun _ => hn) h3, fun h3 => ha.out.next hlt (by omega) (by rw [hN.out]; omega) (fun _ => hn) h3⟩⟩
      have hz : k = 0 → (l[k].2 = 0 → chk p none l = 16) ∧ (l[k].2 ≠ 0 → At p l (k + 1)) := fun h0 =>
        ⟨fun h3 => ha.out.empty hlt (by omega) (by rw [hN.out]; omega) (fun h => absurd h (by omega)) h3, fun h3 => ha.out.next hlt (by omega) (by rw [hN.out]; omega) (fun h => absurd h (by omega)) h3⟩
      clear hc
      generalize l[k] = x at *
      obtain ⟨x1, x2⟩ := x
      simp only at h1 h2 o1 o2 o3 o4 r1 r2 hq hz
      rcases hks with hk0 | hk0
      · obtain ⟨hz1, hz2⟩ := hz hk0
        have hk0' : decide ((0 : Int) < (k : Int)) = false := decide_eq_false (by omega)
        have hk0'' : decide (0 < k) = false := decide_eq_false (by omega)
        clear hz hq hk0
        by_cases r3 : x2 = 0
        · have e := hz1 r3
          replace e := Lib.hid e
          have r3' : ((x2 : Int) == 0) = true := beq_iff_eq.2 r3
          clear r3 hz1 hz2
          go_wp2
          go_quiet (fail)
          go_wp2
          go_ret
          exact ⟨ret_int (by rw [em.out, e.out]; rfl), below_drewN (hb.alloc hb.size _) _⟩
        · have e := hz2 r3
          replace e := Lib.hid e
          have r3' : ((x2 : Int) == 0) = false := beq_eq_false_iff_ne.2 r3
          clear r3 hz1 hz2
          go_wp2
          go_quiet (fail)
          go_wp2
          exact ⟨⟨k + 1, by omega, by go_num, e.out, below_drewN (hb.alloc hb.size _) _⟩, by simp [intOf]; omega⟩
      · obtain ⟨⟨q1, q2⟩, hq1, hq2, hq3, hq4⟩ := hq hk0
        simp only at hq2 hq3 hq4
        have hk0' : decide ((0 : Int) < (k : Int)) = true := decide_eq_true (by omega)
        have hk0'' : decide (0 < k) = true := decide_eq_true (by omega)
        have hk1 : k - 1 < l.length := by omega
        have hbs : b < wr.heap.size := by have := hb.size; omega
        have hq2' : ∀ o : Obj, (wr.alloc o).cell? ⟨b, off + (k - 1) * 2, none⟩ = some (.int .i64 q1) := fun o => (World.cell?_alloc_lt wr o ⟨b, off + (k - 1) * 2, none⟩ hbs).trans hq2
        have w1 : IntKind.i64.wrap ((k : Int) - 1) = (k : Int) - 1 := IntWalk.i64_in _ (by omega)
        have w2 : (0 : Int) ≤ (k : Int) - 1 := by omega
        have w3 : ((k : Int) - 1).toNat = k - 1 := by omega
        have w4 : (k : Int) - 1 < (l.length : Int) := by omega
        clear hz hq hq1
        by_cases hle : x1 ≤ q1
        · have e := hq3 hle
          replace e := Lib.hid e
          clear hq3 hq4
          go_wp2
          go_quiet (fail)
          go_wp2
          go_ret
          exact ⟨ret_int (by rw [em.out, e.out]; rfl), below_drewN (hb.alloc hb.size _) _⟩
        · obtain ⟨hz1, hz2⟩ := hq4 hle
          clear hq3 hq4
          by_cases r3 : x2 = 0
          · have e := hz1 r3
            replace e := Lib.hid e
            have r3' : ((x2 : Int) == 0) = true := beq_iff_eq.2 r3
            clear r3 hz1 hz2
            go_wp2
            go_quiet (fail)
            go_wp2
            go_ret
            exact ⟨ret_int (by rw [em.out, e.out]; rfl), below_drewN (hb.alloc hb.size _) _⟩
          · have e := hz2 r3
            replace e := Lib.hid e
            have r3' : ((x2 : Int) == 0) = false := beq_eq_false_iff_ne.2 r3
            clear r3 hz1 hz2
            go_wp2
            go_quiet (fail)
            go_wp2
            exact ⟨⟨k + 1, by omega, by go_num, e.out, below_drewN (hb.alloc hb.size _) _⟩, by simp [intOf]; omega⟩
    · have e := ha.out.done (by omega)
      rw [e] at em
      replace em : mayE p l = if 9223372036854775807 < sumN l then 3 else 0 := em.out
      replace em := Lib.hid em
      replace e := Lib.hid e
      have hsn := sumN_nonneg h.ok
      replace hsn := Lib.hid hsn
      go_wp2_with fail
      go_loopw [8, 53] (fun r i wr => ∃ (k : Nat) (s : Int), k ≤ l.length ∧ i = .int .i64 k ∧ r = .int .u64 s ∧ 0 ≤ s ∧ s ≤ 9223372036854775807 ∧ Hid (sumN (l.take k) + s = 9223372036854775807) ∧ Below w.heap.size w wr) (fun _ i _ => l.length - (intOf i).toNat)
      case atStart => exact ⟨0, 9223372036854775807, Nat.zero_le _, rfl, rfl, by omega, by omega, by rw [List.take_zero]; exact rfl, hb⟩
      case round =>
        clear hk ha hb hlt
        obtain ⟨k, s, hk, rfl, rfl, s1, s2, s3, hb⟩ := hrel
        by_cases hlt : k < l.length
        · obtain ⟨b, off, rfl, hbB, hc⟩ := (h.below (hb.mono hB)).cells (by omega)
          obtain ⟨h1, h2⟩ := hc k l[k] (List.getElem?_eq_getElem hlt)
          have hok := h.ok l[k] (List.getElem_mem hlt)
          have hsn1 := sumN_snoc hlt
          have hsn2 := sumN_take_le h.ok (k + 1)
          clear hc
          generalize l[k] = x at *
          obtain ⟨x1, x2⟩ := x
          obtain ⟨o1, o2, o3, o4⟩ := hok
          simp only at h1 h2 o1 o2 o3 o4 hsn1
          by_cases hx : s < x2
          · have e3 : 9223372036854775807 < sumN l := by have := s3.out; omega
            replace e3 := Lib.hid e3
            replace hsn1 := Lib.hid hsn1; replace hsn2 := Lib.hid hsn2
            go_wp2
            go_ret
            exact ⟨ret_int (by rw [em.out, if_pos e3.out]), hb.alloc hb.size _⟩
          · have e4 : Hid (sumN (l.take (k + 1)) + (s - x2) = 9223372036854775807) := by have := s3.out; show _ = _; omega
            have e5 : 0 ≤ s - x2 := by omega
            replace hsn1 := Lib.hid hsn1; replace hsn2 := Lib.hid hsn2
            go_wp2
            exact ⟨⟨k + 1, s - x2, by omega, by go_num, rfl, by omega, by omega, e4, hb.alloc hb.size _⟩, by simp [intOf]; omega⟩
        · have e3 : ¬ 9223372036854775807 < sumN l := by
            have := s3.out
            rw [List.take_of_length_le (by omega)] at this; omega
          replace e3 := Lib.hid e3
          go_wp2
          go_ret
          exact ⟨ret_int (by rw [em.out, if_neg (by have := e3.out; omega)]), hb⟩
theorem may_any (w : World) (B : Nat) (p : Int) (l : List (Int × Int)) (A : Option Addr) (cap : Nat) (h : Cs w B A l) (hB : B ≤ w.heap.size) :
    Calls Tryz.prog 118 #[.int .i64 p, .slice A l.length cap] w fun e w' => e = .returned (.int .i64 (mayE p l)) ∧ Below w.heap.size w w' := by
  by_cases hp : good p
  · exact may_good w B p l A cap hp h hB
  · exact may_bad w p l A cap hp
def atmF (p v n : Int) (l : List (Int × Int)) : Int := l.foldl (fun n c => if higI p c.1 ≤ v then IntKind.u64.wrap (n + c.2) else n) n
def atmI (p v : Int) (l : List (Int × Int)) : Int := if mayE p l = 0 then atmF p v 0 l else 0
end Go.Proofs.YtpiegngjpnpohaaGreat.Rk

namespace Go.Proofs.YtpiegngjpnpohaaGreat.Rk
open Go.RowKit
set_option linter.unusedVariables false
attribute [local go_sem] Oper.semAt_some
def stp (Bn : Nat) (A B : World) : Prop := (∃ o, B = A.alloc o) ∨ (∃ v, B = A.setCell ⟨Bn, 0, none⟩ v)
def kpt (h Bl Bn : Nat) (A B : World) : Prop := ∀ k, (k < h ∨ k = Bl ∨ k = Bn) → B.heap[k]? = A.heap[k]?
theorem kpt.cell {h Bl Bn : Nat} {A B : World} (hk : kpt h Bl Bn A B) {b o : Nat} (hb : b < h ∨ b = Bl ∨ b = Bn) : B.cell? ⟨b, o, none⟩ = A.cell? ⟨b, o, none⟩ := World.cell?_of_block (hk b hb)
theorem Cs.kpt {h Bl Bn : Nat} {A B : World} {a : Option Addr} {l : List (Int × Int)} (hc : Cs A h a l) (hk : kpt h Bl Bn A B) : Cs B h a l :=
  ⟨hc.len, hc.ok, fun hl => by
    obtain ⟨b, off, e, hB, hcc⟩ := hc.cells hl
    exact ⟨b, off, e, hB, fun i c hi => ⟨(hk.cell (.inl hB)).trans (hcc i c hi).1, (hk.cell (.inl hB)).trans (hcc i c hi).2⟩⟩⟩
theorem stp_below {B Bn : Nat} {w X Y : World} (h : Below B w X) (hs : stp Bn X Y) (hB : B ≤ Bn) (hX : B ≤ X.heap.size) : Below B w Y := by
  rcases hs with ⟨o, rfl⟩ | ⟨v, rfl⟩
  · exact h.alloc hX o
  · exact h.setCell (p := ⟨Bn, 0, none⟩) hB v
theorem stp_boxed {b Bn : Nat} {X Y : World} {t : TypeId} {u : Value} (h : Boxed X b t u) (hs : stp Bn X Y) (hne : b ≠ Bn) : Boxed Y b t u := by
  rcases hs with ⟨o, rfl⟩ | ⟨v, rfl⟩
  · exact h.alloc o
  · exact h.other hne v
structure IAt (w : World) (pre : List ((Int × Int) × Int)) (W : World) : Prop where
  no : ∀ x ∈ pre, x.2 ≠ 0
  b4 : Boxed W w.heap.size 3 (.int .i64 0)
  b5 : Boxed W (w.heap.size + 1) 26 (.int .i64 0)
  bel : Below w.heap.size w W
  sz : w.heap.size + 4 ≤ W.heap.size
structure IxAt (w : World) (c : Code) (pre : List ((Int × Int) × Int)) (W : World) : Prop where
  ret : c = .ret
  ex : ∃ (pr : List ((Int × Int) × Int)) (x : (Int × Int) × Int), pre = pr ++ [x] ∧ x.2 = 0 ∧ (∀ y ∈ pr, y.2 ≠ 0) ∧ Boxed W w.heap.size 3 (.int .i64 x.1.1)
  b5 : Boxed W (w.heap.size + 1) 26 (.int .i64 0)
  bel : Below w.heap.size w W
theorem IAt.own (w : World) {B : Nat} (hB : w.heap.size ≤ B) : OwnFrom B (IAt w) := fun s X Y row hs hg hr =>
  ⟨hs.no, Own.from (boxed_own w.heap.size 3 (fun (_ : Unit) => Value.int .i64 0)) B () X Y row hs.b4 hg hr, Own.from (boxed_own (w.heap.size + 1) 26 (fun (_ : Unit) => Value.int .i64 0)) B () X Y row hs.b5 hg hr,
    ownFrom_below (β := Unit) (Nat.le_refl _) hB () X Y row hs.bel hg hr, Nat.le_trans hs.sz hg.size⟩
theorem IxAt.own (w : World) {B : Nat} (hB : w.heap.size ≤ B) (c : Code) : OwnFrom B (IxAt w c) := fun s X Y row hs hg hr =>
  ⟨hs.ret, by
    obtain ⟨pr, x, e1, e2, e3, e4⟩ := hs.ex
    exact ⟨pr, x, e1, e2, e3, Own.from (boxed_own w.heap.size 3 (fun (_ : Unit) => Value.int .i64 x.1.1)) B () X Y row e4 hg hr⟩, Own.from (boxed_own (w.heap.size + 1) 26 (fun (_ : Unit) => Value.int .i64 0)) B () X Y row hs.b5 hg hr,
    ownFrom_below (β := Unit) (Nat.le_refl _) hB () X Y row hs.bel hg hr⟩
theorem IAt.stp {w : World} {s : List ((Int × Int) × Int)} {X Y : World} (hi : IAt w s X) (hs : stp (w.heap.size + 1 + 1 + 1) X Y) : IAt w s Y :=
  ⟨hi.no, stp_boxed hi.b4 hs (by omega), stp_boxed hi.b5 hs (by omega), stp_below hi.bel hs (by omega) hi.bel.size, by
    have := hi.sz
    rcases hs with ⟨o, rfl⟩ | ⟨v, rfl⟩
    · simp; omega
    · simp [World.setCell]; omega⟩
theorem IxAt.stp {w : World} {c : Code} {s : List ((Int × Int) × Int)} {X Y : World} (hi : IxAt w c s X) (hs : Rk.stp (w.heap.size + 1 + 1 + 1) X Y) : IxAt w c s Y :=
  ⟨hi.ret, by
    obtain ⟨pr, x, e1, e2, e3, e4⟩ := hi.ex
    exact ⟨pr, x, e1, e2, e3, stp_boxed e4 hs (by omega)⟩, stp_boxed hi.b5 hs (by omega), stp_below hi.bel hs (by omega) hi.bel.size⟩
end Go.Proofs.YtpiegngjpnpohaaGreat.Rk

namespace Go.Proofs.YtpiegngjpnpohaaGreat.DivM
set_option linter.unusedVariables false
structure Inv (B y1 y0 u32 u1 qh rh : Nat) : Prop where
  sum : qh * y1 + rh = u32
  ge : (u32 * B + u1) / (y1 * B + y0) ≤ qh
theorem quo_lt {B y1 y0 u32 u1 : Nat} (hu : u32 < y1 * B + y0) (h1 : u1 < B) : (u32 * B + u1) / (y1 * B + y0) < B := by
  rw [Nat.div_lt_iff_lt_mul (by omega)]
  have : (u32 + 1) * B ≤ (y1 * B + y0) * B := Nat.mul_le_mul_right _ (by omega)
  rw [Nat.add_mul, Nat.one_mul] at this
  rw [Nat.mul_comm B]; omega
theorem inv_start {B y1 y0 u32 u1 : Nat} (hy1 : 0 < y1) (h1 : u1 < B) (hB : 0 < B) : Inv B y1 y0 u32 u1 (u32 / y1) (u32 - u32 / y1 * y1) := by
  have hd := Nat.div_add_mod u32 y1
  rw [Nat.mul_comm] at hd
  refine ⟨by omega, ?_⟩
  have h2 : (u32 * B + u1) / (y1 * B + y0) ≤ (u32 * B + u1) / (y1 * B) := Nat.div_le_div_left (by omega) (Nat.mul_pos hy1 hB)
  have h3 : (u32 * B + u1) / (y1 * B) = u32 / y1 := by
    rw [Nat.mul_comm y1 B, ← Nat.div_div_eq_div_mul, Nat.mul_comm u32 B, Nat.mul_add_div hB, Nat.div_eq_of_lt h1, Nat.add_zero]
  omega
theorem inv_next {B y1 y0 u32 u1 qh rh : Nat} (h : Inv B y1 y0 u32 u1 qh rh) (hu : u32 < y1 * B + y0) (h1 : u1 < B) (ht : B ≤ qh ∨ B * rh + u1 < qh * y0) : 0 < qh ∧ Inv B y1 y0 u32 u1 (qh - 1) (rh + y1) := by
  have hq := quo_lt hu h1
  have hgt : (u32 * B + u1) / (y1 * B + y0) < qh := by
    rcases ht with ht | ht
    · omega
    · rw [Nat.div_lt_iff_lt_mul (by omega), Nat.mul_add, ← Nat.mul_assoc, ← h.sum, Nat.add_mul]
      rw [Nat.mul_comm B] at ht; omega
  have hpos : 0 < qh := Nat.lt_of_le_of_lt (Nat.zero_le _) hgt
  refine ⟨hpos, ?_, Nat.le_sub_one_of_lt hgt⟩
  obtain ⟨k, rfl⟩ : ∃ k, qh = k + 1 := ⟨qh - 1, by omega⟩
  have := h.sum
  rw [Nat.add_mul, Nat.one_mul] at this
  simp; omega
theorem inv_end {B y1 y0 u32 u1 qh rh : Nat} (h : Inv B y1 y0 u32 u1 qh rh) (hy : 0 < y1 * B + y0) (ht : qh * y0 ≤ B * rh + u1) : qh = (u32 * B + u1) / (y1 * B + y0) := by
  have : qh ≤ (u32 * B + u1) / (y1 * B + y0) := by
    rw [Nat.le_div_iff_mul_le hy, Nat.mul_add, ← Nat.mul_assoc, ← h.sum, Nat.add_mul]
    rw [Nat.mul_comm B] at ht; omega
  have := h.ge
  omega
theorem inv_break {B y1 y0 u32 u1 qh rh : Nat} (h : Inv B y1 y0 u32 u1 qh rh) (hy1 : 0 < y1) (hy0 : y0 < B) (hu : u32 < y1 * B + y0) (hr : B ≤ rh) : qh < B ∧ qh = (u32 * B + u1) / (y1 * B + y0) := by
  have hs := h.sum
  have hqB : qh < B := by
    apply Classical.byContradiction; intro hn
    have : B * y1 ≤ qh * y1 := Nat.mul_le_mul_right _ (by omega)
    rw [Nat.mul_comm B] at this; omega
  refine ⟨hqB, inv_end h (by have := Nat.mul_pos hy1 (show 0 < B by omega); omega) ?_⟩
  have a : qh * y0 ≤ B * B := Nat.mul_le_mul (by omega) (by omega)
  have b : B * B ≤ B * rh := Nat.mul_le_mul_left _ hr
  omega
theorem qh_le {B y1 y0 u32 u1 qh rh : Nat} (h : Inv B y1 y0 u32 u1 qh rh) (hy1 : B ≤ 2 * y1) (hy0 : y0 < B) (hB : 1 < B) (hu : u32 < y1 * B + y0) : qh ≤ B + 1 := by
  have hs := h.sum
  apply Classical.byContradiction; intro hn
  have : (B + 2) * y1 ≤ qh * y1 := Nat.mul_le_mul_right _ (by omega)
  rw [Nat.add_mul, Nat.mul_comm B] at this; omega
theorem two_steps {B y U u1 u0 : Nat} (hy : 0 < y) (hB : 0 < B) (h0 : u0 < B) :
    ((U * B + u1) * B + u0) / y = (U * B + u1) / y * B + ((U * B + u1) % y * B + u0) / y ∧ ((U * B + u1) * B + u0) % y = ((U * B + u1) % y * B + u0) % y := by
  have hd := Nat.div_add_mod (U * B + u1) y
  generalize (U * B + u1) = X at *
  have e : X * B + u0 = y * (X / y * B) + (X % y * B + u0) := by
    calc X * B + u0 = (y * (X / y) + X % y) * B + u0 := by rw [hd]
      _ = y * (X / y * B) + (X % y * B + u0) := by rw [Nat.add_mul, Nat.mul_assoc, Nat.add_assoc]
  constructor
  · rw [e, Nat.mul_add_div hy]
  · rw [e, Nat.mul_add_mod]
end Go.Proofs.YtpiegngjpnpohaaGreat.DivM

namespace Go.Proofs.YtpiegngjpnpohaaGreat.Div
open Go.RowKit Go.Proofs.YtpiegngjpnpohaaGreat.DivM
set_option linter.unusedVariables false
theorem lz_any (y s : Nat) (hs : Lib.bitLen y + s = 64) (hy : y ≤ 18446744073709551615) (w : World) :
    Calls Tryz.prog 180 #[.int .u64 y] w fun e w' => e = .returned (.int .i64 (s : Int)) ∧ w = w' :=
  (Tryz.bits_LeadingZeros64 (y : Int) w (by omega) (by omega)).mono fun e w' ⟨he, hw⟩ => by
    refine ⟨?_, hw.symm⟩
    rw [he]; congr 2; rw [Int.toNat_natCast]; omega
theorem div64_zero (lo y : Nat) (h0 : 0 < y) (hy : y ≤ 18446744073709551615) (hlo : lo ≤ 18446744073709551615) (w : World) :
    Calls Tryz.prog 199 #[.int .u64 0, .int .u64 lo, .int .u64 y] w fun e w' => e = .returned (.tuple #[.int .u64 ((lo / y : Nat) : Int), .int .u64 ((lo % y : Nat) : Int)]) ∧ ∃ n, w' = w.drewN n := by
  have h1 : (1 : Int) ≤ (y : Int) := by omega
  have h2 : ((y : Int) == 0) = false := beq_eq_false_iff_ne.2 (by omega)
  have h3 : ¬ y = 0 := by omega
  go_enter Tryz.func199, Tryz.ntmps199
  go_wp2
  go_quiet (fail)
  go_wp2
  go_ret2
  refine ⟨?_, _, rfl⟩
  have e : IntKind.u64.wrap ((lo : Int) / y) = (lo : Int) / y := by
    have := Nat.div_le_self lo y
    have e : (lo : Int) / y = ((lo / y : Nat) : Int) := by simp
    rw [e]; generalize lo / y = q at *
    exact IntWalk.u64_in _ (by omega)
  simp [e]
structure Nums (hi lo y s Y y1 y0 U z u1 u0 : Nat) : Prop where
  n1 : Y = y * 2 ^ s
  n2 : Y = y1 * 4294967296 + y0
  n3 : y0 < 4294967296
  n4 : 4294967296 ≤ 2 * y1
  n5 : y1 < 4294967296
  n6 : z = u1 * 4294967296 + u0
  n7 : u1 < 4294967296
  n8 : u0 < 4294967296
  n9 : (hi * 18446744073709551616 + lo) * 2 ^ s = (U * 4294967296 + u1) * 4294967296 + u0
  n10 : U < Y
theorem nums_of {hi lo y s : Nat} (h0 : 0 < hi) (hh : hi < y) (hy : y ≤ 18446744073709551615) (hlo : lo ≤ 18446744073709551615) (hs : Lib.bitLen y + s = 64) (hs63 : s ≤ 63) :
    ∃ Y y1 y0 U z u1 u0 : Nat, Nums hi lo y s Y y1 y0 U z u1 u0 ∧ IntKind.u64.wrap ((y : Int) * 2 ^ s) = (Y : Int) ∧ (Y : Int) / 4294967296 = (y1 : Int) ∧ bits BinOp.and IntKind.u64 (Y : Int) 4294967295 = (y0 : Int) ∧
      bits BinOp.or IntKind.u64 (IntKind.u64.wrap ((hi : Int) * 2 ^ s)) ((lo : Int) / 2 ^ (64 - s)) = (U : Int) ∧ IntKind.u64.wrap ((lo : Int) * 2 ^ s) = (z : Int) ∧ (z : Int) / 4294967296 = (u1 : Int) ∧ bits BinOp.and IntKind.u64 (z : Int) 4294967295 = (u0 : Int) := by
  have hP : 0 < 2 ^ s := Nat.pow_pos (by decide)
  have hl := (Lib.bitLenAux_bounds 64 y (by omega) (by omega))
  have e0 : Lib.bitLenAux 64 y = Lib.bitLen y := rfl
  rw [e0] at hl
  obtain ⟨l1, l2, l3⟩ := hl
  have hY1 : 9223372036854775808 ≤ y * 2 ^ s := by
    have : 2 ^ (Lib.bitLen y - 1) * 2 ^ s ≤ y * 2 ^ s := Nat.mul_le_mul_right _ l2
    rw [← Nat.pow_add, show Lib.bitLen y - 1 + s = 63 by omega] at this; exact this
  have hY2 : y * 2 ^ s < 18446744073709551616 := by
    have : y * 2 ^ s < 2 ^ Lib.bitLen y * 2 ^ s := Nat.mul_lt_mul_of_pos_right l3 hP
    rw [← Nat.pow_add, show Lib.bitLen y + s = 64 by omega] at this; exact this
  have hH : hi * 2 ^ s + 2 ^ s ≤ y * 2 ^ s := by
    have : (hi + 1) * 2 ^ s ≤ y * 2 ^ s := Nat.mul_le_mul_right _ hh
    rw [Nat.add_mul, Nat.one_mul] at this; exact this
  have hT : 2 ^ s * 2 ^ (64 - s) = 18446744073709551616 := by rw [← Nat.pow_add, show s + (64 - s) = 64 by omega]
  have hT0 : 0 < 2 ^ (64 - s) := Nat.pow_pos (by decide)
  have hL : lo / 2 ^ (64 - s) < 2 ^ s := by rw [Nat.div_lt_iff_lt_mul hT0, hT]; omega
  have hLo : lo * 2 ^ s = lo / 2 ^ (64 - s) * 18446744073709551616 + lo * 2 ^ s % 18446744073709551616 := by
    have : lo * 2 ^ s / 18446744073709551616 = lo / 2 ^ (64 - s) := by
      rw [← hT, Nat.mul_comm lo, Nat.mul_div_mul_left _ _ hP]
    rw [← this]; exact (Nat.div_add_mod' _ _).symm
  have hz : lo * 2 ^ s % 18446744073709551616 < 18446744073709551616 := Nat.mod_lt _ (by decide)
  have hV : (hi * 18446744073709551616 + lo) * 2 ^ s = hi * 2 ^ s * 18446744073709551616 + lo * 2 ^ s := by
    rw [Nat.add_mul, Nat.mul_right_comm]
  have hor : hi * 2 ^ s ||| lo / 2 ^ (64 - s) = hi * 2 ^ s + lo / 2 ^ (64 - s) := by
    rw [Nat.mul_comm hi]; exact (Nat.two_pow_add_eq_or_of_lt hL hi).symm
  have c1 : (y : Int) * 2 ^ s = ((y * 2 ^ s : Nat) : Int) := by rw [Int.natCast_mul]; simp
  have c2 : (hi : Int) * 2 ^ s = ((hi * 2 ^ s : Nat) : Int) := by rw [Int.natCast_mul]; simp
  have c3 : (lo : Int) * 2 ^ s = ((lo * 2 ^ s : Nat) : Int) := by rw [Int.natCast_mul]; simp
  have c4 : (lo : Int) / 2 ^ (64 - s) = ((lo / 2 ^ (64 - s) : Nat) : Int) := by simp
  rw [c1, c2, c3, c4]
  clear c1 c2 c3 c4 hT hT0 e0 l1 l2 l3 hs
  obtain ⟨a, ha⟩ : ∃ a, a = y * 2 ^ s := ⟨_, rfl⟩
  obtain ⟨b, hb⟩ : ∃ b, b = hi * 2 ^ s := ⟨_, rfl⟩
  obtain ⟨c, hc⟩ : ∃ c, c = lo / 2 ^ (64 - s) := ⟨_, rfl⟩
  obtain ⟨d, hd⟩ : ∃ d, d = lo * 2 ^ s := ⟨_, rfl⟩
  obtain ⟨z, hzz⟩ : ∃ z, z = d % 18446744073709551616 := ⟨_, rfl⟩
  rw [← ha] at hY1 hY2 hH
  rw [← hb] at hH hV hor
  rw [← hc] at hL hLo hor
  rw [← hd] at hLo hz hV
  rw [← hzz] at hLo hz
  rw [← ha, ← hb, ← hc, ← hd]
  refine ⟨a, a / 4294967296, a % 4294967296, b + c, z, z / 4294967296, z % 4294967296, ⟨ha, by omega, by omega, by omega, by omega, by omega, by omega, by omega, by rw [hV, hLo]; omega, by omega⟩, ?_, ?_, ?_, ?_, ?_, ?_, ?_⟩
  · exact IntWalk.u64_in _ (by omega)
  · omega
  · rw [and_low32 _ (by omega) (by omega)]; omega
  · rw [IntWalk.u64_in _ (by omega), u64_or_nat _ _ (by omega) (by omega), hor]
  · rw [IntKind.wrap_u64]; omega
  · omega
  · rw [and_low32 _ (by omega) (by omega)]; omega
theorem step_wrap {q y0 : Nat} (h1 : q ≤ 4294967297) (h2 : y0 < 4294967296) : IntKind.u64.wrap ((q : Int) * y0) = ((q * y0 : Nat) : Int) := by
  have : q * y0 ≤ 4294967297 * 4294967295 := Nat.mul_le_mul h1 (by omega)
  rw [← Int.natCast_mul]; exact IntWalk.u64_in _ (by omega)
theorem start_wrap {U y1 : Nat} (h1 : 1 ≤ y1) (hU : U ≤ 18446744073709551615) : ∃ q r p : Nat, q = U / y1 ∧ r = U - U / y1 * y1 ∧ r < y1 ∧
    IntKind.u64.wrap ((U : Int).tdiv y1) = (q : Int) ∧ IntKind.u64.wrap ((U : Int) / y1) = (q : Int) ∧ IntKind.u64.wrap ((q : Int) * y1) = (p : Int) ∧ IntKind.u64.wrap ((U : Int) - p) = (r : Int) := by
  have hd := Nat.div_add_mod U y1
  have hm := Nat.mod_lt U (show 0 < y1 by omega)
  rw [Nat.mul_comm] at hd
  have hl : U / y1 ≤ U := Nat.div_le_self _ _
  refine ⟨U / y1, U - U / y1 * y1, U / y1 * y1, rfl, rfl, by omega, ?_, ?_, ?_, ?_⟩
  · have e : (U : Int).tdiv y1 = ((U / y1 : Nat) : Int) := by rw [Int.tdiv_eq_ediv_of_nonneg (by omega)]; simp
    rw [e]; generalize U / y1 = q at *; exact IntWalk.u64_in _ (by omega)
  · have e : (U : Int) / y1 = ((U / y1 : Nat) : Int) := by simp
    rw [e]; generalize U / y1 = q at *; exact IntWalk.u64_in _ (by omega)
  · rw [← Int.natCast_mul]; generalize U / y1 * y1 = q at *; exact IntWalk.u64_in _ (by omega)
  · generalize U / y1 * y1 = q at *
    have e : (U : Int) - q = ((U - q : Nat) : Int) := by omega
    rw [e]; exact IntWalk.u64_in _ (by omega)
theorem rest_wrap {U u1 Q Y R : Nat} (h : U * 4294967296 + u1 = Q * Y + R) (hR : R ≤ 18446744073709551615) : ∃ A A2 A3 : Nat,
    IntKind.u64.wrap ((U : Int) * 4294967296) = (A : Int) ∧ IntKind.u64.wrap ((A : Int) + u1) = (A2 : Int) ∧ IntKind.u64.wrap ((Q : Int) * Y) = (A3 : Int) ∧ IntKind.u64.wrap ((A2 : Int) - A3) = (R : Int) := by
  refine ⟨(U * 4294967296) % 18446744073709551616, ((U * 4294967296) % 18446744073709551616 + u1) % 18446744073709551616, (Q * Y) % 18446744073709551616, ?_, ?_, ?_, ?_⟩
  · rw [IntKind.wrap_u64]; omega
  · rw [IntKind.wrap_u64]; omega
  · rw [IntKind.wrap_u64, ← Int.natCast_mul]; omega
  · rw [IntKind.wrap_u64]; generalize Q * Y = P at *; omega
theorem end_div {hi lo y s Y y1 y0 U z u1 u0 Q R : Nat} (hN : Nums hi lo y s Y y1 y0 U z u1 u0) (hy : 0 < y) (hQ : Q = (U * 4294967296 + u1) / (y1 * 4294967296 + y0)) (hR : R = (U * 4294967296 + u1) % (y1 * 4294967296 + y0)) (q0 : Nat)
    (h0 : q0 = (R * 4294967296 + u0) / (y1 * 4294967296 + y0)) : Q * 4294967296 + q0 = (hi * 18446744073709551616 + lo) / y ∧ (R * 4294967296 + u0 - q0 * Y) / 2 ^ s = (hi * 18446744073709551616 + lo) % y := by
  rw [← hN.n2] at *
  have hs : 0 < 2 ^ s := Nat.pow_pos (by decide)
  have hY : 0 < Y := by rw [hN.n1]; exact Nat.mul_pos hy hs
  obtain ⟨t1, t2⟩ := two_steps (B := 4294967296) (y := Y) (U := U) (u1 := u1) (u0 := u0) hY (by omega) hN.n8
  rw [← hN.n9, ← hQ, ← hR, ← h0] at t1
  rw [← hN.n9, ← hR] at t2
  constructor
  · rw [← t1, hN.n1, Nat.mul_div_mul_right _ _ hs]
  · have hd := Nat.div_add_mod (R * 4294967296 + u0) Y
    rw [← h0, ← t2, Nat.mul_comm Y] at hd
    have : R * 4294967296 + u0 - q0 * Y = (hi * 18446744073709551616 + lo) * 2 ^ s % Y := by omega
    rw [this, hN.n1, Nat.mul_mod_mul_right, Nat.mul_div_cancel _ hs]
set_option maxRecDepth 100000 in
set_option maxHeartbeats 2000000 in
theorem div64_pos (hi lo y : Nat) (h0 : 0 < hi) (hh : hi < y) (hy : y ≤ 18446744073709551615) (hlo : lo ≤ 18446744073709551615) (w : World) :
    Calls Tryz.prog 199 #[.int .u64 hi, .int .u64 lo, .int .u64 y] w fun e w' => e = .returned (.tuple #[.int .u64 (((hi * 18446744073709551616 + lo) / y : Nat) : Int), .int .u64 (((hi * 18446744073709551616 + lo) % y : Nat) : Int)]) ∧ ∃ n, w' = w.drewN n := by
  have h1 : (1 : Int) ≤ (y : Int) := by omega
  have h2 : ((y : Int) == 0) = false := beq_eq_false_iff_ne.2 (by omega)
  have h3 : ((hi : Int) == 0) = false := beq_eq_false_iff_ne.2 (by omega)
  have h4 : ¬ (y : Int) ≤ (hi : Int) := by omega
  obtain ⟨s, hs, hs63⟩ : ∃ s, Lib.bitLen y + s = 64 ∧ s ≤ 63 := by
    have := Lib.bitLen_le y 64 (by omega) (by omega)
    have h1 : 1 ≤ Lib.bitLen y := (Lib.bitLenAux_bounds 64 y (by omega) (by omega)).1
    exact ⟨64 - Lib.bitLen y, by omega, by omega⟩
  have cl := lz_any y s hs hy
  obtain ⟨Y, y1, y0, U, z, u1, u0, hN, r1, r2, r3, r4, r5, r6, r7⟩ := nums_of h0 hh hy hlo hs hs63
  have hs := Lib.hid hs
  have b1 : y1 ≤ 4294967295 := by have := hN.n5; omega
  have b2 : y0 ≤ 4294967295 := by have := hN.n3; omega
  have b3 : u1 ≤ 4294967295 := by have := hN.n7; omega
  have b4 : u0 ≤ 4294967295 := by have := hN.n8; omega
  have b5 : 1 ≤ y1 := by have := hN.n4; omega
  have b6 : ¬ y1 = 0 := by omega
  have b7 : U ≤ 18446744073709551615 := by have := hN.n10; have := hN.n2; omega
  obtain ⟨q, r, p, eq, er, hr, d0, d1, d2, d3⟩ := start_wrap b5 b7
  replace eq := Lib.hid eq
  replace er := Lib.hid er
  go_enter Tryz.func199, Tryz.ntmps199
  go_upto_block 0 with (first | (go_at_call 180; refine (cl _).mono ?_; rintro e w' ⟨rfl, rfl⟩))
  clear r1 r2 r3 r4 r5 r6 r7 hs cl h2 h3 h4 d0 d1 d2 d3
  replace hN := Lib.hid hN
  go_cut [15] (fun s15 wx => s15 = .int .u64 (((U * 4294967296 + u1) / (y1 * 4294967296 + y0) : Nat) : Int) ∧ wx = w)
  case first =>
    have hN := hN.out
    have i0 := inv_start (B := 4294967296) (y1 := y1) (y0 := y0) (u32 := U) (u1 := u1) (by omega) (by omega) (by omega)
    replace eq := eq.out
    replace er := er.out
    rw [← eq] at er i0
    rw [← er] at i0
    replace hN := Lib.hid hN
    clear eq er
    go_wp2_with fail
    go_loop [15, 16] (fun a b => ∃ q r : Nat, a = .int .u64 q ∧ b = .int .u64 r ∧ Inv 4294967296 y1 y0 U u1 q r ∧ r < 4294967296) (fun a _ => (intOf a).toNat)
    case atStart => exact ⟨q, r, rfl, rfl, i0, by omega⟩
    case round =>
      clear i0 hr
      obtain ⟨q, r, rfl, rfl, hi, hr⟩ := hrel
      have hn := hN.out
      have hu : U < y1 * 4294967296 + y0 := by have := hn.n10; have := hn.n2; omega
      have hq := qh_le hi hn.n4 hn.n3 (by omega) hu
      have sw := step_wrap hq hn.n3
      obtain ⟨m, hm⟩ : ∃ m, m = q * y0 := ⟨_, rfl⟩
      rw [← hm] at sw
      by_cases ht : 4294967296 ≤ q ∨ 4294967296 * r + u1 < m
      · obtain ⟨n0, n1⟩ := inv_next hi hu (by omega) (by rw [← hm]; exact ht)
        have n0' : (1 : Int) ≤ q := by omega
        have q' : (q : Int) ≤ 4294967297 := by omega
        have r' : (r : Int) ≤ 4294967295 := by omega
        have e1 : ((q : Int) - 1) = ((q - 1 : Nat) : Int) := by omega
        have hbr : (4294967296 : Int) ≤ (r : Int) + y1 ∨ ¬ (4294967296 : Int) ≤ (r : Int) + y1 := by omega
        have ht : (4294967296 : Int) ≤ q ∨ (¬ (4294967296 : Int) ≤ q ∧ (4294967296 : Int) * r + u1 < m) := by omega
        clear hm hq hr n0
        replace n1 := Lib.hid n1; replace hi := Lib.hid hi; replace e1 := Lib.hid e1; replace hu := Lib.hid hu
        have fin : (4294967296 : Int) ≤ (r : Int) + y1 → Value.int .u64 ((q : Int) - 1) = .int .u64 (((U * 4294967296 + u1) / (y1 * 4294967296 + y0) : Nat) : Int) := fun h => by
          obtain ⟨k1, k2⟩ := inv_break n1.out (by omega) (by omega) hu.out (by omega)
          rw [e1.out, k2]
        have mea : q - 1 < q := by omega
        replace fin := Lib.hid fin
        rcases hbr with hbr | hbr <;> rcases ht with ht | ⟨ht', ht⟩
        · go_wp2
          go_meet
          exact ⟨fin.out hbr, rfl⟩
        · go_wp2
          go_meet
          exact ⟨fin.out hbr, rfl⟩
        · go_wp2
          go_round
          case rel => exact ⟨q - 1, r + y1, by rw [e1.out], by rw [Int.natCast_add], n1.out, by omega⟩
          case measure => simp [intOf]; omega
        · go_wp2
          go_round
          case rel => exact ⟨q - 1, r + y1, by rw [e1.out], by rw [Int.natCast_add], n1.out, by omega⟩
          case measure => simp [intOf]; omega
      · have he := inv_end hi (by omega) (by rw [← hm]; omega)
        have q' : (q : Int) ≤ 4294967297 := by omega
        have r' : (r : Int) ≤ 4294967295 := by omega
        have ht1 : ¬ (4294967296 : Int) ≤ q := by omega
        have ht2 : ¬ (4294967296 : Int) * r + u1 < m := by omega
        clear hm hq hr ht
        replace hi := Lib.hid hi; replace hu := Lib.hid hu; replace he := Lib.hid he
        go_wp2
        go_meet
        exact ⟨by rw [← he.out], rfl⟩
  case rest =>
    obtain ⟨rfl, rfl⟩ := hcut
    have hn := hN.out
    have hu : U < y1 * 4294967296 + y0 := by have := hn.n10; have := hn.n2; omega
    obtain ⟨Q, hQ⟩ : ∃ Q, Q = (U * 4294967296 + u1) / (y1 * 4294967296 + y0) := ⟨_, rfl⟩
    obtain ⟨R, hR⟩ : ∃ R, R = (U * 4294967296 + u1) % (y1 * 4294967296 + y0) := ⟨_, rfl⟩
    have hQR := Nat.div_add_mod (U * 4294967296 + u1) (y1 * 4294967296 + y0)
    have hRl := Nat.mod_lt (U * 4294967296 + u1) (show 0 < y1 * 4294967296 + y0 by omega)
    have hQl := quo_lt hu (show u1 < 4294967296 by omega)
    rw [← hQ, ← hR] at hQR
    rw [← hR] at hRl
    rw [← hQ] at hQl ⊢
    rw [← hn.n2] at hQR hRl
    have c1 : (Q : Int) ≤ 4294967295 := by omega
    have hR63 : R ≤ 18446744073709551615 := by have := hn.n5; have := hn.n3; have := hn.n2; omega
    obtain ⟨A, A2, A3, g1, g2, g3, g4⟩ := rest_wrap (U := U) (u1 := u1) (Q := Q) (Y := Y) (R := R) (by rw [← hQR, Nat.mul_comm]) hR63
    clear eq er hr
    obtain ⟨q, r, p, eq, er, hr, d0, d1, d2, d3⟩ := start_wrap (U := R) b5 hR63
    have hu : R < y1 * 4294967296 + y0 := by rw [← hn.n2]; exact hRl
    have i0 := inv_start (B := 4294967296) (y1 := y1) (y0 := y0) (u32 := R) (u1 := u0) (by omega) (by omega) (by omega)
    rw [← eq] at er i0
    rw [← er] at i0
    have hQ0 := quo_lt hu (show u0 < 4294967296 by omega)
    obtain ⟨Q0, hQ0e⟩ : ∃ Q0, Q0 = (R * 4294967296 + u0) / (y1 * 4294967296 + y0) := ⟨_, rfl⟩
    obtain ⟨f1, f2⟩ := end_div hn (by omega) hQ hR Q0 hQ0e
    replace hQ := Lib.hid hQ; replace hR := Lib.hid hR; replace hQR := Lib.hid hQR; replace hRl := Lib.hid hRl; replace hn := Lib.hid hn; replace hu := Lib.hid hu
    replace eq := Lib.hid eq; replace er := Lib.hid er; replace hR63 := Lib.hid hR63; replace hQ0 := Lib.hid hQ0; replace hQ0e := Lib.hid hQ0e; replace f1 := Lib.hid f1; replace f2 := Lib.hid f2; replace i0 := Lib.hid i0; replace hr := Lib.hid hr
    clear hQl
    go_upto_block 2 with fail
    clear g1 g2 g3 g4 d0 d1 d2 d3
    go_cut [18] (fun s18 wx => s18 = .int .u64 (Q0 : Int) ∧ wx = wc)
    case first =>
      go_wp2_with fail
      go_loop [18, 16] (fun a b => ∃ q r : Nat, a = .int .u64 q ∧ b = .int .u64 r ∧ Inv 4294967296 y1 y0 R u0 q r ∧ r < 4294967296) (fun a _ => (intOf a).toNat)
      case atStart => exact ⟨q, r, rfl, rfl, i0.out, by have := hr.out; omega⟩
      case round =>
        clear i0 hr eq er
        obtain ⟨q, r, rfl, rfl, hi, hr⟩ := hrel
        replace hu := hu.out
        have hq := qh_le hi hn.out.n4 hn.out.n3 (by omega) hu
        have sw := step_wrap hq hn.out.n3
        obtain ⟨m, hm⟩ : ∃ m, m = q * y0 := ⟨_, rfl⟩
        rw [← hm] at sw
        by_cases ht : 4294967296 ≤ q ∨ 4294967296 * r + u0 < m
        · obtain ⟨n0, n1⟩ := inv_next hi hu (by omega) (by rw [← hm]; exact ht)
          have n0' : (1 : Int) ≤ q := by omega
          have q' : (q : Int) ≤ 4294967297 := by omega
          have r' : (r : Int) ≤ 4294967295 := by omega
          have e1 : ((q : Int) - 1) = ((q - 1 : Nat) : Int) := by omega
          have hbr : (4294967296 : Int) ≤ (r : Int) + y1 ∨ ¬ (4294967296 : Int) ≤ (r : Int) + y1 := by omega
          have ht : (4294967296 : Int) ≤ q ∨ (¬ (4294967296 : Int) ≤ q ∧ (4294967296 : Int) * r + u0 < m) := by omega
          clear hm hq hr n0
          replace n1 := Lib.hid n1; replace hi := Lib.hid hi; replace e1 := Lib.hid e1; replace hu := Lib.hid hu
          have fin : (4294967296 : Int) ≤ (r : Int) + y1 → Value.int .u64 ((q : Int) - 1) = .int .u64 (Q0 : Int) := fun h => by
            obtain ⟨k1, k2⟩ := inv_break n1.out (by omega) (by omega) hu.out (by omega)
            rw [e1.out, hQ0e.out, k2]
          have mea : q - 1 < q := by omega
          replace fin := Lib.hid fin
          rcases hbr with hbr | hbr <;> rcases ht with ht | ⟨ht', ht⟩
          · go_wp2
            go_meet
            exact ⟨fin.out hbr, rfl⟩
          · go_wp2
            go_meet
            exact ⟨fin.out hbr, rfl⟩
          · go_wp2
            go_round
            case rel => exact ⟨q - 1, r + y1, by rw [e1.out], by rw [Int.natCast_add], n1.out, by omega⟩
            case measure => simp [intOf]; omega
          · go_wp2
            go_round
            case rel => exact ⟨q - 1, r + y1, by rw [e1.out], by rw [Int.natCast_add], n1.out, by omega⟩
            case measure => simp [intOf]; omega
        · have he := inv_end hi (by omega) (by rw [← hm]; omega)
          have q' : (q : Int) ≤ 4294967297 := by omega
          have r' : (r : Int) ≤ 4294967295 := by omega
          have ht1 : ¬ (4294967296 : Int) ≤ q := by omega
          have ht2 : ¬ (4294967296 : Int) * r + u0 < m := by omega
          clear hm hq hr ht
          replace hi := Lib.hid hi; replace hu := Lib.hid hu; replace he := Lib.hid he
          go_wp2
          go_meet
          exact ⟨by rw [hQ0e.out, ← he.out], rfl⟩
    case rest =>
      obtain ⟨rfl, rfl⟩ := hcut
      have c2 : (Q0 : Int) ≤ 4294967295 := by have := hQ0.out; have := hQ0e.out; omega
      have hd := Nat.div_add_mod (R * 4294967296 + u0) (y1 * 4294967296 + y0)
      have hm := Nat.mod_lt (R * 4294967296 + u0) (show 0 < y1 * 4294967296 + y0 by omega)
      obtain ⟨A, A2, A3, g1, g2, g3, g4⟩ := rest_wrap (U := R) (u1 := u0) (Q := Q0) (Y := Y) (R := (R * 4294967296 + u0) % (y1 * 4294967296 + y0)) (by rw [hQ0e.out, hn.out.n2]; exact (Nat.div_add_mod' _ _).symm) (by have := hn.out.n5; have := hn.out.n3; omega)
      have f3 : R * 4294967296 + u0 - Q0 * Y = (R * 4294967296 + u0) % (y1 * 4294967296 + y0) := by
        rw [← hQ0e.out, ← hn.out.n2, Nat.mul_comm] at hd
        rw [← hn.out.n2]; omega
      obtain ⟨R2, hR2⟩ : ∃ R2, R2 = (R * 4294967296 + u0) % (y1 * 4294967296 + y0) := ⟨_, rfl⟩
      rw [← hR2] at g4 f3
      clear hd hm hR2
      replace f3 := Lib.hid f3
      go_wp2
      go_ret2
      refine ⟨?_, 0, rfl⟩
      rw [← f1.out, ← f2.out, f3.out]
      simp
end Go.Proofs.YtpiegngjpnpohaaGreat.Div
