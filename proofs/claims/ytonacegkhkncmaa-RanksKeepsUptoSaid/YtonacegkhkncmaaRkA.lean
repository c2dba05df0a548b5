/- May, Total, AtMost of counts: package ranks', and the document's. -/
import Derived.Test.YtonacegkhkncmaaRk0
import Derived.Test.YtonacegkhkncmaaBkR
import Derived.WalkSmall
namespace Go.Proofs.Ytonacegkhkncmaa.Rk
open Go.RowKit Go.Proofs.Ytonacegkhkncmaa.Bk
set_option linter.unusedVariables false

def sumN (l : List (Int × Int)) : Int := (l.map (·.2)).sum

/-- What is wrong first with the counts, behind one of the index 'prev'. -/
def chk (p : Int) : Option Int → List (Int × Int) → Int
  | _, [] => 0
  | prev, c :: r => if c.1 < 0 ∨ lenI p ≤ c.1 then 2 else if (∃ q, prev = some q ∧ c.1 ≤ q) then 15 else if c.2 = 0 then 16 else chk p (some c.1) r

def mayE (p : Int) (l : List (Int × Int)) : Int := if ¬ good p then 1 else if chk p none l ≠ 0 then chk p none l else if 9223372036854775807 < sumN l then 3 else 0

def prevOf (l : List (Int × Int)) (k : Nat) : Option Int := if k = 0 then none else (l[k - 1]?).map (·.1)

/-- The check from place k on answers as the whole. -/
def At (p : Int) (l : List (Int × Int)) (k : Nat) : Prop := chk p none l = chk p (prevOf l k) (l.drop k)

theorem At.zero (p : Int) (l : List (Int × Int)) : At p l 0 := rfl
theorem prevOf_succ {l : List (Int × Int)} {k : Nat} (h : k < l.length) : prevOf l (k + 1) = some l[k].1 := by
  simp [prevOf, h]
theorem chk_at {p : Int} {l : List (Int × Int)} {k : Nat} (h : k < l.length) : chk p (prevOf l k) (l.drop k) =
    if l[k].1 < 0 ∨ lenI p ≤ l[k].1 then 2 else if (∃ q, prevOf l k = some q ∧ l[k].1 ≤ q) then 15 else if l[k].2 = 0 then 16 else chk p (some l[k].1) (l.drop (k + 1)) := by
  rw [List.drop_eq_getElem_cons h, chk]
theorem At.range {p : Int} {l : List (Int × Int)} {k : Nat} (ha : At p l k) (h : k < l.length) (h1 : l[k].1 < 0 ∨ lenI p ≤ l[k].1) : chk p none l = 2 := by
  rw [ha, chk_at h, if_pos h1]
theorem At.order {p : Int} {l : List (Int × Int)} {k : Nat} (ha : At p l k) (h : k < l.length) (h1 : 0 ≤ l[k].1) (h1' : l[k].1 < lenI p) (h0 : 0 < k) (h2 : l[k].1 ≤ (l[k - 1]'(by omega)).1) : chk p none l = 15 := by
  rw [ha, chk_at h, if_neg (by omega), if_pos]
  exact ⟨(l[k - 1]'(by omega)).1, by simp [prevOf, show k ≠ 0 by omega, show k - 1 < l.length by omega], h2⟩
theorem At.empty {p : Int} {l : List (Int × Int)} {k : Nat} (ha : At p l k) (h : k < l.length) (h1 : 0 ≤ l[k].1) (h1' : l[k].1 < lenI p) (h2 : ∀ h0 : 0 < k, ¬ l[k].1 ≤ (l[k - 1]'(by omega)).1) (h3 : l[k].2 = 0) : chk p none l = 16 := by
  rw [ha, chk_at h, if_neg (by omega), if_neg, if_pos h3]
  rintro ⟨q, hq, hle⟩
  unfold prevOf at hq
  by_cases h0 : k = 0
  · simp [h0] at hq
  · rw [if_neg h0, List.getElem?_eq_getElem (by omega)] at hq
    simp at hq
    exact h2 (by omega) (by omega)
theorem At.next {p : Int} {l : List (Int × Int)} {k : Nat} (ha : At p l k) (h : k < l.length) (h1 : 0 ≤ l[k].1) (h1' : l[k].1 < lenI p) (h2 : ∀ h0 : 0 < k, ¬ l[k].1 ≤ (l[k - 1]'(by omega)).1) (h3 : l[k].2 ≠ 0) : At p l (k + 1) := by
  unfold At
  rw [ha, chk_at h, if_neg (by omega), if_neg, if_neg h3, prevOf_succ h]
  rintro ⟨q, hq, hle⟩
  unfold prevOf at hq
  by_cases h0 : k = 0
  · simp [h0] at hq
  · rw [if_neg h0, List.getElem?_eq_getElem (by omega)] at hq
    simp at hq
    exact h2 (by omega) (by omega)
theorem At.done {p : Int} {l : List (Int × Int)} {k : Nat} (ha : At p l k) (h : l.length ≤ k) : chk p none l = 0 := by
  rw [ha, List.drop_of_length_le h]; unfold chk; rfl

theorem sumN_snoc {l : List (Int × Int)} {k : Nat} (h : k < l.length) : sumN (l.take (k + 1)) = sumN (l.take k) + l[k].2 := by
  rw [take_snoc h, sumN, List.map_append, List.sum_append]; simp [sumN]
theorem sumN_nonneg {l : List (Int × Int)} (h : ∀ c ∈ l, okC c) : 0 ≤ sumN l := by
  induction l with
  | nil => simp [sumN]
  | cons c r ih =>
    have := ih fun x hx => h x (List.mem_cons_of_mem _ hx)
    have h2 := h c (List.mem_cons_self ..)
    unfold okC at h2
    simp only [sumN, List.map_cons, List.sum_cons] at this ⊢; omega
theorem sumN_take_le {l : List (Int × Int)} (h : ∀ c ∈ l, okC c) (k : Nat) : sumN (l.take k) ≤ sumN l := by
  have e : sumN l = sumN (l.take k) + sumN (l.drop k) := by
    rw [sumN, sumN, sumN, ← List.sum_append, ← List.map_append, List.take_append_drop]
  have := sumN_nonneg (l := l.drop k) fun c hc => h c (List.mem_of_mem_drop hc)
  omega

theorem lenI_rng (p : Int) : 0 ≤ lenI p ∧ lenI p ≤ 1048576 := by
  unfold lenI
  by_cases h : good p
  · rw [if_pos h]
    have := size14 (n := p.toNat) (by have := h.2; omega)
    omega
  · rw [if_neg h]; omega

theorem lenI_ge {p : Int} (h : good p) : 2 ≤ lenI p := by
  obtain ⟨h1, h2⟩ := id h
  have := Nat.mul_le_mul (show 2 ≤ 64 - p.toNat by omega) (BkM.pow_pos' p.toNat)
  rw [lenI, if_pos h]; omega

theorem may_bad (w : World) (p : Int) (l : List (Int × Int)) (A : Option Addr) (cap : Nat) (hp : ¬ good p) :
    Calls Try.prog 26 #[.int .i64 p, .slice A l.length cap] w fun e w' => e = .returned (.int .i64 (mayE p l)) ∧ Below w.heap.size w w' := by
  have c := length_any p
  have e : lenI p = 0 := by simp [lenI, hp]
  rw [e] at c
  have e1 : mayE p l = 1 := by rw [mayE, if_pos hp]
  replace e1 := Lib.hid e1
  clear e
  go_enter Try.func26, Try.ntmps26
  go_wp2_with (first | (go_at_call 19; refine (c _).mono ?_; rintro e w' ⟨rfl, rfl⟩))
  go_ret
  exact ⟨ret_int e1.out.symm, Below.refl _ _⟩

set_option maxRecDepth 100000 in
set_option maxHeartbeats 1000000 in
theorem may_good (w : World) (B : Nat) (p : Int) (l : List (Int × Int)) (A : Option Addr) (cap : Nat) (hp : good p) (h : Cs w B A l) (hB : B ≤ w.heap.size) :
    Calls Try.prog 26 #[.int .i64 p, .slice A l.length cap] w fun e w' => e = .returned (.int .i64 (mayE p l)) ∧ Below w.heap.size w w' := by
  have hl := h.len
  unfold maxLen at hl
  have c := length_any p
  have n0 := lenI_ge hp
  have n1 := lenI_rng p
  obtain ⟨_, n1⟩ := n1
  have n2 : (lenI p == 0) = false := beq_eq_false_iff_ne.2 (by omega)
  have em : mayE p l = if chk p none l ≠ 0 then chk p none l else if 9223372036854775807 < sumN l then 3 else 0 := by rw [mayE, if_neg (by simpa using hp)]
  replace em := Lib.hid em
  replace hp := Lib.hid hp
  generalize hN : lenI p = N at *
  replace hN := Lib.hid hN
  go_enter Try.func26, Try.ntmps26
  go_wp2_with (first | (go_at_call 19; refine (c _).mono ?_; rintro e w' ⟨rfl, rfl⟩))
  go_loopw [17] (fun i wr => ∃ k : Nat, k ≤ l.length ∧ i = .int .i64 k ∧ At p l k ∧ Below w.heap.size w wr) (fun i _ => l.length - (intOf i).toNat)
  case atStart => exact ⟨0, Nat.zero_le _, rfl, At.zero _ _, Below.refl _ _⟩
  case round =>
    obtain ⟨k, hk, rfl, ha, hb⟩ := hrel
    replace ha := Lib.hid ha
    by_cases hlt : k < l.length
    · obtain ⟨b, off, rfl, hbB, hc⟩ := (h.below (hb.mono hB)).cells (by omega)
      obtain ⟨h1, h2⟩ := hc k l[k] (List.getElem?_eq_getElem hlt)
      have hok := h.ok l[k] (List.getElem_mem hlt)
      obtain ⟨o1, o2, o3, o4⟩ := hok
      by_cases r1 : l[k].1 < 0
      · have e := ha.out.range hlt (by omega)
        replace e := Lib.hid e
        clear hc
        go_wp2
        go_ret
        exact ⟨ret_int (by rw [em.out, e.out]; rfl), hb.alloc hb.size _⟩
      by_cases r2 : N ≤ l[k].1
      · have e := ha.out.range hlt (by rw [hN.out]; omega)
        replace e := Lib.hid e
        clear hc
        go_wp2
        go_ret
        exact ⟨ret_int (by rw [em.out, e.out]; rfl), hb.alloc hb.size _⟩
      have hks : k = 0 ∨ 0 < k := Nat.eq_zero_or_pos k
      have hq : 0 < k → ∃ q : Int × Int, l[k - 1]? = some q ∧ wr.cell? ⟨b, off + (k - 1) * 2, none⟩ = some (.int .i64 q.1) ∧ (l[k].1 ≤ q.1 → chk p none l = 15) ∧ (¬ l[k].1 ≤ q.1 → (l[k].2 = 0 → chk p none l = 16) ∧ (l[k].2 ≠ 0 → At p l (k + 1))) := fun h0 => by
        have hx : k - 1 < l.length := by omega
        refine ⟨l[k - 1], List.getElem?_eq_getElem hx, (hc (k - 1) _ (List.getElem?_eq_getElem hx)).1, fun hle => ha.out.order hlt (by omega) (by rw [hN.out]; omega) h0 hle, fun hn => ⟨fun h3 => ha.out.empty hlt (by omega) (by rw [hN.out]; omega) (fun _ => hn) h3, fun h3 => ha.out.next hlt (by omega) (by rw [hN.out]; omega) (fun _ => hn) h3⟩⟩
      have hz : k = 0 → (l[k].2 = 0 → chk p none l = 16) ∧ (l[k].2 ≠ 0 → At p l (k + 1)) := fun h0 =>
        ⟨fun h3 => ha.out.empty hlt (by omega) (by rw [hN.out]; omega) (fun h => absurd h (by omega)) h3, fun h3 => ha.out.next hlt (by omega) (by rw [hN.out]; omega) (fun h => absurd h (by omega)) h3⟩
      clear hc
      generalize l[k] = x at *
      obtain ⟨x1, x2⟩ := x
      simp only at h1 h2 o1 o2 o3 o4 r1 r2 hq hz
      rcases hks with hk0 | hk0
      · obtain ⟨hz1, hz2⟩ := hz hk0
        have hk0' : decide ((0 : Int) < (k : Int)) = false := decide_eq_false (by omega)
        have hk0'' : decide (0 < k) = false := decide_eq_false (by omega)
        clear hz hq hk0
        by_cases r3 : x2 = 0
        · have e := hz1 r3
          replace e := Lib.hid e
          have r3' : ((x2 : Int) == 0) = true := beq_iff_eq.2 r3
          clear r3 hz1 hz2
          go_wp2
          go_quiet (fail)
          go_wp2
          go_ret
          exact ⟨ret_int (by rw [em.out, e.out]; rfl), below_drewN (hb.alloc hb.size _) _⟩
        · have e := hz2 r3
          replace e := Lib.hid e
          have r3' : ((x2 : Int) == 0) = false := beq_eq_false_iff_ne.2 r3
          clear r3 hz1 hz2
          go_wp2
          go_quiet (fail)
          go_wp2
          exact ⟨⟨k + 1, by omega, by go_num, e.out, below_drewN (hb.alloc hb.size _) _⟩, by simp [intOf]; omega⟩
      · obtain ⟨⟨q1, q2⟩, hq1, hq2, hq3, hq4⟩ := hq hk0
        simp only at hq2 hq3 hq4
        have hk0' : decide ((0 : Int) < (k : Int)) = true := decide_eq_true (by omega)
        have hk0'' : decide (0 < k) = true := decide_eq_true (by omega)
        have hk1 : k - 1 < l.length := by omega
        have hbs : b < wr.heap.size := by have := hb.size; omega
        have hq2' : ∀ o : Obj, (wr.alloc o).cell? ⟨b, off + (k - 1) * 2, none⟩ = some (.int .i64 q1) := fun o => (World.cell?_alloc_lt wr o ⟨b, off + (k - 1) * 2, none⟩ hbs).trans hq2
        have w1 : IntKind.i64.wrap ((k : Int) - 1) = (k : Int) - 1 := IntWalk.i64_in _ (by omega)
        have w2 : (0 : Int) ≤ (k : Int) - 1 := by omega
        have w3 : ((k : Int) - 1).toNat = k - 1 := by omega
        have w4 : (k : Int) - 1 < (l.length : Int) := by omega
        clear hz hq hq1
        by_cases hle : x1 ≤ q1
        · have e := hq3 hle
          replace e := Lib.hid e
          clear hq3 hq4
          go_wp2
          go_quiet (fail)
          go_wp2
          go_ret
          exact ⟨ret_int (by rw [em.out, e.out]; rfl), below_drewN (hb.alloc hb.size _) _⟩
        · obtain ⟨hz1, hz2⟩ := hq4 hle
          clear hq3 hq4
          by_cases r3 : x2 = 0
          · have e := hz1 r3
            replace e := Lib.hid e
            have r3' : ((x2 : Int) == 0) = true := beq_iff_eq.2 r3
            clear r3 hz1 hz2
            go_wp2
            go_quiet (fail)
            go_wp2
            go_ret
            exact ⟨ret_int (by rw [em.out, e.out]; rfl), below_drewN (hb.alloc hb.size _) _⟩
          · have e := hz2 r3
            replace e := Lib.hid e
            have r3' : ((x2 : Int) == 0) = false := beq_eq_false_iff_ne.2 r3
            clear r3 hz1 hz2
            go_wp2
            go_quiet (fail)
            go_wp2
            exact ⟨⟨k + 1, by omega, by go_num, e.out, below_drewN (hb.alloc hb.size _) _⟩, by simp [intOf]; omega⟩
    · have e := ha.out.done (by omega)
      rw [e] at em
      replace em : mayE p l = if 9223372036854775807 < sumN l then 3 else 0 := em.out
      replace em := Lib.hid em
      replace e := Lib.hid e
      have hsn := sumN_nonneg h.ok
      replace hsn := Lib.hid hsn
      go_wp2_with fail
      go_loopw [8, 53] (fun r i wr => ∃ (k : Nat) (s : Int), k ≤ l.length ∧ i = .int .i64 k ∧ r = .int .u64 s ∧ 0 ≤ s ∧ s ≤ 9223372036854775807 ∧ Hid (sumN (l.take k) + s = 9223372036854775807) ∧ Below w.heap.size w wr) (fun _ i _ => l.length - (intOf i).toNat)
      case atStart => exact ⟨0, 9223372036854775807, Nat.zero_le _, rfl, rfl, by omega, by omega, by rw [List.take_zero]; exact rfl, hb⟩
      case round =>
        clear hk ha hb hlt
        obtain ⟨k, s, hk, rfl, rfl, s1, s2, s3, hb⟩ := hrel
        by_cases hlt : k < l.length
        · obtain ⟨b, off, rfl, hbB, hc⟩ := (h.below (hb.mono hB)).cells (by omega)
          obtain ⟨h1, h2⟩ := hc k l[k] (List.getElem?_eq_getElem hlt)
          have hok := h.ok l[k] (List.getElem_mem hlt)
          have hsn1 := sumN_snoc hlt
          have hsn2 := sumN_take_le h.ok (k + 1)
          clear hc
          generalize l[k] = x at *
          obtain ⟨x1, x2⟩ := x
          obtain ⟨o1, o2, o3, o4⟩ := hok
          simp only at h1 h2 o1 o2 o3 o4 hsn1
          by_cases hx : s < x2
          · have e3 : 9223372036854775807 < sumN l := by have := s3.out; omega
            replace e3 := Lib.hid e3
            replace hsn1 := Lib.hid hsn1; replace hsn2 := Lib.hid hsn2
            go_wp2
            go_ret
            exact ⟨ret_int (by rw [em.out, if_pos e3.out]), hb.alloc hb.size _⟩
          · have e4 : Hid (sumN (l.take (k + 1)) + (s - x2) = 9223372036854775807) := by have := s3.out; show _ = _; omega
            have e5 : 0 ≤ s - x2 := by omega
            replace hsn1 := Lib.hid hsn1; replace hsn2 := Lib.hid hsn2
            go_wp2
            exact ⟨⟨k + 1, s - x2, by omega, by go_num, rfl, by omega, by omega, e4, hb.alloc hb.size _⟩, by simp [intOf]; omega⟩
        · have e3 : ¬ 9223372036854775807 < sumN l := by
            have := s3.out
            rw [List.take_of_length_le (by omega)] at this; omega
          replace e3 := Lib.hid e3
          go_wp2
          go_ret
          exact ⟨ret_int (by rw [em.out, if_neg (by have := e3.out; omega)]), hb⟩

theorem may_any (w : World) (B : Nat) (p : Int) (l : List (Int × Int)) (A : Option Addr) (cap : Nat) (h : Cs w B A l) (hB : B ≤ w.heap.size) :
    Calls Try.prog 26 #[.int .i64 p, .slice A l.length cap] w fun e w' => e = .returned (.int .i64 (mayE p l)) ∧ Below w.heap.size w w' := by
  by_cases hp : good p
  · exact may_good w B p l A cap hp h hB
  · exact may_bad w p l A cap hp

/-! ### AtMost -/
def atmF (p v n : Int) (l : List (Int × Int)) : Int := l.foldl (fun n c => if higI p c.1 ≤ v then IntKind.u64.wrap (n + c.2) else n) n
def atmI (p v : Int) (l : List (Int × Int)) : Int := if mayE p l = 0 then atmF p v 0 l else 0
theorem atmF_snoc (p v n : Int) {l : List (Int × Int)} {k : Nat} (h : k < l.length) : atmF p v n (l.take (k + 1)) = if higI p l[k].1 ≤ v then IntKind.u64.wrap (atmF p v n (l.take k) + l[k].2) else atmF p v n (l.take k) := by
  rw [take_snoc h, atmF, List.foldl_append]; rfl

set_option maxRecDepth 100000 in
theorem atMost_any (w : World) (B : Nat) (p v : Int) (l : List (Int × Int)) (A : Option Addr) (cap : Nat) (h : Cs w B A l) (hB : B ≤ w.heap.size) :
    Calls Try.prog 27 #[.int .i64 p, .slice A l.length cap, .int .i64 v] w fun e w' => e = .returned (.tuple #[.int .u64 (atmI p v l), .int .i64 (mayE p l)]) ∧ Below w.heap.size w w' := by
  have hl := h.len
  unfold maxLen at hl
  have cm := may_any w B p l A cap h hB
  by_cases he : mayE p l = 0
  · have em : (mayE p l != 0) = false := by simp [he]
    have ea : atmI p v l = atmF p v 0 l := by rw [atmI, if_pos he]
    replace he := Lib.hid he; replace ea := Lib.hid ea
    go_enter Try.func27, Try.ntmps27
    go_wp2_with (go_at_call 26; refine cm.mono ?_; rintro e w1 ⟨rfl, hb0⟩)
    have hb1 := hb0
    clear hb0
    go_loopw [9, 22] (fun n i wr => ∃ k : Nat, k ≤ l.length ∧ i = .int .i64 k ∧ n = .int .u64 (atmF p v 0 (l.take k)) ∧ Below w.heap.size w wr) (fun _ i _ => l.length - (intOf i).toNat)
    case atStart => exact ⟨0, Nat.zero_le _, rfl, rfl, hb1⟩
    case round =>
      clear hb1
      obtain ⟨k, hk, rfl, rfl, hb⟩ := hrel
      by_cases hlt : k < l.length
      · obtain ⟨b, off, rfl, hbB, hc⟩ := (h.below (hb.mono hB)).cells (by omega)
        obtain ⟨h1, h2⟩ := hc k l[k] (List.getElem?_eq_getElem hlt)
        obtain ⟨o1, o2, o3, o4⟩ := h.ok l[k] (List.getElem_mem hlt)
        have hs := atmF_snoc p v 0 hlt
        clear hc
        generalize l[k] = x at *
        obtain ⟨x1, x2⟩ := x
        simp only at h1 h2 o1 o2 o3 o4 hs
        have ch := high_any p x1 o1 o2
        replace hs := Lib.hid hs
        by_cases hle : higI p x1 ≤ v
        · go_wp2_with (go_at_call 17; refine (ch _).mono ?_; rintro e w1 ⟨rfl, nq, rfl⟩)
          exact ⟨⟨k + 1, by omega, by go_num, by rw [hs.out, if_pos hle], below_drewN (hb.alloc hb.size _) _⟩, by simp [intOf]; omega⟩
        · go_wp2_with (go_at_call 17; refine (ch _).mono ?_; rintro e w1 ⟨rfl, nq, rfl⟩)
          exact ⟨⟨k + 1, by omega, by go_num, by rw [hs.out, if_neg (by omega)], below_drewN (hb.alloc hb.size _) _⟩, by simp [intOf]; omega⟩
      · go_wp2
        go_ret2
        exact ⟨ret_int2 (by rw [ea.out, List.take_of_length_le (by omega)]) he.out.symm, hb⟩
  · have em : (mayE p l != 0) = true := by simp [he]
    have ea : atmI p v l = 0 := by rw [atmI, if_neg he]
    replace he := Lib.hid he; replace ea := Lib.hid ea
    go_enter Try.func27, Try.ntmps27
    go_wp2_with (go_at_call 26; refine cm.mono ?_; rintro e w1 ⟨rfl, hb0⟩)
    go_ret2
    exact ⟨ret_int2 ea.out.symm rfl, hb0⟩
end Go.Proofs.Ytonacegkhkncmaa.Rk
