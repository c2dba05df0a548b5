/- The document's own May, AtMost, Quantile, Same of counts. -/
import Derived.Test.YtonacegkhkncmaaRd0
import Derived.Test.YtonacegkhkncmaaRkV
namespace Go.Proofs.Ytonacegkhkncmaa.Rk
open Go.RowKit Go.Proofs.Ytonacegkhkncmaa.Bk
set_option linter.unusedVariables false

theorem rmay_bad (w : World) (p : Int) (l : List (Int × Int)) (A : Option Addr) (cap : Nat) (hp : ¬ good p) :
    Calls Try.prog 32 #[.int .i64 p, .slice A l.length cap] w fun e w' => e = .returned (.int .i64 (mayE p l)) ∧ Below w.heap.size w w' := by
  have e1 : mayE p l = 1 := by rw [mayE, if_pos hp]
  replace e1 := Lib.hid e1
  have hc : p < 1 ∨ 14 < p := by
    rcases Int.lt_or_le p 1 with h | h
    · exact .inl h
    · exact .inr (Int.not_le.1 fun h2 => hp ⟨h, h2⟩)
  clear hp
  rcases hc with h | h
  · go_enter Try.func32, Try.ntmps32
    go_wp2
    go_ret
    exact ⟨ret_int e1.out.symm, Below.refl _ _⟩
  · have h' : ¬ p < 1 := by omega
    go_enter Try.func32, Try.ntmps32
    go_wp2
    go_ret
    exact ⟨ret_int e1.out.symm, Below.refl _ _⟩

/-- What is left so far, or whether they are too many. -/
def Left (l : List (Int × Int)) (k : Nat) (s : Int) (m : Bool) : Prop := (m = false → sumN (l.take k) + s = 9223372036854775807) ∧ (m = true → 9223372036854775807 < sumN l)
theorem Left.next {l : List (Int × Int)} {k : Nat} {s : Int} {m : Bool} (h : Left l k s m) (hk : k < l.length) (hok : ∀ c ∈ l, okC c) (hs : 0 ≤ s) : Left l (k + 1) (IntKind.u64.wrap (s - l[k].2)) (m || decide (s < l[k].2)) := by
  have h1 := sumN_snoc hk
  have h2 := sumN_take_le hok (k + 1)
  have h3 := sumN_nonneg (l := l.take k) fun c hc => hok c (List.mem_of_mem_take hc)
  have o := hok l[k] (List.getElem_mem hk)
  unfold okC at o
  refine ⟨fun e => ?_, fun e => ?_⟩
  · rw [Bool.or_eq_false_iff] at e
    have := h.1 e.1
    have e2 := of_decide_eq_false e.2
    rw [IntWalk.u64_in _ (by omega)]; omega
  · rcases Bool.or_eq_true_iff.1 e with e | e
    · exact h.2 e
    · have e2 := of_decide_eq_true e
      cases hm : m with
      | true => exact h.2 hm
      | false => have := h.1 hm; omega
set_option maxRecDepth 100000 in
set_option maxHeartbeats 2000000 in
theorem rmay_good (w : World) (B : Nat) (p : Int) (l : List (Int × Int)) (A : Option Addr) (cap : Nat) (hp : good p) (h : Cs w B A l) (hB : B ≤ w.heap.size) :
    Calls Try.prog 32 #[.int .i64 p, .slice A l.length cap] w fun e w' => e = .returned (.int .i64 (mayE p l)) ∧ Below w.heap.size w w' := by
  have hl := h.len
  unfold maxLen at hl
  have c := fun W => (rlength_any p W).mono (R' := fun e w' => e = .returned (.int .i64 (lenI p)) ∧ w' = W) fun e w' ⟨h1, h2⟩ => ⟨h1, h2.symm⟩
  have n0 := lenI_ge hp
  have n1 := lenI_rng p
  obtain ⟨_, n1⟩ := n1
  have em : mayE p l = if chk p none l ≠ 0 then chk p none l else if 9223372036854775807 < sumN l then 3 else 0 := by rw [mayE, if_neg (by simpa using hp)]
  replace em := Lib.hid em
  have p1 : ¬ p < 1 := by have := hp.1; omega
  have p2 : ¬ 14 < p := by have := hp.2; omega
  replace hp := Lib.hid hp
  generalize hN : lenI p = N at *
  replace hN := Lib.hid hN
  go_enter Try.func32, Try.ntmps32
  go_wp2
  go_loopw [5, 6, 7] (fun r m i wr => ∃ (k : Nat) (s : Int) (b : Bool), k ≤ l.length ∧ i = .int .i64 k ∧ r = .int .u64 s ∧ m = .bool b ∧ 0 ≤ s ∧ s ≤ 18446744073709551615 ∧ Hid (At p l k ∧ Left l k s b) ∧ Below w.heap.size w wr) (fun _ _ i _ => l.length - (intOf i).toNat)
  case atStart => exact ⟨0, 9223372036854775807, false, Nat.zero_le _, rfl, rfl, rfl, by omega, by omega, Lib.hid ⟨At.zero _ _, fun _ => by simp [sumN], fun e => by cases e⟩, Below.refl _ _⟩
  case round =>
    obtain ⟨k, s, m, hk, rfl, rfl, rfl, s1, s2, hall, hb⟩ := hrel
    obtain ⟨ha, hL⟩ := hall.out
    clear hall
    replace ha := Lib.hid ha
    replace hL := Lib.hid hL
    by_cases hlt : k < l.length
    · obtain ⟨b, off, rfl, hbB, hc⟩ := (h.below (hb.mono hB)).cells (by omega)
      obtain ⟨h1, h2⟩ := hc k l[k] (List.getElem?_eq_getElem hlt)
      have hok := h.ok l[k] (List.getElem_mem hlt)
      obtain ⟨o1, o2, o3, o4⟩ := hok
      by_cases r1 : l[k].1 < 0
      · have e := ha.out.range hlt (by omega)
        replace e := Lib.hid e
        clear hc
        have hr1 : decide (l[k].1 < 0) = true := decide_eq_true r1
        go_wp2
        go_quiet (fail)
        go_wp2
        go_ret
        first | exact ⟨ret_int (by rw [em.out, e.out]; rfl), below_drewN hb _⟩ | exact ⟨ret_int (by rw [em.out, e.out]; rfl), below_drewN (below_drewN hb _) _⟩
      have hr1 : decide (l[k].1 < 0) = false := decide_eq_false r1
      by_cases r2 : N ≤ l[k].1
      · have e := ha.out.range hlt (by rw [hN.out]; omega)
        replace e := Lib.hid e
        clear hc
        go_wp2
        go_quiet ((go_at_call 20; exact Calls.quiet_of_same (c _)))
        go_wp2
        go_ret
        first | exact ⟨ret_int (by rw [em.out, e.out]; rfl), below_drewN hb _⟩ | exact ⟨ret_int (by rw [em.out, e.out]; rfl), below_drewN (below_drewN hb _) _⟩
      have nxt := Left.next hL.out hlt h.ok s1
      have hks : k = 0 ∨ 0 < k := Nat.eq_zero_or_pos k
      have hq : 0 < k → ∃ q : Int × Int, l[k - 1]? = some q ∧ wr.cell? ⟨b, off + (k - 1) * 2, none⟩ = some (.int .i64 q.1) ∧ (l[k].1 ≤ q.1 → chk p none l = 15) ∧ (¬ l[k].1 ≤ q.1 → (l[k].2 = 0 → chk p none l = 16) ∧ (l[k].2 ≠ 0 → At p l (k + 1))) := fun h0 => by
        have hx : k - 1 < l.length := by omega
        refine ⟨l[k - 1], List.getElem?_eq_getElem hx, (hc (k - 1) _ (List.getElem?_eq_getElem hx)).1, fun hle => ha.out.order hlt (by omega) (by rw [hN.out]; omega) h0 hle, fun hn => ⟨fun h3 => ha.out.empty hlt (by omega) (by rw [hN.out]; omega) (fun _ => hn) h3, fun h3 => ha.out.next hlt (by omega) (by rw [hN.out]; omega) (fun _ => hn) h3⟩⟩
      have hz : k = 0 → (l[k].2 = 0 → chk p none l = 16) ∧ (l[k].2 ≠ 0 → At p l (k + 1)) := fun h0 =>
        ⟨fun h3 => ha.out.empty hlt (by omega) (by rw [hN.out]; omega) (fun h => absurd h (by omega)) h3, fun h3 => ha.out.next hlt (by omega) (by rw [hN.out]; omega) (fun h => absurd h (by omega)) h3⟩
      clear hc
      generalize l[k] = x at *
      obtain ⟨x1, x2⟩ := x
      simp only at h1 h2 o1 o2 o3 o4 r1 r2 hq hz nxt hr1
      have w5 := IntKind.wrap_u64 (s - x2)
      have w6 : 0 ≤ IntKind.u64.wrap (s - x2) ∧ IntKind.u64.wrap (s - x2) ≤ 18446744073709551615 := by rw [w5]; omega
      clear w5
      replace nxt := Lib.hid nxt
      replace w6 := Lib.hid w6
      have fin : x2 ≠ 0 → At p l (k + 1) → ∀ m', m' = (m || decide (s < x2)) → ∀ W, Below w.heap.size w W → ∃ (k' : Nat) (s' : Int) (b' : Bool), k' ≤ l.length ∧ Value.int .i64 ((k : Int) + 1) = .int .i64 k' ∧ Value.int .u64 (IntKind.u64.wrap (s - x2)) = .int .u64 s' ∧ Value.bool m' = .bool b' ∧ 0 ≤ s' ∧ s' ≤ 18446744073709551615 ∧ Hid (At p l k' ∧ Left l k' s' b') ∧ Below w.heap.size w W := fun _ a m' e W hW => by
        subst e
        exact ⟨k + 1, IntKind.u64.wrap (s - x2), _, hlt, by go_num, rfl, rfl, w6.out.1, w6.out.2, Lib.hid ⟨a, nxt.out⟩, hW⟩
      replace fin := Lib.hid fin
      rcases hks with hk0 | hk0
      · obtain ⟨hz1, hz2⟩ := hz hk0
        have hk0' : decide ((0 : Int) < (k : Int)) = false := decide_eq_false (by omega)
        have hk0'' : decide (0 < k) = false := decide_eq_false (by omega)
        clear hz hq hk0
        by_cases r3 : x2 = 0
        · have e := hz1 r3
          replace e := Lib.hid e
          have r3' : ((x2 : Int) == 0) = true := beq_iff_eq.2 r3
          clear r3 hz1 hz2
          go_wp2
          go_quiet ((go_at_call 20; exact Calls.quiet_of_same (c _)))
          go_wp2
          go_quiet (fail)
          go_wp2
          go_ret
          first | exact ⟨ret_int (by rw [em.out, e.out]; rfl), below_drewN hb _⟩ | exact ⟨ret_int (by rw [em.out, e.out]; rfl), below_drewN (below_drewN hb _) _⟩
        · have e := hz2 r3
          have fin1 := fun m' (e1 : m' = (m || decide (s < x2))) W (b : Below w.heap.size w W) => fin.out r3 e m' e1 W b
          replace fin1 := Lib.hid fin1
          replace e := Lib.hid e
          have r3' : ((x2 : Int) == 0) = false := beq_eq_false_iff_ne.2 r3
          clear r3 hz1 hz2
          cases hm : m with
          | true =>
            rw [hm] at fin1
            go_wp2
            go_quiet ((go_at_call 20; exact Calls.quiet_of_same (c _)))
            go_wp2
            go_quiet (fail)
            go_wp2
            exact ⟨fin1.out true (by simp) _ (below_drewN hb _), by simp [intOf]; omega⟩
          | false =>
            rw [hm] at fin1
            go_wp2
            go_quiet ((go_at_call 20; exact Calls.quiet_of_same (c _)))
            go_wp2
            go_quiet (fail)
            go_wp2
            exact ⟨fin1.out (decide (s < x2)) (by simp) _ (below_drewN hb _), by simp [intOf]; omega⟩
      · obtain ⟨⟨q1, q2⟩, hq1, hq2, hq3, hq4⟩ := hq hk0
        simp only at hq2 hq3 hq4
        have hk0' : decide ((0 : Int) < (k : Int)) = true := decide_eq_true (by omega)
        have hk0'' : decide (0 < k) = true := decide_eq_true (by omega)
        have hk1 : k - 1 < l.length := by omega
        have w1 : IntKind.i64.wrap ((k : Int) - 1) = (k : Int) - 1 := IntWalk.i64_in _ (by omega)
        have w2 : (0 : Int) ≤ (k : Int) - 1 := by omega
        have w3 : ((k : Int) - 1).toNat = k - 1 := by omega
        have w4 : (k : Int) - 1 < (l.length : Int) := by omega
        clear hz hq hq1
        by_cases hle : x1 ≤ q1
        · have e := hq3 hle
          replace e := Lib.hid e
          clear hq3 hq4
          go_wp2
          go_quiet ((go_at_call 20; exact Calls.quiet_of_same (c _)))
          go_wp2
          go_quiet (fail)
          go_wp2
          go_ret
          first | exact ⟨ret_int (by rw [em.out, e.out]; rfl), below_drewN hb _⟩ | exact ⟨ret_int (by rw [em.out, e.out]; rfl), below_drewN (below_drewN hb _) _⟩
        · obtain ⟨hz1, hz2⟩ := hq4 hle
          clear hq3 hq4
          by_cases r3 : x2 = 0
          · have e := hz1 r3
            replace e := Lib.hid e
            have r3' : ((x2 : Int) == 0) = true := beq_iff_eq.2 r3
            clear r3 hz1 hz2
            go_wp2
            go_quiet ((go_at_call 20; exact Calls.quiet_of_same (c _)))
            go_wp2
            go_quiet (fail)
            go_wp2
            go_ret
            first | exact ⟨ret_int (by rw [em.out, e.out]; rfl), below_drewN hb _⟩ | exact ⟨ret_int (by rw [em.out, e.out]; rfl), below_drewN (below_drewN hb _) _⟩
          · have e := hz2 r3
            have fin1 := fun m' (e1 : m' = (m || decide (s < x2))) W (b : Below w.heap.size w W) => fin.out r3 e m' e1 W b
            replace fin1 := Lib.hid fin1
            replace e := Lib.hid e
            have r3' : ((x2 : Int) == 0) = false := beq_eq_false_iff_ne.2 r3
            clear r3 hz1 hz2
            cases hm : m with
            | true =>
              rw [hm] at fin1
              go_wp2
              go_quiet ((go_at_call 20; exact Calls.quiet_of_same (c _)))
              go_wp2
              go_quiet (fail)
              go_wp2
              exact ⟨fin1.out true (by simp) _ (below_drewN hb _), by simp [intOf]; omega⟩
            | false =>
              rw [hm] at fin1
              go_wp2
              go_quiet ((go_at_call 20; exact Calls.quiet_of_same (c _)))
              go_wp2
              go_quiet (fail)
              go_wp2
              exact ⟨fin1.out (decide (s < x2)) (by simp) _ (below_drewN hb _), by simp [intOf]; omega⟩
    · have e := ha.out.done (by omega)
      have f1 := hL.out.1
      have f2 := hL.out.2
      rw [List.take_of_length_le (by omega)] at f1
      rw [e] at em
      replace em : mayE p l = if 9223372036854775807 < sumN l then 3 else 0 := em.out
      cases hm : m with
      | true =>
        have e3 : mayE p l = 3 := by rw [em, if_pos (f2 hm)]
        replace e3 := Lib.hid e3
        clear em e f1 f2
        go_wp2
        go_ret
        exact ⟨ret_int e3.out.symm, hb⟩
      | false =>
        have e3 : mayE p l = 0 := by rw [em, if_neg (by have := f1 hm; omega)]
        replace e3 := Lib.hid e3
        clear em e f1 f2
        go_wp2
        go_ret
        exact ⟨ret_int e3.out.symm, hb⟩

theorem rmay_any (w : World) (B : Nat) (p : Int) (l : List (Int × Int)) (A : Option Addr) (cap : Nat) (h : Cs w B A l) (hB : B ≤ w.heap.size) :
    Calls Try.prog 32 #[.int .i64 p, .slice A l.length cap] w fun e w' => e = .returned (.int .i64 (mayE p l)) ∧ Below w.heap.size w w' := by
  by_cases hp : good p
  · exact rmay_good w B p l A cap hp h hB
  · exact rmay_bad w p l A cap hp

set_option maxRecDepth 100000 in
theorem ratMost_any (w : World) (B : Nat) (p v : Int) (l : List (Int × Int)) (A : Option Addr) (cap : Nat) (h : Cs w B A l) (hB : B ≤ w.heap.size) :
    Calls Try.prog 40 #[.int .i64 p, .slice A l.length cap, .int .i64 v] w fun e w' => e = .returned (.tuple #[.int .u64 (atmI p v l), .int .i64 (mayE p l)]) ∧ Below w.heap.size w w' := by
  have hl := h.len
  unfold maxLen at hl
  have cm := rmay_any w B p l A cap h hB
  by_cases he : mayE p l = 0
  · have em : (mayE p l != 0) = false := by simp [he]
    have ea : atmI p v l = atmF p v 0 l := by rw [atmI, if_pos he]
    replace he := Lib.hid he; replace ea := Lib.hid ea
    go_enter Try.func40, Try.ntmps40
    go_wp2_with (go_at_call 32; refine cm.mono ?_; rintro e w1 ⟨rfl, hb0⟩)
    have hb1 := hb0
    clear hb0
    go_loopw [9, 10] (fun n i wr => ∃ k : Nat, k ≤ l.length ∧ i = .int .i64 k ∧ n = .int .u64 (atmF p v 0 (l.take k)) ∧ Below w.heap.size w wr) (fun _ i _ => l.length - (intOf i).toNat)
    case atStart => exact ⟨0, Nat.zero_le _, rfl, rfl, hb1⟩
    case round =>
      clear hb1
      obtain ⟨k, hk, rfl, rfl, hb⟩ := hrel
      by_cases hlt : k < l.length
      · obtain ⟨b, off, rfl, hbB, hc⟩ := (h.below (hb.mono hB)).cells (by omega)
        obtain ⟨h1, h2⟩ := hc k l[k] (List.getElem?_eq_getElem hlt)
        obtain ⟨o1, o2, o3, o4⟩ := h.ok l[k] (List.getElem_mem hlt)
        have hs := atmF_snoc p v 0 hlt
        clear hc
        generalize l[k] = x at *
        obtain ⟨x1, x2⟩ := x
        simp only at h1 h2 o1 o2 o3 o4 hs
        have ch := rhigh_any p x1 o2
        replace hs := Lib.hid hs
        by_cases hle : higI p x1 ≤ v
        · go_wp2_with (go_at_call 18; refine (ch _).mono ?_; rintro e w1 ⟨rfl, nq, rfl⟩)
          exact ⟨⟨k + 1, by omega, by go_num, by rw [hs.out, if_pos hle], below_drewN hb _⟩, by simp [intOf]; omega⟩
        · go_wp2_with (go_at_call 18; refine (ch _).mono ?_; rintro e w1 ⟨rfl, nq, rfl⟩)
          exact ⟨⟨k + 1, by omega, by go_num, by rw [hs.out, if_neg (by omega)], below_drewN hb _⟩, by simp [intOf]; omega⟩
      · go_wp2
        go_ret2
        exact ⟨ret_int2 (by rw [ea.out, List.take_of_length_le (by omega)]) he.out.symm, hb⟩
  · have em : (mayE p l != 0) = true := by simp [he]
    have ea : atmI p v l = 0 := by rw [atmI, if_neg he]
    replace he := Lib.hid he; replace ea := Lib.hid ea
    go_enter Try.func40, Try.ntmps40
    go_wp2_with (go_at_call 32; refine cm.mono ?_; rintro e w1 ⟨rfl, hb0⟩)
    go_ret2
    exact ⟨ret_int2 ea.out.symm rfl, hb0⟩
theorem atF_some : ∀ (l : List (Int × Int)) (n : Int), 0 < n → n ≤ sumN l → (∀ c ∈ l, okC c) → (atF n l).isSome = true
  | [], n, h, h2, _ => by simp [sumN] at h2; omega
  | c :: r, n, h, h2, ho => by
    have e : sumN (c :: r) = c.2 + sumN r := by simp [sumN]
    rw [atF]
    by_cases hc : n ≤ c.2
    · rw [if_pos hc]; rfl
    · rw [if_neg hc]
      exact atF_some r _ (by omega) (by omega) fun x hx => ho x (List.mem_cons_of_mem _ hx)
/-- Where the counts may be and the quantile is one, the rank's value is there. -/
theorem at_there {p : Int} {l : List (Int × Int)} {num den : Int} (ho : ∀ c ∈ l, okC c) (e1 : mayE p l = 0) (e2 : rankE (totN l) num den = 0) : atE l (quaR l num den) = 0 := by
  have hs : sumN l ≤ 9223372036854775807 := by
    unfold mayE at e1
    by_cases hg : good p
    · rw [if_neg (by simpa using hg)] at e1
      by_cases hc : chk p none l ≠ 0
      · rw [if_pos hc] at e1; exact absurd e1 hc
      · rw [if_neg hc] at e1
        by_cases hs : 9223372036854775807 < sumN l
        · rw [if_pos hs] at e1; omega
        · omega
    · rw [if_pos hg] at e1; omega
  have hnn := sumN_nonneg ho
  have ht : (totN l : Int) = sumN l := by
    have := totF_sum l 0 (by omega) (fun c hc => (ho c hc).2.2.1) (by omega)
    rw [← totN_eq, this]; omega
  unfold rankE at e2
  by_cases hb : den < 1 ∨ num < 0 ∨ den < num
  · rw [if_pos hb] at e2; omega
  · rw [if_neg hb] at e2
    by_cases h0 : totN l = 0
    · rw [if_pos h0] at e2; omega
    · obtain ⟨_, _, r1, r2⟩ := rank_is (n := totN l) (num := num) (den := den) (by omega) (by omega) (by omega) (by omega)
      have := atF_some l (quaR l num den) (by unfold quaR; omega) (by unfold quaR; omega) ho
      rw [atE, if_neg (by unfold quaR; omega), this]; rfl

theorem rquantile_any (w : World) (B : Nat) (p : Int) (l : List (Int × Int)) (A : Option Addr) (cap : Nat) (num den : Int) (h : Cs w B A l) (hB : B ≤ w.heap.size) (hd : den ≤ 9223372036854775807) :
    Calls Try.prog 39 #[.int .i64 p, .slice A l.length cap, .int .i64 num, .int .i64 den] w fun e w' => e = .returned (.tuple #[.int .i64 (quaI p l num den), .int .i64 (quaE p l num den)]) ∧ Below w.heap.size w w' := by
  have cm := rmay_any w B p l A cap h hB
  have ht := totF_rng l
  have htn := totN_eq l
  have hr := rankI_le (totN l) num den (by omega) hd
  have hai := atI_rng (n := quaR l num den) h.ok
  by_cases e1 : mayE p l = 0
  · have f1 : (mayE p l != 0) = false := by simp [e1]
    by_cases e2 : rankE (totN l) num den = 0
    · have f2 : (rankE (totN l) num den != 0) = false := by simp [e2]
      by_cases e3 : atE l (quaR l num den) = 0
      · have f3 : (atE l (quaR l num den) != 0) = false := by simp [e3]
        have g1 : quaE p l num den = lowE p (atI l (quaR l num den)) := by simp [quaE, e1, e2, e3]
        have g2 : quaI p l num den = higI p (atI l (quaR l num den)) := by simp [quaI, e1, e2, e3]
        have ch := rhigh_any p (atI l (quaR l num den)) hai.2
        have cr := rrank_any (totN l) num den (by omega) hd
        have cq : (rankI (totN l) num den : Int) = quaR l num den := rfl
        rw [cq] at cr
        have qr : 0 ≤ quaR l num den ∧ quaR l num den ≤ 18446744073709551615 := by rw [← cq]; omega
        replace e1 := Lib.hid e1; replace e2 := Lib.hid e2; replace e3 := Lib.hid e3; replace g1 := Lib.hid g1; replace g2 := Lib.hid g2; replace htn := Lib.hid htn; replace ht := Lib.hid ht; replace hr := Lib.hid hr; replace hai := Lib.hid hai; replace cq := Lib.hid cq; replace qr := Lib.hid qr
        go_enter Try.func39, Try.ntmps39
        go_wp2_with fail
        refine cm.mono ?_; rintro e w1 ⟨rfl, hb1⟩
        go_wp2_with fail
        refine (rtotal_any w1 B A l cap (h.below (hb1.mono hB)) (Nat.le_trans hB hb1.size)).mono ?_; rintro e w2 ⟨rfl, hb2⟩
        rw [htn.out]
        replace hb2 := hb1.trans (hb2.mono hb1.size)
        clear hb1
        go_wp2_with fail
        refine (cr _).mono ?_; rintro e w3 ⟨rfl, n3, rfl⟩
        go_wp2_with fail
        refine (rat_any (w2.drewN n3) B l A cap (quaR l num den) (h.below ((below_drewN hb2 n3).mono hB)) (Nat.le_trans hB hb2.size) qr.out.1 qr.out.2).mono ?_; rintro e w4 ⟨rfl, hb4⟩
        replace hb4 := hb2.trans ((below_drewN (Below.refl _ w2) n3).trans (hb4.mono hb2.size))
        go_wp2_with fail
        refine (ch _).mono ?_; rintro e w5 ⟨rfl, n5, rfl⟩
        go_wp2
        go_ret2
        exact ⟨ret_int2 g2.out.symm g1.out.symm, below_drewN hb4 _⟩
      · exact absurd (at_there h.ok e1 e2) e3
    · have f2 : (rankE (totN l) num den != 0) = true := by simp [e2]
      have g1 : quaE p l num den = rankE (totN l) num den := by simp [quaE, e1, e2]
      have g2 : quaI p l num den = 0 := by simp [quaI, e1, e2]
      have cr := rrank_any (totN l) num den (by omega) hd
      replace e1 := Lib.hid e1; replace e2 := Lib.hid e2; replace g1 := Lib.hid g1; replace g2 := Lib.hid g2; replace htn := Lib.hid htn; replace ht := Lib.hid ht; replace hr := Lib.hid hr; replace hai := Lib.hid hai
      go_enter Try.func39, Try.ntmps39
      go_wp2_with fail
      refine cm.mono ?_; rintro e w1 ⟨rfl, hb1⟩
      go_wp2_with fail
      refine (rtotal_any w1 B A l cap (h.below (hb1.mono hB)) (Nat.le_trans hB hb1.size)).mono ?_; rintro e w2 ⟨rfl, hb2⟩
      rw [htn.out]
      replace hb2 := hb1.trans (hb2.mono hb1.size)
      clear hb1
      go_wp2_with fail
      refine (cr _).mono ?_; rintro e w3 ⟨rfl, n3, rfl⟩
      go_wp2
      go_ret2
      exact ⟨ret_int2 g2.out.symm g1.out.symm, below_drewN hb2 _⟩
  · have f1 : (mayE p l != 0) = true := by simp [e1]
    have g1 : quaE p l num den = mayE p l := by simp [quaE, e1]
    have g2 : quaI p l num den = 0 := by simp [quaI, e1]
    replace e1 := Lib.hid e1; replace g1 := Lib.hid g1; replace g2 := Lib.hid g2; replace htn := Lib.hid htn; replace ht := Lib.hid ht; replace hr := Lib.hid hr; replace hai := Lib.hid hai
    go_enter Try.func39, Try.ntmps39
    go_wp2_with fail
    refine cm.mono ?_; rintro e w1 ⟨rfl, hb1⟩
    go_wp2
    go_ret2
    exact ⟨ret_int2 g2.out.symm g1.out.symm, hb1⟩

end Go.Proofs.Ytonacegkhkncmaa.Rk
