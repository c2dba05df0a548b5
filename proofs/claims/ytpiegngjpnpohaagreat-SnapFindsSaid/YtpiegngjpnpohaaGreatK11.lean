/- Lemmas for the laws of this seat, laid together of Rd1, Rd2, St0. -/
import Derived.Test.YtpiegngjpnpohaaGreatK10
import Derived.Laws.StructEq
import Derived.Sort.LotA

namespace Go.Proofs.YtpiegngjpnpohaaGreat.Rk
open Go.RowKit Go.Proofs.YtpiegngjpnpohaaGreat.Bk
set_option linter.unusedVariables false
theorem rmay_bad (w : World) (p : Int) (l : List (Int × Int)) (A : Option Addr) (cap : Nat) (hp : ¬ good p) :
    Calls Tryz.prog 101 #[.int .i64 p, .slice A l.length cap] w fun e w' => e = .returned (.int .i64 (mayE p l)) ∧ Below w.heap.size w w' := by
  have e1 : mayE p l = 1 := by rw [mayE, if_pos hp]
  replace e1 := Lib.hid e1
  have hc : p < 1 ∨ 14 < p := by
    rcases Int.lt_or_le p 1 with h | h
    · exact .inl h
    · exact .inr (Int.not_le.1 fun h2 => hp ⟨h, h2⟩)
  clear hp
  rcases hc with h | h
  · go_enter Tryz.func101, Tryz.ntmps101
    go_wp2
    go_ret
    exact ⟨ret_int e1.out.symm, Below.refl _ _⟩
  · have h' : ¬ p < 1 := by omega
    go_enter Tryz.func101, Tryz.ntmps101
    go_wp2
    go_ret
    exact ⟨ret_int e1.out.symm, Below.refl _ _⟩
def Left (l : List (Int × Int)) (k : Nat) (s : Int) (m : Bool) : Prop := (m = false → sumN (l.take k) + s = 9223372036854775807) ∧ (m = true → 9223372036854775807 < sumN l)
theorem Left.next {l : List (Int × Int)} {k : Nat} {s : Int} {m : Bool} (h : Left l k s m) (hk : k < l.length) (hok : ∀ c ∈ l, okC c) (hs : 0 ≤ s) : Left l (k + 1) (IntKind.u64.wrap (s - l[k].2)) (m || decide (s < l[k].2)) := by
  have h1 := sumN_snoc hk
  have h2 := sumN_take_le hok (k + 1)
  have h3 := sumN_nonneg (l := l.take k) fun c hc => hok c (List.mem_of_mem_take hc)
  have o := hok l[k] (List.getElem_mem hk)
  unfold okC at o
  refine ⟨fun e => ?_, fun e => ?_⟩
  · rw [Bool.or_eq_false_iff] at e
    have := h.1 e.1
    have e2 := of_decide_eq_false e.2
    rw [IntWalk.u64_in _ (by omega)]; omega
  · rcases Bool.or_eq_true_iff.1 e with e | e
    · exact h.2 e
    · have e2 := of_decide_eq_true e
      cases hm : m with
      | true => exact h.2 hm
      | false => have := h.1 hm; omega
set_option maxRecDepth 100000 in
set_option maxHeartbeats 2000000 in
theorem rmay_good (w : World) (B : Nat) (p : Int) (l : List (Int × Int)) (A : Option Addr) (cap : Nat) (hp : good p) (h : Cs w B A l) (hB : B ≤ w.heap.size) :
    Calls Tryz.prog 101 #[.int .i64 p, .slice A l.length cap] w fun e w' => e = .returned (.int .i64 (mayE p l)) ∧ Below w.heap.size w w' := by
  have hl := h.len
  unfold maxLen at hl
  have c := fun W => (rlength_any p W).mono (R' := fun e w' => e = .returned (.int .i64 (lenI p)) ∧ w' = W) fun e w' ⟨h1, h2⟩ => ⟨h1, h2.symm⟩
  have n0 := lenI_ge hp
  have n1 := lenI_rng p
  obtain ⟨_, n1⟩ := n1
  have em : mayE p l = if chk p none l ≠ 0 then chk p none l else if 9223372036854775807 < sumN l then 3 else 0 := by rw [mayE, if_neg (by simpa using hp)]
  replace em := Lib.hid em
  have p1 : ¬ p < 1 := by have := hp.1; omega
  have p2 : ¬ 14 < p := by have := hp.2; omega
  replace hp := Lib.hid hp
  generalize hN : lenI p = N at *
  replace hN := Lib.hid hN
  go_enter Tryz.func101, Tryz.ntmps101
  go_wp2
  go_loopw [5, 6, 7] (fun r m i wr => ∃ (k : Nat) (s : Int) (b : Bool), k ≤ l.length ∧ i = .int .i64 k ∧ r = .int .u64 s ∧ m = .bool b ∧ 0 ≤ s ∧ s ≤ 18446744073709551615 ∧ Hid (At p l k ∧ Left l k s b) ∧ Below w.heap.size w wr) (fun _ _ i _ => l.length - (intOf i).toNat)
  case atStart => exact ⟨0, 9223372036854775807, false, Nat.zero_le _, rfl, rfl, rfl, by omega, by omega, Lib.hid ⟨At.zero _ _, fun _ => by simp [sumN], fun e => by cases e⟩, Below.refl _ _⟩
  case round =>
    obtain ⟨k, s, m, hk, rfl, rfl, rfl, s1, s2, hall, hb⟩ := hrel
    obtain ⟨ha, hL⟩ := hall.out
    clear hall
    replace ha := Lib.hid ha
    replace hL := Lib.hid hL
    by_cases hlt : k < l.length
    · obtain ⟨b, off, rfl, hbB, hc⟩ := (h.below (hb.mono hB)).cells (by omega)
      obtain ⟨h1, h2⟩ := hc k l[k] (List.getElem?_eq_getElem hlt)
      have hok := h.ok l[k] (List.getElem_mem hlt)
      obtain ⟨o1, o2, o3, o4⟩ := hok
      by_cases r1 : l[k].1 < 0
      · have e := ha.out.range hlt (by omega)
        replace e := Lib.hid e
        clear hc
        have hr1 : decide (l[k].1 < 0) = true := decide_eq_true r1
        go_wp2
        go_quiet (fail)
        go_wp2
        go_ret
        first | exact ⟨ret_int (by rw [em.out, e.out]; rfl), below_drewN hb _⟩ | exact ⟨ret_int (by rw [em.out, e.out]; rfl), below_drewN (below_drewN hb _) _⟩
      have hr1 : decide (l[k].1 < 0) = false := decide_eq_false r1
      by_cases r2 : N ≤ l[k].1
      · have e := ha.out.range hlt (by rw [hN.out]; omega)
        replace e := Lib.hid e
        clear hc
        go_wp2
        go_quiet ((go_at_call 155; exact Calls.quiet_of_same (c _)))
        go_wp2
        go_ret
        first | exact ⟨ret_int (by rw [em.out, e.out]; rfl), below_drewN hb _⟩ | exact ⟨ret_int (by rw [em.out, e.out]; rfl), below_drewN (below_drewN hb _) _⟩
      have nxt := Left.next hL.out hlt h.ok s1
      have hks : k = 0 ∨ 0 < k := Nat.eq_zero_or_pos k
      have hq : 0 < k → ∃ q : Int × Int, l[k - 1]? = some q ∧ wr.cell? ⟨b, off + (k - 1) * 2, none⟩ = some (.int .i64 q.1) ∧ (l[k].1 ≤ q.1 → chk p none l = 15) ∧ (¬ l[k].1 ≤ q.1 → (l[k].2 = 0 → chk p none l = 16) ∧ (l[k].2 ≠ 0 → At p l (k + 1))) := fun h0 => by
        have hx : k - 1 < l.length := by omega
        refine ⟨l[k - 1], List.getElem?_eq_getElem hx, (hc (k - 1) _ (List.getElem?_eq_getElem hx)).1, fun hle => ha.out.order hlt (by omega) (by rw [hN.out]; omega) h0 hle, fun hn => ⟨fun h3 => ha.out.empty hlt (by omega) (by rw [hN.out]; omega) (fun _ => hn) h3, fun h3 => ha.out.next hlt (by omega) (by rw [hN.out]; omega) (fun _ => hn) h3⟩⟩
      have hz : k = 0 → (l[k].2 = 0 → chk p none l = 16) ∧ (l[k].2 ≠ 0 → At p l (k + 1)) := fun h0 =>
        ⟨fun h3 => ha.out.empty hlt (by omega) (by rw [hN.out]; omega) (fun h => absurd h (by omega)) h3, fun h3 => ha.out.next hlt (by omega) (by rw [hN.out]; omega) (fun h => absurd h (by omega)) h3⟩
      clear hc
      generalize l[k] = x at *
      obtain ⟨x1, x2⟩ := x
      simp only at h1 h2 o1 o2 o3 o4 r1 r2 hq hz nxt hr1
      have w5 := IntKind.wrap_u64 (s - x2)
      have w6 : 0 ≤ IntKind.u64.wrap (s - x2) ∧ IntKind.u64.wrap (s - x2) ≤ 18446744073709551615 := by rw [w5]; omega
      clear w5
      replace nxt := Lib.hid nxt
      replace w6 := Lib.hid w6
      have fin : x2 ≠ 0 → At p l (k + 1) → ∀ m', m' = (m || decide (s < x2)) → ∀ W, Below w.heap.size w W → ∃ (k' : Nat) (s' : Int) (b' : Bool), k' ≤ l.length ∧ Value.int .i64 ((k : Int) + 1) = .int .i64 k' ∧ Value.int .u64 (IntKind.u64.wrap (s - x2)) = .int .u64 s' ∧ Value.bool m' = .bool b' ∧ 0 ≤ s' ∧ s' ≤ 18446744073709551615 ∧ Hid (At p l k' ∧ Left l k' s' b') ∧ Below w.heap.size w W := fun _ a m' e W hW => by
        subst e
        exact ⟨k + 1, IntKind.u64.wrap (s - x2), _, hlt, by go_num, rfl, rfl, w6.out.1, w6.out.2, Lib.hid ⟨a, nxt.out⟩, hW⟩
      replace fin := Lib.hid fin
      rcases hks with hk0 | hk0
      · obtain ⟨hz1, hz2⟩ := hz hk0
        have hk0' : decide ((0 : Int) < (k : Int)) = false := decide_eq_false (by omega)
        have hk0'' : decide (0 < k) = false := decide_eq_false (by omega)
        clear hz hq hk0
        by_cases r3 : x2 = 0
        · have e := hz1 r3
          replace e := Lib.hid e
          have r3' : ((x2 : Int) == 0) = true := beq_iff_eq.2 r3
          clear r3 hz1 hz2
          go_wp2
          go_quiet ((go_at_call 155; exact Calls.quiet_of_same (c _)))
          go_wp2
          go_quiet (fail)
          go_wp2
          go_ret
          first | exact ⟨ret_int (by rw [em.out, e.out]; rfl), below_drewN hb _⟩ | exact ⟨ret_int (by rw [em.out, e.out]; rfl), below_drewN (below_drewN hb _) _⟩
        · have e := hz2 r3
          have fin1 := fun m' (e1 : m' = (m || decide (s < x2))) W (b : Below w.heap.size w W) => fin.out r3 e m' e1 W b
          replace fin1 := Lib.hid fin1
          replace e := Lib.hid e
          have r3' : ((x2 : Int) == 0) = false := beq_eq_false_iff_ne.2 r3
          clear r3 hz1 hz2
          cases hm : m with
          | true =>
            rw [hm] at fin1
            go_wp2
            go_quiet ((go_at_call 155; exact Calls.quiet_of_same (c _)))
            go_wp2
            go_quiet (fail)
            go_wp2
            exact ⟨fin1.out true (by simp) _ (below_drewN hb _), by simp [intOf]; omega⟩
          | false =>
            rw [hm] at fin1
            go_wp2
            go_quiet ((go_at_call 155; exact Calls.quiet_of_same (c _)))
            go_wp2
            go_quiet (fail)
            go_wp2
            exact ⟨fin1.out (decide (s < x2)) (by simp) _ (below_drewN hb _), by simp [intOf]; omega⟩
      · obtain ⟨⟨q1, q2⟩, hq1, hq2, hq3, hq4⟩ := hq hk0
        simp only at hq2 hq3 hq4
        have hk0' : decide ((0 : Int) < (k : Int)) = true := decide_eq_true (by omega)
        have hk0'' : decide (0 < k) = true := decide_eq_true (by omega)
        have hk1 : k - 1 < l.length := by omega
        have w1 : IntKind.i64.wrap ((k : Int) - 1) = (k : Int) - 1 := IntWalk.i64_in _ (by omega)
        have w2 : (0 : Int) ≤ (k : Int) - 1 := by omega
        have w3 : ((k : Int) - 1).toNat = k - 1 := by omega
        have w4 : (k : Int) - 1 < (l.length : Int) := by omega
        clear hz hq hq1
        by_cases hle : x1 ≤ q1
        · have e := hq3 hle
          replace e := Lib.hid e
          clear hq3 hq4
          go_wp2
          go_quiet ((go_at_call 155; exact Calls.quiet_of_same (c _)))
          go_wp2
          go_quiet (fail)
          go_wp2
          go_ret
          first | exact ⟨ret_int (by rw [em.out, e.out]; rfl), below_drewN hb _⟩ | exact ⟨ret_int (by rw [em.out, e.out]; rfl), below_drewN (below_drewN hb _) _⟩
        · obtain ⟨hz1, hz2⟩ := hq4 hle
          clear hq3 hq4
          by_cases r3 : x2 = 0
          · have e := hz1 r3
            replace e := Lib.hid e
            have r3' : ((x2 : Int) == 0) = true := beq_iff_eq.2 r3
            clear r3 hz1 hz2
            go_wp2
            go_quiet ((go_at_call 155; exact Calls.quiet_of_same (c _)))
            go_wp2
            go_quiet (fail)
            go_wp2
            go_ret
            first | exact ⟨ret_int (by rw [em.out, e.out]; rfl), below_drewN hb _⟩ | exact ⟨ret_int (by rw [em.out, e.out]; rfl), below_drewN (below_drewN hb _) _⟩
          · have e := hz2 r3
            have fin1 := fun m' (e1 : m' = (m || decide (s < x2))) W (b : Below w.heap.size w W) => fin.out r3 e m' e1 W b
            replace fin1 := Lib.hid fin1
            replace e := Lib.hid e
            have r3' : ((x2 : Int) == 0) = false := beq_eq_false_iff_ne.2 r3
            clear r3 hz1 hz2
            cases hm : m with
            | true =>
              rw [hm] at fin1
              go_wp2
              go_quiet ((go_at_call 155; exact Calls.quiet_of_same (c _)))
              go_wp2
              go_quiet (fail)
              go_wp2
              exact ⟨fin1.out true (by simp) _ (below_drewN hb _), by simp [intOf]; omega⟩
            | false =>
              rw [hm] at fin1
              go_wp2
              go_quiet ((go_at_call 155; exact Calls.quiet_of_same (c _)))
              go_wp2
              go_quiet (fail)
              go_wp2
              exact ⟨fin1.out (decide (s < x2)) (by simp) _ (below_drewN hb _), by simp [intOf]; omega⟩
    · have e := ha.out.done (by omega)
      have f1 := hL.out.1
      have f2 := hL.out.2
      rw [List.take_of_length_le (by omega)] at f1
      rw [e] at em
      replace em : mayE p l = if 9223372036854775807 < sumN l then 3 else 0 := em.out
      cases hm : m with
      | true =>
        have e3 : mayE p l = 3 := by rw [em, if_pos (f2 hm)]
        replace e3 := Lib.hid e3
        clear em e f1 f2
        go_wp2
        go_ret
        exact ⟨ret_int e3.out.symm, hb⟩
      | false =>
        have e3 : mayE p l = 0 := by rw [em, if_neg (by have := f1 hm; omega)]
        replace e3 := Lib.hid e3
        clear em e f1 f2
        go_wp2
        go_ret
        exact ⟨ret_int e3.out.symm, hb⟩
theorem rmay_any (w : World) (B : Nat) (p : Int) (l : List (Int × Int)) (A : Option Addr) (cap : Nat) (h : Cs w B A l) (hB : B ≤ w.heap.size) :
    Calls Tryz.prog 101 #[.int .i64 p, .slice A l.length cap] w fun e w' => e = .returned (.int .i64 (mayE p l)) ∧ Below w.heap.size w w' := by
  by_cases hp : good p
  · exact rmay_good w B p l A cap hp h hB
  · exact rmay_bad w p l A cap hp
theorem atF_some : ∀ (l : List (Int × Int)) (n : Int), 0 < n → n ≤ sumN l → (∀ c ∈ l, okC c) → (atF n l).isSome = true
  | [], n, h, h2, _ => by simp [sumN] at h2; omega
  | c :: r, n, h, h2, ho => by
    have e : sumN (c :: r) = c.2 + sumN r := by simp [sumN]
    rw [atF]
    by_cases hc : n ≤ c.2
    · rw [if_pos hc]; rfl
    · rw [if_neg hc]
      exact atF_some r _ (by omega) (by omega) fun x hx => ho x (List.mem_cons_of_mem _ hx)
theorem at_there {p : Int} {l : List (Int × Int)} {num den : Int} (ho : ∀ c ∈ l, okC c) (e1 : mayE p l = 0) (e2 : rankE (totN l) num den = 0) : atE l (quaR l num den) = 0 := by
  have hs : sumN l ≤ 9223372036854775807 := by
    unfold mayE at e1
    by_cases hg : good p
    · rw [if_neg (by simpa using hg)] at e1
      by_cases hc : chk p none l ≠ 0
      · rw [if_pos hc] at e1; exact absurd e1 hc
      · rw [if_neg hc] at e1
        by_cases hs : 9223372036854775807 < sumN l
        · rw [if_pos hs] at e1; omega
        · omega
    · rw [if_pos hg] at e1; omega
  have hnn := sumN_nonneg ho
  have ht : (totN l : Int) = sumN l := by
    have := totF_sum l 0 (by omega) (fun c hc => (ho c hc).2.2.1) (by omega)
    rw [← totN_eq, this]; omega
  unfold rankE at e2
  by_cases hb : den < 1 ∨ num < 0 ∨ den < num
  · rw [if_pos hb] at e2; omega
  · rw [if_neg hb] at e2
    by_cases h0 : totN l = 0
    · rw [if_pos h0] at e2; omega
    · obtain ⟨_, _, r1, r2⟩ := rank_is (n := totN l) (num := num) (den := den) (by omega) (by omega) (by omega) (by omega)
      have := atF_some l (quaR l num den) (by unfold quaR; omega) (by unfold quaR; omega) ho
      rw [atE, if_neg (by unfold quaR; omega), this]; rfl
theorem rquantile_any (w : World) (B : Nat) (p : Int) (l : List (Int × Int)) (A : Option Addr) (cap : Nat) (num den : Int) (h : Cs w B A l) (hB : B ≤ w.heap.size) (hd : den ≤ 9223372036854775807) :
    Calls Tryz.prog 71 #[.int .i64 p, .slice A l.length cap, .int .i64 num, .int .i64 den] w fun e w' => e = .returned (.tuple #[.int .i64 (quaI p l num den), .int .i64 (quaE p l num den)]) ∧ Below w.heap.size w w' := by
  have cm := rmay_any w B p l A cap h hB
  have ht := totF_rng l
  have htn := totN_eq l
  have hr := rankI_le (totN l) num den (by omega) hd
  have hai := atI_rng (n := quaR l num den) h.ok
  by_cases e1 : mayE p l = 0
  · have f1 : (mayE p l != 0) = false := by simp [e1]
    by_cases e2 : rankE (totN l) num den = 0
    · have f2 : (rankE (totN l) num den != 0) = false := by simp [e2]
      by_cases e3 : atE l (quaR l num den) = 0
      · have f3 : (atE l (quaR l num den) != 0) = false := by simp [e3]
        have g1 : quaE p l num den = lowE p (atI l (quaR l num den)) := by simp [quaE, e1, e2, e3]
        have g2 : quaI p l num den = higI p (atI l (quaR l num den)) := by simp [quaI, e1, e2, e3]
        have ch := rhigh_any p (atI l (quaR l num den)) hai.2
        have cr := rrank_any (totN l) num den (by omega) hd
        have cq : (rankI (totN l) num den : Int) = quaR l num den := rfl
        rw [cq] at cr
        have qr : 0 ≤ quaR l num den ∧ quaR l num den ≤ 18446744073709551615 := by rw [← cq]; omega
        replace e1 := Lib.hid e1; replace e2 := Lib.hid e2; replace e3 := Lib.hid e3; replace g1 := Lib.hid g1; replace g2 := Lib.hid g2; replace htn := Lib.hid htn; replace ht := Lib.hid ht; replace hr := Lib.hid hr; replace hai := Lib.hid hai; replace cq := Lib.hid cq; replace qr := Lib.hid qr
        go_enter Tryz.func71, Tryz.ntmps71
        go_wp2_with fail
        refine cm.mono ?_; rintro e w1 ⟨rfl, hb1⟩
        go_wp2_with fail
        refine (rtotal_any w1 B A l cap (h.below (hb1.mono hB)) (Nat.le_trans hB hb1.size)).mono ?_; rintro e w2 ⟨rfl, hb2⟩
        rw [htn.out]
        replace hb2 := hb1.trans (hb2.mono hb1.size)
        clear hb1
        go_wp2_with fail
        refine (cr _).mono ?_; rintro e w3 ⟨rfl, n3, rfl⟩
        go_wp2_with fail
        refine (rat_any (w2.drewN n3) B l A cap (quaR l num den) (h.below ((below_drewN hb2 n3).mono hB)) (Nat.le_trans hB hb2.size) qr.out.1 qr.out.2).mono ?_; rintro e w4 ⟨rfl, hb4⟩
        replace hb4 := hb2.trans ((below_drewN (Below.refl _ w2) n3).trans (hb4.mono hb2.size))
        go_wp2_with fail
        refine (ch _).mono ?_; rintro e w5 ⟨rfl, n5, rfl⟩
        go_wp2
        go_ret2
        exact ⟨ret_int2 g2.out.symm g1.out.symm, below_drewN hb4 _⟩
      · exact absurd (at_there h.ok e1 e2) e3
    · have f2 : (rankE (totN l) num den != 0) = true := by simp [e2]
      have g1 : quaE p l num den = rankE (totN l) num den := by simp [quaE, e1, e2]
      have g2 : quaI p l num den = 0 := by simp [quaI, e1, e2]
      have cr := rrank_any (totN l) num den (by omega) hd
      replace e1 := Lib.hid e1; replace e2 := Lib.hid e2; replace g1 := Lib.hid g1; replace g2 := Lib.hid g2; replace htn := Lib.hid htn; replace ht := Lib.hid ht; replace hr := Lib.hid hr; replace hai := Lib.hid hai
      go_enter Tryz.func71, Tryz.ntmps71
      go_wp2_with fail
      refine cm.mono ?_; rintro e w1 ⟨rfl, hb1⟩
      go_wp2_with fail
      refine (rtotal_any w1 B A l cap (h.below (hb1.mono hB)) (Nat.le_trans hB hb1.size)).mono ?_; rintro e w2 ⟨rfl, hb2⟩
      rw [htn.out]
      replace hb2 := hb1.trans (hb2.mono hb1.size)
      clear hb1
      go_wp2_with fail
      refine (cr _).mono ?_; rintro e w3 ⟨rfl, n3, rfl⟩
      go_wp2
      go_ret2
      exact ⟨ret_int2 g2.out.symm g1.out.symm, below_drewN hb2 _⟩
  · have f1 : (mayE p l != 0) = true := by simp [e1]
    have g1 : quaE p l num den = mayE p l := by simp [quaE, e1]
    have g2 : quaI p l num den = 0 := by simp [quaI, e1]
    replace e1 := Lib.hid e1; replace g1 := Lib.hid g1; replace g2 := Lib.hid g2; replace htn := Lib.hid htn; replace ht := Lib.hid ht; replace hr := Lib.hid hr; replace hai := Lib.hid hai
    go_enter Tryz.func71, Tryz.ntmps71
    go_wp2_with fail
    refine cm.mono ?_; rintro e w1 ⟨rfl, hb1⟩
    go_wp2
    go_ret2
    exact ⟨ret_int2 g2.out.symm g1.out.symm, hb1⟩
end Go.Proofs.YtpiegngjpnpohaaGreat.Rk

namespace Go.Proofs.YtpiegngjpnpohaaGreat.Rk
open Go.RowKit Go.Proofs.YtpiegngjpnpohaaGreat.Bk
set_option linter.unusedVariables false
theorem eqC (a b c d : Int) (w : World) : (Op.equalIn 10000 54 (.agg #[.int .i64 a, .int .u64 b]) (.agg #[.int .i64 c, .int .u64 d])).run Tryz.prog w = .ok (a == c && b == d) w := by
  have u3 := Tryz.underlying3
  have u39 := Tryz.underlying23
  have a3 := Tryz.isAgg3
  have a39 := Tryz.isAgg23
  have hS : Tryz.prog.underlying 54 = some (.struct (Tryz.prog.fieldsOf 54)) := by kernel_rfl
  have hp : Tryz.prog.stoodInHeld 54 = false := by kernel_rfl
  rw [show (10000 : Nat) = 9999 + 1 from rfl, run_equalIn_agg w 9999 54 _ _ hS hp]
  simp only [Program.fieldsOf, Tryz.underlying54]
  go_simp
  by_cases h1 : a = c <;> by_cases h2 : b = d <;> simp [h1, h2]
set_option maxHeartbeats 1000000 in
theorem same_any (w : World) (B : Nat) (A1 A2 : Option Addr) (a b : List (Int × Int)) (c1 c2 : Nat) (h1 : Cs w B A1 a) (h2 : Cs w B A2 b) (hB : B ≤ w.heap.size) :
    Calls Tryz.prog 63 #[.slice A1 a.length c1, .slice A2 b.length c2] w fun e w' => e = .returned (.bool (decide (a = b))) ∧ Below w.heap.size w w' := by
  have l1 := h1.len
  have l2 := h2.len
  unfold maxLen at l1 l2
  by_cases hl : a.length = b.length
  · have hl2 : (a.length != b.length) = false := by simp [hl]
    have hl3 : (a.length == b.length) = true := by simp [hl]
    have hl4 : ((a.length : Int) == (b.length : Int)) = true := by simp [hl]
    obtain ⟨n, hn⟩ : ∃ n, n = b.length := ⟨_, rfl⟩
    have hl5 := hl
    rw [← hn] at hl hl2 hl3 hl4 l2
    obtain ⟨res, hres⟩ : ∃ r, r = decide (a = b) := ⟨_, rfl⟩
    rw [hl] at hl2 hl3 hl4 l1 ⊢
    rw [← hres, ← hn]
    replace hres := Lib.hid hres
    replace hl := Lib.hid hl
    replace hl5 := Lib.hid hl5
    replace hn := Lib.hid hn
    go_enter Tryz.func63, Tryz.ntmps63
    go_wp2
    go_loopw [5] (fun i wr => ∃ k : Nat, k ≤ n ∧ i = .int .i64 k ∧ Hid (a.take k = b.take k) ∧ Below w.heap.size w wr) (fun i _ => n - (intOf i).toNat)
    case atStart => exact ⟨0, Nat.zero_le _, rfl, Lib.hid rfl, Below.refl _ _⟩
    case round =>
      obtain ⟨k, hk, rfl, he, hb⟩ := hrel
      by_cases hlt : k < n
      · have ka : k < a.length := by rw [hl.out]; exact hlt
        have kb : k < b.length := by rw [← hn.out]; exact hlt
        obtain ⟨b1, o1, rfl, hb1, q1⟩ := (h1.below (hb.mono hB)).cells (by omega)
        obtain ⟨b2, o2, rfl, hb2, q2⟩ := (h2.below (hb.mono hB)).cells (by omega)
        obtain ⟨x1, x2⟩ := q1 k a[k] (List.getElem?_eq_getElem ka)
        obtain ⟨y1, y2⟩ := q2 k b[k] (List.getElem?_eq_getElem kb)
        have hnx : a[k] = b[k] → Hid (a.take (k + 1) = b.take (k + 1)) := fun e => Lib.hid (by rw [take_snoc ka, take_snoc kb, he.out, e])
        have hdf : a[k] ≠ b[k] → res = false := fun e => by
          rw [hres.out, decide_eq_false_iff_not]
          intro h; subst h; exact e rfl
        clear q1 q2
        generalize a[k] = u at *
        generalize b[k] = v at *
        obtain ⟨u1, u2⟩ := u
        obtain ⟨v1, v2⟩ := v
        simp only [Prod.mk.injEq, ne_eq] at x1 x2 y1 y2 hnx hdf
        by_cases hu : u1 = v1 ∧ u2 = v2
        · obtain ⟨rfl, rfl⟩ := hu
          have nx := hnx ⟨rfl, rfl⟩
          clear hnx hdf
          go_wp2
          go_quiet (fail)
          go_wp2
          exact ⟨⟨k + 1, by omega, by go_num, nx, below_drewN hb _⟩, by simp [intOf]; omega⟩
        · have rs := hdf hu
          subst rs
          clear hnx hdf
          have hb2 : (u1 == v1 && u2 == v2) = false := by
            rw [Bool.and_eq_false_iff, beq_eq_false_iff_ne, beq_eq_false_iff_ne]
            by_cases e : u1 = v1
            · right; intro e2; exact hu ⟨e, e2⟩
            · exact .inl e
          have hq := eqC u1 u2 v1 v2
          rw [hb2] at hq
          replace hu := Lib.hid hu
          go_wp2
          go_quiet (fail)
          go_wp2
          go_ret
          exact ⟨rfl, below_drewN hb _⟩
      · have rs : res = true := by
          have := he.out
          rw [List.take_of_length_le (by rw [hl.out]; omega), List.take_of_length_le (by rw [← hn.out]; omega)] at this
          rw [hres.out, this]; simp
        subst rs
        go_wp2
        go_ret
        exact ⟨rfl, hb⟩
  · have hl2 : (a.length != b.length) = true := by simp [hl]
    have hl4 : ((a.length : Int) == (b.length : Int)) = false := beq_eq_false_iff_ne.2 (by omega)
    have hl3 : (a.length == b.length) = false := beq_eq_false_iff_ne.2 hl
    have hr : decide (a = b) = false := decide_eq_false fun h => hl (by rw [h])
    rw [hr]
    replace hl := Lib.hid hl
    replace hr := Lib.hid hr
    go_enter Tryz.func63, Tryz.ntmps63
    go_wp2
    go_ret
    exact ⟨rfl, Below.refl _ _⟩
end Go.Proofs.YtpiegngjpnpohaaGreat.Rk

namespace Go.Proofs.YtpiegngjpnpohaaGreat.St
open Go.Sort
set_option linter.unusedVariables false
set_option linter.unusedSectionVars false
set_option linter.unusedSimpArgs false
abbrev Cnt := Int × Int
def Srt (l : List Cnt) : Prop := l.Pairwise fun x y => x.1 ≤ y.1
section
variable {α : Type} [Inhabited α]
theorem swp_list {X Y Z : List α} {x y : α} {i j : Nat} (hi : i = X.length) (hj : j = X.length + 1 + Y.length) :
    swp (X ++ x :: (Y ++ y :: Z)).toArray i j = (X ++ y :: (Y ++ x :: Z)).toArray := by
  subst hi hj
  apply Array.ext'
  unfold swp
  have e1 : (X ++ x :: (Y ++ y :: Z)).toArray[X.length]! = x := by simp
  have e2 : (X ++ x :: (Y ++ y :: Z)).toArray[X.length + 1 + Y.length]! = y := by
    simp [List.getElem?_append, show ¬ X.length + 1 + Y.length < X.length by omega, show X.length + 1 + Y.length - X.length = Y.length + 1 by omega]
  rw [e1, e2]
  simp [List.set_append, show ¬ X.length + 1 + Y.length < X.length by omega, show X.length + 1 + Y.length - X.length = Y.length + 1 by omega]
theorem swp_list' {X Y Z : List α} {x y : α} {i j : Nat} (hi : i = X.length) (hj : j = X.length + 1 + Y.length) :
    swp (X ++ x :: (Y ++ y :: Z)).toArray j i = (X ++ y :: (Y ++ x :: Z)).toArray := by
  subst hi hj
  apply Array.ext'
  unfold swp
  have e1 : (X ++ x :: (Y ++ y :: Z)).toArray[X.length]! = x := by simp
  have e2 : (X ++ x :: (Y ++ y :: Z)).toArray[X.length + 1 + Y.length]! = y := by
    simp [List.getElem?_append, show ¬ X.length + 1 + Y.length < X.length by omega, show X.length + 1 + Y.length - X.length = Y.length + 1 by omega]
  rw [e1, e2]
  simp [List.set_append, show ¬ X.length + 1 + Y.length < X.length by omega, show X.length + 1 + Y.length - X.length = Y.length + 1 by omega]
theorem at_mid {X U Y : List α} {k i : Nat} (hk : k = X.length + i) (hi : i < U.length) : (X ++ (U ++ Y)).toArray[k]! = U[i]! := by
  subst hk
  have h : X.length + i < (X ++ (U ++ Y)).length := by simp; omega
  have e : (X ++ (U ++ Y)).toArray[X.length + i]! = (X ++ (U ++ Y))[X.length + i] := by
    rw [getElem!_pos _ _ (by simpa using h)]; simp
  rw [e, List.getElem_append_right (by omega), List.getElem_append_left (by omega), getElem!_pos U i hi]
  congr 1; omega
theorem up_step {X V Y : List α} {u : α} {k i j : Nat} (hk : k < V.length) (hi : i = X.length + k) (hj : j = X.length + k + 1) :
    swp (X ++ (V.take k ++ u :: V.drop k) ++ Y).toArray i j = (X ++ (V.take (k + 1) ++ u :: V.drop (k + 1)) ++ Y).toArray := by
  have hl : (V.take k).length = k := by rw [List.length_take]; omega
  have := swp_list (X := X ++ V.take k) (Y := []) (Z := V.drop (k + 1) ++ Y) (x := u) (y := V[k]) (i := i) (j := j) (by simp [hl]; omega) (by simp [hl]; omega)
  have e1 : X ++ (V.take k ++ u :: V.drop k) ++ Y = (X ++ V.take k) ++ u :: ([] ++ V[k] :: (V.drop (k + 1) ++ Y)) := by
    rw [List.drop_eq_getElem_cons hk]; simp only [List.append_assoc, List.cons_append, List.nil_append]
  have e2 : X ++ (V.take (k + 1) ++ u :: V.drop (k + 1)) ++ Y = (X ++ V.take k) ++ V[k] :: ([] ++ u :: (V.drop (k + 1) ++ Y)) := by
    rw [List.take_succ_eq_append_getElem hk]; simp only [List.append_assoc, List.cons_append, List.nil_append]
  rw [e1, e2]
  exact this
theorem down_step {X V Y : List α} {u : α} {k i j : Nat} (hk : k < V.length) (hi : i = X.length + k + 1) (hj : j = X.length + k) :
    swp (X ++ (V.take (k + 1) ++ u :: V.drop (k + 1)) ++ Y).toArray i j = (X ++ (V.take k ++ u :: V.drop k) ++ Y).toArray := by
  have hl : (V.take k).length = k := by rw [List.length_take]; omega
  have := swp_list' (X := X ++ V.take k) (Y := []) (Z := V.drop (k + 1) ++ Y) (x := V[k]) (y := u) (i := j) (j := i) (by simp [hl]; omega) (by simp [hl]; omega)
  have e1 : X ++ (V.take k ++ u :: V.drop k) ++ Y = (X ++ V.take k) ++ u :: ([] ++ V[k] :: (V.drop (k + 1) ++ Y)) := by
    rw [List.drop_eq_getElem_cons hk]; simp only [List.append_assoc, List.cons_append, List.nil_append]
  have e2 : X ++ (V.take (k + 1) ++ u :: V.drop (k + 1)) ++ Y = (X ++ V.take k) ++ V[k] :: ([] ++ u :: (V.drop (k + 1) ++ Y)) := by
    rw [List.take_succ_eq_append_getElem hk]; simp only [List.append_assoc, List.cons_append, List.nil_append]
  rw [e1, e2]
  exact this
def swpd (X U Y V Z : List α) (k : Nat) : List α := X ++ (V.take k ++ U.drop k) ++ Y ++ (U.take k ++ V.drop k) ++ Z
theorem swpd_zero (X U Y V Z : List α) : swpd X U Y V Z 0 = X ++ U ++ Y ++ V ++ Z := by simp [swpd]
theorem swpd_done {X U Y V Z : List α} {n : Nat} (hu : U.length = n) (hv : V.length = n) : swpd X U Y V Z n = X ++ V ++ Y ++ U ++ Z := by
  unfold swpd
  rw [List.take_of_length_le (by omega), List.drop_of_length_le (by omega), List.take_of_length_le (by omega), List.drop_of_length_le (by omega)]
  simp
theorem swpd_step {X U Y V Z : List α} {n k i j : Nat} (hu : U.length = n) (hv : V.length = n) (hk : k < n) (hi : i = X.length + k) (hj : j = X.length + n + Y.length + k) :
    swp (swpd X U Y V Z k).toArray i j = (swpd X U Y V Z (k + 1)).toArray := by
  have hl : (V.take k).length = k := by rw [List.length_take]; omega
  have hl2 : (U.take k).length = k := by rw [List.length_take]; omega
  have hl3 : (U.drop (k + 1)).length = n - (k + 1) := by rw [List.length_drop]; omega
  have := swp_list (X := X ++ V.take k) (Y := U.drop (k + 1) ++ Y ++ U.take k) (Z := V.drop (k + 1) ++ Z) (x := U[k]) (y := V[k]) (i := i) (j := j) (by simp [hl]; omega) (by simp [hl, hl2, hl3]; omega)
  have e1 : swpd X U Y V Z k = (X ++ V.take k) ++ U[k] :: ((U.drop (k + 1) ++ Y ++ U.take k) ++ V[k] :: (V.drop (k + 1) ++ Z)) := by
    unfold swpd
    rw [List.drop_eq_getElem_cons (l := U) (by omega), List.drop_eq_getElem_cons (l := V) (by omega)]; simp only [List.append_assoc, List.cons_append, List.nil_append]
  have e2 : swpd X U Y V Z (k + 1) = (X ++ V.take k) ++ V[k] :: ((U.drop (k + 1) ++ Y ++ U.take k) ++ U[k] :: (V.drop (k + 1) ++ Z)) := by
    unfold swpd
    rw [List.take_succ_eq_append_getElem (l := U) (by omega), List.take_succ_eq_append_getElem (l := V) (by omega)]; simp only [List.append_assoc, List.cons_append, List.nil_append]
  rw [e1, e2]
  exact this
theorem swpd_len {X U Y V Z : List α} {n : Nat} (hu : U.length = n) (hv : V.length = n) (k : Nat) : (swpd X U Y V Z k).length = X.length + n + Y.length + n + Z.length := by
  unfold swpd
  simp only [List.length_append, List.length_take, List.length_drop, hu, hv]
  omega
end
theorem Srt.parts {a b : List Cnt} (ha : Srt a) (hb : Srt b) (h : ∀ x ∈ a, ∀ y ∈ b, x.1 ≤ y.1) : Srt (a ++ b) := List.pairwise_append.2 ⟨ha, hb, h⟩
theorem Srt.take {l : List Cnt} (h : Srt l) (k : Nat) : Srt (l.take k) := List.Pairwise.sublist (List.take_sublist _ _) h
theorem Srt.drop {l : List Cnt} (h : Srt l) (k : Nat) : Srt (l.drop k) := List.Pairwise.sublist (List.drop_sublist _ _) h
theorem Srt.le {l : List Cnt} (h : Srt l) {i j : Nat} (hij : i ≤ j) (hj : j < l.length) : (l[i]!).1 ≤ (l[j]!).1 := by
  rw [getElem!_pos l i (by omega), getElem!_pos l j hj]
  rcases Nat.lt_or_eq_of_le hij with h1 | rfl
  · exact List.pairwise_iff_getElem.1 h i j (by omega) hj h1
  · exact Int.le_refl _
theorem mem_take_get {l : List Cnt} {k : Nat} {x : Cnt} (h : x ∈ l.take k) : ∃ i, i < k ∧ i < l.length ∧ x = l[i]! := by
  obtain ⟨i, hi, e⟩ := List.mem_take_iff_getElem.1 h
  exact ⟨i, by omega, by omega, by rw [getElem!_pos l i (by omega)]; exact e.symm⟩
theorem mem_drop_get {l : List Cnt} {k : Nat} {x : Cnt} (h : x ∈ l.drop k) : ∃ i, k ≤ i ∧ i < l.length ∧ x = l[i]! := by
  obtain ⟨i, hi, e⟩ := List.mem_iff_getElem.1 h
  rw [List.getElem_drop] at e
  rw [List.length_drop] at hi
  exact ⟨k + i, by omega, by omega, by rw [getElem!_pos l (k + i) (by omega)]; exact e.symm⟩
theorem Srt.insert {V : List Cnt} {u : Cnt} {p : Nat} (h : Srt V) (h1 : ∀ i, i < p → i < V.length → (V[i]!).1 ≤ u.1) (h2 : ∀ i, p ≤ i → i < V.length → u.1 ≤ (V[i]!).1) : Srt (V.take p ++ u :: V.drop p) := by
  refine List.pairwise_append.2 ⟨h.take p, List.pairwise_cons.2 ⟨fun y hy => ?_, h.drop p⟩, fun x hx y hy => ?_⟩
  · obtain ⟨i, a, b, rfl⟩ := mem_drop_get hy
    exact h2 i a b
  · obtain ⟨i, a, b, rfl⟩ := mem_take_get hx
    rcases List.mem_cons.1 hy with rfl | hy
    · exact h1 i a b
    · obtain ⟨j, c, d, rfl⟩ := mem_drop_get hy
      exact h.le (by omega) d
theorem insert_perm (V : List Cnt) (u : Cnt) (p : Nat) : (V.take p ++ u :: V.drop p).Perm (u :: V) := by
  refine List.perm_middle.trans ?_
  rw [List.take_append_drop]
theorem rot_perm {a b c d : List Cnt} : ((a ++ c) ++ (b ++ d)).Perm ((a ++ b) ++ (c ++ d)) := by
  simp only [List.append_assoc]
  refine List.Perm.append_left a ?_
  rw [← List.append_assoc, ← List.append_assoc]
  exact List.Perm.append_right d List.perm_append_comm
theorem cut_ok {U V : List Cnt} {h s s0 r0 : Nat} (hU : Srt U) (hV : Srt V) (hs : s ≤ U.length) (hsh : s ≤ h) (hv : h - s ≤ V.length)
    (hc : (h < U.length ∧ s0 + V.length = h ∧ r0 = h) ∨ (U.length ≤ h ∧ s0 = 0 ∧ r0 = U.length)) (h0 : s0 ≤ s) (hr : s ≤ r0)
    (h1 : s0 < s → (U[s - 1]!).1 ≤ (V[h - s]!).1) (h2 : s < r0 → (V[h - 1 - s]!).1 < (U[s]!).1) :
    ∀ x ∈ U.take s ++ V.take (h - s), ∀ y ∈ U.drop s ++ V.drop (h - s), x.1 ≤ y.1 := by
  intro x hx y hy
  rcases List.mem_append.1 hx with hx | hx <;> rcases List.mem_append.1 hy with hy | hy <;>
    first | obtain ⟨i, a1, a2, rfl⟩ := mem_take_get hx <;> obtain ⟨j, b1, b2, rfl⟩ := mem_drop_get hy
  · exact hU.le (by omega) b2
  · have e : s0 < s := by omega
    have l1 := hU.le (i := i) (j := s - 1) (by omega) (by omega)
    have l2 := hV.le (i := h - s) (j := j) b1 b2
    have := h1 e
    omega
  · have e : s < r0 := by omega
    have l1 := hV.le (i := i) (j := h - 1 - s) (by omega) (by omega)
    have l2 := hU.le (i := s) (j := j) b1 b2
    have := h2 e
    omega
  · exact hV.le (by omega) b2
def chunk (l : List Cnt) (a n : Nat) : List Cnt := (l.drop a).take n
def BS (n : Nat) (l : List Cnt) : Prop := ∀ t, Srt (chunk l (t * n) n)
theorem chunk_len {l : List Cnt} {a n : Nat} (h : a + n ≤ l.length) : (chunk l a n).length = n := by simp [chunk]; omega
theorem chunk_split (l : List Cnt) (a n : Nat) : l = l.take a ++ (chunk l a n ++ l.drop (a + n)) := by
  unfold chunk
  rw [← List.drop_drop, List.take_append_drop, List.take_append_drop]
theorem Srt.all {l : List Cnt} {n : Nat} (h : BS n l) (hn : l.length ≤ n) : Srt l := by
  have := h 0
  simp only [chunk, Nat.zero_mul, List.drop_zero] at this
  rwa [List.take_of_length_le hn] at this
theorem chunk_before {l W : List Cnt} {a n b m : Nat} (hW : W.length = n) (h : a + n ≤ l.length) (hb : b + m ≤ a) : chunk (l.take a ++ (W ++ l.drop (a + n))) b m = chunk l b m := by
  unfold chunk
  rw [List.drop_append_of_le_length (by rw [List.length_take]; omega), List.take_append_of_le_length (by rw [List.length_drop, List.length_take]; omega), List.drop_take, List.take_take]
  congr 1; omega
theorem chunk_behind {l W : List Cnt} {a n b m : Nat} (hW : W.length = n) (h : a + n ≤ l.length) (hb : a + n ≤ b) : chunk (l.take a ++ (W ++ l.drop (a + n))) b m = chunk l b m := by
  unfold chunk
  congr 1
  rw [List.drop_append, List.drop_append, hW, List.length_take, Nat.min_eq_left (by omega), List.drop_drop, List.drop_of_length_le (by rw [List.length_take]; omega), List.drop_of_length_le (by omega)]
  simp only [List.nil_append]
  congr 1; omega
theorem chunk_at {l W : List Cnt} {a n : Nat} (hW : W.length = n) (h : a ≤ l.length) : chunk (l.take a ++ (W ++ l.drop (a + n))) a n = W := by
  unfold chunk
  rw [List.drop_append_of_le_length (by rw [List.length_take]; omega), List.drop_of_length_le (by rw [List.length_take]; omega), List.nil_append, List.take_append_of_le_length (by omega), List.take_of_length_le (by omega)]
theorem chunk_two (l : List Cnt) (a n m : Nat) : chunk l a (n + m) = chunk l a n ++ chunk l (a + n) m := by
  unfold chunk
  rw [List.take_add, List.drop_drop]
theorem chunk_none {l : List Cnt} {a n : Nat} (h : l.length ≤ a) : chunk l a n = [] := by
  unfold chunk
  rw [List.drop_of_length_le h]; simp
theorem chunk_rest {l : List Cnt} {a n : Nat} (h : l.length ≤ a + n) : chunk l a n = chunk l a (l.length - a) := by
  unfold chunk
  rw [List.take_of_length_le (by rw [List.length_drop]; omega), List.take_of_length_le (by rw [List.length_drop]; omega)]
theorem Srt.nil : Srt [] := List.Pairwise.nil
theorem splice_perm {l W : List Cnt} {a n : Nat} (h : W.Perm (chunk l a n)) : (l.take a ++ (W ++ l.drop (a + n))).Perm l := by
  conv => rhs; rw [chunk_split l a n]
  exact List.Perm.append_left _ (List.Perm.append_right _ h)
theorem splice_len {l W : List Cnt} {a n : Nat} (h : W.Perm (chunk l a n)) : (l.take a ++ (W ++ l.drop (a + n))).length = l.length := (splice_perm h).length_eq
end Go.Proofs.YtpiegngjpnpohaaGreat.St
