/- Lemmas for the laws of this seat, laid together of RkR, RkQ, Rd0, RkP, RkS, RkC, RkX. -/
import Derived.Test.YtpiegngjpnpohaaGreatK01
import Derived.Test.YtpiegngjpnpohaaGreatK03
import Derived.Test.YtpiegngjpnpohaaGreatK07
import Derived.Test.YtpiegngjpnpohaaGreatK08
import Derived.Test.YtpiegngjpnpohaaGreatK09
import Derived.RowKit3

namespace Go.Proofs.YtpiegngjpnpohaaGreat.Rk
open Go.RowKit Go.Proofs.YtpiegngjpnpohaaGreat.WdP
set_option linter.unusedVariables false
def rankE (n : Nat) (num den : Int) : Int := if den < 1 ∨ num < 0 ∨ den < num then 1 else if n = 0 then 16 else 0
def rankI (n : Nat) (num den : Int) : Nat := if rankE n num den = 0 then max (n * num.toNat / den.toNat + (if n * num.toNat % den.toNat = 0 then 0 else 1)) 1 else 0
theorem rank_nums {n : Nat} {num den : Int} (hn : n ≤ 18446744073709551615) (h0 : 0 ≤ num) (h1 : num ≤ den) (h2 : 1 ≤ den) (hd : den ≤ 9223372036854775807) :
    divQ (hiM n num.toNat) (loM n num.toNat) den.toNat = n * num.toNat / den.toNat ∧ divR (hiM n num.toNat) (loM n num.toNat) den.toNat = n * num.toNat % den.toNat ∧
      hiM n num.toNat ≤ 18446744073709551615 ∧ loM n num.toNat ≤ 18446744073709551615 ∧ (0 < n * num.toNat % den.toNat → n * num.toNat / den.toNat + 1 ≤ n) ∧ n * num.toNat / den.toNat ≤ n := by
  obtain ⟨a, rfl⟩ := Int.eq_ofNat_of_zero_le h0
  obtain ⟨b, rfl⟩ := Int.eq_ofNat_of_zero_le (show 0 ≤ den by omega)
  rw [Int.toNat_natCast, Int.toNat_natCast]
  have hab : a ≤ b := by omega
  have hb : 0 < b := by omega
  have hm : n * a ≤ n * b := Nat.mul_le_mul_left _ hab
  have hm2 : n * b ≤ 18446744073709551615 * b := Nat.mul_le_mul_right _ hn
  have hlt : n * a / 18446744073709551616 < b := by
    rw [Nat.div_lt_iff_lt_mul (by decide)]; omega
  have e : n * a / 18446744073709551616 * 18446744073709551616 + n * a % 18446744073709551616 = n * a := Nat.div_add_mod' _ _
  have hq : n * a / b ≤ n := by
    rw [Nat.div_le_iff_le_mul_add_pred hb, Nat.mul_comm b]; omega
  refine ⟨by rw [divQ, hiM, loM, if_pos hlt, e], by rw [divR, hiM, loM, if_pos hlt, e], ?_, ?_, ?_, hq⟩
  · rw [hiM]; omega
  · rw [loM]; omega
  · intro hr
    have hd' := Nat.div_add_mod (n * a) b
    rcases Nat.lt_or_ge (n * a / b) n with h | h
    · exact h
    · have : b * n ≤ b * (n * a / b) := Nat.mul_le_mul_left _ h
      rw [Nat.mul_comm b n] at this
      generalize b * (n * a / b) = x at *
      generalize n * a % b = y at *
      omega
theorem ret_i2 {k l : IntKind} {a b c d : Int} (h : a = b) (h' : c = d) : Ending.returned (.tuple #[.int k a, .int l c]) = .returned (.tuple #[.int k b, .int l d]) := by rw [h, h']
theorem ret_ue {a a' : Nat} {e e' : Int} (h : a = a') (h'' : e = e') : Ending.returned (.tuple #[.int .u64 (a : Int), .int .i64 e]) = .returned (.tuple #[.int .u64 (a' : Int), .int .i64 e']) := by rw [h, h'']
set_option maxRecDepth 100000 in
theorem rank_any (n : Nat) (num den : Int) (hn : n ≤ 18446744073709551615) (hd : den ≤ 9223372036854775807) (w : World) :
    Calls Tryz.prog 119 #[.int .u64 n, .int .i64 num, .int .i64 den] w fun e w' => e = .returned (.tuple #[.int .u64 (rankI n num den : Nat), .int .i64 (rankE n num den)]) ∧ ∃ n, w' = w.drewN n := by
  by_cases h0 : den < 1 ∨ num < 0 ∨ den < num
  · have e1 : rankE n num den = 1 := by rw [rankE, if_pos h0]
    have e2 : rankI n num den = 0 := by rw [rankI, e1]; rfl
    have h0 : den < 1 ∨ (1 ≤ den ∧ num < 0) ∨ (1 ≤ den ∧ 0 ≤ num ∧ den < num) := by omega
    replace e1 := Lib.hid e1; replace e2 := Lib.hid e2
    clear hn hd
    rcases h0 with h | ⟨h, h'⟩ | ⟨h, h', h''⟩
    all_goals
      go_enter Tryz.func119, Tryz.ntmps119
      go_wp2
      go_ret2
      exact ⟨ret_ue (a := 0) e2.out.symm e1.out.symm, 0, rfl⟩
  · have b1 : 1 ≤ den := by omega
    have b2 : 0 ≤ num := by omega
    have b3 : num ≤ den := by omega
    by_cases hz : n = 0
    · have e1 : rankE n num den = 16 := by rw [rankE, if_neg h0, if_pos hz]
      have e2 : rankI n num den = 0 := by rw [rankI, e1]; rfl
      replace e1 := Lib.hid e1; replace e2 := Lib.hid e2
      have hz' : ((n : Int) == 0) = true := beq_iff_eq.2 (by omega)
      clear hn hd hz h0
      go_enter Tryz.func119, Tryz.ntmps119
      go_wp2
      go_ret2
      exact ⟨ret_ue (a := 0) e2.out.symm e1.out.symm, 0, rfl⟩
    · have e1 : rankE n num den = 0 := by rw [rankE, if_neg h0, if_neg hz]
      have hz' : ((n : Int) == 0) = false := beq_eq_false_iff_ne.2 (by omega)
      obtain ⟨q1, q2, q3, q4, q5, q6⟩ := rank_nums hn b2 b3 b1 hd
      have cm := mul_any n num.toNat hn (by omega)
      have cd := div_any (hiM n num.toNat) (loM n num.toNat) den.toNat q3 (by omega) q4
      rw [q1, q2] at cd
      obtain ⟨q, hq⟩ : ∃ x, x = n * num.toNat / den.toNat := ⟨_, rfl⟩
      obtain ⟨r, hr⟩ : ∃ x, x = n * num.toNat % den.toNat := ⟨_, rfl⟩
      have e2 : rankI n num den = max (q + (if r = 0 then 0 else 1)) 1 := by rw [rankI, if_pos e1, ← hq, ← hr]
      rw [← hq, ← hr] at cd
      rw [← hq] at q6 q5
      rw [← hr] at q5
      have d1 : ((den.toNat : Nat) : Int) = den := by omega
      have d2 : ((num.toNat : Nat) : Int) = num := by omega
      rw [d1] at cd
      rw [d2] at cm
      have q7 : (q : Int) ≤ 18446744073709551615 := by omega
      have q8 : 0 < r → (q : Int) + 1 ≤ 18446744073709551615 := fun h => by have := q5 h; omega
      replace e1 := Lib.hid e1; replace e2 := Lib.hid e2
      clear q1 q2 q3 q4 q5 q6 hq hr h0 hz d1 d2 hn
      by_cases hr0 : r = 0
      · subst hr0
        clear q8
        go_enter Tryz.func119, Tryz.ntmps119
        go_wp2_with (first | (go_at_call 172; refine (cm _).mono ?_; rintro e w' ⟨rfl, n, rfl⟩) | (go_at_call 173; refine (cd _).mono ?_; rintro e w' ⟨rfl, n, rfl⟩))
        go_ret2
        exact ⟨ret_i2 (by rw [e2.out]; simp; omega) e1.out.symm, _, rfl⟩
      · have q9 := q8 (by omega)
        have r1 : 0 < r := by omega
        have r2 : ¬ r = 0 := hr0
        obtain ⟨q', hq'⟩ : ∃ q', q' = q + 1 := ⟨_, rfl⟩
        have q10 : IntKind.u64.wrap ((q : Int) + 1) = (q' : Int) := by rw [IntWalk.u64_in _ (by omega)]; omega
        clear q8 hr0 q9 q7
        replace hq' := Lib.hid hq'
        go_enter Tryz.func119, Tryz.ntmps119
        go_wp2_with (first | (go_at_call 172; refine (cm _).mono ?_; rintro e w' ⟨rfl, n, rfl⟩) | (go_at_call 173; refine (cd _).mono ?_; rintro e w' ⟨rfl, n, rfl⟩))
        go_ret2
        exact ⟨ret_i2 (by rw [e2.out, if_neg r2, ← hq'.out]; omega) e1.out.symm, _, rfl⟩
set_option maxRecDepth 100000 in
theorem rrank_any (n : Nat) (num den : Int) (hn : n ≤ 18446744073709551615) (hd : den ≤ 9223372036854775807) (w : World) :
    Calls Tryz.prog 123 #[.int .u64 n, .int .i64 num, .int .i64 den] w fun e w' => e = .returned (.tuple #[.int .u64 (rankI n num den : Nat), .int .i64 (rankE n num den)]) ∧ ∃ n, w' = w.drewN n := by
  by_cases h0 : den < 1 ∨ num < 0 ∨ den < num
  · have e1 : rankE n num den = 1 := by rw [rankE, if_pos h0]
    have e2 : rankI n num den = 0 := by rw [rankI, e1]; rfl
    have h0 : den < 1 ∨ (1 ≤ den ∧ num < 0) ∨ (1 ≤ den ∧ 0 ≤ num ∧ den < num) := by omega
    replace e1 := Lib.hid e1; replace e2 := Lib.hid e2
    clear hn hd
    rcases h0 with h | ⟨h, h'⟩ | ⟨h, h', h''⟩
    all_goals
      go_enter Tryz.func123, Tryz.ntmps123
      go_wp2
      go_ret2
      exact ⟨ret_ue (a := 0) e2.out.symm e1.out.symm, 0, rfl⟩
  · have b1 : 1 ≤ den := by omega
    have b2 : 0 ≤ num := by omega
    have b3 : num ≤ den := by omega
    by_cases hz : n = 0
    · have e1 : rankE n num den = 16 := by rw [rankE, if_neg h0, if_pos hz]
      have e2 : rankI n num den = 0 := by rw [rankI, e1]; rfl
      replace e1 := Lib.hid e1; replace e2 := Lib.hid e2
      have hz' : ((n : Int) == 0) = true := beq_iff_eq.2 (by omega)
      clear hn hd hz h0
      go_enter Tryz.func123, Tryz.ntmps123
      go_wp2
      go_ret2
      exact ⟨ret_ue (a := 0) e2.out.symm e1.out.symm, 0, rfl⟩
    · have e1 : rankE n num den = 0 := by rw [rankE, if_neg h0, if_neg hz]
      have hz' : ((n : Int) == 0) = false := beq_eq_false_iff_ne.2 (by omega)
      obtain ⟨q1, q2, q3, q4, q5, q6⟩ := rank_nums hn b2 b3 b1 hd
      have cm := rmul_any n num.toNat hn (by omega)
      have cd := rdiv_any (hiM n num.toNat) (loM n num.toNat) den.toNat q3 (by omega) q4
      rw [q1, q2] at cd
      obtain ⟨q, hq⟩ : ∃ x, x = n * num.toNat / den.toNat := ⟨_, rfl⟩
      obtain ⟨r, hr⟩ : ∃ x, x = n * num.toNat % den.toNat := ⟨_, rfl⟩
      have e2 : rankI n num den = max (q + (if r = 0 then 0 else 1)) 1 := by rw [rankI, if_pos e1, ← hq, ← hr]
      rw [← hq, ← hr] at cd
      rw [← hq] at q6 q5
      rw [← hr] at q5
      have d1 : ((den.toNat : Nat) : Int) = den := by omega
      have d2 : ((num.toNat : Nat) : Int) = num := by omega
      rw [d1] at cd
      rw [d2] at cm
      have q7 : (q : Int) ≤ 18446744073709551615 := by omega
      have q8 : 0 < r → (q : Int) + 1 ≤ 18446744073709551615 := fun h => by have := q5 h; omega
      replace e1 := Lib.hid e1; replace e2 := Lib.hid e2
      clear q1 q2 q3 q4 q5 q6 hq hr h0 hz d1 d2 hn
      by_cases hr0 : r = 0
      · subst hr0
        clear q8
        go_enter Tryz.func123, Tryz.ntmps123
        go_wp2_with (first | (go_at_call 176; refine (cm _).mono ?_; rintro e w' ⟨rfl, n, rfl⟩) | (go_at_call 177; refine (cd _).mono ?_; rintro e w' ⟨rfl, n, rfl⟩))
        go_ret2
        exact ⟨ret_i2 (by rw [e2.out]; simp; omega) e1.out.symm, _, rfl⟩
      · have q9 := q8 (by omega)
        have r1 : 0 < r := by omega
        have r2 : ¬ r = 0 := hr0
        obtain ⟨q', hq'⟩ : ∃ q', q' = q + 1 := ⟨_, rfl⟩
        have q10 : IntKind.u64.wrap ((q : Int) + 1) = (q' : Int) := by rw [IntWalk.u64_in _ (by omega)]; omega
        clear q8 hr0 q9 q7
        replace hq' := Lib.hid hq'
        go_enter Tryz.func123, Tryz.ntmps123
        go_wp2_with (first | (go_at_call 176; refine (cm _).mono ?_; rintro e w' ⟨rfl, n, rfl⟩) | (go_at_call 177; refine (cd _).mono ?_; rintro e w' ⟨rfl, n, rfl⟩))
        go_ret2
        exact ⟨ret_i2 (by rw [e2.out, if_neg r2, ← hq'.out]; omega) e1.out.symm, _, rfl⟩
end Go.Proofs.YtpiegngjpnpohaaGreat.Rk

namespace Go.Proofs.YtpiegngjpnpohaaGreat.Rk
open Go.RowKit Go.Proofs.YtpiegngjpnpohaaGreat.Bk
set_option linter.unusedVariables false
def totN (l : List (Int × Int)) : Nat := (totF 0 l).toNat
theorem totF_rng (l : List (Int × Int)) : 0 ≤ totF 0 l ∧ totF 0 l ≤ 18446744073709551615 := by
  rcases List.eq_nil_or_concat l with rfl | ⟨r, c, rfl⟩
  · simp [totF]
  · rw [totF, List.concat_eq_append, List.foldl_append]
    simp only [List.foldl_cons, List.foldl_nil, IntKind.wrap_u64]; omega
theorem totN_eq (l : List (Int × Int)) : totF 0 l = (totN l : Int) := by
  have := totF_rng l
  unfold totN; omega
def quaR (l : List (Int × Int)) (num den : Int) : Int := (rankI (totN l) num den : Nat)
def quaE (p : Int) (l : List (Int × Int)) (num den : Int) : Int :=
  if mayE p l ≠ 0 then mayE p l else if rankE (totN l) num den ≠ 0 then rankE (totN l) num den else if atE l (quaR l num den) ≠ 0 then atE l (quaR l num den) else lowE p (atI l (quaR l num den))
def quaI (p : Int) (l : List (Int × Int)) (num den : Int) : Int :=
  if mayE p l ≠ 0 then 0 else if rankE (totN l) num den ≠ 0 then 0 else if atE l (quaR l num den) ≠ 0 then 0 else higI p (atI l (quaR l num den))
theorem rankI_le (n : Nat) (num den : Int) (hn : n ≤ 18446744073709551615) (hd : den ≤ 9223372036854775807) : rankI n num den ≤ 18446744073709551615 := by
  by_cases h : rankE n num den = 0
  · have h0 : ¬ (den < 1 ∨ num < 0 ∨ den < num) := by
      intro h'; rw [rankE, if_pos h'] at h; omega
    obtain ⟨_, _, _, _, h5, h6⟩ := rank_nums hn (show 0 ≤ num by omega) (show num ≤ den by omega) (show 1 ≤ den by omega) hd
    rw [rankI, if_pos h]
    generalize n * num.toNat / den.toNat = q at *
    generalize n * num.toNat % den.toNat = r at *
    by_cases hr : r = 0
    · rw [if_pos hr]; omega
    · rw [if_neg hr]; have := h5 (by omega); omega
  · rw [rankI, if_neg h]; omega
theorem atF_mem {l : List (Int × Int)} : ∀ {n i : Int}, atF n l = some i → ∃ c ∈ l, c.1 = i := by
  induction l with
  | nil => intro n i h; simp [atF] at h
  | cons c r ih =>
    intro n i h
    by_cases hc : n ≤ c.2
    · simp [atF, hc] at h; exact ⟨c, List.mem_cons_self .., h⟩
    · simp only [atF, if_neg hc] at h
      obtain ⟨d, hd, e⟩ := ih h
      exact ⟨d, List.mem_cons_of_mem _ hd, e⟩
theorem atI_rng {l : List (Int × Int)} {n : Int} (hl : ∀ c ∈ l, okC c) : -9223372036854775808 ≤ atI l n ∧ atI l n ≤ 9223372036854775807 := by
  unfold atI
  by_cases h : n = 0
  · rw [if_pos h]; omega
  · rw [if_neg h]
    cases hf : atF n l with
    | none => simp
    | some i =>
      obtain ⟨c, hc, rfl⟩ := atF_mem hf
      have := hl c hc
      unfold okC at this
      exact ⟨this.1, this.2.1⟩
set_option maxRecDepth 100000 in
set_option maxHeartbeats 1000000 in
theorem quantile_any (w : World) (B : Nat) (p : Int) (l : List (Int × Int)) (A : Option Addr) (cap : Nat) (num den : Int) (h : Cs w B A l) (hB : B ≤ w.heap.size) (hd : den ≤ 9223372036854775807) :
    Calls Tryz.prog 70 #[.int .i64 p, .slice A l.length cap, .int .i64 num, .int .i64 den] w fun e w' => e = .returned (.tuple #[.int .i64 (quaI p l num den), .int .i64 (quaE p l num den)]) ∧ Below w.heap.size w w' := by
  have cm := may_any w B p l A cap h hB
  have ht := totF_rng l
  have htn := totN_eq l
  have hr := rankI_le (totN l) num den (by omega) hd
  have hai := atI_rng (n := quaR l num den) h.ok
  by_cases e1 : mayE p l = 0
  · have f1 : (mayE p l != 0) = false := by simp [e1]
    by_cases e2 : rankE (totN l) num den = 0
    · have f2 : (rankE (totN l) num den != 0) = false := by simp [e2]
      by_cases e3 : atE l (quaR l num den) = 0
      · have f3 : (atE l (quaR l num den) != 0) = false := by simp [e3]
        have g1 : quaE p l num den = lowE p (atI l (quaR l num den)) := by simp [quaE, e1, e2, e3]
        have g2 : quaI p l num den = higI p (atI l (quaR l num den)) := by simp [quaI, e1, e2, e3]
        have ch := high_any p (atI l (quaR l num den)) hai.1 hai.2
        have cr := rank_any (totN l) num den (by omega) hd
        have cq : (rankI (totN l) num den : Int) = quaR l num den := rfl
        rw [cq] at cr
        have qr : 0 ≤ quaR l num den ∧ quaR l num den ≤ 18446744073709551615 := by rw [← cq]; omega
        replace e1 := Lib.hid e1; replace e2 := Lib.hid e2; replace e3 := Lib.hid e3; replace g1 := Lib.hid g1; replace g2 := Lib.hid g2; replace htn := Lib.hid htn; replace ht := Lib.hid ht; replace hr := Lib.hid hr; replace hai := Lib.hid hai; replace cq := Lib.hid cq; replace qr := Lib.hid qr
        go_enter Tryz.func70, Tryz.ntmps70
        go_wp2_with fail
        refine cm.mono ?_; rintro e w1 ⟨rfl, hb1⟩
        go_wp2_with fail
        refine (total_any w1 B A l cap (h.below (hb1.mono hB)) (Nat.le_trans hB hb1.size)).mono ?_; rintro e w2 ⟨rfl, hb2⟩
        rw [htn.out]
        replace hb2 := hb1.trans (hb2.mono hb1.size)
        clear hb1
        go_wp2_with fail
        refine (cr _).mono ?_; rintro e w3 ⟨rfl, n3, rfl⟩
        go_wp2_with fail
        refine (at_any (w2.drewN n3) B l A cap (quaR l num den) (h.below ((below_drewN hb2 n3).mono hB)) (Nat.le_trans hB hb2.size) qr.out.1 qr.out.2).mono ?_; rintro e w4 ⟨rfl, hb4⟩
        replace hb4 := hb2.trans ((below_drewN (Below.refl _ w2) n3).trans (hb4.mono hb2.size))
        go_wp2_with fail
        refine (ch _).mono ?_; rintro e w5 ⟨rfl, n5, rfl⟩
        go_wp2
        go_ret2
        exact ⟨ret_int2 g2.out.symm g1.out.symm, below_drewN hb4 _⟩
      · have f3 : (atE l (quaR l num den) != 0) = true := by simp [e3]
        have g1 : quaE p l num den = atE l (quaR l num den) := by simp [quaE, e1, e2, e3]
        have g2 : quaI p l num den = 0 := by simp [quaI, e1, e2, e3]
        have cr := rank_any (totN l) num den (by omega) hd
        have cq : (rankI (totN l) num den : Int) = quaR l num den := rfl
        rw [cq] at cr
        have qr : 0 ≤ quaR l num den ∧ quaR l num den ≤ 18446744073709551615 := by rw [← cq]; omega
        replace e1 := Lib.hid e1; replace e2 := Lib.hid e2; replace e3 := Lib.hid e3; replace g1 := Lib.hid g1; replace g2 := Lib.hid g2; replace htn := Lib.hid htn; replace ht := Lib.hid ht; replace hr := Lib.hid hr; replace hai := Lib.hid hai; replace cq := Lib.hid cq; replace qr := Lib.hid qr
        go_enter Tryz.func70, Tryz.ntmps70
        go_wp2_with fail
        refine cm.mono ?_; rintro e w1 ⟨rfl, hb1⟩
        go_wp2_with fail
        refine (total_any w1 B A l cap (h.below (hb1.mono hB)) (Nat.le_trans hB hb1.size)).mono ?_; rintro e w2 ⟨rfl, hb2⟩
        rw [htn.out]
        replace hb2 := hb1.trans (hb2.mono hb1.size)
        clear hb1
        go_wp2_with fail
        refine (cr _).mono ?_; rintro e w3 ⟨rfl, n3, rfl⟩
        go_wp2_with fail
        refine (at_any (w2.drewN n3) B l A cap (quaR l num den) (h.below ((below_drewN hb2 n3).mono hB)) (Nat.le_trans hB hb2.size) qr.out.1 qr.out.2).mono ?_; rintro e w4 ⟨rfl, hb4⟩
        replace hb4 := hb2.trans ((below_drewN (Below.refl _ w2) n3).trans (hb4.mono hb2.size))
        go_wp2
        go_ret2
        exact ⟨ret_int2 g2.out.symm g1.out.symm, hb4⟩
    · have f2 : (rankE (totN l) num den != 0) = true := by simp [e2]
      have g1 : quaE p l num den = rankE (totN l) num den := by simp [quaE, e1, e2]
      have g2 : quaI p l num den = 0 := by simp [quaI, e1, e2]
      have cr := rank_any (totN l) num den (by omega) hd
      replace e1 := Lib.hid e1; replace e2 := Lib.hid e2; replace g1 := Lib.hid g1; replace g2 := Lib.hid g2; replace htn := Lib.hid htn; replace ht := Lib.hid ht; replace hr := Lib.hid hr; replace hai := Lib.hid hai
      go_enter Tryz.func70, Tryz.ntmps70
      go_wp2_with fail
      refine cm.mono ?_; rintro e w1 ⟨rfl, hb1⟩
      go_wp2_with fail
      refine (total_any w1 B A l cap (h.below (hb1.mono hB)) (Nat.le_trans hB hb1.size)).mono ?_; rintro e w2 ⟨rfl, hb2⟩
      rw [htn.out]
      replace hb2 := hb1.trans (hb2.mono hb1.size)
      clear hb1
      go_wp2_with fail
      refine (cr _).mono ?_; rintro e w3 ⟨rfl, n3, rfl⟩
      go_wp2
      go_ret2
      exact ⟨ret_int2 g2.out.symm g1.out.symm, below_drewN hb2 _⟩
  · have f1 : (mayE p l != 0) = true := by simp [e1]
    have g1 : quaE p l num den = mayE p l := by simp [quaE, e1]
    have g2 : quaI p l num den = 0 := by simp [quaI, e1]
    replace e1 := Lib.hid e1; replace g1 := Lib.hid g1; replace g2 := Lib.hid g2; replace htn := Lib.hid htn; replace ht := Lib.hid ht; replace hr := Lib.hid hr; replace hai := Lib.hid hai
    go_enter Tryz.func70, Tryz.ntmps70
    go_wp2_with fail
    refine cm.mono ?_; rintro e w1 ⟨rfl, hb1⟩
    go_wp2
    go_ret2
    exact ⟨ret_int2 g2.out.symm g1.out.symm, hb1⟩
def flat (l : List (Int × Int)) : List Value := l.flatMap fun c => [.int .i64 c.1, .int .u64 c.2]
theorem flat_len (l : List (Int × Int)) : (flat l).length = l.length * 2 := by
  induction l with
  | nil => rfl
  | cons c r ih => simp [flat] at ih ⊢; omega
theorem flat_get : ∀ (l : List (Int × Int)) (i : Nat) (c : Int × Int), l[i]? = some c → (flat l)[i * 2]? = some (.int .i64 c.1) ∧ (flat l)[i * 2 + 1]? = some (.int .u64 c.2)
  | [], i, c, h => by simp at h
  | d :: r, 0, c, h => by simp at h; subst h; simp [flat]
  | d :: r, i + 1, c, h => by
    have := flat_get r i c (by simpa using h)
    rw [show (i + 1) * 2 = i * 2 + 1 + 1 by omega]
    simp only [flat, List.flatMap_cons, List.cons_append, List.nil_append, List.getElem?_cons_succ] at this ⊢
    exact this
end Go.Proofs.YtpiegngjpnpohaaGreat.Rk

namespace Go.Proofs.YtpiegngjpnpohaaGreat.Rk
open Go.RowKit Go.Proofs.YtpiegngjpnpohaaGreat.Bk
set_option linter.unusedVariables false
theorem rtotal_any (w : World) (B : Nat) (A : Option Addr) (l : List (Int × Int)) (cap : Nat) (h : Cs w B A l) (hB : B ≤ w.heap.size) :
    Calls Tryz.prog 102 #[.slice A l.length cap] w fun e w' => e = .returned (.int .u64 (totF 0 l)) ∧ Below w.heap.size w w' := by
  have hl := h.len
  unfold maxLen at hl
  go_enter Tryz.func102, Tryz.ntmps102
  go_wp2
  go_loopw [3, 4] (fun n i wr => ∃ k : Nat, k ≤ l.length ∧ i = .int .i64 k ∧ n = .int .u64 (totF 0 (l.take k)) ∧ Below w.heap.size w wr) (fun _ i _ => l.length - (intOf i).toNat)
  case atStart => exact ⟨0, Nat.zero_le _, rfl, rfl, Below.refl _ _⟩
  case round =>
    obtain ⟨k, hk, rfl, rfl, hb⟩ := hrel
    by_cases hlt : k < l.length
    · obtain ⟨b, off, rfl, hbB, hc⟩ := (h.below (hb.mono hB)).cells (by omega)
      obtain ⟨h1, h2⟩ := hc k l[k] (List.getElem?_eq_getElem hlt)
      have hs := totF_snoc 0 hlt
      clear hc
      replace hs := Lib.hid hs
      go_wp2
      exact ⟨⟨k + 1, by omega, by go_num, by rw [hs.out], hb⟩, by simp [intOf]; omega⟩
    · go_wp2
      go_ret
      exact ⟨by rw [List.take_of_length_le (by omega)]; rfl, hb⟩
theorem at_step {l : List (Int × Int)} {k : Nat} (h : k < l.length) (n : Int) : atF n (l.drop k) = if n ≤ l[k].2 then some l[k].1 else atF (n - l[k].2) (l.drop (k + 1)) := by
  rw [List.drop_eq_getElem_cons h, atF]
theorem rat_any (w : World) (B : Nat) (l : List (Int × Int)) (a : Option Addr) (cap : Nat) (n : Int) (hl : Cs w B a l) (hB : B ≤ w.heap.size) (hn : 0 ≤ n) (hn1 : n ≤ 18446744073709551615) :
    Calls Tryz.prog 124 #[.slice a l.length cap, .int .u64 n] w fun e w' => e = .returned (.tuple #[.int .i64 (atI l n), .int .i64 (atE l n)]) ∧ Below w.heap.size w w' := by
  have hlen := hl.len
  unfold maxLen at hlen
  obtain ⟨ri, hri⟩ : ∃ x, x = atI l n := ⟨_, rfl⟩
  obtain ⟨re, hre⟩ : ∃ x, x = atE l n := ⟨_, rfl⟩
  rw [← hri, ← hre]
  have st : Hid (∃ s, s = n ∧ 0 ≤ s ∧ s ≤ 18446744073709551615 ∧ (s = 0 → ri = 0 ∧ re = 2) ∧ (0 < s → ri = (atF s (l.drop 0)).getD 0 ∧ re = if (atF s (l.drop 0)).isSome then 0 else 2)) := by
    refine Lib.hid ⟨n, rfl, hn, hn1, fun e => ?_, fun e => ?_⟩
    · rw [hri, hre, atI, atE, if_pos e, if_pos e]; exact ⟨rfl, rfl⟩
    · rw [hri, hre, atI, atE, if_neg (by omega), if_neg (by omega)]; exact ⟨rfl, rfl⟩
  clear hri hre
  go_enter Tryz.func124, Tryz.ntmps124
  go_wp2
  go_loopw [1, 6] (fun r i wr => ∃ (k : Nat) (s : Int), k ≤ l.length ∧ i = .int .i64 k ∧ r = .int .u64 s ∧ 0 ≤ s ∧ s ≤ 18446744073709551615 ∧ Hid ((s = 0 → ri = 0 ∧ re = 2) ∧ (0 < s → ri = (atF s (l.drop k)).getD 0 ∧ re = if (atF s (l.drop k)).isSome then 0 else 2)) ∧ w = wr) (fun _ i _ => l.length - (intOf i).toNat)
  case atStart =>
    obtain ⟨s, rfl, s1, s2, s3, s4⟩ := st.out
    exact ⟨0, s, Nat.zero_le _, rfl, rfl, s1, s2, Lib.hid ⟨s3, s4⟩, rfl⟩
  case round =>
    clear st hn hn1
    obtain ⟨k, s, hk, rfl, rfl, s1, s2, s3, rfl⟩ := hrel
    by_cases hs0 : s = 0
    · obtain ⟨e1, e2⟩ := s3.out.1 hs0
      subst e1; subst e2; subst hs0
      clear s3
      by_cases hlt : k < l.length
      · have hd : decide (k < l.length) = true := decide_eq_true hlt
        go_wp2
        go_ret2
        exact ⟨rfl, Below.refl _ _⟩
      · have hd : decide (k < l.length) = false := decide_eq_false hlt
        go_wp2
        go_ret2
        exact ⟨rfl, Below.refl _ _⟩
    · obtain ⟨e1, e2⟩ := s3.out.2 (by omega)
      have hs : 0 < s := by omega
      have hsd : decide (0 < s) = true := decide_eq_true hs
      clear s3
      by_cases hlt : k < l.length
      · obtain ⟨b, off, rfl, hbB, hc⟩ := hl.cells (by omega)
        obtain ⟨h1, h2⟩ := hc k l[k] (List.getElem?_eq_getElem hlt)
        have hok := hl.ok l[k] (List.getElem_mem hlt)
        rw [at_step hlt] at e1 e2
        generalize l[k] = x at *
        obtain ⟨x1, x2⟩ := x
        obtain ⟨o1, o2, o3, o4⟩ := hok
        simp only at h1 h2 o1 o2 o3 o4 e1 e2
        have hd : decide (k < l.length) = true := decide_eq_true hlt
        clear hc
        by_cases hle : s ≤ x2
        · rw [if_pos hle] at e1 e2
          have f1 : ri = x1 := e1
          have f2 : re = 0 := e2
          clear e1 e2
          subst f1; subst f2
          go_wp2
          go_ret2
          exact ⟨rfl, Below.refl _ _⟩
        · rw [if_neg hle] at e1 e2
          have e5 : 0 ≤ s - x2 := by omega
          have e6 : s - x2 ≤ 18446744073709551615 := by omega
          have nx : Hid ((s - x2 = 0 → ri = 0 ∧ re = 2) ∧ (0 < s - x2 → ri = (atF (s - x2) (l.drop (k + 1))).getD 0 ∧ re = if (atF (s - x2) (l.drop (k + 1))).isSome then 0 else 2)) := Lib.hid ⟨fun e => absurd e (by omega), fun _ => ⟨e1, e2⟩⟩
          clear e1 e2
          go_wp2
          exact ⟨⟨k + 1, s - x2, by omega, by go_num, rfl, e5, e6, nx, trivial⟩, by simp [intOf]; omega⟩
      · rw [List.drop_of_length_le (by omega)] at e1 e2
        have f1 : ri = 0 := e1
        have f2 : re = 2 := e2
        clear e1 e2
        subst f1; subst f2
        have hd : decide (k < l.length) = false := decide_eq_false hlt
        go_wp2
        go_ret2
        exact ⟨rfl, Below.refl _ _⟩
end Go.Proofs.YtpiegngjpnpohaaGreat.Rk

namespace Go.Proofs.YtpiegngjpnpohaaGreat.Rk
open Go.RowKit Go.Proofs.YtpiegngjpnpohaaGreat.Bk
set_option linter.unusedVariables false
def stepC (cs : List (Int × Int)) (k : Int) : List (Int × Int) :=
  match cs.getLast? with
  | some c => if c.1 = k then cs.dropLast ++ [(c.1, c.2 + 1)] else cs ++ [(k, 1)]
  | none => [(k, 1)]
theorem stepC_same (cs : List (Int × Int)) (k n : Int) : stepC (cs ++ [(k, n)]) k = cs ++ [(k, n + 1)] := by simp [stepC]
theorem stepC_other (cs : List (Int × Int)) (j n k : Int) (h : j ≠ k) : stepC (cs ++ [(j, n)]) k = cs ++ [(j, n)] ++ [(k, 1)] := by simp [stepC, h]
def expand (cs : List (Int × Int)) : List Int := cs.flatMap fun c => List.replicate c.2.toNat c.1
structure Inv (ks : List Int) (cs : List (Int × Int)) : Prop where
  rise : (cs.map (·.1)).Pairwise (· < ·)
  pos : ∀ c ∈ cs, 1 ≤ c.2
  exp : expand cs = ks
theorem Inv.nil : Inv [] [] := ⟨by simp, by simp, rfl⟩
theorem Inv.step {ks : List Int} {cs : List (Int × Int)} (h : Inv ks cs) (k : Int) (hk : ∀ j ∈ ks, j ≤ k) : Inv (ks ++ [k]) (stepC cs k) := by
  rcases List.eq_nil_or_concat cs with rfl | ⟨r, ⟨j, n⟩, rfl⟩
  · have := h.exp
    simp [expand] at this
    subst this
    exact ⟨by simp [stepC], by simp [stepC], by simp [stepC, expand]⟩
  · rw [List.concat_eq_append] at h ⊢
    have hn := h.pos (j, n) (by simp)
    simp only at hn
    have hjks : j ∈ ks := by
      rw [← h.exp]
      exact List.mem_flatMap.2 ⟨(j, n), by simp, by simp; omega⟩
    have hjk := hk j hjks
    have hr := h.rise
    rw [List.map_append, List.pairwise_append] at hr
    by_cases e : j = k
    · subst e
      rw [stepC_same]
      refine ⟨by have := h.rise; simpa using this, fun c hc => ?_, ?_⟩
      · rcases List.mem_append.1 hc with hc | hc
        · exact h.pos c (by simp [hc])
        · rw [List.mem_singleton.1 hc]; show 1 ≤ n + 1; omega
      · rw [← h.exp]
        have e2 : (n + 1).toNat = n.toNat + 1 := by omega
        simp [expand, e2, List.replicate_succ']
    · rw [stepC_other _ _ _ _ e]
      refine ⟨?_, fun c hc => ?_, ?_⟩
      · rw [List.map_append, List.pairwise_append]
        refine ⟨h.rise, by simp, fun a ha b hb => ?_⟩
        simp at hb
        subst hb
        rw [List.map_append] at ha
        rcases List.mem_append.1 ha with ha | ha
        · have := hr.2.2 a ha j (by simp); omega
        · simp at ha; omega
      · rcases List.mem_append.1 hc with hc | hc
        · exact h.pos c hc
        · rw [List.mem_singleton.1 hc]; show (1 : Int) ≤ 1; omega
      · rw [← h.exp]; simp [expand]
theorem rise_len : ∀ (l : List Int) (a N : Int), l.Pairwise (· < ·) → (∀ x ∈ l, a ≤ x ∧ x < N) → (l.length : Int) ≤ max 0 (N - a)
  | [], a, N, _, _ => by simp; omega
  | x :: r, a, N, h, hb => by
    have h1 := List.pairwise_cons.1 h
    have h2 := hb x (by simp)
    have := rise_len r (x + 1) N h1.2 (fun y hy => ⟨by have := h1.1 y hy; omega, (hb y (by simp [hy])).2⟩)
    simp only [List.length_cons]; omega
theorem totF_sum : ∀ (cs : List (Int × Int)) (n : Int), 0 ≤ n → (∀ c ∈ cs, 0 ≤ c.2) → n + sumN cs ≤ 18446744073709551615 → totF n cs = n + sumN cs
  | [], n, _, _, _ => by simp [totF, sumN]
  | c :: r, n, h0, h, hb => by
    have hc := h c (by simp)
    have hs : 0 ≤ sumN r := by
      clear hb
      induction r with
      | nil => simp [sumN]
      | cons d t ih =>
        have := ih fun x hx => h x (by simp at hx ⊢; rcases hx with hx | hx <;> simp [hx])
        have := h d (by simp)
        simp only [sumN, List.map_cons, List.sum_cons] at *; omega
    have e : sumN (c :: r) = c.2 + sumN r := by simp [sumN]
    rw [e] at hb ⊢
    have e2 : totF n (c :: r) = totF (IntKind.u64.wrap (n + c.2)) r := rfl
    rw [e2, IntWalk.u64_in _ (by omega), totF_sum r _ (by omega) (fun x hx => h x (by simp [hx])) (by omega)]; omega
end Go.Proofs.YtpiegngjpnpohaaGreat.Rk

namespace Go.Proofs.YtpiegngjpnpohaaGreat.Rk
open Go.RowKit Go.Proofs.YtpiegngjpnpohaaGreat.Sl
set_option linter.unusedVariables false
def ic (l : List Int) : List Value := l.map (Value.int .i64)
def SortPost (w : World) (l : List Int) (e : Ending) (w' : World) : Prop :=
  ∃ A c ys, e = .returned (.slice A l.length c) ∧ w'.ownsRow w.heap.size 2 1 (.slice A l.length c) l.length (ic ys) ∧ ys.Perm l ∧ ys.Pairwise (· ≤ ·) ∧ Below w.heap.size w w'
structure Merg (l us bs os : List Int) : Prop where
  perm : (os ++ (us ++ bs)).Perm l
  s1 : us.Pairwise (· ≤ ·)
  s2 : bs.Pairwise (· ≤ ·)
  s3 : os.Pairwise (· ≤ ·)
  le : ∀ o ∈ os, ∀ x ∈ us ++ bs, o ≤ x
theorem Merg.len {l us bs os : List Int} (h : Merg l us bs os) : os.length + us.length + bs.length = l.length := by
  have := h.perm.length_eq
  simp at this; omega
theorem pw_snoc {os : List Int} {x : Int} (h : os.Pairwise (· ≤ ·)) (hx : ∀ o ∈ os, o ≤ x) : (os ++ [x]).Pairwise (· ≤ ·) :=
  List.pairwise_append.2 ⟨h, List.pairwise_singleton _ _, fun a ha b hb => by rw [List.mem_singleton.1 hb]; exact hx a ha⟩
theorem Merg.left {l us bs os : List Int} {x y : Int} (h : Merg l (x :: us) (y :: bs) os) (hxy : x ≤ y) : Merg l us (y :: bs) (os ++ [x]) := by
  have h1 := List.pairwise_cons.1 h.s1
  have h2 := List.pairwise_cons.1 h.s2
  refine ⟨by have := h.perm; simpa using this, h1.2, h.s2, pw_snoc h.s3 (fun o ho => h.le o ho x (by simp)), fun o ho z hz => ?_⟩
  rcases List.mem_append.1 ho with ho | ho
  · exact h.le o ho z (by simp at hz ⊢; rcases hz with hz | hz | hz <;> simp [hz])
  · rw [List.mem_singleton.1 ho]
    simp at hz
    rcases hz with hz | rfl | hz
    · exact h1.1 z hz
    · exact hxy
    · have := h2.1 z hz; omega
theorem Merg.right {l us bs os : List Int} {x y : Int} (h : Merg l (x :: us) (y :: bs) os) (hxy : ¬ x ≤ y) : Merg l (x :: us) bs (os ++ [y]) := by
  have h1 := List.pairwise_cons.1 h.s1
  have h2 := List.pairwise_cons.1 h.s2
  refine ⟨?_, h.s1, h2.2, pw_snoc h.s3 (fun o ho => h.le o ho y (by simp)), fun o ho z hz => ?_⟩
  · have := h.perm
    refine List.Perm.trans ?_ this
    rw [List.append_assoc]
    refine List.Perm.append_left os ?_
    exact (List.perm_middle (a := y) (l₁ := x :: us) (l₂ := bs)).symm
  rcases List.mem_append.1 ho with ho | ho
  · exact h.le o ho z (by simp at hz ⊢; rcases hz with hz | hz | hz <;> simp [hz])
  · rw [List.mem_singleton.1 ho]
    simp at hz
    rcases hz with rfl | hz | hz
    · omega
    · have := h1.1 z hz; omega
    · exact h2.1 z hz
theorem Merg.done {l us bs os : List Int} (h : Merg l us bs os) (h0 : us = [] ∨ bs = []) : (os ++ us ++ bs).Perm l ∧ (os ++ us ++ bs).Pairwise (· ≤ ·) := by
  refine ⟨by rw [List.append_assoc]; exact h.perm, ?_⟩
  rcases h0 with rfl | rfl
  · simp only [List.append_nil]
    exact List.pairwise_append.2 ⟨h.s3, h.s2, fun a ha b hb => h.le a ha b (by simp [hb])⟩
  · simp only [List.append_nil]
    exact List.pairwise_append.2 ⟨h.s3, h.s1, fun a ha b hb => h.le a ha b (by simp [hb])⟩
def lenOf : Value → Nat
  | .slice _ n _ => n
  | _ => 0
end Go.Proofs.YtpiegngjpnpohaaGreat.Rk

namespace Go.Proofs.YtpiegngjpnpohaaGreat.Rk
open Go.RowKit Go.Proofs.YtpiegngjpnpohaaGreat.Sl Go.Proofs.YtpiegngjpnpohaaGreat.Bk
set_option linter.unusedVariables false
theorem infoCount : (Tryz.prog.info? 54).map (fun i => (i.zero, i.size, i.bytes)) = some (some (.agg #[.int .i64 0, .int .u64 0]), 2, 16) := by kernel_rfl
theorem flat_one (l : List (Int × Int)) : ∀ u ∈ flat l, u.oneCell' = true := by
  intro u hu
  obtain ⟨c, _, h⟩ := List.mem_flatMap.1 hu
  simp at h
  rcases h with rfl | rfl <;> rfl
theorem flat_snoc (l : List (Int × Int)) (c : Int × Int) : flat (l ++ [c]) = flat l ++ [.int .i64 c.1, .int .u64 c.2] := by simp [flat]
end Go.Proofs.YtpiegngjpnpohaaGreat.Rk

namespace Go.Proofs.YtpiegngjpnpohaaGreat.Rk
open Go.RowKit Go.Proofs.YtpiegngjpnpohaaGreat.Sl Go.Proofs.YtpiegngjpnpohaaGreat.Bk
set_option linter.unusedVariables false
theorem rank_nat {n V q r d : Nat} (hd : 0 < d) (hdm : q * d + r = V) (hml : r < d) (hle : V ≤ n * d) (hn : 1 ≤ n) (x : Nat) (hx : x = max (q + if r = 0 then 0 else 1) 1) :
    V ≤ x * d ∧ (x = 1 ∨ ¬ V ≤ (x - 1) * d) ∧ 1 ≤ x ∧ x ≤ n := by
  have hqn : q ≤ n := by
    apply Classical.byContradiction; intro h
    have : (n + 1) * d ≤ q * d := Nat.mul_le_mul_right _ (by omega)
    rw [Nat.add_mul, Nat.one_mul] at this; omega
  by_cases hr0 : r = 0
  · rw [if_pos hr0, Nat.add_zero] at hx
    by_cases hq1 : 1 ≤ q
    · rw [Nat.max_eq_left hq1] at hx
      subst hx
      refine ⟨by omega, ?_, hq1, hqn⟩
      rcases Nat.eq_or_lt_of_le hq1 with h | h
      · exact .inl h.symm
      · refine .inr ?_
        obtain ⟨k, rfl⟩ : ∃ k, x = k + 1 := ⟨x - 1, by omega⟩
        rw [Nat.add_mul, Nat.one_mul] at hdm
        simp; omega
    · rw [Nat.max_eq_right (by omega)] at hx
      have : q = 0 := by omega
      subst this
      subst hx
      exact ⟨by omega, .inl rfl, Nat.le_refl _, hn⟩
  · rw [if_neg hr0, Nat.max_eq_left (by omega)] at hx
    subst hx
    refine ⟨by rw [Nat.add_mul, Nat.one_mul]; omega, ?_, by omega, ?_⟩
    · by_cases hq0 : q = 0
      · exact .inl (by omega)
      · exact .inr (by simp; omega)
    · apply Classical.byContradiction; intro h
      have : n * d ≤ q * d := Nat.mul_le_mul_right _ (by omega)
      omega
theorem rank_is {n : Nat} {num den : Int} (h0 : 0 ≤ num) (h1 : num ≤ den) (h2 : 1 ≤ den) (hn : 1 ≤ n) :
    n * num.toNat ≤ rankI n num den * den.toNat ∧ (rankI n num den = 1 ∨ ¬ n * num.toNat ≤ (rankI n num den - 1) * den.toNat) ∧ 1 ≤ rankI n num den ∧ rankI n num den ≤ n := by
  have hE : rankE n num den = 0 := by rw [rankE, if_neg (by omega), if_neg (by omega)]
  exact rank_nat (by omega) (Nat.div_add_mod' (n * num.toNat) den.toNat) (Nat.mod_lt _ (by omega)) (Nat.mul_le_mul_left _ (by omega)) hn _ (by rw [rankI, if_pos hE])
end Go.Proofs.YtpiegngjpnpohaaGreat.Rk
