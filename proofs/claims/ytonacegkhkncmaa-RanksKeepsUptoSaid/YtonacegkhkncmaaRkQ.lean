/- ranks.Quantile, and the law's own fixed calls. -/
import Derived.Test.YtonacegkhkncmaaRkI
import Derived.Test.YtonacegkhkncmaaRkR
namespace Go.Proofs.Ytonacegkhkncmaa.Rk
open Go.RowKit Go.Proofs.Ytonacegkhkncmaa.Bk
set_option linter.unusedVariables false

def totN (l : List (Int × Int)) : Nat := (totF 0 l).toNat
theorem totF_rng (l : List (Int × Int)) : 0 ≤ totF 0 l ∧ totF 0 l ≤ 18446744073709551615 := by
  rcases List.eq_nil_or_concat l with rfl | ⟨r, c, rfl⟩
  · simp [totF]
  · rw [totF, List.concat_eq_append, List.foldl_append]
    simp only [List.foldl_cons, List.foldl_nil, IntKind.wrap_u64]; omega
theorem totN_eq (l : List (Int × Int)) : totF 0 l = (totN l : Int) := by
  have := totF_rng l
  unfold totN; omega

def quaR (l : List (Int × Int)) (num den : Int) : Int := (rankI (totN l) num den : Nat)
def quaE (p : Int) (l : List (Int × Int)) (num den : Int) : Int :=
  if mayE p l ≠ 0 then mayE p l else if rankE (totN l) num den ≠ 0 then rankE (totN l) num den else if atE l (quaR l num den) ≠ 0 then atE l (quaR l num den) else lowE p (atI l (quaR l num den))
def quaI (p : Int) (l : List (Int × Int)) (num den : Int) : Int :=
  if mayE p l ≠ 0 then 0 else if rankE (totN l) num den ≠ 0 then 0 else if atE l (quaR l num den) ≠ 0 then 0 else higI p (atI l (quaR l num den))

theorem rankI_le (n : Nat) (num den : Int) (hn : n ≤ 18446744073709551615) (hd : den ≤ 9223372036854775807) : rankI n num den ≤ 18446744073709551615 := by
  by_cases h : rankE n num den = 0
  · have h0 : ¬ (den < 1 ∨ num < 0 ∨ den < num) := by
      intro h'; rw [rankE, if_pos h'] at h; omega
    obtain ⟨_, _, _, _, h5, h6⟩ := rank_nums hn (show 0 ≤ num by omega) (show num ≤ den by omega) (show 1 ≤ den by omega) hd
    rw [rankI, if_pos h]
    generalize n * num.toNat / den.toNat = q at *
    generalize n * num.toNat % den.toNat = r at *
    by_cases hr : r = 0
    · rw [if_pos hr]; omega
    · rw [if_neg hr]; have := h5 (by omega); omega
  · rw [rankI, if_neg h]; omega

theorem atF_mem {l : List (Int × Int)} : ∀ {n i : Int}, atF n l = some i → ∃ c ∈ l, c.1 = i := by
  induction l with
  | nil => intro n i h; simp [atF] at h
  | cons c r ih =>
    intro n i h
    by_cases hc : n ≤ c.2
    · simp [atF, hc] at h; exact ⟨c, List.mem_cons_self .., h⟩
    · simp only [atF, if_neg hc] at h
      obtain ⟨d, hd, e⟩ := ih h
      exact ⟨d, List.mem_cons_of_mem _ hd, e⟩
theorem atI_rng {l : List (Int × Int)} {n : Int} (hl : ∀ c ∈ l, okC c) : -9223372036854775808 ≤ atI l n ∧ atI l n ≤ 9223372036854775807 := by
  unfold atI
  by_cases h : n = 0
  · rw [if_pos h]; omega
  · rw [if_neg h]
    cases hf : atF n l with
    | none => simp
    | some i =>
      obtain ⟨c, hc, rfl⟩ := atF_mem hf
      have := hl c hc
      unfold okC at this
      exact ⟨this.1, this.2.1⟩

set_option maxRecDepth 100000 in
set_option maxHeartbeats 1000000 in
theorem quantile_any (w : World) (B : Nat) (p : Int) (l : List (Int × Int)) (A : Option Addr) (cap : Nat) (num den : Int) (h : Cs w B A l) (hB : B ≤ w.heap.size) (hd : den ≤ 9223372036854775807) :
    Calls Try.prog 24 #[.int .i64 p, .slice A l.length cap, .int .i64 num, .int .i64 den] w fun e w' => e = .returned (.tuple #[.int .i64 (quaI p l num den), .int .i64 (quaE p l num den)]) ∧ Below w.heap.size w w' := by
  have cm := may_any w B p l A cap h hB
  have ht := totF_rng l
  have htn := totN_eq l
  have hr := rankI_le (totN l) num den (by omega) hd
  have hai := atI_rng (n := quaR l num den) h.ok
  by_cases e1 : mayE p l = 0
  · have f1 : (mayE p l != 0) = false := by simp [e1]
    by_cases e2 : rankE (totN l) num den = 0
    · have f2 : (rankE (totN l) num den != 0) = false := by simp [e2]
      by_cases e3 : atE l (quaR l num den) = 0
      · have f3 : (atE l (quaR l num den) != 0) = false := by simp [e3]
        have g1 : quaE p l num den = lowE p (atI l (quaR l num den)) := by simp [quaE, e1, e2, e3]
        have g2 : quaI p l num den = higI p (atI l (quaR l num den)) := by simp [quaI, e1, e2, e3]
        have ch := high_any p (atI l (quaR l num den)) hai.1 hai.2
        have cr := rank_any (totN l) num den (by omega) hd
        have cq : (rankI (totN l) num den : Int) = quaR l num den := rfl
        rw [cq] at cr
        have qr : 0 ≤ quaR l num den ∧ quaR l num den ≤ 18446744073709551615 := by rw [← cq]; omega
        replace e1 := Lib.hid e1; replace e2 := Lib.hid e2; replace e3 := Lib.hid e3; replace g1 := Lib.hid g1; replace g2 := Lib.hid g2; replace htn := Lib.hid htn; replace ht := Lib.hid ht; replace hr := Lib.hid hr; replace hai := Lib.hid hai; replace cq := Lib.hid cq; replace qr := Lib.hid qr
        go_enter Try.func24, Try.ntmps24
        go_wp2_with fail
        refine cm.mono ?_; rintro e w1 ⟨rfl, hb1⟩
        go_wp2_with fail
        refine (total_any w1 B A l cap (h.below (hb1.mono hB)) (Nat.le_trans hB hb1.size)).mono ?_; rintro e w2 ⟨rfl, hb2⟩
        rw [htn.out]
        replace hb2 := hb1.trans (hb2.mono hb1.size)
        clear hb1
        go_wp2_with fail
        refine (cr _).mono ?_; rintro e w3 ⟨rfl, n3, rfl⟩
        go_wp2_with fail
        refine (at_any (w2.drewN n3) B l A cap (quaR l num den) (h.below ((below_drewN hb2 n3).mono hB)) (Nat.le_trans hB hb2.size) qr.out.1 qr.out.2).mono ?_; rintro e w4 ⟨rfl, hb4⟩
        replace hb4 := hb2.trans ((below_drewN (Below.refl _ w2) n3).trans (hb4.mono hb2.size))
        go_wp2_with fail
        refine (ch _).mono ?_; rintro e w5 ⟨rfl, n5, rfl⟩
        go_wp2
        go_ret2
        exact ⟨ret_int2 g2.out.symm g1.out.symm, below_drewN hb4 _⟩
      · have f3 : (atE l (quaR l num den) != 0) = true := by simp [e3]
        have g1 : quaE p l num den = atE l (quaR l num den) := by simp [quaE, e1, e2, e3]
        have g2 : quaI p l num den = 0 := by simp [quaI, e1, e2, e3]
        have cr := rank_any (totN l) num den (by omega) hd
        have cq : (rankI (totN l) num den : Int) = quaR l num den := rfl
        rw [cq] at cr
        have qr : 0 ≤ quaR l num den ∧ quaR l num den ≤ 18446744073709551615 := by rw [← cq]; omega
        replace e1 := Lib.hid e1; replace e2 := Lib.hid e2; replace e3 := Lib.hid e3; replace g1 := Lib.hid g1; replace g2 := Lib.hid g2; replace htn := Lib.hid htn; replace ht := Lib.hid ht; replace hr := Lib.hid hr; replace hai := Lib.hid hai; replace cq := Lib.hid cq; replace qr := Lib.hid qr
        go_enter Try.func24, Try.ntmps24
        go_wp2_with fail
        refine cm.mono ?_; rintro e w1 ⟨rfl, hb1⟩
        go_wp2_with fail
        refine (total_any w1 B A l cap (h.below (hb1.mono hB)) (Nat.le_trans hB hb1.size)).mono ?_; rintro e w2 ⟨rfl, hb2⟩
        rw [htn.out]
        replace hb2 := hb1.trans (hb2.mono hb1.size)
        clear hb1
        go_wp2_with fail
        refine (cr _).mono ?_; rintro e w3 ⟨rfl, n3, rfl⟩
        go_wp2_with fail
        refine (at_any (w2.drewN n3) B l A cap (quaR l num den) (h.below ((below_drewN hb2 n3).mono hB)) (Nat.le_trans hB hb2.size) qr.out.1 qr.out.2).mono ?_; rintro e w4 ⟨rfl, hb4⟩
        replace hb4 := hb2.trans ((below_drewN (Below.refl _ w2) n3).trans (hb4.mono hb2.size))
        go_wp2
        go_ret2
        exact ⟨ret_int2 g2.out.symm g1.out.symm, hb4⟩
    · have f2 : (rankE (totN l) num den != 0) = true := by simp [e2]
      have g1 : quaE p l num den = rankE (totN l) num den := by simp [quaE, e1, e2]
      have g2 : quaI p l num den = 0 := by simp [quaI, e1, e2]
      have cr := rank_any (totN l) num den (by omega) hd
      replace e1 := Lib.hid e1; replace e2 := Lib.hid e2; replace g1 := Lib.hid g1; replace g2 := Lib.hid g2; replace htn := Lib.hid htn; replace ht := Lib.hid ht; replace hr := Lib.hid hr; replace hai := Lib.hid hai
      go_enter Try.func24, Try.ntmps24
      go_wp2_with fail
      refine cm.mono ?_; rintro e w1 ⟨rfl, hb1⟩
      go_wp2_with fail
      refine (total_any w1 B A l cap (h.below (hb1.mono hB)) (Nat.le_trans hB hb1.size)).mono ?_; rintro e w2 ⟨rfl, hb2⟩
      rw [htn.out]
      replace hb2 := hb1.trans (hb2.mono hb1.size)
      clear hb1
      go_wp2_with fail
      refine (cr _).mono ?_; rintro e w3 ⟨rfl, n3, rfl⟩
      go_wp2
      go_ret2
      exact ⟨ret_int2 g2.out.symm g1.out.symm, below_drewN hb2 _⟩
  · have f1 : (mayE p l != 0) = true := by simp [e1]
    have g1 : quaE p l num den = mayE p l := by simp [quaE, e1]
    have g2 : quaI p l num den = 0 := by simp [quaI, e1]
    replace e1 := Lib.hid e1; replace g1 := Lib.hid g1; replace g2 := Lib.hid g2; replace htn := Lib.hid htn; replace ht := Lib.hid ht; replace hr := Lib.hid hr; replace hai := Lib.hid hai
    go_enter Try.func24, Try.ntmps24
    go_wp2_with fail
    refine cm.mono ?_; rintro e w1 ⟨rfl, hb1⟩
    go_wp2
    go_ret2
    exact ⟨ret_int2 g2.out.symm g1.out.symm, hb1⟩

/-- The cells of counts, one behind the other. -/
def flat (l : List (Int × Int)) : List Value := l.flatMap fun c => [.int .i64 c.1, .int .u64 c.2]
theorem flat_len (l : List (Int × Int)) : (flat l).length = l.length * 2 := by
  induction l with
  | nil => rfl
  | cons c r ih => simp [flat] at ih ⊢; omega
theorem flat_get : ∀ (l : List (Int × Int)) (i : Nat) (c : Int × Int), l[i]? = some c → (flat l)[i * 2]? = some (.int .i64 c.1) ∧ (flat l)[i * 2 + 1]? = some (.int .u64 c.2)
  | [], i, c, h => by simp at h
  | d :: r, 0, c, h => by simp at h; subst h; simp [flat]
  | d :: r, i + 1, c, h => by
    have := flat_get r i c (by simpa using h)
    rw [show (i + 1) * 2 = i * 2 + 1 + 1 by omega]
    simp only [flat, List.flatMap_cons, List.cons_append, List.nil_append, List.getElem?_cons_succ] at this ⊢
    exact this
theorem Cs.of_row {w : World} {B g : Nat} {l : List (Int × Int)} {t : TypeId} (hg : g < B) (hl : l.length ≤ maxLen) (hok : ∀ c ∈ l, okC c) (h : w.heap[g]? = some (.cells (flat l).toArray t (0, 0))) : Cs w B (some ⟨g, 0, none⟩) l :=
  ⟨hl, hok, fun _ => ⟨g, 0, rfl, hg, fun i c hi => by
    obtain ⟨h1, h2⟩ := flat_get l i c hi
    simp only [World.cell?, h, Nat.zero_add]
    exact ⟨by simpa using h1, by simpa using h2⟩⟩⟩

def lfix : List (Int × Int) := [(1, 2), (3, 1), (8, 4)]

theorem fixed_t (w : World) : Calls Try.prog 21 #[] w fun e w' => e = .returned (.bool true) ∧ Below w.heap.size w w' := by
  have a1 : (quaI 2 lfix 1 2 == 9) = true := by decide +kernel
  have a2 : (quaE 2 lfix 1 2 == 0) = true := by decide +kernel
  have a3 : (((rankI 7 1 2 : Nat) : Int) == 4) = true := by decide +kernel
  have a4 : (rankE 7 1 2 == 0) = true := by decide +kernel
  have a5 : (totF 0 lfix == 7) = true := by decide +kernel
  have a6 : (mayE 0 lfix == 1) = true := by decide +kernel
  go_enter Try.func21, Try.ntmps21
  go_wp2_with fail
  have hc : Cs (w.alloc (.cells #[.int .i64 1, .int .u64 2, .int .i64 3, .int .u64 1, .int .i64 8, .int .u64 4] 55)) (w.heap.size + 1) (some ⟨w.heap.size, 0, none⟩) lfix :=
    Cs.of_row (by omega) (by decide) (by simp [lfix, okC]) (World.alloc_heap_new w _)
  have h0 : Below w.heap.size w (w.alloc (.cells #[.int .i64 1, .int .u64 2, .int .i64 3, .int .u64 1, .int .i64 8, .int .u64 4] 55)) := (Below.refl _ w).alloc (Nat.le_refl _) _
  have hs0 : (w.alloc (.cells #[.int .i64 1, .int .u64 2, .int .i64 3, .int .u64 1, .int .i64 8, .int .u64 4] 55)).heap.size = w.heap.size + 1 := by simp
  refine (quantile_any _ (w.heap.size + 1) 2 lfix _ _ 1 2 hc (by omega) (by decide)).mono ?_
  rintro e w1 ⟨rfl, hb1⟩
  rw [hs0] at hb1
  have hc1 := hc.below hb1
  replace h0 := h0.trans (hb1.mono (by omega))
  have hs1 : w.heap.size + 1 ≤ w1.heap.size := by have := hb1.size; omega
  clear hb1 hc hs0
  go_wp2_with fail
  refine (rank_any 7 1 2 (by decide) (by decide) _).mono ?_
  rintro e w2 ⟨rfl, n2, rfl⟩
  have hc2 : Cs (w1.drewN n2) (w.heap.size + 1) (some ⟨w.heap.size, 0, none⟩) lfix := hc1.below (below_drewN (Below.refl _ w1) n2)
  go_wp2_with (first | (go_at_call 33; refine (total_any (w1.drewN n2) (w.heap.size + 1) (some ⟨w.heap.size, 0, none⟩) lfix 3 hc2 (by simpa using hs1)).mono ?_; rintro e w3 ⟨rfl, hb3⟩))
  have hc3 := hc2.below (hb3.mono (by simpa using hs1))
  have hs3 : w.heap.size + 1 ≤ w3.heap.size := Nat.le_trans hs1 hb3.size
  have h3 : Below w.heap.size w w3 := h0.trans ((below_drewN (Below.refl _ w1) n2).trans (hb3.mono (by show w.heap.size ≤ w1.heap.size; omega)))
  refine (may_any w3 (w.heap.size + 1) 0 lfix (some ⟨w.heap.size, 0, none⟩) 3 hc3 hs3).mono ?_
  rintro e w4 ⟨rfl, hb4⟩
  replace h3 := h3.trans (hb4.mono (by omega))
  go_wp2
  go_ret
  exact ⟨rfl, h3⟩
end Go.Proofs.Ytonacegkhkncmaa.Rk
