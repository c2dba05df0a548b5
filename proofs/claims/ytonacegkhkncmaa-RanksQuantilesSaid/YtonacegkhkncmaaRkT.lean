/- The stage's theorem on quantiles: the walk where there is something to ask. -/
import Derived.Test.YtonacegkhkncmaaRkU
namespace Go.Proofs.Ytonacegkhkncmaa.Rk
open Go.RowKit Go.Proofs.Ytonacegkhkncmaa.Sl Go.Proofs.Ytonacegkhkncmaa.Bk
set_option linter.unusedVariables false

set_option maxRecDepth 100000 in
set_option maxHeartbeats 2000000 in
theorem quantiles_good (w : World) (B : Nat) (p num den : Int) (A : Option Addr) (l : List Int) (cap : Nat) (hp : good p) (g1 : 1 ≤ den) (g2 : 0 ≤ num) (g3 : num ≤ den) (g4 : 0 < l.length) (hd : den ≤ 9223372036854775807)
    (hl : Rd w B 1 A (ic l) l.length) (hc : l.length ≤ cap) (hcm : cap ≤ maxLen) (h8 : l.length * 8 ≤ 140737488355328) (hB : B ≤ w.heap.size) (hx : ∀ x ∈ l, x ≤ 9223372036854775807) :
    Calls Try.prog 8 #[.agg #[.int .i64 p, .slice A l.length cap, .int .i64 num, .int .i64 den]] w fun e w' => e = .returned (.bool true) ∧ Below w.heap.size w w' := by
  obtain ⟨p1, p2⟩ := id hp
  have hlm : l.length ≤ 9223372036854775807 := by unfold maxLen at hcm; omega
  have g4' : ((l.length : Int) == 0) = false := beq_eq_false_iff_ne.2 (by omega)
  have g4'' : ¬ l.length = 0 := by omega
  replace hx := Lib.hid hx
  replace hp := Lib.hid hp
  go_enter Try.func8, Try.ntmps8
  go_wp2_with fail
  go_quiet (fail)
  have hb0 : Below w.heap.size w ((w.alloc (.cells #[.int .i64 p, .slice A l.length cap, .int .i64 num, .int .i64 den] 34)).drewN nq) := below_drewN ((Below.refl _ w).alloc (Nat.le_refl _) _) nq
  obtain ⟨w0, hw0⟩ : ∃ w0, (w.alloc (.cells #[.int .i64 p, .slice A l.length cap, .int .i64 num, .int .i64 den] 34)).drewN nq = w0 := ⟨_, rfl⟩
  rw [hw0] at hb0 ⊢
  clear hw0
  go_wp2_with fail
  go_loopw [7] (fun i wr => ∃ k : Nat, k ≤ l.length ∧ i = .int .i64 k ∧ wr = w0 ∧ Hid (∀ x ∈ l.take k, 0 ≤ x)) (fun i _ => l.length - (intOf i).toNat)
  case atStart => exact ⟨0, Nat.zero_le _, rfl, rfl, by intro x hx; simp at hx⟩
  case round =>
    obtain ⟨k, hk, rfl, rfl, hpos⟩ := hrel
    by_cases hlt : k < l.length
    · obtain ⟨b, off, rfl, hbB, hcc⟩ := (hl.below (hb0.mono hB)).cells (by omega)
      have h1 := hcc k (.int .i64 l[k]) (by simp [ic, hlt])
      clear hcc
      have hn1 : 0 ≤ l[k] → ∀ x ∈ l.take (k + 1), 0 ≤ x := by
        intro h0 x hx
        rw [take_snoc hlt] at hx
        rcases List.mem_append.1 hx with h | h
        · exact hpos.out x h
        · rw [List.mem_singleton.1 h]; exact h0
      generalize l[k] = x at *
      by_cases hx0 : x < 0
      · clear hn1
        go_wp2_with (first | (go_at_call 21; refine (fixed_t _).mono ?_; rintro e w1 ⟨rfl, hb1⟩))
        go_ret
        exact ⟨rfl, hb0.trans (hb1.mono hb0.size)⟩
      · replace hn1 := hn1 (by omega)
        replace hn1 := Lib.hid hn1
        go_wp2
        exact ⟨⟨k + 1, by omega, by go_num, trivial, hn1⟩, by simp [intOf]; omega⟩
    · rw [show k = l.length by omega, List.take_of_length_le (Nat.le_refl _)] at hpos
      rename_i wr
      have c1 := sorted_any l.length wr B A l cap (Nat.le_refl _) (hl.below (hb0.mono hB)) hc hcm h8 (Nat.le_trans hB hb0.size)
      go_wp2_with fail
      refine c1.mono ?_
      rintro e w1 ⟨A1, k1, s, rfl, o1, perm, srt, hb1⟩
      clear c1
      have hsl : s.length = l.length := perm.length_eq
      have hsx : ∀ x ∈ s, 0 ≤ x ∧ x ≤ 9223372036854775807 := fun x hx' => ⟨hpos.out x (perm.mem_iff.1 hx'), hx.out x (perm.mem_iff.1 hx')⟩
      rw [← hsl] at o1 ⊢
      replace hb1 := hb0.trans (hb1.mono hb0.size)
      obtain ⟨_, _, x1, x2, x3, x4⟩ := own_form o1
      cases x1
      have rs : Rd w1 w1.heap.size 1 A1 (ic s) s.length := Rd.of_own o1 (fun g hg => (x4 g hg).2.1)
      clear o1 x4
      obtain ⟨cs, hcs⟩ : ∃ cs, cs = cntK (s.map (idxI p)) := ⟨_, rfl⟩
      obtain ⟨r, hr⟩ : ∃ r, r = rankI s.length num den := ⟨_, rfl⟩
      have hf := quant_facts hp.out s srt hsx g2 g3 g1 hd (by omega) (by omega) cs hcs r hr
      obtain ⟨f1, f2, f3, f4, f5, f6, f7, f8, ⟨v, f9, f10, f11, f12, f13, f14, f15⟩, f16⟩ := hf
      have c2 := counted_any w1 w1.heap.size p A1 s k1 hp.out rs (by omega) f1 hsx (Nat.le_refl _)
      have sl1 : 1 ≤ s.length := by omega
      have sl2 : s.length ≤ 9223372036854775807 := by omega
      have hcs' := Lib.hid hcs
      have hr' := Lib.hid hr
      replace hsl := Lib.hid hsl; replace f4 := Lib.hid f4; replace f7 := Lib.hid f7; replace f8 := Lib.hid f8; replace f9 := Lib.hid f9; replace f16 := Lib.hid f16; replace f2 := Lib.hid f2; replace hsx := Lib.hid hsx; replace srt := Lib.hid srt; replace perm := Lib.hid perm
      clear hcs hr
      go_wp2_with fail
      (with_reducible refine c2.mono ?_)
      rintro e w2 ⟨C, ck, rfl, o2, hb2⟩
      clear c2
      rw [← hcs'.out] at o2 ⊢
      have rs2 := rs.below hb2
      have hB2 := hb2.size
      replace hb2 := hb1.trans (hb2.mono hb1.size)
      have cc : Cs w2 w2.heap.size C cs := by
        have rc : Rd w2 w2.heap.size 2 C (flat cs) cs.length := by
          obtain ⟨_, _, y1, y2, y3, y4⟩ := own_form o2
          cases y1
          exact Rd.of_own o2 (fun g hg => (y4 g hg).2.1)
        refine ⟨by unfold maxLen; omega, f2.out, fun h => ?_⟩
        obtain ⟨b, off, e1, e2, e3⟩ := rc.cells h
        refine ⟨b, off, e1, e2, fun i c hi => ?_⟩
        obtain ⟨h1, h2⟩ := flat_get cs i c hi
        exact ⟨e3 _ _ h1, by rw [Nat.add_assoc]; exact e3 _ _ h2⟩
      clear o2 f1 f2 f3 rs hb1
      replace rs2 := rs2.mono hB2
      have q1 := quantile_any w2 w2.heap.size p cs C ck num den cc (Nat.le_refl _) hd
      rw [f8.out] at q1
      have q2 := rank_any s.length num den (by omega) hd
      rw [f7.out, ← hr'.out] at q2
      have q3 := exact_any s.length num den g2 g3 g1 hd (by omega) (by omega)
      rw [← hr'.out] at q3
      obtain ⟨q, hq⟩ : ∃ q, q = quaI p cs num den := ⟨_, rfl⟩
      rw [← hq] at q1 f12 f13 f14 f15
      have hmost : ∃ m : Nat, atmI p q cs = (m : Int) := ⟨_, f16.out q⟩
      obtain ⟨m, hm⟩ := hmost
      rw [hm] at f15
      have f16v := f16.out v
      clear f16 hq f7 f8 hr' hcs' hpos
      replace hm := Lib.hid hm; replace f16v := Lib.hid f16v
      go_wp2_with fail
      refine q1.mono ?_
      rintro e w3 ⟨rfl, hb3⟩
      go_wp2_with fail
      refine (q2 w3).mono ?_
      rintro e w4 ⟨rfl, n4, rfl⟩
      have hb4 : Below w2.heap.size w2 (w3.drewN n4) := below_drewN hb3 n4
      have cm := may_any (w3.drewN n4) w2.heap.size p cs C ck (cc.below hb4) hb4.size
      rw [f4.out] at cm
      clear q1 q2 hb3
      have f5' : (1 : Int) ≤ (r : Int) := by omega
      have f6' : (r : Int) ≤ (s.length : Int) := by omega
      obtain ⟨sb, so, rfl, sB, sc⟩ := rs2.cells (by omega)
      go_wp2_with fail
      refine cm.mono ?_
      rintro e w5 ⟨rfl, hb5⟩
      have hb25 : Below w2.heap.size w2 w5 := hb4.trans (hb5.mono hb4.size)
      have c5 := (hb25.cell (p := ⟨sb, so + (r - 1), none⟩) sB).trans (sc (r - 1) (.int .i64 v) (by simp [ic, f9.out]))
      clear cm hb5 hb4 sc
      have z1 : ((r : Int) - 1).toNat = r - 1 := by omega
      have ca := atMost_any w5 w2.heap.size p q cs C ck (cc.below hb25) hb25.size
      rw [hm.out, f4.out] at ca
      go_wp2_with fail
      refine ca.mono ?_
      rintro e w6 ⟨rfl, hb6⟩
      have hb26 : Below w2.heap.size w2 w6 := hb25.trans (hb6.mono hb25.size)
      clear ca hb6 c5 z1
      have f15' : (r : Int) ≤ (m : Int) := by omega
      have hqv : ¬ v / 2 ^ p.toNat < q - v := by omega
      go_wp2_with fail
      refine (q3 w6).mono ?_
      rintro e w7 ⟨rfl, rfl⟩
      clear q3
      have cw := within_any w6 w2.heap.size p v (some ⟨sb, so, none⟩) C s k1 ck cs hp.out (rs2.below hb26) sl2 hsx.out (cc.below hb26) f4.out f16v.out hb26.size
      go_wp2_with fail
      refine cw.mono ?_
      rintro e w8 ⟨rfl, hb8⟩
      go_wp2_with fail
      refine (fixed_t w8).mono ?_
      rintro e w9 ⟨rfl, hb9⟩
      go_wp2
      go_ret
      exact ⟨rfl, hb2.trans ((hb26.trans ((hb8.trans (hb9.mono hb8.size)).mono hb26.size)).mono hb2.size)⟩

theorem quantiles_any (w : World) (B : Nat) (p num den : Int) (A : Option Addr) (l : List Int) (cap : Nat) (hd : den ≤ 9223372036854775807)
    (hl : Rd w B 1 A (ic l) l.length) (hc : l.length ≤ cap) (hcm : cap ≤ maxLen) (h8 : l.length * 8 ≤ 140737488355328) (hB : B ≤ w.heap.size) (hx : ∀ x ∈ l, x ≤ 9223372036854775807) :
    Calls Try.prog 8 #[.agg #[.int .i64 p, .slice A l.length cap, .int .i64 num, .int .i64 den]] w fun e w' => e = .returned (.bool true) ∧ Below w.heap.size w w' := by
  by_cases h : ¬ good p ∨ den < 1 ∨ num < 0 ∨ den < num ∨ l.length = 0
  · exact quantiles_bad w p num den A l.length cap h
  · have hp : good p := by
      apply Classical.byContradiction; intro h'; exact h (.inl h')
    exact quantiles_good w B p num den A l cap hp (by omega) (by omega) (by omega) (by omega) hd hl hc hcm h8 hB hx
end Go.Proofs.Ytonacegkhkncmaa.Rk
