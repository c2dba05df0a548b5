/- RanksMerges. -/
import Derived.Test.YtonacegkhkncmaaRd3
import Derived.Test.YtonacegkhkncmaaRd4
namespace Go.Proofs.Ytonacegkhkncmaa.Rk
open Go.RowKit Go.Proofs.Ytonacegkhkncmaa.Bk Go.Proofs.Ytonacegkhkncmaa.Sl Go.Proofs.Ytonacegkhkncmaa.Mg Go.Proofs.Ytonacegkhkncmaa.St
set_option linter.unusedVariables false

theorem Cs.up {w : World} {B B' : Nat} {A : Option Addr} {l : List (Int × Int)} (h : Cs w B A l) (hB : B ≤ B') : Cs w B' A l :=
  ⟨h.len, h.ok, fun hn => by
    obtain ⟨b, off, e, h1, hc⟩ := h.cells hn
    exact ⟨b, off, e, Nat.lt_of_lt_of_le h1 hB, hc⟩⟩

set_option maxRecDepth 100000 in
set_option maxHeartbeats 8000000 in
theorem merges_any (w : World) (p v : Int) (a3 a4 a5 a6 : Value) (A1 A2 : Option Addr) (l m : List (Int × Int)) (c1 c2 : Nat) (h1 : Cs w w.heap.size A1 l) (h2 : Cs w w.heap.size A2 m) (hlm : l.length + m.length ≤ 2097152) :
    Calls Try.prog 10 #[.agg #[.int .i64 p, .slice A1 l.length c1, .slice A2 m.length c2, a3, a4, a5, a6, .int .i64 v]] w fun e w' => e = .returned (.bool true) ∧ Below w.heap.size w w' := by
  obtain ⟨M, hM⟩ : ∃ M, M = mrg (l ++ m) := ⟨_, rfl⟩
  have p1 := merges_perm h1.ok h2.ok
  have p2 := merges_tot h1.ok h2.ok
  have p3 := fun e => merges_self (p := p) h1.ok e
  have p4 := fun e1 e2 => merges_may (p := p) h1.ok h2.ok e1 e2
  have okM : ∀ c ∈ M, okC c := by rw [hM]; exact mrg_okC fun c hc => (List.mem_append.1 hc).elim (h1.ok c) (h2.ok c)
  have okL : Hid (∀ c ∈ l, okC c) := h1.ok
  have lenM : M.length ≤ l.length + m.length := by
    have := (mrg_facts _ (okC_okN fun c hc => (List.mem_append.1 hc).elim (h1.ok c) (h2.ok c))).2.2.1
    rw [hM, ← List.length_append]; exact this
  have cM1 := fun W (hb : Below w.heap.size w W) => may_any W w.heap.size p l A1 c1 (h1.below hb) hb.size
  have cR1 := fun W (hb : Below w.heap.size w W) => rmay_any W w.heap.size p l A1 c1 (h1.below hb) hb.size
  have cM2 := fun W (hb : Below w.heap.size w W) => may_any W w.heap.size p m A2 c2 (h2.below hb) hb.size
  have cR2 := fun W (hb : Below w.heap.size w W) => rmay_any W w.heap.size p m A2 c2 (h2.below hb) hb.size
  have cG := fun W (hb : Below w.heap.size w W) => merge_any W w.heap.size A1 A2 l m c1 c2 (h1.below hb) (h2.below hb) hb.size (by omega)
  have cG' := fun W (hb : Below w.heap.size w W) => merge_any W w.heap.size A2 A1 m l c2 c1 (h2.below hb) (h1.below hb) hb.size (by omega)
  have cT1 := fun W (hb : Below w.heap.size w W) => total_any W w.heap.size A1 l c1 (h1.below hb) hb.size
  have cT2 := fun W (hb : Below w.heap.size w W) => total_any W w.heap.size A2 m c2 (h2.below hb) hb.size
  have cA1 := fun W (hb : Below w.heap.size w W) => atMost_any W w.heap.size p v l A1 c1 (h1.below hb) hb.size
  have cA2 := fun W (hb : Below w.heap.size w W) => atMost_any W w.heap.size p v m A2 c2 (h2.below hb) hb.size
  have cN1 := fun W (hb : Below w.heap.size w W) => merge_any W w.heap.size A1 none l [] c1 0 (h1.below hb) ⟨by decide, fun c hc => absurd hc (by simp), fun h => absurd h (by simp)⟩ hb.size (by simp; omega)
  have cN2 := fun W (hb : Below w.heap.size w W) => merge_any W w.heap.size none A1 [] l 0 c1 ⟨by decide, fun c hc => absurd hc (by simp), fun h => absurd h (by simp)⟩ (h1.below hb) hb.size (by simp; omega)
  have cS1 := fun W (hb : Below w.heap.size w W) (A : Option Addr) (c : Nat) (h : Cs W W.heap.size A l) => same_self W W.heap.size A A1 l c c1 h ⟨h1.len, h1.ok, fun hn => by
    obtain ⟨b, off, e, hB, hc⟩ := (h1.below hb).cells hn
    exact ⟨b, off, e, by have := hb.size; omega, hc⟩⟩ (Nat.le_refl _)
  rw [p1, ← hM] at cG'
  rw [← hM] at cG p2 p4
  simp only [List.append_nil, List.nil_append] at cN1 cN2
  simp only [List.length_nil] at cN1 cN2
  have cT3 := fun W B A k (h : Cs W B A M) (hB : B ≤ W.heap.size) => total_any W B A M k h hB
  have cM3 := fun W B A k (h : Cs W B A M) (hB : B ≤ W.heap.size) => may_any W B p M A k h hB
  have cA3 := fun W B A k (h : Cs W B A M) (hB : B ≤ W.heap.size) => atMost_any W B p v M A k h hB
  clear h1 h2 p1
  generalize mayE p l = E1 at *
  generalize mayE p m = E2 at *
  generalize totF 0 l = T1 at *
  generalize totF 0 m = T2 at *
  generalize totF 0 M = T3 at *
  generalize mayE p M = E3 at *
  replace p4 := fun e1 e2 => And.intro (p4 e1 e2).1 fun h => (p4 e1 e2).2 h v
  generalize atmI p v l = X1 at *
  generalize atmI p v m = X2 at *
  generalize atmI p v M = X3 at *
  replace cM1 := Lib.hid cM1
  replace cR1 := Lib.hid cR1
  replace cM2 := Lib.hid cM2
  replace cR2 := Lib.hid cR2
  replace cG := Lib.hid cG
  replace cG' := Lib.hid cG'
  replace cT1 := Lib.hid cT1
  replace cT2 := Lib.hid cT2
  replace cA1 := Lib.hid cA1
  replace cA2 := Lib.hid cA2
  replace cN1 := Lib.hid cN1
  replace cN2 := Lib.hid cN2
  replace cS1 := Lib.hid cS1
  replace cT3 := Lib.hid cT3
  replace cM3 := Lib.hid cM3
  replace cA3 := Lib.hid cA3
  replace okM := Lib.hid okM
  replace hM := Lib.hid hM
  replace p2 := Lib.hid p2
  replace p3 := Lib.hid p3
  replace p4 := Lib.hid p4
  go_enter Try.func10, Try.ntmps10
  go_wp2_with fail
  go_quiet (fail)
  have bW : Below w.heap.size w ((w.alloc (.cells #[.int .i64 p, .slice A1 l.length c1, .slice A2 m.length c2, a3, a4, a5, a6, .int .i64 v] 48)).drewN nq) := below_drewN ((Below.refl _ _).alloc (Nat.le_refl _) _) nq
  obtain ⟨w0, hw0⟩ : ∃ w0, w0 = (w.alloc (.cells #[.int .i64 p, .slice A1 l.length c1, .slice A2 m.length c2, a3, a4, a5, a6, .int .i64 v] 48)).drewN nq := ⟨_, rfl⟩
  rw [← hw0] at bW ⊢
  clear hw0
  go_wp2_with fail
  refine (cM1.out _ bW).mono ?_
  rintro e w1 ⟨rfl, hb⟩
  replace bW := bW.trans (hb.mono bW.size)
  clear hb
  go_wp2_with fail
  refine (cR1.out _ bW).mono ?_
  rintro e w2 ⟨rfl, hb⟩
  replace bW := bW.trans (hb.mono bW.size)
  clear hb
  go_wp2_with fail
  refine (cM2.out _ bW).mono ?_
  rintro e w3 ⟨rfl, hb⟩
  replace bW := bW.trans (hb.mono bW.size)
  clear hb
  go_wp2_with fail
  refine (cR2.out _ bW).mono ?_
  rintro e w4 ⟨rfl, hb⟩
  replace bW := bW.trans (hb.mono bW.size)
  clear hb
  go_wp2_with fail
  refine (cG.out _ bW).mono ?_
  rintro e w5 ⟨AM, kM, rfl, oM, hb⟩
  replace bW := bW.trans (hb.mono bW.size)
  clear hb
  have csM := Lib.hid (cs_of_own oM okM.out)
  have bm := Below.refl w5.heap.size w5
  clear oM
  go_wp2_with fail
  refine (cG'.out _ bW).mono ?_
  rintro e w6 ⟨AM', kM', rfl, oM', hb⟩
  replace bm := bm.trans (hb.mono bm.size)
  replace bW := bW.trans (hb.mono bW.size)
  clear hb
  go_wp2_with fail
  refine (same_self _ _ AM AM' M kM kM' ((csM.out.below bm).up bm.size) (cs_of_own oM' okM.out) (Nat.le_refl _)).mono ?_
  rintro e w7 ⟨rfl, hb⟩
  replace bm := bm.trans (hb.mono bm.size)
  replace bW := bW.trans (hb.mono bW.size)
  clear hb
  clear oM'
  have p2' : (T3 != IntKind.u64.wrap (T1 + T2)) = false := by rw [p2.out]; simp
  go_wp2_with fail
  refine (cT3.out _ _ AM kM (csM.out.below bm) bm.size).mono ?_
  rintro e w8 ⟨rfl, hb⟩
  replace bm := bm.trans (hb.mono bm.size)
  replace bW := bW.trans (hb.mono bW.size)
  clear hb
  go_wp2_with fail
  refine (cT1.out _ bW).mono ?_
  rintro e w9 ⟨rfl, hb⟩
  replace bm := bm.trans (hb.mono bm.size)
  replace bW := bW.trans (hb.mono bW.size)
  clear hb
  go_wp2_with fail
  refine (cT2.out _ bW).mono ?_
  rintro e w10 ⟨rfl, hb⟩
  replace bm := bm.trans (hb.mono bm.size)
  replace bW := bW.trans (hb.mono bW.size)
  clear hb
  go_wp2_with fail
  refine (cR1.out _ bW).mono ?_
  rintro e w11 ⟨rfl, hb⟩
  replace bm := bm.trans (hb.mono bm.size)
  replace bW := bW.trans (hb.mono bW.size)
  clear hb
  by_cases e1 : E1 = 0
  · have e1' : (E1 != 0) = false := by rw [e1]; rfl
    have z1 := e1
    replace e1 := Lib.hid e1
    have q3 := p3.out z1
    clear z1
    go_wp2_with fail
    refine (cR2.out _ bW).mono ?_
    rintro e w12 ⟨rfl, hb⟩
    replace bm := bm.trans (hb.mono bm.size)
    replace bW := bW.trans (hb.mono bW.size)
    clear hb
    by_cases e2 : E2 = 0
    · have e2' : (E2 != 0) = false := by rw [e2]; rfl
      have q4 := p4.out e1.out e2
      replace e2 := Lib.hid e2
      rw [q3] at cN1 cN2
      replace q3 := Lib.hid q3
      replace q4 := Lib.hid q4
      go_wp2_with fail
      refine (cN1.out _ bW).mono ?_
      rintro e w13 ⟨AN, kN, rfl, oN, hb⟩
      replace bm := bm.trans (hb.mono bm.size)
      replace bW := bW.trans (hb.mono bW.size)
      clear hb
      go_wp2_with fail
      refine (cS1.out _ bW AN kN (cs_of_own oN okL.out)).mono ?_
      rintro e w14 ⟨rfl, hb⟩
      replace bm := bm.trans (hb.mono bm.size)
      replace bW := bW.trans (hb.mono bW.size)
      clear hb
      go_wp2_with fail
      refine (cN2.out _ bW).mono ?_
      rintro e w15 ⟨AN2, kN2, rfl, oN2, hb⟩
      replace bm := bm.trans (hb.mono bm.size)
      replace bW := bW.trans (hb.mono bW.size)
      clear hb
      go_wp2_with fail
      refine (cS1.out _ bW AN2 kN2 (cs_of_own oN2 okL.out)).mono ?_
      rintro e w16 ⟨rfl, hb⟩
      replace bm := bm.trans (hb.mono bm.size)
      replace bW := bW.trans (hb.mono bW.size)
      clear hb
      go_wp2_with fail
      refine (cT3.out _ _ AM kM (csM.out.below bm) bm.size).mono ?_
      rintro e w17 ⟨rfl, hb⟩
      replace bm := bm.trans (hb.mono bm.size)
      replace bW := bW.trans (hb.mono bW.size)
      clear hb
      by_cases ht : 9223372036854775807 < T3
      · have e3 : E3 = 3 := by rw [q4.out.1, if_pos ht]
        have e3' : (E3 == 3) = true := by rw [e3]; rfl
        clear e3
        go_wp2_with fail
        refine (cM3.out _ _ AM kM (csM.out.below bm) bm.size).mono ?_
        rintro e w18 ⟨rfl, hb⟩
        replace bm := bm.trans (hb.mono bm.size)
        replace bW := bW.trans (hb.mono bW.size)
        clear hb
        go_wp2_with fail
        refine (fixed_t _).mono ?_
        rintro e w19 ⟨rfl, hb⟩
        replace bm := bm.trans (hb.mono bm.size)
        replace bW := bW.trans (hb.mono bW.size)
        clear hb
        go_wp2
        go_ret
        exact ⟨rfl, bW⟩
      · have e3 : E3 = 0 := by rw [q4.out.1, if_neg ht]
        have x3 : X3 = IntKind.u64.wrap (X1 + X2) := q4.out.2 (by omega)
        have x3' : (IntKind.u64.wrap (X1 + X2) == X3) = true := by rw [x3]; simp
        have e1'' : (E1 == 0) = true := by rw [e1.out]; rfl
        have e2'' : (E2 == 0) = true := by rw [e2.out]; rfl
        have e3'' : (E3 == 0) = true := by rw [e3]; rfl
        replace e3 := Lib.hid e3
        replace x3 := Lib.hid x3
        go_wp2_with fail
        refine (cA1.out _ bW).mono ?_
        rintro e w18 ⟨rfl, hb⟩
        replace bm := bm.trans (hb.mono bm.size)
        replace bW := bW.trans (hb.mono bW.size)
        clear hb
        go_wp2_with fail
        refine (cA2.out _ bW).mono ?_
        rintro e w19 ⟨rfl, hb⟩
        replace bm := bm.trans (hb.mono bm.size)
        replace bW := bW.trans (hb.mono bW.size)
        clear hb
        go_wp2_with fail
        refine (cA3.out _ _ AM kM (csM.out.below bm) bm.size).mono ?_
        rintro e w20 ⟨rfl, hb⟩
        replace bm := bm.trans (hb.mono bm.size)
        replace bW := bW.trans (hb.mono bW.size)
        clear hb
        go_wp2_with fail
        refine (cM3.out _ _ AM kM (csM.out.below bm) bm.size).mono ?_
        rintro e w21 ⟨rfl, hb⟩
        replace bm := bm.trans (hb.mono bm.size)
        replace bW := bW.trans (hb.mono bW.size)
        clear hb
        go_wp2_with fail
        refine (fixed_t _).mono ?_
        rintro e w22 ⟨rfl, hb⟩
        replace bm := bm.trans (hb.mono bm.size)
        replace bW := bW.trans (hb.mono bW.size)
        clear hb
        go_wp2
        go_ret
        exact ⟨rfl, bW⟩
    · have e2' : (E2 != 0) = true := by simpa using e2
      replace e2 := Lib.hid e2
      clear q3
      go_wp2_with fail
      refine (fixed_t _).mono ?_
      rintro e w13 ⟨rfl, hb⟩
      replace bm := bm.trans (hb.mono bm.size)
      replace bW := bW.trans (hb.mono bW.size)
      clear hb
      go_wp2
      go_ret
      exact ⟨rfl, bW⟩
  · have e1' : (E1 != 0) = true := by simpa using e1
    replace e1 := Lib.hid e1
    go_wp2_with fail
    refine (fixed_t _).mono ?_
    rintro e w14 ⟨rfl, hb⟩
    replace bm := bm.trans (hb.mono bm.size)
    replace bW := bW.trans (hb.mono bW.size)
    clear hb
    go_wp2
    go_ret
    exact ⟨rfl, bW⟩
end Go.Proofs.Ytonacegkhkncmaa.Rk
