/- RanksKeeps. -/
import Derived.Test.YtonacegkhkncmaaRe0
namespace Go.Proofs.Ytonacegkhkncmaa.Rk
open Go.RowKit Go.Proofs.Ytonacegkhkncmaa.Bk Go.Proofs.Ytonacegkhkncmaa.Sl Go.Proofs.Ytonacegkhkncmaa.Mg Go.Proofs.Ytonacegkhkncmaa.St
set_option linter.unusedVariables false

set_option maxRecDepth 100000 in
set_option maxHeartbeats 16000000 in
theorem keeps_any (w : World) (A1 A2 : Option Addr) (l m : List (Int × Int)) (c1 c2 : Nat) (h1 : Cs w w.heap.size A1 l) (h2 : Cs w w.heap.size A2 m) (hlm : l.length + m.length ≤ 2097152) :
    Calls Try.prog 11 #[.slice A1 l.length c1, .slice A2 m.length c2] w fun e w' => e = .returned (.bool true) ∧ Below w.heap.size w w' := by
  obtain ⟨i0, hi, hz0, hz1, hz2⟩ := info_parts infoCount
  obtain ⟨g0, hg0⟩ : ∃ g, g = w.heap.size := ⟨_, rfl⟩
  obtain ⟨w0, hw0⟩ : ∃ w0, w0 = w.alloc (.cells #[.int .i64 (-7), .int .u64 7] 55) := ⟨_, rfl⟩
  have bw : Below w.heap.size w w0 := by rw [hw0]; exact (Below.refl _ _).alloc (Nat.le_refl _) _
  have r1 := (rd_of_cs h1).below bw
  have r2 := (rd_of_cs h2).below bw
  have k1 := h1.below bw
  have k2 := h2.below bw
  have S0 : Sk w0 g0 w0 := by
    rw [hg0, hw0]
    exact ⟨Below.refl _ _, cell_new _ _ _ _, cell_new _ _ _ _⟩
  have s1 : g0 < w0.heap.size := by rw [hg0, hw0]; simp
  have s2 : w.heap.size ≤ w0.heap.size := bw.size
  have s20 := s2
  have okl : Hid (∀ c ∈ l, okC c) := h1.ok
  have okm : Hid (∀ c ∈ m, okC c) := h2.ok
  obtain ⟨M, hM⟩ : ∃ M, M = mrg (l ++ m) := ⟨_, rfl⟩
  have okM : Hid (∀ c ∈ M, okC c) := by rw [hM]; exact mrg_okC fun c hc => (List.mem_append.1 hc).elim (h1.ok c) (h2.ok c)
  have lenM : Hid (M.length ≤ 2097152) := by
    have := (mrg_facts _ (okC_okN fun c hc => (List.mem_append.1 hc).elim (h1.ok c) (h2.ok c))).2.2.1
    rw [List.length_append] at this
    rw [hM]; exact (Nat.le_trans this hlm)
  replace hM := Lib.hid hM
  have n1 : Hid (l.length ≤ 2097152 ∧ m.length ≤ 2097152) := ⟨by omega, by omega⟩
  obtain ⟨d0, q0, q1⟩ := id S0
  clear h1 h2
  go_enter Try.func11, Try.ntmps11
  go_wp2_with fail
  rw [← hw0, ← hg0]
  replace hw0 := Lib.hid hw0
  have hg0' := Lib.hid hg0
  clear d0 q0 q1 hg0
  go_upto_region 2 with (fail)
  go_cut [6] (fun s wx => LaidPost w0 g0 l s wx)
  case first => as_aux_lemma =>
    go_region_held3 (fun w' => Below w0.heap.size w0 w' ∧ w'.cell? ⟨g0, 0, none⟩ = some (.int .i64 (-7)) ∧ w'.cell? ⟨g0, 1, none⟩ = some (.int .u64 7)) (first | assumption | exact Sk.drew (by assumption) | exact Sk.alloc (by assumption) s1 _) (first
      | (refine step_append_rd rfl (.const (.slice none 0 0)) (.tmp 17) _ rfl w0.heap.size 55 Try.underlying36 hi hz0 hz1 hz2 rfl (by decide) rfl (World.ownsRow_nil _ _ _ _) rfl (ys := flat l) ⟨_, r1.below ((show Sk w0 g0 _ by assumption).1.mono s2)⟩ (flat_one _) (by unfold maxLen; have := n1.out; omega) (by have := n1.out; omega) (show Sk w0 g0 _ by assumption).1.size ?_; intro A3 k3 w3 ho3 hg3 hs3; have hp3 := ho3; simp only [Nat.zero_add, List.nil_append] at hp3; replace hg3 : World.grownBy _ w3 none := hg3; have hS3 := Sk.kept (show Sk w0 g0 _ by assumption) s1 hg3 (fun k hk => by cases hk))
      | (refine step_append_rd rfl (.tmp 18) (.tmp 21) _ rfl w0.heap.size 55 Try.underlying36 hi hz0 hz1 hz2 rfl (by decide) rfl (n := l.length) (xs := flat l) ?_ rfl (ys := flat mk2) ?_ (flat_one _) ?_ ?_ ?_ ?_
         first | exact hp3 | exact hp3.alloc _
         first | exact mk_new _ | exact mk_far hg3 | exact mk_far (W := w0.drew) hg3
         (unfold maxLen; have := n1.out; omega)
         (have := n1.out; omega)
         exact (show Sk w0 g0 _ by assumption).1.size
         intro A4 k4 w4 ho4 hg4 hs4
         have hS4 := Sk.kept (show Sk w0 g0 _ by assumption) s1 hg4 (fun k hk => (hp3.lt k hk).1))
      | (refine step_append_rd rfl (.tmp 18) (.tmp 21) _ rfl w0.heap.size 55 Try.underlying36 hi hz0 hz1 hz2 rfl (by decide) rfl (n := 0 + l.length) (xs := [] ++ flat l) ?_ rfl (ys := flat mk2) ?_ (flat_one _) ?_ ?_ ?_ ?_
         first | exact ho3 | exact ho3.alloc _
         first | exact mk_new _ | exact mk_far hg3 | exact mk_far (W := w0.drew) hg3
         (unfold maxLen; have := n1.out; omega)
         (have := n1.out; omega)
         exact (show Sk w0 g0 _ by assumption).1.size
         intro A4 k4 w4 ho4 hg4 hs4
         have hS4 := Sk.kept (show Sk w0 g0 _ by assumption) s1 hg4 (fun k hk => (ho3.lt k hk).1)))
    · go_wp2_with fail
      go_meet
      case rel => exact ⟨A4, k4, rfl, by unfold Laid; rw [flat_append]; exact ho4, hS4⟩
    · go_wp2_with fail
      go_meet
      case rel => exact ⟨A4, k4, rfl, by unfold Laid; rw [flat_append]; simpa using ho4, hS4⟩
  case rest => as_aux_lemma =>
    obtain ⟨Aa, ka, rfl, oA, Sa⟩ := hcut
    obtain ⟨w1, hw1⟩ : ∃ w1 : World, w1 = wc := ⟨_, rfl⟩
    rw [← hw1] at oA Sa ⊢
    clear hw1
    have s3 := Sa.1.size
    have r2' := r2.below (Sa.1.mono s2)
    have bw1 := bw.trans (Sa.1.mono s2)
    have k1' := k1.below (Sa.1.mono s2)
    have k2' := k2.below (Sa.1.mono s2)
    have s1' : g0 < w1.heap.size := by omega
    have s2' : w.heap.size ≤ w1.heap.size := by omega
    clear r1 r2 k1 k2 bw S0
    have S1 := Sa.self
    clear s1 s2
    have s1 := s1'
    have s2 := s2'
    clear s1' s2'
    obtain ⟨d0, q0, q1⟩ := id S1
    go_upto_region 3 with (fail)
    clear d0 q0 q1
    go_cut [7] (fun s wx => LaidPost w1 g0 m s wx)
    case first => as_aux_lemma =>
      have d0 := S1.1
      have q0 := S1.2.1
      have q1 := S1.2.2
      go_region_held3 (fun w' => Below w1.heap.size w1 w' ∧ w'.cell? ⟨g0, 0, none⟩ = some (.int .i64 (-7)) ∧ w'.cell? ⟨g0, 1, none⟩ = some (.int .u64 7)) (first | assumption | exact Sk.drew (by assumption) | exact Sk.alloc (by assumption) s1 _) (first
        | (refine step_append_rd rfl (.const (.slice none 0 0)) (.tmp 23) _ rfl w1.heap.size 55 Try.underlying36 hi hz0 hz1 hz2 rfl (by decide) rfl (World.ownsRow_nil _ _ _ _) rfl (ys := flat m) ⟨_, r2'.below ((show Sk w1 g0 _ by assumption).1.mono s2)⟩ (flat_one _) (by unfold maxLen; have := n1.out; omega) (by have := n1.out; omega) (show Sk w1 g0 _ by assumption).1.size ?_; intro A3 k3 w3 ho3 hg3 hs3; have hp3 := ho3; simp only [Nat.zero_add, List.nil_append] at hp3; replace hg3 : World.grownBy _ w3 none := hg3; have hS3 := Sk.kept (show Sk w1 g0 _ by assumption) s1 hg3 (fun k hk => by cases hk))
        | (refine step_append_rd rfl (.tmp 24) (.tmp 27) _ rfl w1.heap.size 55 Try.underlying36 hi hz0 hz1 hz2 rfl (by decide) rfl (n := m.length) (xs := flat m) ?_ rfl (ys := flat mk2) ?_ (flat_one _) ?_ ?_ ?_ ?_
           first | exact hp3 | exact hp3.alloc _
           first | exact mk_new _ | exact mk_far hg3 | exact mk_far (W := w1.drew) hg3
           (unfold maxLen; have := n1.out; omega)
           (have := n1.out; omega)
           exact (show Sk w1 g0 _ by assumption).1.size
           intro A4 k4 w4 ho4 hg4 hs4
           have hS4 := Sk.kept (show Sk w1 g0 _ by assumption) s1 hg4 (fun k hk => (hp3.lt k hk).1))
        | (refine step_append_rd rfl (.tmp 24) (.tmp 27) _ rfl w1.heap.size 55 Try.underlying36 hi hz0 hz1 hz2 rfl (by decide) rfl (n := 0 + m.length) (xs := [] ++ flat m) ?_ rfl (ys := flat mk2) ?_ (flat_one _) ?_ ?_ ?_ ?_
           first | exact ho3 | exact ho3.alloc _
           first | exact mk_new _ | exact mk_far hg3 | exact mk_far (W := w1.drew) hg3
           (unfold maxLen; have := n1.out; omega)
           (have := n1.out; omega)
           exact (show Sk w1 g0 _ by assumption).1.size
           intro A4 k4 w4 ho4 hg4 hs4
           have hS4 := Sk.kept (show Sk w1 g0 _ by assumption) s1 hg4 (fun k hk => (ho3.lt k hk).1)))
      · go_wp2_with fail
        go_meet
        case rel => exact ⟨A4, k4, rfl, by unfold Laid; rw [flat_append]; exact ho4, hS4⟩
      · go_wp2_with fail
        go_meet
        case rel => exact ⟨A4, k4, rfl, by unfold Laid; rw [flat_append]; simpa using ho4, hS4⟩
    case rest => as_aux_lemma =>
      obtain ⟨Ab, kb, rfl, oB, Sb⟩ := hcut
      obtain ⟨w2, hw2⟩ : ∃ w2 : World, w2 = wc := ⟨_, rfl⟩
      rw [← hw2] at oB Sb ⊢
      clear hw2
      have s4 := Sb.1.size
      have lt1 : ∀ g, Aa = some ⟨g, 0, none⟩ → g < w1.heap.size := fun g e => by
        obtain ⟨g', e', _, h, _⟩ := oA.at
        rw [e] at e'; cases e'; exact h
      replace oA := oA.stay Sb.1
      have bW := bw1.trans (Sb.1.mono s2)
      have c1W := k1'.below (Sb.1.mono s2)
      have c2W := k2'.below (Sb.1.mono s2)
      have hB : w.heap.size ≤ w2.heap.size := by omega
      clear r2' k1' k2' bw1 Sa s2 S1
      obtain ⟨ga, rfl, ga1, ga2, ga3, ga4⟩ := oA.at
      obtain ⟨gb, rfl, gb1, gb2, gb3, gb4⟩ := oB.at
      have lt2 : ga < w2.heap.size := ga2
      have ltab : ga < gb := by have := lt1 ga rfl; omega
      clear lt1
      unfold maxLen at ga4 gb4
      have t1 := run_head 36 55 Try.underlying36 hi hz1 (some ⟨ga, 0, none⟩) (l.length + 2) ka l.length (by omega) (l.length : Int) rfl
      have t2 := run_head 36 55 Try.underlying36 hi hz1 (some ⟨gb, 0, none⟩) (m.length + 2) kb m.length (by omega) (m.length : Int) rfl
      have y1 : (l.length : Int) ≤ (ka : Int) := by omega
      have y2 : (m.length : Int) ≤ (kb : Int) := by omega
      go_wp2_with fail
      go_quiet (fail)
      clear t1 t2 y1 y2
      have wz := Nat.le_refl w2.heap.size
      have hdr : Below w2.heap.size w2 (w2.drewN nq) := below_drewN (Below.refl _ w2) nq
      obtain ⟨w3, hw3⟩ : ∃ w3, w3 = w2.drewN nq := ⟨_, rfl⟩
      rw [← hw3] at hdr ⊢
      clear hw3
      replace oA := oA.stay hdr
      replace oB := oB.stay hdr
      replace Sb := Sb.stay s1 hdr
      replace bW := bW.trans ((hdr).mono hB)
      replace c1W := c1W.below ((hdr).mono hB)
      replace c2W := c2W.below ((hdr).mono hB)
      replace hB := Nat.le_trans hB (hdr).size
      replace ga2 := Nat.lt_of_lt_of_le ga2 (hdr).size
      replace gb2 := Nat.lt_of_lt_of_le gb2 (hdr).size
      replace wz := Nat.le_trans wz (hdr).size
      clear hdr
      have base3 : w2.heap.size ≤ w3.heap.size := wz
      go_wp2_with fail
      refine (rmerge_any w3 w.heap.size A1 A2 l m c1 c2 c1W c2W hB (by have := n1.out; omega)).mono ?_
      rintro e w4 ⟨AW, kW, rfl, oW, hb⟩
      replace oA := oA.stay hb
      replace oB := oB.stay hb
      replace Sb := Sb.stay s1 hb
      replace bW := bW.trans ((hb).mono hB)
      replace c1W := c1W.below ((hb).mono hB)
      replace c2W := c2W.below ((hb).mono hB)
      replace hB := Nat.le_trans hB (hb).size
      replace ga2 := Nat.lt_of_lt_of_le ga2 (hb).size
      replace gb2 := Nat.lt_of_lt_of_le gb2 (hb).size
      replace wz := Nat.le_trans wz (hb).size
      clear hb
      rw [← hM.out] at oW ⊢
      have wz4 := Nat.le_refl w4.heap.size
      have hB4 := hB
      have ltW := fun k (hk : (Value.slice AW M.length kW).ownBlock = some k) => (own_lt oW k hk).2
      have lta : ga < w4.heap.size ∧ gb < w4.heap.size ∧ g0 < w4.heap.size := ⟨ga2, gb2, by omega⟩
      go_wp2_with fail
      refine (merge_any w4 w4.heap.size (some ⟨ga, 0, none⟩) (some ⟨gb, 0, none⟩) l m ka kb (oA.head okl.out) (oB.head okm.out) (Nat.le_refl _) (by have := n1.out; omega)).mono ?_
      rintro e w5 ⟨AC, kC, rfl, oC, hb⟩
      replace oA := oA.stay hb
      replace oB := oB.stay hb
      replace Sb := Sb.stay s1 hb
      replace bW := bW.trans ((hb).mono hB)
      replace c1W := c1W.below ((hb).mono hB)
      replace c2W := c2W.below ((hb).mono hB)
      replace hB := Nat.le_trans hB (hb).size
      replace ga2 := Nat.lt_of_lt_of_le ga2 (hb).size
      replace gb2 := Nat.lt_of_lt_of_le gb2 (hb).size
      replace wz := Nat.le_trans wz (hb).size
      replace oW := own_later oW hb
      replace wz4 := Nat.le_trans wz4 (hb).size
      clear hb
      rw [← hM.out] at oC ⊢
      have ltC := own_lt oC
      have wz45 := wz4
      go_wp2_with fail
      refine (merge_any w5 w5.heap.size (some ⟨ga, 0, none⟩) (some ⟨gb, 0, none⟩) l m ka kb (oA.head okl.out) (oB.head okm.out) (Nat.le_refl _) (by have := n1.out; omega)).mono ?_
      rintro e w6 ⟨AD, kD, rfl, oD, hb⟩
      replace oA := oA.stay hb
      replace oB := oB.stay hb
      replace Sb := Sb.stay s1 hb
      replace bW := bW.trans ((hb).mono hB)
      replace c1W := c1W.below ((hb).mono hB)
      replace c2W := c2W.below ((hb).mono hB)
      replace hB := Nat.le_trans hB (hb).size
      replace ga2 := Nat.lt_of_lt_of_le ga2 (hb).size
      replace gb2 := Nat.lt_of_lt_of_le gb2 (hb).size
      replace wz := Nat.le_trans wz (hb).size
      replace oW := own_later oW hb
      replace oC := own_later oC hb
      replace wz4 := Nat.le_trans wz4 (hb).size
      clear hb
      rw [← hM.out] at oD ⊢
      have ltD := fun k hk => (own_lt oD k hk).1
      go_wp2_with fail
      refine (quantile_any w6 w6.heap.size 3 l (some ⟨ga, 0, none⟩) ka 1 2 (oA.head okl.out) (Nat.le_refl _) (by omega)).mono ?_
      rintro e w7 ⟨rfl, hb⟩
      replace oA := oA.stay hb
      replace oB := oB.stay hb
      replace Sb := Sb.stay s1 hb
      replace bW := bW.trans ((hb).mono hB)
      replace c1W := c1W.below ((hb).mono hB)
      replace c2W := c2W.below ((hb).mono hB)
      replace hB := Nat.le_trans hB (hb).size
      replace ga2 := Nat.lt_of_lt_of_le ga2 (hb).size
      replace gb2 := Nat.lt_of_lt_of_le gb2 (hb).size
      replace wz := Nat.le_trans wz (hb).size
      replace oW := own_later oW hb
      replace oC := own_later oC hb
      replace oD := own_later oD hb
      replace wz4 := Nat.le_trans wz4 (hb).size
      clear hb
      go_wp2_with fail
      refine (atMost_any w7 w7.heap.size 3 9 l (some ⟨ga, 0, none⟩) ka (oA.head okl.out) (Nat.le_refl _)).mono ?_
      rintro e w8 ⟨rfl, hb⟩
      replace oA := oA.stay hb
      replace oB := oB.stay hb
      replace Sb := Sb.stay s1 hb
      replace bW := bW.trans ((hb).mono hB)
      replace c1W := c1W.below ((hb).mono hB)
      replace c2W := c2W.below ((hb).mono hB)
      replace hB := Nat.le_trans hB (hb).size
      replace ga2 := Nat.lt_of_lt_of_le ga2 (hb).size
      replace gb2 := Nat.lt_of_lt_of_le gb2 (hb).size
      replace wz := Nat.le_trans wz (hb).size
      replace oW := own_later oW hb
      replace oC := own_later oC hb
      replace oD := own_later oD hb
      replace wz4 := Nat.le_trans wz4 (hb).size
      clear hb
      have SM := Sm.start Sb oA oB
      have lts : g0 < w8.heap.size ∧ ga < w8.heap.size ∧ gb < w8.heap.size := ⟨by omega, ga2, gb2⟩
      have csW := cs_of_own oW okM.out
      have csC := cs_of_own oC okM.out
      have csD := cs_of_own oD okM.out
      have csa := oA.head okl.out
      have csb := oB.head okm.out
      have csl := c1W.up hB
      have csm := c2W.up hB
      have zS := fun W (hS : Sm w8 g0 ga gb l.length m.length W) (A A' : Option Addr) (c c' : Nat) (xs : List (Int × Int)) (x : Cs w8 w8.heap.size A xs) (y : Cs w8 w8.heap.size A' xs) => (same_self W w8.heap.size A A' xs c c' (x.below hS.1) (y.below hS.1) hS.1.size).mono (R' := fun e w' => e = .returned (.bool true) ∧ Sm w8 g0 ga gb l.length m.length w') fun _ _ ⟨e, b⟩ => ⟨e, hS.stay lts b⟩
      replace zS := Lib.hid zS
      have y1 : (l.length : Int) < ((l.length + 2 : Nat) : Int) := by omega
      have y2 : (m.length : Int) < ((m.length + 2 : Nat) : Int) := by omega
      have y11 : (l.length : Int) < (l.length : Int) + 2 := by omega
      have y12 : (m.length : Int) < (m.length : Int) + 2 := by omega
      have y13 : l.length < l.length + 2 := by omega
      have y14 : m.length < m.length + 2 := by omega
      have y3 : IntKind.i64.wrap ((l.length : Int) + 1) = (l.length : Int) + 1 := IntWalk.i64_in _ (by have := n1.out; omega)
      have y4 : IntKind.i64.wrap ((m.length : Int) + 1) = (m.length : Int) + 1 := IntWalk.i64_in _ (by have := n1.out; omega)
      have y5 : ((l.length : Int) + 1).toNat = l.length + 1 := by omega
      have y6 : ((m.length : Int) + 1).toNat = m.length + 1 := by omega
      have y7 : (0 : Int) ≤ (l.length : Int) + 1 := by omega
      have y8 : (0 : Int) ≤ (m.length : Int) + 1 := by omega
      have y9 : (l.length : Int) + 1 < (l.length : Int) + 2 := by omega
      have y10 : (m.length : Int) + 1 < (m.length : Int) + 2 := by omega
      have eqm := eqC (-7) 7 (-7) 7
      go_upto_region 10 with (fail)
      go_cut [109] (fun s wx => s = .bool false ∧ Sm w8 g0 ga gb l.length m.length wx)
      case first => as_aux_lemma =>
        obtain ⟨e0, e1, e2, e3, e4, e5, e6, e7, e8, e9, e10⟩ := id SM
        go_region_held3 (fun w' => Below w8.heap.size w8 w' ∧ w'.cell? ⟨g0, 0, none⟩ = some (.int .i64 (-7)) ∧ w'.cell? ⟨g0, 1, none⟩ = some (.int .u64 7) ∧ w'.cell? ⟨ga, l.length * 2, none⟩ = some (.int .i64 (-7)) ∧ w'.cell? ⟨ga, l.length * 2 + 1, none⟩ = some (.int .u64 7) ∧ w'.cell? ⟨ga, (l.length + 1) * 2, none⟩ = some (.int .i64 (-7)) ∧ w'.cell? ⟨ga, (l.length + 1) * 2 + 1, none⟩ = some (.int .u64 7) ∧ w'.cell? ⟨gb, m.length * 2, none⟩ = some (.int .i64 (-7)) ∧ w'.cell? ⟨gb, m.length * 2 + 1, none⟩ = some (.int .u64 7) ∧ w'.cell? ⟨gb, (m.length + 1) * 2, none⟩ = some (.int .i64 (-7)) ∧ w'.cell? ⟨gb, (m.length + 1) * 2 + 1, none⟩ = some (.int .u64 7)) (first | assumption | exact Sm.drew (by assumption) | go_keep) (first
          | (go_at_call 35; refine Calls.mono (zS.out _ (by assumption) _ _ _ _ _ (by assumption) (by assumption)) ?_; rintro e w' ⟨rfl, hS'⟩))
        go_wp2_with fail
        go_meet
        case rel => exact ⟨rfl, hS'⟩
      case rest => as_aux_lemma =>
        obtain ⟨rfl, S9⟩ := hcut
        obtain ⟨w9, hw9⟩ : ∃ w9 : World, w9 = wc := ⟨_, rfl⟩
        rw [← hw9] at S9 ⊢
        clear hw9 y1 y2 y3 y4 y5 y6 y7 y8 y9 y10 y11 y12 y13 y14 zS SM
        have hb9 := S9.1
        replace oA := oA.stay hb9
        replace oB := oB.stay hb9
        replace Sb := Sb.stay s1 hb9
        replace bW := bW.trans ((hb9).mono hB)
        replace c1W := c1W.below ((hb9).mono hB)
        replace c2W := c2W.below ((hb9).mono hB)
        replace hB := Nat.le_trans hB (hb9).size
        replace ga2 := Nat.lt_of_lt_of_le ga2 (hb9).size
        replace gb2 := Nat.lt_of_lt_of_le gb2 (hb9).size
        replace wz := Nat.le_trans wz (hb9).size
        replace oW := own_later oW hb9
        replace oC := own_later oC hb9
        replace oD := own_later oD hb9
        replace wz4 := Nat.le_trans wz4 (hb9).size
        have hrow : ∀ j, (Value.slice AC M.length kC).ownBlock = some j → w4.heap.size ≤ j ∧ j < w5.heap.size := ltC
        obtain ⟨rowC, hrC⟩ : ∃ r, r = (Value.slice AC M.length kC).ownBlock := ⟨_, rfl⟩
        have hrow' : ∀ j, rowC = some j → w4.heap.size ≤ j ∧ j < w5.heap.size := by rw [hrC]; exact hrow
        have cw0 : CW w9 w4.heap.size rowC (.slice AC M.length kC) M.length w9 := ⟨_, oC, World.grownBy.refl _ _, fun j hj => .inl (by rw [hrC]; exact hj)⟩
        have base4 : w4.heap.size ≤ w9.heap.size := wz4
        have hn2 : M.length ≤ 2097152 := lenM.out
        obtain ⟨_, _, x1, x2, x3, _⟩ := own_form oC
        cases x1
        unfold maxLen at x3
        replace cw0 := Lib.hid cw0
        replace hrow' := Lib.hid hrow'
        replace hrC := Lib.hid hrC
        clear hrow
        go_wp2_with fail
        go_loopg [13] (M.length) (fun kx i wr => ∃ k : Nat, k ≤ M.length ∧ M.length - k ≤ kx ∧ i = .int .i64 k ∧ Hid (CW w9 w4.heap.size rowC (.slice AC M.length kC) M.length wr))
        case atStart => exact ⟨0, Nat.zero_le _, by omega, rfl, cw0⟩
        case round =>
          clear cw0
          obtain ⟨k, hk, hkx, rfl, hc⟩ := hrel
          by_cases hlt : k < M.length
          · obtain ⟨gc, rfl⟩ : ∃ g, AC = some ⟨g, 0, none⟩ := by
              obtain ⟨xs, h1, _⟩ := hc.out
              rcases h1.2 with ⟨a, b⟩ | ⟨g, cap', cur, a, _⟩
              · omega
              · cases a; exact ⟨g, rfl⟩
            have hown := hc.out
            obtain ⟨xs, h1, _⟩ := hown
            have hxl : xs.length = M.length * 2 := h1.1
            obtain ⟨u1, hu1⟩ : ∃ u, xs[k * 2]? = some u := ⟨_, List.getElem?_eq_getElem (by omega)⟩
            obtain ⟨u2, hu2⟩ : ∃ u, xs[k * 2 + 1]? = some u := ⟨_, List.getElem?_eq_getElem (by omega)⟩
            have q1 : wr.cell? ⟨gc, k * 2, none⟩ = some u1 := (h1.cellAt _ (by omega)).trans hu1
            have q2 : wr.frozen? ⟨gc, k * 2, none⟩ = false := h1.frozenAt _
            have q3 : ∀ v, (wr.setCell ⟨gc, k * 2, none⟩ v).cell? ⟨gc, k * 2 + 1, none⟩ = some u2 := fun v => ((h1.stored (k * 2) v).1.cellAt _ (by omega)).trans (by rw [List.getElem?_set_ne (by omega)]; exact hu2)
            have q4 : ∀ v, (wr.setCell ⟨gc, k * 2, none⟩ v).frozen? ⟨gc, k * 2 + 1, none⟩ = false := fun v => (h1.stored (k * 2) v).1.frozenAt _
            have hltI : (k : Int) < (M.length : Int) := by omega
            have nx : ∀ w2, w2 = (wr.setCell ⟨gc, k * 2, none⟩ (.int .i64 (-9))).setCell ⟨gc, k * 2 + 1, none⟩ (.int .u64 0) → Hid (CW w9 w4.heap.size rowC (.slice (some ⟨gc, 0, none⟩) M.length kC) M.length w2) := fun w2 e => by
              subst e; exact (hc.out.set _ _).set _ _
            replace nx := Lib.hid nx
            clear h1 hu1 hu2 hxl hc
            go_wp2_with fail
            go_roundg (M.length - (k + 1))
            case measure => omega
            case rel => exact ⟨k + 1, by omega, Nat.le_refl _, by go_num, nx.out _ rfl⟩
          · have hltI : ¬ (k : Int) < (M.length : Int) := by omega
            obtain ⟨wp, rfl⟩ : ∃ wp : World, wp = wr := ⟨_, rfl⟩
            go_wp2_with fail
            go_loopg [11, 14] (30) (fun kx v i wr => ∃ (k : Nat) (A : Option Addr) (c : Nat), k ≤ 30 ∧ 30 - k ≤ kx ∧ i = .int .i64 k ∧ v = .slice A (M.length + k) c ∧ Hid (CW w9 w4.heap.size rowC (.slice A (M.length + k) c) (M.length + k) wr))
            case atStart => exact ⟨0, AC, kC, Nat.zero_le _, by omega, rfl, rfl, hc⟩
            case round =>
              clear hc
              obtain ⟨k, A, c, hk, hkx, rfl, rfl, hc⟩ := hrel
              by_cases hlt : k < 30
              · have hltI : (k : Int) < 30 := by omega
                have hown : Hid ((wr.alloc (.cells #[.int .i64 (-8), .int .u64 0] 55)).ownsRow w4.heap.size 55 2 (.slice A (M.length + k) c) (M.length + k) hc.out.choose) := hc.out.choose_spec.1.alloc _
                have hnew : Hid (Rd (wr.alloc (.cells #[.int .i64 (-8), .int .u64 0] 55)) (wr.heap.size + 1) 2 (some ⟨wr.heap.size, 0, none⟩) (flat [(-8, 0)]) 1) := Rd.new wr (flat [(-8, 0)]) _ 2 1 rfl
                have hcs := hc.out.alloc (.cells #[.int .i64 (-8), .int .u64 0] 55)
                have bs : w4.heap.size ≤ (wr.alloc (.cells #[.int .i64 (-8), .int .u64 0] 55)).heap.size := by
                  have := hc.out.choose_spec.2.1.size
                  simp; omega
                replace hcs := Lib.hid hcs
                go_wp2_with (at_builtin; refine wpList_append_rg rfl (.tmp 124) (.tmp 126) _ rfl w4.heap.size 55 Try.underlying36 hi hz0 hz1 hz2 rfl (by decide) rfl hown.out rfl hnew.out (flat_one _) (by unfold maxLen; omega) (by omega) bs ?_; intro A4 c4 w6' ho4 hg4 he4; have cw4 := hcs.out.grow ho4 hg4 he4; replace cw4 := Lib.hid cw4; clear ho4 hg4 he4)
                go_roundg (30 - (k + 1))
                case measure => omega
                case rel => exact ⟨k + 1, A4, c4, by omega, Nat.le_refl _, by go_num, rfl, cw4⟩
              · have hltI : ¬ (k : Int) < 30 := by omega
                obtain ⟨w10, hw10⟩ : ∃ w10 : World, w10 = wr := ⟨_, rfl⟩
                rw [← hw10] at hc ⊢
                clear hw10
                obtain ⟨_, _, hg, _⟩ := hc.out
                have nea : some ga ≠ rowC := fun e => by have := hrow'.out ga e.symm; omega
                have neb : some gb ≠ rowC := fun e => by have := hrow'.out gb e.symm; omega
                have ne0 : some g0 ≠ rowC := fun e => by have := hrow'.out g0 e.symm; omega
                have oA := World.ownsRow.kept oA hg (.inr nea)
                have oB := World.ownsRow.kept oB hg (.inr neb)
                have oW := World.ownsRow.kept oW hg (by
                  by_cases e : (Value.slice AW M.length kW).ownBlock = rowC
                  · cases hr : rowC with
                    | none => exact .inl (by rw [e, hr])
                    | some j => have h1 := ltW j (by rw [e, hr]); have h2 := hrow'.out j hr; omega
                  · exact .inr e)
                have oD := World.ownsRow.kept oD hg (by
                  by_cases e : (Value.slice AD M.length kD).ownBlock = rowC
                  · cases hr : rowC with
                    | none => exact .inl (by rw [e, hr])
                    | some j => have h1 := ltD j (by rw [e, hr]); have h2 := hrow'.out j hr; omega
                  · exact .inr e)
                have hb10 : Below w.heap.size w9 w10 := (Below.refl _ w9).grown hg hB (fun j hj => by have := (hrow'.out j hj).1; omega)
                have bW := bW.trans hb10
                have c1W := c1W.below hb10
                have c2W := c2W.below hb10
                have hB := Nat.le_trans hB hg.size
                have SM := S9.far hg ne0 nea neb
                have ga2 := Nat.lt_of_lt_of_le ga2 hg.size
                have gb2 := Nat.lt_of_lt_of_le gb2 hg.size
                clear hc hg nea neb ne0 hb10 S9 hkx
                have lts : g0 < w10.heap.size ∧ ga < w10.heap.size ∧ gb < w10.heap.size := ⟨by omega, ga2, gb2⟩
                have csW := cs_of_own oW okM.out
                have csD := cs_of_own oD okM.out
                have csa := Laid.head oA okl.out
                have csb := Laid.head oB okm.out
                have csl := c1W.up hB
                have csm := c2W.up hB
                have zS := fun W (hS : Sm w10 g0 ga gb l.length m.length W) (A A' : Option Addr) (c c' : Nat) (xs : List (Int × Int)) (x : Cs w10 w10.heap.size A xs) (y : Cs w10 w10.heap.size A' xs) => (same_self W w10.heap.size A A' xs c c' (x.below hS.1) (y.below hS.1) hS.1.size).mono (R' := fun e w' => e = .returned (.bool true) ∧ Sm w10 g0 ga gb l.length m.length w') fun _ _ ⟨e, b⟩ => ⟨e, hS.stay lts b⟩
                replace zS := Lib.hid zS
                have y1 : (l.length : Int) < ((l.length + 2 : Nat) : Int) := by omega
                have y11 : (l.length : Int) < (l.length : Int) + 2 := by omega
                have y13 : l.length < l.length + 2 := by omega
                have eqm := eqC (-7) 7 (-7) 7
                go_upto_region 20 with (fail)
                go_cut [152] (fun s wx => s = .bool false ∧ Sm w10 g0 ga gb l.length m.length wx)
                case first => as_aux_lemma =>
                  obtain ⟨e0, e1, e2, e3, e4, e5, e6, e7, e8, e9, e10⟩ := id SM
                  go_region_held3 (fun w' => Below w10.heap.size w10 w' ∧ w'.cell? ⟨g0, 0, none⟩ = some (.int .i64 (-7)) ∧ w'.cell? ⟨g0, 1, none⟩ = some (.int .u64 7) ∧ w'.cell? ⟨ga, l.length * 2, none⟩ = some (.int .i64 (-7)) ∧ w'.cell? ⟨ga, l.length * 2 + 1, none⟩ = some (.int .u64 7) ∧ w'.cell? ⟨ga, (l.length + 1) * 2, none⟩ = some (.int .i64 (-7)) ∧ w'.cell? ⟨ga, (l.length + 1) * 2 + 1, none⟩ = some (.int .u64 7) ∧ w'.cell? ⟨gb, m.length * 2, none⟩ = some (.int .i64 (-7)) ∧ w'.cell? ⟨gb, m.length * 2 + 1, none⟩ = some (.int .u64 7) ∧ w'.cell? ⟨gb, (m.length + 1) * 2, none⟩ = some (.int .i64 (-7)) ∧ w'.cell? ⟨gb, (m.length + 1) * 2 + 1, none⟩ = some (.int .u64 7)) (first | assumption | exact Sm.drew (by assumption) | go_keep) (first
                    | (go_at_call 35; refine Calls.mono (zS.out _ (by assumption) _ _ _ _ _ (by assumption) (by assumption)) ?_; rintro e w' ⟨rfl, hS'⟩))
                  go_wp2_with fail
                  go_meet
                  case rel => exact ⟨rfl, hS'⟩
                case rest => as_aux_lemma =>
                  obtain ⟨rfl, S11⟩ := hcut
                  obtain ⟨w11, hw11⟩ : ∃ w11 : World, w11 = wc := ⟨_, rfl⟩
                  rw [← hw11] at S11 ⊢
                  clear hw11 y1 y11 y13 zS SM csW csD csa csb csl csm
                  have hb11 := S11.1
                  have oA : Laid w0 l (some ⟨ga, 0, none⟩) ka w11 := own_later oA hb11
                  have oB : Laid w1 m (some ⟨gb, 0, none⟩) kb w11 := own_later oB hb11
                  have oW := own_later oW hb11
                  have oD := own_later oD hb11
                  have bW := bW.trans (hb11.mono hB)
                  have hB := Nat.le_trans hB hb11.size
                  have ga2 := Nat.lt_of_lt_of_le ga2 hb11.size
                  have n3 := n1.out
                  have st : Hid (w11.ownsRow w0.heap.size 55 2 (.slice (some ⟨ga, 0, none⟩) (l.length + 2) ka) (l.length + 2) (flat (upto3 l 0 ++ mk2)) ∧ w11.grownBy w11 (some ga)) := by
                    rw [upto3_zero]; exact ⟨oA, World.grownBy.refl _ _⟩
                  go_wp2_with fail
                  go_loopg [15] (l.length) (fun kx i wr => ∃ k : Nat, k ≤ l.length ∧ l.length - k ≤ kx ∧ i = .int .i64 k ∧ Hid (wr.ownsRow w0.heap.size 55 2 (.slice (some ⟨ga, 0, none⟩) (l.length + 2) ka) (l.length + 2) (flat (upto3 l k ++ mk2)) ∧ w11.grownBy wr (some ga)))
                  case atStart => exact ⟨0, Nat.zero_le _, by omega, rfl, st⟩
                  case round =>
                    clear st
                    obtain ⟨k, hk, hkx, rfl, hc⟩ := hrel
                    by_cases hlt : k < l.length
                    · obtain ⟨h1, h2⟩ := hc.out
                      obtain ⟨x, hx⟩ : ∃ x, l[k]? = some x := ⟨_, List.getElem?_eq_getElem hlt⟩
                      have hx3 := upto3_at hx
                      have hx4 : (upto3 l k ++ mk2)[k]? = some x := by rw [List.getElem?_append_left (by rw [upto3_len]; omega)]; exact hx3
                      obtain ⟨f1, f2⟩ := flat_get _ k x hx4
                      have q1 : wr.cell? ⟨ga, k * 2 + 1, none⟩ = some (.int .u64 x.2) := (h1.cellAt _ (by omega)).trans f2
                      have q2 : wr.frozen? ⟨ga, k * 2 + 1, none⟩ = false := h1.frozenAt _
                      have s1 := h1.stored (k * 2 + 1) (.int .u64 (IntKind.u64.wrap (x.2 + 3)))
                      have e5 : (upto3 l k).set k (x.1, IntKind.u64.wrap (x.2 + 3)) = upto3 l (k + 1) := upto3_next hx
                      rw [flat_setR (upto3 l k) mk2 k x _ hx3, e5] at s1
                      have nx : ∀ w2, w2 = wr.setCell ⟨ga, k * 2 + 1, none⟩ (.int .u64 (IntKind.u64.wrap (x.2 + 3))) → Hid (w2.ownsRow w0.heap.size 55 2 (.slice (some ⟨ga, 0, none⟩) (l.length + 2) ka) (l.length + 2) (flat (upto3 l (k + 1) ++ mk2)) ∧ w11.grownBy w2 (some ga)) := fun w2 e => by
                        subst e; exact ⟨s1.1, h2.andThen s1.2 (fun i hi => .inr hi)⟩
                      replace nx := Lib.hid nx
                      obtain ⟨xj, xn⟩ := x
                      simp only at q1 nx
                      have hltI : (k : Int) < (l.length : Int) := by omega
                      clear h1 h2 f1 f2 s1 e5 hx hx3 hx4 hc
                      go_wp2_with fail
                      go_roundg (l.length - (k + 1))
                      case measure => omega
                      case rel => exact ⟨k + 1, by omega, Nat.le_refl _, by go_num, nx.out _ rfl⟩
                    · obtain rfl : k = l.length := by omega
                      have hltI : ¬ (l.length : Int) < (l.length : Int) := by omega
                      obtain ⟨h1, h2⟩ := hc.out
                      rw [upto3_all] at h1
                      obtain ⟨l3, hl3⟩ : ∃ l3, l3 = l.map add3 := ⟨_, rfl⟩
                      have len3 : l3.length = l.length := by rw [hl3, List.length_map]
                      have ok3 : ∀ c ∈ l3, okC c := by rw [hl3]; exact add3_ok okl.out
                      rw [← hl3] at h1
                      rw [← len3] at h1
                      have oA3 : Laid w0 l3 (some ⟨ga, 0, none⟩) ka wr := h1
                      obtain ⟨w12, hw12⟩ : ∃ w12 : World, w12 = wr := ⟨_, rfl⟩
                      rw [← hw12] at oA3 h2 ⊢
                      clear hw12
                      have oB := World.ownsRow.kept oB h2 (.inr (fun e => by
                        have e : some gb = some ga := e
                        cases e; omega))
                      have oW := World.ownsRow.kept oW h2 (by
                        by_cases e : (Value.slice AW M.length kW).ownBlock = some ga
                        · have := (own_lt oW ga e).1; omega
                        · exact .inr e)
                      have oD := World.ownsRow.kept oD h2 (by
                        by_cases e : (Value.slice AD M.length kD).ownBlock = some ga
                        · have := ltD ga e; omega
                        · exact .inr e)
                      have bW := bW.trans ((Below.refl w.heap.size w11).grown h2 hB (fun j hj => by cases hj; omega))
                      have hB := Nat.le_trans hB h2.size
                      have csa := Laid.head oA3 ok3
                      have csb := Laid.head oB okm.out
                      have csW := cs_of_own oW okM.out
                      have csD := cs_of_own oD okM.out
                      obtain ⟨M3, hM3⟩ : ∃ M3, M3 = mrg (l3 ++ m) := ⟨_, rfl⟩
                      have okM3 : ∀ c ∈ M3, okC c := by rw [hM3]; exact mrg_okC fun c hc => (List.mem_append.1 hc).elim (ok3 c) (okm.out c)
                      have cm1 := merge_any w12 w12.heap.size (some ⟨ga, 0, none⟩) (some ⟨gb, 0, none⟩) l3 m ka kb csa csb (Nat.le_refl _) (by omega)
                      have cm2 := fun W (hb : Below w12.heap.size w12 W) => rmerge_any W w12.heap.size (some ⟨ga, 0, none⟩) (some ⟨gb, 0, none⟩) l3 m ka kb (csa.below hb) (csb.below hb) hb.size (by omega)
                      rw [len3, ← hM3] at cm1
                      simp only [len3, ← hM3] at cm2
                      replace cm2 := Lib.hid cm2
                      replace len3 := Lib.hid len3
                      replace hl3 := Lib.hid hl3
                      replace hM3 := Lib.hid hM3
                      replace n3 := Lib.hid n3
                      clear h1 h2 hc oA3 csa csb hkx hlt oA
                      go_wp2_with fail
                      refine cm1.mono ?_
                      rintro e w13 ⟨A5, k5, rfl, o5, hb13⟩
                      clear cm1
                      go_wp2_with fail
                      refine (cm2.out w13 hb13).mono ?_
                      rintro e w14 ⟨A6, k6, rfl, o6, hb14⟩
                      clear cm2
                      have b14 := hb13.trans (hb14.mono hb13.size)
                      go_wp2_with fail
                      refine (same_self w14 w14.heap.size A5 A6 M3 k5 k6 (cs_of_own (own_later o5 hb14) okM3) (cs_of_own o6 okM3) (Nat.le_refl _)).mono ?_
                      rintro e w15 ⟨rfl, hb15⟩
                      have b15 := b14.trans (hb15.mono b14.size)
                      go_wp2_with fail
                      refine (same_self w15 w12.heap.size AD AW M kD kW (csD.below b15) (csW.below b15) b15.size).mono ?_
                      rintro e w16 ⟨rfl, hb16⟩
                      have b16 := b15.trans (hb16.mono b15.size)
                      go_wp2_with fail
                      refine (fixed_t w16).mono ?_
                      rintro e w17 ⟨rfl, hb17⟩
                      have b17 := bW.trans ((b16.trans (hb17.mono b16.size)).mono hB)
                      go_wp2
                      go_ret
                      exact ⟨rfl, b17⟩
end Go.Proofs.Ytonacegkhkncmaa.Rk
