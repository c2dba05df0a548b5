/- RanksDoes. -/
import Derived.Test.YtonacegkhkncmaaRd2
import Derived.Test.YtonacegkhkncmaaMg6
import Derived.Deep.RegionHeld3
import Derived.Deep.DeepCutAuto
namespace Go.Proofs.Ytonacegkhkncmaa.Rk
open Go.RowKit Go.Proofs.Ytonacegkhkncmaa.Bk Go.Proofs.Ytonacegkhkncmaa.Sl Go.Proofs.Ytonacegkhkncmaa.Mg Go.Proofs.Ytonacegkhkncmaa.St
set_option linter.unusedVariables false

/-- The argument, boxed: its cells; what was there below. -/
def S8 (w : World) (a0 a1 a2 a3 a4 a5 a6 a7 : Value) (w' : World) : Prop :=
  Below w.heap.size w w' ∧ w.heap.size + 1 ≤ w'.heap.size ∧ w'.cell? ⟨w.heap.size, 0, none⟩ = some a0 ∧ w'.cell? ⟨w.heap.size, 1, none⟩ = some a1 ∧ w'.cell? ⟨w.heap.size, 2, none⟩ = some a2 ∧ w'.cell? ⟨w.heap.size, 3, none⟩ = some a3 ∧ w'.cell? ⟨w.heap.size, 4, none⟩ = some a4 ∧ w'.cell? ⟨w.heap.size, 5, none⟩ = some a5 ∧ w'.cell? ⟨w.heap.size, 6, none⟩ = some a6 ∧ w'.cell? ⟨w.heap.size, 7, none⟩ = some a7
theorem S8.stay {w : World} {a0 a1 a2 a3 a4 a5 a6 a7 : Value} {u v : World} (h : S8 w a0 a1 a2 a3 a4 a5 a6 a7 u) (hb : Below u.heap.size u v) : S8 w a0 a1 a2 a3 a4 a5 a6 a7 v := by
  obtain ⟨h0, hs, q0, q1, q2, q3, q4, q5, q6, q7⟩ := h
  have hlt : w.heap.size < u.heap.size := by omega
  exact ⟨h0.trans (hb.mono h0.size), Nat.le_trans hs hb.size, (hb.cell (p := ⟨w.heap.size, 0, none⟩) hlt).trans q0, (hb.cell (p := ⟨w.heap.size, 1, none⟩) hlt).trans q1, (hb.cell (p := ⟨w.heap.size, 2, none⟩) hlt).trans q2, (hb.cell (p := ⟨w.heap.size, 3, none⟩) hlt).trans q3, (hb.cell (p := ⟨w.heap.size, 4, none⟩) hlt).trans q4, (hb.cell (p := ⟨w.heap.size, 5, none⟩) hlt).trans q5, (hb.cell (p := ⟨w.heap.size, 6, none⟩) hlt).trans q6, (hb.cell (p := ⟨w.heap.size, 7, none⟩) hlt).trans q7⟩
theorem S8.new (w : World) (a0 a1 a2 a3 a4 a5 a6 a7 : Value) (T : TypeId) : S8 w a0 a1 a2 a3 a4 a5 a6 a7 (w.alloc (.cells #[a0, a1, a2, a3, a4, a5, a6, a7] T)) :=
  ⟨(Below.refl _ _).alloc (Nat.le_refl _) _, by simp, cell_new _ _ _ _, cell_new _ _ _ _, cell_new _ _ _ _, cell_new _ _ _ _, cell_new _ _ _ _, cell_new _ _ _ _, cell_new _ _ _ _, cell_new _ _ _ _⟩

theorem same_self (w : World) (B : Nat) (A1 A2 : Option Addr) (a : List (Int × Int)) (c1 c2 : Nat) (h1 : Cs w B A1 a) (h2 : Cs w B A2 a) (hB : B ≤ w.heap.size) :
    Calls Try.prog 35 #[.slice A1 a.length c1, .slice A2 a.length c2] w fun e w' => e = .returned (.bool true) ∧ Below w.heap.size w w' := by
  have := same_any w B A1 A2 a a c1 c2 h1 h2 hB
  simpa using this
theorem mrg_okC {l : List Cnt} (h : ∀ c ∈ l, okC c) : ∀ c ∈ mrg l, okC c := by
  intro c hc
  obtain ⟨⟨d, hd, e⟩, h1, h2⟩ := (mrg_facts l (okC_okN h)).2.1 c hc
  have := h d hd
  unfold okC at *
  simp only [two64] at h2
  omega

set_option maxRecDepth 100000 in
set_option maxHeartbeats 8000000 in
theorem does_any (w : World) (p rk num den v : Int) (n : Nat) (A1 A2 : Option Addr) (l m : List (Int × Int)) (c1 c2 : Nat) (h1 : Cs w w.heap.size A1 l) (h2 : Cs w w.heap.size A2 m) (hlm : l.length + m.length ≤ 4194304)
    (hr0 : 0 ≤ rk) (hr1 : rk ≤ 18446744073709551615) (hn : n ≤ 18446744073709551615) (hd : den ≤ 9223372036854775807) :
    Calls Try.prog 9 #[.agg #[.int .i64 p, .slice A1 l.length c1, .slice A2 m.length c2, .int .u64 rk, .int .u64 n, .int .i64 num, .int .i64 den, .int .i64 v]] w fun e w' => e = .returned (.bool true) ∧ Below w.heap.size w w' := by
  have b0 := S8.new w (.int .i64 p) (.slice A1 l.length c1) (.slice A2 m.length c2) (.int .u64 rk) (.int .u64 n) (.int .i64 num) (.int .i64 den) (.int .i64 v) 48
  replace b0 := Lib.hid b0
  have cAt := fun W (hb : Below w.heap.size w W) => at_any W w.heap.size l A1 c1 rk (h1.below hb) hb.size hr0 hr1
  have cRat := fun W (hb : Below w.heap.size w W) => rat_any W w.heap.size l A1 c1 rk (h1.below hb) hb.size hr0 hr1
  replace cAt := Lib.hid cAt
  replace cRat := Lib.hid cRat
  go_enter Try.func9, Try.ntmps9
  go_wp2_with fail
  refine (cAt.out _ b0.out.1).mono ?_
  rintro e w1 ⟨rfl, hb1⟩
  have b1 := Lib.hid (b0.out.stay hb1)
  clear b0 hb1 cAt
  obtain ⟨d0, d1, q0, q1, q2, q3, q4, q5, q6, q7⟩ := b1.out
  go_wp2_with fail
  refine (cRat.out _ d0).mono ?_
  rintro e w2 ⟨rfl, hb2⟩
  clear d0 d1 q0 q1 q2 q3 q4 q5 q6 q7 cRat
  have b2 := Lib.hid (b1.out.stay hb2)
  clear b1 hb2
  obtain ⟨d0, d1, q0, q1, q2, q3, q4, q5, q6, q7⟩ := b2.out
  have cM := fun W (hS : S8 w (.int .i64 p) (.slice A1 l.length c1) (.slice A2 m.length c2) (.int .u64 rk) (.int .u64 n) (.int .i64 num) (.int .i64 den) (.int .i64 v) W) => (may_any W w.heap.size p l A1 c1 (h1.below hS.1) hS.1.size).mono (R' := fun e w' => e = .returned (.int .i64 (mayE p l)) ∧ S8 w (.int .i64 p) (.slice A1 l.length c1) (.slice A2 m.length c2) (.int .u64 rk) (.int .u64 n) (.int .i64 num) (.int .i64 den) (.int .i64 v) w') fun _ _ ⟨e, b⟩ => ⟨e, hS.stay b⟩
  have cM' := fun W (hS : S8 w (.int .i64 p) (.slice A1 l.length c1) (.slice A2 m.length c2) (.int .u64 rk) (.int .u64 n) (.int .i64 num) (.int .i64 den) (.int .i64 v) W) => (rmay_any W w.heap.size p l A1 c1 (h1.below hS.1) hS.1.size).mono (R' := fun e w' => e = .returned (.int .i64 (mayE p l)) ∧ S8 w (.int .i64 p) (.slice A1 l.length c1) (.slice A2 m.length c2) (.int .u64 rk) (.int .u64 n) (.int .i64 num) (.int .i64 den) (.int .i64 v) w') fun _ _ ⟨e, b⟩ => ⟨e, hS.stay b⟩
  have cT := fun W (hS : S8 w (.int .i64 p) (.slice A1 l.length c1) (.slice A2 m.length c2) (.int .u64 rk) (.int .u64 n) (.int .i64 num) (.int .i64 den) (.int .i64 v) W) => (total_any W w.heap.size A1 l c1 (h1.below hS.1) hS.1.size).mono (R' := fun e w' => e = .returned (.int .u64 (totF 0 l)) ∧ S8 w (.int .i64 p) (.slice A1 l.length c1) (.slice A2 m.length c2) (.int .u64 rk) (.int .u64 n) (.int .i64 num) (.int .i64 den) (.int .i64 v) w') fun _ _ ⟨e, b⟩ => ⟨e, hS.stay b⟩
  have cT' := fun W (hS : S8 w (.int .i64 p) (.slice A1 l.length c1) (.slice A2 m.length c2) (.int .u64 rk) (.int .u64 n) (.int .i64 num) (.int .i64 den) (.int .i64 v) W) => (rtotal_any W w.heap.size A1 l c1 (h1.below hS.1) hS.1.size).mono (R' := fun e w' => e = .returned (.int .u64 (totF 0 l)) ∧ S8 w (.int .i64 p) (.slice A1 l.length c1) (.slice A2 m.length c2) (.int .u64 rk) (.int .u64 n) (.int .i64 num) (.int .i64 den) (.int .i64 v) w') fun _ _ ⟨e, b⟩ => ⟨e, hS.stay b⟩
  have cG := fun W (hS : S8 w (.int .i64 p) (.slice A1 l.length c1) (.slice A2 m.length c2) (.int .u64 rk) (.int .u64 n) (.int .i64 num) (.int .i64 den) (.int .i64 v) W) => (merge_any W w.heap.size A1 A2 l m c1 c2 (h1.below hS.1) (h2.below hS.1) hS.1.size hlm).mono (R' := fun e w' => MrgPost W (mrg (l ++ m)) e w' ∧ S8 w (.int .i64 p) (.slice A1 l.length c1) (.slice A2 m.length c2) (.int .u64 rk) (.int .u64 n) (.int .i64 num) (.int .i64 den) (.int .i64 v) w') fun _ _ h => ⟨h, hS.stay (by obtain ⟨_, _, _, _, b⟩ := h; exact b)⟩
  have cG' := fun W (hS : S8 w (.int .i64 p) (.slice A1 l.length c1) (.slice A2 m.length c2) (.int .u64 rk) (.int .u64 n) (.int .i64 num) (.int .i64 den) (.int .i64 v) W) => (rmerge_any W w.heap.size A1 A2 l m c1 c2 (h1.below hS.1) (h2.below hS.1) hS.1.size hlm).mono (R' := fun e w' => MrgPost W (mrg (l ++ m)) e w' ∧ S8 w (.int .i64 p) (.slice A1 l.length c1) (.slice A2 m.length c2) (.int .u64 rk) (.int .u64 n) (.int .i64 num) (.int .i64 den) (.int .i64 v) w') fun _ _ h => ⟨h, hS.stay (by obtain ⟨_, _, _, _, b⟩ := h; exact b)⟩
  have hok : ∀ c ∈ mrg (l ++ m), okC c := mrg_okC fun c hc => (List.mem_append.1 hc).elim (h1.ok c) (h2.ok c)
  have cS := fun W (hS : S8 w (.int .i64 p) (.slice A1 l.length c1) (.slice A2 m.length c2) (.int .u64 rk) (.int .u64 n) (.int .i64 num) (.int .i64 den) (.int .i64 v) W) (A3 A4 : Option Addr) (c3 c4 : Nat) (o3 : Cs W W.heap.size A3 (mrg (l ++ m))) (o4 : Cs W W.heap.size A4 (mrg (l ++ m))) => (same_self W W.heap.size A3 A4 (mrg (l ++ m)) c3 c4 o3 o4 (Nat.le_refl _)).mono (R' := fun e w' => e = .returned (.bool true) ∧ S8 w (.int .i64 p) (.slice A1 l.length c1) (.slice A2 m.length c2) (.int .u64 rk) (.int .u64 n) (.int .i64 num) (.int .i64 den) (.int .i64 v) w') fun _ _ ⟨e, b⟩ => ⟨e, hS.stay b⟩
  have cQ := fun W (hS : S8 w (.int .i64 p) (.slice A1 l.length c1) (.slice A2 m.length c2) (.int .u64 rk) (.int .u64 n) (.int .i64 num) (.int .i64 den) (.int .i64 v) W) => (quantile_any W w.heap.size p l A1 c1 num den (h1.below hS.1) hS.1.size hd).mono (R' := fun e w' => e = .returned (.tuple #[.int .i64 (quaI p l num den), .int .i64 (quaE p l num den)]) ∧ S8 w (.int .i64 p) (.slice A1 l.length c1) (.slice A2 m.length c2) (.int .u64 rk) (.int .u64 n) (.int .i64 num) (.int .i64 den) (.int .i64 v) w') fun _ _ ⟨e, b⟩ => ⟨e, hS.stay b⟩
  have cQ' := fun W (hS : S8 w (.int .i64 p) (.slice A1 l.length c1) (.slice A2 m.length c2) (.int .u64 rk) (.int .u64 n) (.int .i64 num) (.int .i64 den) (.int .i64 v) W) => (rquantile_any W w.heap.size p l A1 c1 num den (h1.below hS.1) hS.1.size hd).mono (R' := fun e w' => e = .returned (.tuple #[.int .i64 (quaI p l num den), .int .i64 (quaE p l num den)]) ∧ S8 w (.int .i64 p) (.slice A1 l.length c1) (.slice A2 m.length c2) (.int .u64 rk) (.int .u64 n) (.int .i64 num) (.int .i64 den) (.int .i64 v) w') fun _ _ ⟨e, b⟩ => ⟨e, hS.stay b⟩
  have cA := fun W (hS : S8 w (.int .i64 p) (.slice A1 l.length c1) (.slice A2 m.length c2) (.int .u64 rk) (.int .u64 n) (.int .i64 num) (.int .i64 den) (.int .i64 v) W) => (atMost_any W w.heap.size p v l A1 c1 (h1.below hS.1) hS.1.size).mono (R' := fun e w' => e = .returned (.tuple #[.int .u64 (atmI p v l), .int .i64 (mayE p l)]) ∧ S8 w (.int .i64 p) (.slice A1 l.length c1) (.slice A2 m.length c2) (.int .u64 rk) (.int .u64 n) (.int .i64 num) (.int .i64 den) (.int .i64 v) w') fun _ _ ⟨e, b⟩ => ⟨e, hS.stay b⟩
  have cA' := fun W (hS : S8 w (.int .i64 p) (.slice A1 l.length c1) (.slice A2 m.length c2) (.int .u64 rk) (.int .u64 n) (.int .i64 num) (.int .i64 den) (.int .i64 v) W) => (ratMost_any W w.heap.size p v l A1 c1 (h1.below hS.1) hS.1.size).mono (R' := fun e w' => e = .returned (.tuple #[.int .u64 (atmI p v l), .int .i64 (mayE p l)]) ∧ S8 w (.int .i64 p) (.slice A1 l.length c1) (.slice A2 m.length c2) (.int .u64 rk) (.int .u64 n) (.int .i64 num) (.int .i64 den) (.int .i64 v) w') fun _ _ ⟨e, b⟩ => ⟨e, hS.stay b⟩
  replace cQ := Lib.hid cQ
  replace cQ' := Lib.hid cQ'
  replace cA := Lib.hid cA
  replace cA' := Lib.hid cA'
  replace hok := Lib.hid hok
  replace cM := Lib.hid cM
  replace cM' := Lib.hid cM'
  replace cT := Lib.hid cT
  replace cT' := Lib.hid cT'
  replace cG := Lib.hid cG
  replace cG' := Lib.hid cG'
  replace cS := Lib.hid cS
  have e1 : (mayE p l != mayE p l) = false := by simp
  have e2 : (totF 0 l != totF 0 l) = false := by simp
  have e3 : (atI l rk != atI l rk) = false := by simp
  have e4 : (atE l rk != atE l rk) = false := by simp
  clear h1 h2
  go_wp2_with fail
  go_region_held3 (fun w' => Below w.heap.size w w' ∧ w.heap.size + 1 ≤ w'.heap.size ∧ w'.cell? ⟨w.heap.size, 0, none⟩ = some (.int .i64 p) ∧ w'.cell? ⟨w.heap.size, 1, none⟩ = some (.slice A1 l.length c1) ∧ w'.cell? ⟨w.heap.size, 2, none⟩ = some (.slice A2 m.length c2) ∧ w'.cell? ⟨w.heap.size, 3, none⟩ = some (.int .u64 rk) ∧ w'.cell? ⟨w.heap.size, 4, none⟩ = some (.int .u64 n) ∧ w'.cell? ⟨w.heap.size, 5, none⟩ = some (.int .i64 num) ∧ w'.cell? ⟨w.heap.size, 6, none⟩ = some (.int .i64 den) ∧ w'.cell? ⟨w.heap.size, 7, none⟩ = some (.int .i64 v)) (first | assumption | (go_split_ands; exact ⟨Below.drew ‹_›, by assumption, by assumption, by assumption, by assumption, by assumption, by assumption, by assumption, by assumption, by assumption⟩)) (first
    | (go_at_call 26; refine (cM.out _ (by assumption)).mono ?_; rintro e w' ⟨rfl, hS'⟩)
    | (go_at_call 32; refine (cM'.out _ (by assumption)).mono ?_; rintro e w' ⟨rfl, hS'⟩)
    | (go_at_call 33; refine (cT.out _ (by assumption)).mono ?_; rintro e w' ⟨rfl, hS'⟩)
    | (go_at_call 34; refine (cT'.out _ (by assumption)).mono ?_; rintro e w' ⟨rfl, hS'⟩)
    | (go_at_call 36; refine (cG.out _ (by assumption)).mono ?_; rintro e w' ⟨⟨AM, cM, rfl, oM, bM⟩, hS'⟩)
    | (go_at_call 37; refine (cG'.out _ (by assumption)).mono ?_; rintro e w' ⟨⟨AR, cR, rfl, oR, bR⟩, hS'⟩)
    | (go_at_call 35; refine (cS.out _ (by assumption) _ _ _ _ (by first | exact cs_of_own oM hok.out | exact cs_of_own (own_later oM bR) hok.out) (by first | exact cs_of_own oR hok.out | exact cs_of_own (own_later oR bM) hok.out)).mono ?_; rintro e w' ⟨rfl, hS'⟩))
  have b3 := Lib.hid hS'
  clear hS' d0 d1 q0 q1 q2 q3 q4 q5 q6 q7 b2
  obtain ⟨w3, hw3⟩ : ∃ w3, w3 = w' := ⟨_, rfl⟩
  rw [← hw3] at b3 ⊢
  clear hw3
  obtain ⟨d0, d1, q0, q1, q2, q3, q4, q5, q6, q7⟩ := b3.out
  go_wp2_with fail
  refine (rank_any n num den hn hd _).mono ?_
  rintro e w4 ⟨rfl, k4, rfl⟩
  go_wp2_with fail
  refine (rrank_any n num den hn hd _).mono ?_
  rintro e w5 ⟨rfl, k5, rfl⟩
  have b5 := Lib.hid (b3.out.stay (below_drewN (below_drewN (Below.refl _ _) k4) k5))
  obtain ⟨w5, hw5⟩ : ∃ w5, w5 = (w3.drewN k4).drewN k5 := ⟨_, rfl⟩
  rw [← hw5] at b5 ⊢
  clear hw5 d0 d1 q0 q1 q2 q3 q4 q5 q6 q7 b3
  obtain ⟨d0, d1, q0, q1, q2, q3, q4, q5, q6, q7⟩ := b5.out
  go_wp2_with fail
  refine (cQ.out _ b5.out).mono ?_
  rintro e w6 ⟨rfl, b6⟩
  clear d0 d1 q0 q1 q2 q3 q4 q5 q6 q7 b5
  replace b6 := Lib.hid b6
  obtain ⟨d0, d1, q0, q1, q2, q3, q4, q5, q6, q7⟩ := b6.out
  go_wp2_with fail
  refine (cQ'.out _ b6.out).mono ?_
  rintro e w7 ⟨rfl, b7⟩
  clear d0 d1 q0 q1 q2 q3 q4 q5 q6 q7 b6
  replace b7 := Lib.hid b7
  obtain ⟨d0, d1, q0, q1, q2, q3, q4, q5, q6, q7⟩ := b7.out
  go_wp2_with fail
  refine (cA.out _ b7.out).mono ?_
  rintro e w8 ⟨rfl, b8⟩
  clear d0 d1 q0 q1 q2 q3 q4 q5 q6 q7 b7
  replace b8 := Lib.hid b8
  obtain ⟨d0, d1, q0, q1, q2, q3, q4, q5, q6, q7⟩ := b8.out
  go_wp2_with fail
  refine (cA'.out _ b8.out).mono ?_
  rintro e w9 ⟨rfl, b9⟩
  clear d0 d1 q0 q1 q2 q3 q4 q5 q6 q7 b8
  replace b9 := Lib.hid b9
  obtain ⟨d0, d1, q0, q1, q2, q3, q4, q5, q6, q7⟩ := b9.out
  go_wp2_with fail
  refine (fixed_t w9).mono ?_
  rintro e w10 ⟨rfl, b10⟩
  go_wp2
  go_ret
  exact ⟨rfl, (b9.out.stay b10).1⟩
end Go.Proofs.Ytonacegkhkncmaa.Rk
