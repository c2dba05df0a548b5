/- Lemmas for the laws of this seat, laid together of SnY, Rd4, Sc2, Sc3, Sc4. -/
import Derived.Test.YtpiegngjpnpohaaGreatL08
import Derived.Test.YtpiegngjpnpohaaGreatL09
import Derived.Test.YtpiegngjpnpohaaGreatL13
import Derived.Test.YtpiegngjpnpohaaGreatL27
import Derived.Test.YtpiegngjpnpohaaGreatL28

namespace Go.Proofs.YtpiegngjpnpohaaGreat.Sn
open Go.RowKit Go.Proofs.YtpiegngjpnpohaaGreat.La Go.Proofs.YtpiegngjpnpohaaGreat.Sl Go.Proofs.YtpiegngjpnpohaaGreat.Ck Go.Proofs.YtpiegngjpnpohaaGreat.Rc Go.Proofs.YtpiegngjpnpohaaGreat.Rk Go.Proofs.YtpiegngjpnpohaaGreat.Wi Go.Proofs.YtpiegngjpnpohaaGreat.Fb Go.Proofs.YtpiegngjpnpohaaGreat.Mg Go.Proofs.YtpiegngjpnpohaaGreat.St
set_option linter.unusedVariables false
theorem q_nil (nm : ByteArray) (hn : nm.size ≤ 9223372036854775807) (w : World) (B : Nat) : QAt nm none 0 [] w B := ⟨⟨rfl, fun h => absurd h (by decide)⟩, Nat.le_refl _, by decide, by decide, hn, (by intro x hx; cases hx)⟩
theorem loI11 {v : Vv} (hv : v.c = ⟨1, ⟨#[99]⟩, ⟨#[]⟩, [], 11, [], 0, 0, 0, 0⟩) : loI v.t = 11 := by
  rw [show v.t = 11 from congrArg Cv.t hv]; decide
set_option maxRecDepth 100000 in
set_option maxHeartbeats 2000000 in
theorem fixed_any (w : World) :
    Calls Tryz.prog 14 #[] w fun e w' => e = .returned (.bool true) ∧ Below w.heap.size w w' := by
  have c5 := fun W => one_any 5 (by decide) W
  have c6 := fun W => one_any 6 (by decide) W
  have hsf := fun (a : Addr) (x : Nat) (W : World) => run_store Tryz.prog W a (.float .f64 x) .plain rfl
  unfold Ss.v at c5 c6
  go_enter Tryz.func14, Tryz.ntmps14
  go_wp2_with fail
  refine (c5 _).mono ?_
  rintro e w1 ⟨s1, rfl, h1, hb1⟩
  have ck := check_any s1 w1 h1.at_
  rw [h1.p, h1.vs, chk_one 5 (by decide)] at ck
  have hv1 : s1.v = .agg #[.int .i64 2, .slice s1.A 1 s1.c, .int .u64 0] := by unfold Ss.v; rw [h1.p, h1.vs, h1.r]; rfl
  have hp1 := h1.p
  have hr1 := h1.r
  have hl1 : s1.vs.length = 1 := by rw [h1.vs]; rfl
  rw [hv1] at ck
  rw [hp1, hr1, hl1]
  replace h1 := Lib.hid h1
  clear hv1 hp1 hr1 hl1
  go_wp2_with fail
  refine ck.mono ?_
  rintro e w2 ⟨rfl, hb2⟩
  clear ck
  go_wp2_with fail
  refine (c5 _).mono ?_
  rintro e w3 ⟨s3, rfl, h3, hb3⟩
  go_wp2_with fail
  refine (c6 _).mono ?_
  rintro e w4 ⟨s4, rfl, h4, hb4⟩
  have a3 := (h3.below hb4).mono hb4.size
  have cm := merge_any' s3 s4 w4 a3.at_ h4.at_
  have hE := mrgE_one ⟨h3.p, h3.vs, h3.r⟩ ⟨h4.p, h4.vs, h4.r⟩
  have hMC := fun m => mrgC_one (m := m) ⟨h3.p, h3.vs, h3.r⟩ ⟨h4.p, h4.vs, h4.r⟩
  unfold MrgP at cm
  rw [hE] at cm
  unfold Ss.v at cm
  replace h3 := Lib.hid h3
  replace h4 := Lib.hid h4
  replace a3 := Lib.hid a3
  replace hMC := Lib.hid hMC
  replace cm := Lib.hid cm
  clear hE
  go_wp2_with fail
  refine cm.out.mono ?_
  rintro e w5 ⟨hb5, m, rfl, hma, hmo, hmc⟩
  obtain ⟨p1, r1, v, v1, hv⟩ := hMC.out m hmc
  have hl : m.vs.length = 1 := by rw [v1]; rfl
  have hmv : m.v = .agg #[.int .i64 2, .slice m.A 1 m.c, .int .u64 0] := by unfold Ss.v; rw [p1, r1, hl]
  have hbb : ∀ u ∈ m.vs, u.d.l.length ≤ 4398046511104 ∧ u.cs.length ≤ 8796093022208 := fun u hu => by
    rw [v1, List.mem_singleton] at hu
    subst hu
    rw [show u.d.l = [] from congrArg Cv.l hv, show u.cs = [] from congrArg Cv.cs hv]
    decide
  have cf := fun (W : World) (k : Below w5.heap.size w5 W) => find_any m ⟨#[99]⟩ none 0 [] W ((hma.below k).mono k.size) (q_nil _ (by decide) _ _) hbb
  have cg := fun (W : World) (k : Below w5.heap.size w5 W) => find_any m ⟨#[100]⟩ none 0 [] W ((hma.below k).mono k.size) (q_nil _ (by decide) _ _) hbb
  rw [v1, (find_one hv).1, hmv] at cf
  rw [v1, (find_one hv).2, hmv] at cg
  have csm := fun (W : World) (n : Int) (s : Ss) (k : Below w5.heap.size w5 W) (h : OneAt n s W W.heap.size) => sameS_any m s W ((hma.below k).mono k.size) h.at_
  have cs11 : ∀ (W : World) (s : Ss), Below w5.heap.size w5 W → OneAt 11 s W W.heap.size → Calls Tryz.prog 29 #[.agg #[.int .i64 2, .slice m.A 1 m.c, .int .u64 0], s.v] W fun e w' => e = .returned (.bool true) ∧ Below W.heap.size W w' := fun W s k h => by
    have := csm W 11 s k h
    rw [same_one ⟨p1, r1, v1⟩ hv ⟨h.p, h.vs, h.r⟩, hmv] at this
    exact this
  have cs10 : ∀ (W : World) (s : Ss), Below w5.heap.size w5 W → OneAt 10 s W W.heap.size → Calls Tryz.prog 29 #[.agg #[.int .i64 2, .slice m.A 1 m.c, .int .u64 0], s.v] W fun e w' => e = .returned (.bool false) ∧ Below W.heap.size W w' := fun W s k h => by
    have := csm W 10 s k h
    rw [same_one ⟨p1, r1, v1⟩ hv ⟨h.p, h.vs, h.r⟩, hmv] at this
    exact this
  have cf' : ∀ (W : World), Below w5.heap.size w5 W → Calls Tryz.prog 24 #[.agg #[.int .i64 2, .slice m.A 1 m.c, .int .u64 0], .string ⟨#[99]⟩, .slice none 0 0] W fun e w' => ∃ u : Vv, e = .returned (.tuple #[u.v, .int .i64 0]) ∧ Below W.heap.size W w' ∧ loI u.t = 11 := fun W k => (cf W k).mono fun e w' ⟨hb, u, he, _, _, hc⟩ => ⟨u, he, hb, loI11 (hc.trans hv)⟩
  have cg' : ∀ (W : World), Below w5.heap.size w5 W → Calls Tryz.prog 24 #[.agg #[.int .i64 2, .slice m.A 1 m.c, .int .u64 0], .string ⟨#[100]⟩, .slice none 0 0] W fun e w' => ∃ u : Vv, e = .returned (.tuple #[u.v, .int .i64 6]) ∧ Below W.heap.size W w' := fun W k => (cg W k).mono fun e w' ⟨hb, u, he, _, _, hc⟩ => ⟨u, he, hb⟩
  have cz := fun (W : World) => check_any zeroS W (zeroS_at _ _)
  rw [zeroS_v, show chkS zeroS.p zeroS.vs = (1, 0) from rfl] at cz
  have hbw5 : Below w.heap.size w w5 := hb1.trans ((hb2.trans ((hb3.trans ((hb4.trans (hb5.mono hb4.size)).mono hb3.size)).mono hb2.size)).mono hb1.size)
  rw [p1, r1, hl]
  have hnew := Blk.new w5 [.int .i64 2, .slice m.A 1 m.c, .int .u64 0] 25
  unfold Vv.v at cf' cg'
  replace cf' := Lib.hid cf'
  replace cg' := Lib.hid cg'
  replace cs11 := Lib.hid cs11
  replace cs10 := Lib.hid cs10
  replace hma := Lib.hid hma
  clear hmo hmc hMC hmv hl hbb cf cg csm cm a3 h3 h4 hv v1 p1 r1 hb1 hb2 hb3 hb4 hb5 h1 c5 c6
  go_upto_region 3 with fail
  obtain ⟨w6, hw6⟩ : ∃ w6, w6 = w5.alloc (.cells #[.int .i64 2, .slice m.A 1 m.c, .int .u64 0] 25) := ⟨_, rfl⟩
  have k6 : Blk w6 w5.heap.size [.int .i64 2, .slice m.A 1 m.c, .int .u64 0] := by rw [hw6]; exact hnew
  have hb6 : Below w5.heap.size w5 w6 := by rw [hw6]; exact (Below.refl _ _).alloc (Nat.le_refl _) _
  rw [← hw6]
  clear hw6 hnew
  have x0 := (k6.2 0 _ rfl).1
  have x1 := (k6.2 1 _ rfl).1
  have x2 := (k6.2 2 _ rfl).1
  go_wp2_with fail
  refine (cf'.out _ hb6).mono ?_
  rintro e w7 ⟨u, rfl, hb7, hu⟩
  clear x0 x1 x2 cf'
  have hnew := Blk.new w7 u.row 49
  unfold Vv.row at hnew
  replace hu := Lib.hid hu
  go_upto_region 4 with fail
  obtain ⟨w8, hw8⟩ : ∃ w8, w8 = w7.alloc (.cells #[.int .i64 u.d.kind, .string u.d.name, .string u.d.help, .slice u.d.A u.d.l.length u.d.c, .int .i64 (hiI u.t), .int .u64 (loI u.t), .slice u.CA u.cs.length u.cc, .int .u64 u.n, .float .f64 u.sm, .float .f64 u.mn, .float .f64 u.mx] 49) := ⟨_, rfl⟩
  have k8 : Blk w8 w7.heap.size [.int .i64 u.d.kind, .string u.d.name, .string u.d.help, .slice u.d.A u.d.l.length u.d.c, .int .i64 (hiI u.t), .int .u64 (loI u.t), .slice u.CA u.cs.length u.cc, .int .u64 u.n, .float .f64 u.sm, .float .f64 u.mn, .float .f64 u.mx] := by rw [hw8]; exact hnew
  have hb8 : Below w7.heap.size w7 w8 := by rw [hw8]; exact (Below.refl _ _).alloc (Nat.le_refl _) _
  rw [← hw8]
  clear hw8 hnew
  have hb68 := hb7.trans (hb8.mono hb7.size)
  have k6b := k6.later hb68
  have x0 := (k6b.2 0 _ rfl).1
  have x1 := (k6b.2 1 _ rfl).1
  have x2 := (k6b.2 2 _ rfl).1
  have hb58 := hb6.trans (hb68.mono hb6.size)
  go_wp2_with fail
  refine (cg'.out _ hb58).mono ?_
  rintro e w9 ⟨u2, rfl, hb9⟩
  clear x0 x1 x2 cg'
  go_upto_region 5 with fail
  obtain ⟨wa, hwa⟩ : ∃ wa, wa = w9.alloc (.cells #[.int .i64 u2.d.kind, .string u2.d.name, .string u2.d.help, .slice u2.d.A u2.d.l.length u2.d.c, .int .i64 (hiI u2.t), .int .u64 (loI u2.t), .slice u2.CA u2.cs.length u2.cc, .int .u64 u2.n, .float .f64 u2.sm, .float .f64 u2.mn, .float .f64 u2.mx] 49) := ⟨_, rfl⟩
  have hba : Below w9.heap.size w9 wa := by rw [hwa]; exact (Below.refl _ _).alloc (Nat.le_refl _) _
  rw [← hwa]
  clear hwa
  go_wp2_with fail
  refine (cz _).mono ?_
  rintro e wb ⟨rfl, hbb⟩
  have hb8b := hb9.trans ((hba.trans (hbb.mono hba.size)).mono hb9.size)
  have hb5b := hb58.trans (hb8b.mono hb58.size)
  have k6c := k6b.later hb8b
  have k8c := k8.later hb8b
  have y0 := (k6c.2 0 _ rfl).1
  have y1 := (k6c.2 1 _ rfl).1
  have y2 := (k6c.2 2 _ rfl).1
  have z5 := (k8c.2 5 _ rfl).1
  rw [hu.out] at z5
  have hl6 := k6c.1
  have hl8 := k8c.1
  clear cz
  have hS : ∀ Wx, Below wb.heap.size wb Wx → (Wx.cell? ⟨w5.heap.size, 0, none⟩ = some (.int .i64 2) ∧ Wx.cell? ⟨w5.heap.size, 1, none⟩ = some (.slice m.A 1 m.c) ∧ Wx.cell? ⟨w5.heap.size, 2, none⟩ = some (.int .u64 0) ∧ Wx.cell? ⟨w7.heap.size, 5, none⟩ = some (.int .u64 11)) := fun Wx hb => ⟨kc hb hl6 y0, kc hb hl6 y1, kc hb hl6 y2, kc hb hl8 z5⟩
  have cs11' : ∀ (W : World) (s : Ss), Below wb.heap.size wb W → OneAt 11 s W W.heap.size → Calls Tryz.prog 29 #[.agg #[.int .i64 2, .slice m.A 1 m.c, .int .u64 0], s.v] W fun e w' => e = .returned (.bool true) ∧ Below wb.heap.size wb w' := fun W s k h => (cs11.out W s (hb5b.trans (k.mono hb5b.size)) h).mono fun e w' ⟨he, hb⟩ => ⟨he, k.trans (hb.mono k.size)⟩
  have cs10' : ∀ (W : World) (s : Ss), Below wb.heap.size wb W → OneAt 10 s W W.heap.size → Calls Tryz.prog 29 #[.agg #[.int .i64 2, .slice m.A 1 m.c, .int .u64 0], s.v] W fun e w' => e = .returned (.bool false) ∧ Below wb.heap.size wb w' := fun W s k h => (cs10.out W s (hb5b.trans (k.mono hb5b.size)) h).mono fun e w' ⟨he, hb⟩ => ⟨he, k.trans (hb.mono k.size)⟩
  have co11 : ∀ (W : World), Below wb.heap.size wb W → Calls Tryz.prog 52 #[.int .u64 11] W fun e w' => ∃ s : Ss, e = .returned s.v ∧ OneAt 11 s w' w'.heap.size ∧ Below wb.heap.size wb w' := fun W k => (one_any 11 (by decide) W).mono fun e w' ⟨s, he, ho, hb⟩ => ⟨s, he, ho, k.trans (hb.mono k.size)⟩
  have co10 : ∀ (W : World), Below wb.heap.size wb W → Calls Tryz.prog 52 #[.int .u64 10] W fun e w' => ∃ s : Ss, e = .returned s.v ∧ OneAt 10 s w' w'.heap.size ∧ Below wb.heap.size wb w' := fun W k => (one_any 10 (by decide) W).mono fun e w' ⟨s, he, ho, hb⟩ => ⟨s, he, ho, k.trans (hb.mono k.size)⟩
  have hbw : Below w.heap.size w wb := hbw5.trans (hb5b.mono hbw5.size)
  have hd0 : Below wb.heap.size wb wb.drew := below_drewN (Below.refl _ _) 1
  replace hS := Lib.hid hS
  replace cs11' := Lib.hid cs11'
  replace cs10' := Lib.hid cs10'
  replace co11 := Lib.hid co11
  replace co10 := Lib.hid co10
  clear cs11 cs10 k6 k6b k6c k8 k8c hb6 hb7 hb8 hb68 hb58 hb9 hba hbb hb8b hb5b hbw5
  go_upto_region 6 with fail
  go_region_held3 (fun Wx => Wx.cell? ⟨w5.heap.size, 0, none⟩ = some (.int .i64 2) ∧ Wx.cell? ⟨w5.heap.size, 1, none⟩ = some (.slice m.A 1 m.c) ∧ Wx.cell? ⟨w5.heap.size, 2, none⟩ = some (.int .u64 0) ∧ Wx.cell? ⟨w7.heap.size, 5, none⟩ = some (.int .u64 11))
    (with_reducible exact hS.out _ (by assumption))
    (first | (go_at_call 52; refine (co11.out _ (by assumption)).mono ?_; rintro e W1 ⟨s11, rfl, ho11, hbW1⟩) | (go_at_call 52; refine (co10.out _ (by assumption)).mono ?_; rintro e W3 ⟨s10, rfl, ho10, hbW3⟩) | (go_at_call 29; refine (cs11'.out _ _ (by assumption) (by assumption)).mono ?_; rintro e W2 ⟨rfl, hbW2⟩) | (go_at_call 29; refine (cs10'.out _ _ (by assumption) (by assumption)).mono ?_; rintro e W4 ⟨rfl, hbW4⟩))
  all_goals
    go_wp2_with fail
    go_ret
    exact ⟨rfl, hbw.trans (hbW4.mono hbw.size)⟩
end Go.Proofs.YtpiegngjpnpohaaGreat.Sn

namespace Go.Proofs.YtpiegngjpnpohaaGreat.Rk
open Go.RowKit Go.Proofs.YtpiegngjpnpohaaGreat.Bk Go.Proofs.YtpiegngjpnpohaaGreat.Mg Go.Proofs.YtpiegngjpnpohaaGreat.St
set_option linter.unusedVariables false
theorem sumN_tW : ∀ l : List (Int × Int), sumN l = tW (fun _ => true) l
  | [] => by simp [sumN, tW]
  | c :: r => by
    rw [tW_cons, ← sumN_tW r]; simp [sumN]
theorem totF_tW : ∀ (l : List (Int × Int)) (n : Int), totF n l % two64 = (n + tW (fun _ => true) l) % two64
  | [], n => by simp [totF, tW_nil]
  | c :: r, n => by
    have e : totF n (c :: r) = totF (IntKind.u64.wrap (n + c.2)) r := rfl
    rw [e, totF_tW r, tW_cons, IntKind.wrap_u64]
    simp only [two64, if_true]; omega
theorem totF_mod (l : List (Int × Int)) : totF 0 l = tW (fun _ => true) l % two64 := by
  have h := totF_rng l
  have := totF_tW l 0
  simp only [two64] at *
  omega
theorem atmF_tW (p v : Int) : ∀ (l : List (Int × Int)) (n : Int), atmF p v n l % two64 = (n + tW (fun k => decide (higI p k ≤ v)) l) % two64
  | [], n => by simp [atmF, tW_nil]
  | c :: r, n => by
    have e : atmF p v n (c :: r) = atmF p v (if higI p c.1 ≤ v then IntKind.u64.wrap (n + c.2) else n) r := rfl
    rw [e, atmF_tW p v r, tW_cons]
    by_cases h : higI p c.1 ≤ v
    · rw [if_pos h, if_pos (by simpa using h), IntKind.wrap_u64]
      simp only [two64]; omega
    · rw [if_neg h, if_neg (by simpa using h)]
      simp only [two64]; omega
theorem atmF_rng (p v : Int) : ∀ (l : List (Int × Int)) (n : Int), 0 ≤ n ∧ n < two64 → 0 ≤ atmF p v n l ∧ atmF p v n l < two64
  | [], n, h => by simpa [atmF] using h
  | c :: r, n, h => by
    have e : atmF p v n (c :: r) = atmF p v (if higI p c.1 ≤ v then IntKind.u64.wrap (n + c.2) else n) r := rfl
    rw [e]
    refine atmF_rng p v r _ ?_
    split
    · rw [IntKind.wrap_u64]; simp only [two64]; omega
    · exact h
theorem atmF_mod (p v : Int) (l : List (Int × Int)) : atmF p v 0 l = tW (fun k => decide (higI p k ≤ v)) l % two64 := by
  have h := atmF_rng p v l 0 (by simp only [two64]; omega)
  have := atmF_tW p v l 0
  simp only [two64] at *
  omega
theorem chk_facts (p : Int) : ∀ (cs : List (Int × Int)) (prev : Option Int), chk p prev cs = 0 → Rise cs ∧ (∀ c ∈ cs, 0 ≤ c.1 ∧ c.1 < lenI p ∧ c.2 ≠ 0) ∧ (∀ q, prev = some q → ∀ c ∈ cs, q < c.1)
  | [], _, _ => ⟨List.Pairwise.nil, fun c hc => absurd hc (by simp), fun _ _ c hc => absurd hc (by simp)⟩
  | c :: r, prev, h => by
    rw [chk] at h
    by_cases h1 : c.1 < 0 ∨ lenI p ≤ c.1
    · rw [if_pos h1] at h; omega
    · rw [if_neg h1] at h
      by_cases h2 : ∃ q, prev = some q ∧ c.1 ≤ q
      · rw [if_pos h2] at h; omega
      · rw [if_neg h2] at h
        by_cases h3 : c.2 = 0
        · rw [if_pos h3] at h; omega
        · rw [if_neg h3] at h
          obtain ⟨i1, i2, i3⟩ := chk_facts p r (some c.1) h
          have h4 : ∀ q, prev = some q → q < c.1 := fun q hq => Int.not_le.1 fun hle => h2 ⟨q, hq, hle⟩
          refine ⟨List.pairwise_cons.2 ⟨fun y hy => i3 c.1 rfl y hy, i1⟩, fun x hx => ?_, fun q hq x hx => ?_⟩
          · rcases List.mem_cons.1 hx with rfl | hx
            · exact ⟨by omega, by omega, h3⟩
            · exact i2 x hx
          · rcases List.mem_cons.1 hx with rfl | hx
            · exact h4 q hq
            · have := i3 c.1 rfl x hx; have := h4 q hq; omega
theorem may_facts {p : Int} {l : List (Int × Int)} (h : mayE p l = 0) : good p ∧ Rise l ∧ (∀ c ∈ l, 0 ≤ c.1 ∧ c.1 < lenI p ∧ c.2 ≠ 0) ∧ tW (fun _ => true) l ≤ 9223372036854775807 := by
  unfold mayE at h
  by_cases hg : good p
  · rw [if_neg (by simpa using hg)] at h
    by_cases hc : chk p none l ≠ 0
    · rw [if_pos hc] at h; exact absurd h hc
    · rw [if_neg hc] at h
      obtain ⟨c1, c2, _⟩ := chk_facts p l none (Classical.not_not.1 hc)
      refine ⟨hg, c1, c2, ?_⟩
      rw [← sumN_tW]
      by_cases hs : 9223372036854775807 < sumN l
      · rw [if_pos hs] at h; omega
      · omega
  · rw [if_pos hg] at h; omega
theorem merges_tot {l m : List (Int × Int)} (h1 : ∀ c ∈ l, okC c) (h2 : ∀ c ∈ m, okC c) : totF 0 (mrg (l ++ m)) = IntKind.u64.wrap (totF 0 l + totF 0 m) := by
  have ho : okN (l ++ m) := okC_okN fun c hc => (List.mem_append.1 hc).elim (h1 c) (h2 c)
  have := (mrg_facts _ ho).2.2.2.1 (fun _ => true)
  rw [tW_append] at this
  rw [totF_mod, totF_mod, totF_mod, IntKind.wrap_u64]
  simp only [two64] at *
  omega
theorem merges_self {p : Int} {l : List (Int × Int)} (h1 : ∀ c ∈ l, okC c) (h : mayE p l = 0) : mrg l = l := by
  obtain ⟨_, r, f, _⟩ := may_facts h
  exact mrg_self r (fun c hc => (f c hc).2.2) (okC_okN h1)
theorem merges_may {p : Int} {l m : List (Int × Int)} (h1 : ∀ c ∈ l, okC c) (h2 : ∀ c ∈ m, okC c) (e1 : mayE p l = 0) (e2 : mayE p m = 0) :
    mayE p (mrg (l ++ m)) = (if 9223372036854775807 < totF 0 (mrg (l ++ m)) then 3 else 0) ∧
    (¬ 9223372036854775807 < totF 0 (mrg (l ++ m)) → ∀ v, atmI p v (mrg (l ++ m)) = IntKind.u64.wrap (atmI p v l + atmI p v m)) := by
  obtain ⟨hg, r1, f1, s1⟩ := may_facts e1
  obtain ⟨_, r2, f2, s2⟩ := may_facts e2
  have ho : okN (l ++ m) := okC_okN fun c hc => (List.mem_append.1 hc).elim (h1 c) (h2 c)
  obtain ⟨m1, m2, _, _, m5⟩ := mrg_facts _ ho
  have n1 := tW_nonneg (fun _ => true) (okC_okN h1)
  have n2 := tW_nonneg (fun _ => true) (okC_okN h2)
  have hfit : tW (fun _ => true) (l ++ m) < two64 := by rw [tW_append]; simp only [two64]; omega
  have hs : tW (fun _ => true) (mrg (l ++ m)) = tW (fun _ => true) l + tW (fun _ => true) m := by rw [m5 hfit, tW_append]
  have ht : totF 0 (mrg (l ++ m)) = sumN (mrg (l ++ m)) := by
    rw [totF_mod, sumN_tW, hs]; simp only [two64]; omega
  have hc : chk p none (mrg (l ++ m)) = 0 := by
    refine chk_ok p _ none (by rw [List.pairwise_map]; exact m1) (fun c hc => by have := (m2 c hc).2.1; omega) (fun c hc => ?_) (fun q hq => by cases hq)
    obtain ⟨⟨d, hd, e⟩, _⟩ := m2 c hc
    rw [← e]
    rcases List.mem_append.1 hd with hd | hd
    · exact ⟨(f1 d hd).1, (f1 d hd).2.1⟩
    · exact ⟨(f2 d hd).1, (f2 d hd).2.1⟩
  have hm : mayE p (mrg (l ++ m)) = (if 9223372036854775807 < totF 0 (mrg (l ++ m)) then 3 else 0) := by
    rw [mayE, if_neg (by simpa using hg), hc, if_neg (by omega), ht]
  refine ⟨hm, fun hn v => ?_⟩
  rw [if_neg hn] at hm
  rw [atmI, if_pos hm, atmI, if_pos e1, atmI, if_pos e2, atmF_mod, atmF_mod, atmF_mod, m5 hfit, tW_append, IntKind.wrap_u64]
  have := tW_nonneg (fun k => decide (higI p k ≤ v)) (okC_okN h1)
  have := tW_nonneg (fun k => decide (higI p k ≤ v)) (okC_okN h2)
  have := tW_le (fun k => decide (higI p k ≤ v)) (okC_okN h1)
  have := tW_le (fun k => decide (higI p k ≤ v)) (okC_okN h2)
  simp only [two64]
  omega
end Go.Proofs.YtpiegngjpnpohaaGreat.Rk

namespace Go.Proofs.YtpiegngjpnpohaaGreat.Sn
open Go.RowKit Go.Proofs.YtpiegngjpnpohaaGreat.La Go.Proofs.YtpiegngjpnpohaaGreat.Sl Go.Proofs.YtpiegngjpnpohaaGreat.Ck Go.Proofs.YtpiegngjpnpohaaGreat.Rc Go.Proofs.YtpiegngjpnpohaaGreat.Rk Go.Proofs.YtpiegngjpnpohaaGreat.Wi Go.Proofs.YtpiegngjpnpohaaGreat.Fb Go.Proofs.YtpiegngjpnpohaaGreat.Mg Go.Proofs.YtpiegngjpnpohaaGreat.St Go.Proofs.YtpiegngjpnpohaaGreat.Bk
set_option linter.unusedVariables false
theorem mrg_congr {a b : List Cnt} (ha : okN a) (hb : okN b) (h : ∀ q, tW q a % two64 = tW q b % two64) : mrg a = mrg b := by
  obtain ⟨s, h1, h2⟩ := exists_srt a
  obtain ⟨t, k1, k2⟩ := exists_srt b
  have hs : okN s := fun c hc => ha c (h1.mem_iff.1 hc)
  have ht : okN t := fun c hc => hb c (k1.mem_iff.1 hc)
  rw [← mrg_of h2 h1 ha, ← mrg_of k2 k1 hb]
  refine rise_ext ((clp_rise s h2).1.filter _) ((clp_rise t k2).1.filter _) fun ⟨i, v⟩ => ?_
  rw [mem_end h2 hs, mem_end k2 ht, tW_perm _ h1, tW_perm _ k1, h]
theorem okN_app {a b : List Cnt} (ha : okN a) (hb : okN b) : okN (a ++ b) := fun c hc => (List.mem_append.1 hc).elim (ha c) (hb c)
theorem okN_mrg {a : List Cnt} (ha : okN a) : okN (mrg a) := fun c hc => by
  have := (mrg_facts a ha).2.1 c hc
  exact ⟨by omega, this.2.2⟩
theorem mrg_tW {a : List Cnt} (ha : okN a) (q : Int → Bool) : tW q (mrg a) % two64 = tW q a % two64 := (mrg_facts a ha).2.2.2.1 q
theorem mrg_comm {a b : List Cnt} (ha : okN a) (hb : okN b) : mrg (a ++ b) = mrg (b ++ a) := mrg_perm List.perm_append_comm (okN_app ha hb)
theorem mrg_assoc {a b c : List Cnt} (ha : okN a) (hb : okN b) (hc : okN c) : mrg (mrg (a ++ b) ++ c) = mrg (a ++ mrg (b ++ c)) := by
  refine mrg_congr (okN_app (okN_mrg (okN_app ha hb)) hc) (okN_app ha (okN_mrg (okN_app hb hc))) fun q => ?_
  rw [tW_append, tW_append, Int.add_emod, mrg_tW (okN_app ha hb), Int.add_emod (tW q a), mrg_tW (okN_app hb hc), tW_append, tW_append, ← Int.add_emod, ← Int.add_emod]
  congr 1
  omega
theorem mrg_nil : mrg [] = [] := by
  have := (mrg_facts [] (fun c hc => absurd hc (by simp))).2.2.1
  exact List.eq_nil_of_length_eq_zero (by simpa using this)
def wS (f : Int → Int) (l : List Cnt) : Int := (l.map fun c => f c.1 * c.2).sum
theorem wS_cons (f : Int → Int) (c : Cnt) (l : List Cnt) : wS f (c :: l) = f c.1 * c.2 + wS f l := by simp [wS]
theorem wS_zero (l : List Cnt) : wS (fun _ => 0) l = 0 := by
  induction l with
  | nil => rfl
  | cons c l ih => rw [wS_cons, ih]; simp
theorem wS_app (f : Int → Int) (a b : List Cnt) : wS f (a ++ b) = wS f a + wS f b := by simp [wS]
theorem wS_step (f : Int → Int) (n : Nat) (l : List Cnt) : wS (fun i => if f i ≤ (n : Int) + 1 then f i else (n : Int) + 1) l = wS (fun i => if f i ≤ (n : Int) then f i else (n : Int)) l + tW (fun i => decide ((n : Int) < f i)) l := by
  induction l with
  | nil => rfl
  | cons c l ih =>
    rw [wS_cons, wS_cons, tW_cons, ih]
    by_cases h1 : f c.1 ≤ (n : Int)
    · rw [if_pos (by omega), if_pos h1, if_neg (by simpa using h1)]; omega
    · have h2 : (n : Int) < f c.1 := by omega
      have e1 : (if f c.1 ≤ (n : Int) + 1 then f c.1 else (n : Int) + 1) = (n : Int) + 1 := by split <;> omega
      have e2 : (if f c.1 ≤ (n : Int) then f c.1 else (n : Int)) = (n : Int) := if_neg h1
      have e3 : (if decide ((n : Int) < f c.1) = true then c.2 else 0) = c.2 := if_pos (decide_eq_true h2)
      rw [e1, e2, e3, Int.add_mul]
      omega
theorem wS_congr {f : Int → Int} (hf : ∀ i, 0 ≤ f i) {a b : List Cnt} (h : ∀ q, tW q a = tW q b) {N : Nat} (hN : ∀ i, f i ≤ (N : Int)) : wS f a = wS f b := by
  have key : ∀ n : Nat, wS (fun i => if f i ≤ (n : Int) then f i else (n : Int)) a = wS (fun i => if f i ≤ (n : Int) then f i else (n : Int)) b := by
    intro n
    induction n with
    | zero =>
      have e : (fun i => if f i ≤ ((0 : Nat) : Int) then f i else ((0 : Nat) : Int)) = fun _ => (0 : Int) := by
        funext i
        have := hf i
        split <;> omega
      rw [e, wS_zero, wS_zero]
    | succ n ih =>
      have e : ((n + 1 : Nat) : Int) = (n : Int) + 1 := by omega
      rw [e, wS_step, wS_step, ih, h]
  have e : (fun i => if f i ≤ (N : Int) then f i else (N : Int)) = f := by
    funext i
    rw [if_pos (hN i)]
  have := key N
  rwa [e] at this
theorem lo_le {p i : Int} : 0 ≤ lowI p i ∧ lowI p i ≤ higI p i ∧ higI p i ≤ ((9223372036854775807 : Nat) : Int) := by
  have := lo_rng (p := p) (i := i)
  unfold higI
  omega
end Go.Proofs.YtpiegngjpnpohaaGreat.Sn

namespace Go.Proofs.YtpiegngjpnpohaaGreat.Sn
open Go.RowKit Go.Proofs.YtpiegngjpnpohaaGreat.La Go.Proofs.YtpiegngjpnpohaaGreat.Sl Go.Proofs.YtpiegngjpnpohaaGreat.Ck Go.Proofs.YtpiegngjpnpohaaGreat.Rc Go.Proofs.YtpiegngjpnpohaaGreat.Rk Go.Proofs.YtpiegngjpnpohaaGreat.Wi Go.Proofs.YtpiegngjpnpohaaGreat.Fb Go.Proofs.YtpiegngjpnpohaaGreat.Mg Go.Proofs.YtpiegngjpnpohaaGreat.St Go.Proofs.YtpiegngjpnpohaaGreat.Bk
set_option linter.unusedVariables false
theorem chkD_congr {a b : DD} (h1 : a.kind = b.kind) (h2 : a.name = b.name) (h3 : a.help = b.help) (h4 : a.l = b.l) : chkD a = chkD b := by
  unfold chkD
  rw [h1, h2, h3, h4]
theorem holdB_congr {p : Int} {x y : Vv} (h1 : x.d.kind = y.d.kind) (h2 : x.t = y.t) (h3 : x.cs = y.cs) (h4 : x.n = y.n) (h5 : x.sm = y.sm) (h6 : x.mn = y.mn) (h7 : x.mx = y.mx) : holdB p x = holdB p y := by
  unfold holdB histB zer3 fin3
  rw [h1, h2, h3, h4, h5, h6, h7]
theorem cmpF_le (a b : Nat) : cmpF a b ≤ 0 ↔ rk a ≤ rk b := by
  unfold cmpF
  split
  · constructor <;> intro <;> omega
  · split <;> constructor <;> intro <;> omega
theorem cmpF_lt (a b : Nat) : cmpF a b < 0 ↔ rk a < rk b := by
  unfold cmpF
  split
  · constructor <;> intro <;> omega
  · split <;> constructor <;> intro <;> omega
theorem cmpF_gt (a b : Nat) : 0 < cmpF a b ↔ rk b < rk a := by
  unfold cmpF
  split
  · constructor <;> intro <;> omega
  · split <;> constructor <;> intro <;> omega
def mnF (a b : Nat) : Nat := if cmpF b a < 0 then b else a
def mxF (a b : Nat) : Nat := if 0 < cmpF b a then b else a
theorem mnF_rk (a b : Nat) : rk (mnF a b) = min (rk a) (rk b) := by
  unfold mnF
  split
  · rename_i h; rw [cmpF_lt] at h; omega
  · rename_i h; rw [cmpF_lt] at h; omega
theorem mxF_rk (a b : Nat) : rk (mxF a b) = max (rk a) (rk b) := by
  unfold mxF
  split
  · rename_i h; rw [cmpF_gt] at h; omega
  · rename_i h; rw [cmpF_gt] at h; omega
theorem mnF_assoc (a b c : Nat) : mnF (mnF a b) c = mnF a (mnF b c) := by
  have h1 := mnF_rk a b
  have h2 := mnF_rk b c
  unfold mnF at *
  simp only [cmpF_lt] at *
  (repeat' split) <;> (try rfl) <;> omega
theorem mxF_assoc (a b c : Nat) : mxF (mxF a b) c = mxF a (mxF b c) := by
  have h1 := mxF_rk a b
  have h2 := mxF_rk b c
  unfold mxF at *
  simp only [cmpF_gt] at *
  (repeat' split) <;> (try rfl) <;> omega
theorem flo_def (a b : Cv) : flo a b = if a.n = 0 then (b.sm, b.mn, b.mx) else if b.n = 0 then (a.sm, a.mn, a.mx) else (fadd a.sm b.sm, mnF a.mn b.mn, mxF a.mx b.mx) := rfl
theorem fin_nan {a : Nat} (h : finF a = true) : nanF a = false := by
  have := fin_mg h
  unfold nanF
  simp; omega
theorem mnF_comm {a b : Nat} (ha : okF a) (hb : okF b) (fa : finF a = true) (fb : finF b = true) : mnF a b = mnF b a := by
  unfold mnF
  simp only [cmpF_lt]
  by_cases h1 : rk b < rk a
  · rw [if_pos h1, if_neg (by omega)]
  · rw [if_neg h1]
    by_cases h2 : rk a < rk b
    · rw [if_pos h2]
    · rw [if_neg h2]
      exact rk_inj ha hb (fin_nan fa) (by omega)
theorem mxF_comm {a b : Nat} (ha : okF a) (hb : okF b) (fa : finF a = true) (fb : finF b = true) : mxF a b = mxF b a := by
  unfold mxF
  simp only [cmpF_gt]
  by_cases h1 : rk a < rk b
  · rw [if_pos h1, if_neg (by omega)]
  · rw [if_neg h1]
    by_cases h2 : rk b < rk a
    · rw [if_pos h2]
    · rw [if_neg h2]
      exact rk_inj ha hb (fin_nan fa) (by omega)
structure OkC (c : Cv) : Prop where
  k : c.kind = 1 ∨ c.kind = 2 ∨ c.kind = 3
  t : 0 ≤ c.t
  n : 0 ≤ c.n ∧ c.n ≤ 9223372036854775807
  f : finF c.sm = true ∧ finF c.mn = true ∧ finF c.mx = true
  o : okF c.sm ∧ okF c.mn ∧ okF c.mx
  z : c.n = 0 ∨ c.kind ≠ 3 → c.sm = 0 ∧ c.mn = 0 ∧ c.mx = 0
  cs : ∀ x ∈ c.cs, okC x
theorem OkV.okc {v : Vv} (h : OkV v) (p : PlainV v) : OkC v.c := ⟨h.k, h.t, h.n, h.f, ⟨p.sm, p.mn, p.mx⟩, h.z, p.ok⟩
theorem flo_comm {a b : Cv} (ha : OkC a) (hb : OkC b) : flo a b = flo b a := by
  rw [flo_def, flo_def]
  by_cases h1 : a.n = 0
  · rw [if_pos h1]
    by_cases h2 : b.n = 0
    · rw [if_pos h2]
      obtain ⟨x1, x2, x3⟩ := ha.z (.inl h1)
      obtain ⟨y1, y2, y3⟩ := hb.z (.inl h2)
      rw [x1, x2, x3, y1, y2, y3]
    · rw [if_neg h2, if_pos h1]
  · rw [if_neg h1]
    by_cases h2 : b.n = 0
    · rw [if_pos h2, if_pos h2]
    · rw [if_neg h2, if_neg h2, if_neg h1, (add_facts ha.o.1 hb.o.1 ha.f.1 hb.f.1).2, mnF_comm ha.o.2.1 hb.o.2.1 ha.f.2.1 hb.f.2.1, mxF_comm ha.o.2.2 hb.o.2.2 ha.f.2.2 hb.f.2.2]
theorem twoC_comm {a b : Cv} (ha : OkC a) (hb : OkC b) (h1 : a.kind = b.kind) (h2 : a.name = b.name) (h3 : a.help = b.help) (h4 : a.l = b.l) : twoC a b = twoC b a := by
  unfold twoC
  rw [flo_comm ha hb, h1, h2, h3, h4, mrg_comm (okC_okN ha.cs) (okC_okN hb.cs), Int.add_comm a.t, Int.add_comm a.n]
theorem twoE_comm {a b : Cv} (ha : OkC a) (hb : OkC b) : twoE a b = twoE b a := by
  unfold twoE
  rw [flo_comm ha hb, Int.add_comm a.t, Int.add_comm a.n]
def zc (c : Cv) : Cv := { c with sm := 0 }
theorem twoC_assoc {a b c : Cv} (ha : OkC a) (hb : OkC b) (hc : OkC c) : zc (twoC (twoC a b) c) = zc (twoC a (twoC b c)) := by
  have hcs : mrg (mrg (a.cs ++ b.cs) ++ c.cs) = mrg (a.cs ++ mrg (b.cs ++ c.cs)) := mrg_assoc (okC_okN ha.cs) (okC_okN hb.cs) (okC_okN hc.cs)
  have hfl : (flo (twoC a b) c).2 = (flo a (twoC b c)).2 := by
    have e1 : (twoC a b).n = a.n + b.n := rfl
    have e2 : (twoC b c).n = b.n + c.n := rfl
    have e3 : (twoC a b).mn = (flo a b).2.1 := rfl
    have e4 : (twoC a b).mx = (flo a b).2.2 := rfl
    have e5 : (twoC b c).mn = (flo b c).2.1 := rfl
    have e6 : (twoC b c).mx = (flo b c).2.2 := rfl
    rw [flo_def (twoC a b) c, flo_def a (twoC b c), e1, e2, e3, e4, e5, e6, flo_def a b, flo_def b c]
    have na := ha.n.1
    have nb := hb.n.1
    have nc := hc.n.1
    by_cases h1 : a.n = 0
    · by_cases h2 : b.n = 0
      · simp [h1, h2]
      · simp only [h1, h2, if_true, if_false, Int.zero_add]
        split <;> rfl
    · by_cases h2 : b.n = 0
      · simp only [h1, h2, if_true, if_false, Int.zero_add, Int.add_zero]
        split <;> rfl
      · have h3 : ¬ a.n + b.n = 0 := by omega
        have h4 : ¬ b.n + c.n = 0 := by omega
        by_cases h5 : c.n = 0
        · have h6 : ¬ b.n + 0 = 0 := by omega
          simp only [h1, h2, h3, h5, h6, if_true, if_false]
        · simp only [h1, h2, h3, h4, h5, if_false, mnF_assoc, mxF_assoc]
  unfold zc
  have x1 := congrArg Prod.fst hfl
  have x2 := congrArg Prod.snd hfl
  have y1 : (twoC (twoC a b) c) = ⟨a.kind, a.name, a.help, a.l, a.t + b.t + c.t, mrg (mrg (a.cs ++ b.cs) ++ c.cs), a.n + b.n + c.n, (flo (twoC a b) c).1, (flo (twoC a b) c).2.1, (flo (twoC a b) c).2.2⟩ := rfl
  have y2 : (twoC a (twoC b c)) = ⟨a.kind, a.name, a.help, a.l, a.t + (b.t + c.t), mrg (a.cs ++ mrg (b.cs ++ c.cs)), a.n + (b.n + c.n), (flo a (twoC b c)).1, (flo a (twoC b c)).2.1, (flo a (twoC b c)).2.2⟩ := rfl
  rw [y1, y2]
  simp only [Cv.mk.injEq]
  exact ⟨trivial, trivial, trivial, trivial, by omega, hcs, by omega, trivial, x1, x2⟩
end Go.Proofs.YtpiegngjpnpohaaGreat.Sn

namespace Go.Proofs.YtpiegngjpnpohaaGreat.Sn
open Go.RowKit Go.Proofs.YtpiegngjpnpohaaGreat.La Go.Proofs.YtpiegngjpnpohaaGreat.Sl Go.Proofs.YtpiegngjpnpohaaGreat.Ck Go.Proofs.YtpiegngjpnpohaaGreat.Rc Go.Proofs.YtpiegngjpnpohaaGreat.Rk Go.Proofs.YtpiegngjpnpohaaGreat.Wi Go.Proofs.YtpiegngjpnpohaaGreat.Fb Go.Proofs.YtpiegngjpnpohaaGreat.Mg Go.Proofs.YtpiegngjpnpohaaGreat.St Go.Proofs.YtpiegngjpnpohaaGreat.Bk
set_option linter.unusedVariables false
def cD (c : Cv) : DD := ⟨c.kind, c.name, c.help, none, 0, c.l⟩
def cmpC (a b : Cv) : Int := cmpD (cD a) (cD b)
theorem cmpC_v (x y : Vv) : cmpC x.c y.c = cmpD x.d y.d := cmpD_congr rfl rfl rfl rfl
theorem cmpC_zero (a b : Cv) : cmpC a b = 0 ↔ a.name = b.name ∧ a.l = b.l := cmpD_zero _ _
theorem cmpC_anti (a b : Cv) : cmpC b a = - cmpC a b := cmpD_anti _ _
theorem cmpC_lt {a b c : Cv} (h1 : cmpC a b < 0) (h2 : cmpC b c < 0) : cmpC a c < 0 := cmpD_lt _ _ _ h1 h2
theorem cmpC_key {a b a' b' : Cv} (h1 : a.name = a'.name) (h2 : a.l = a'.l) (h3 : b.name = b'.name) (h4 : b.l = b'.l) : cmpC a b = cmpC a' b' := cmpD_congr h1 h2 h3 h4
def keyB (nm : ByteArray) (l : List Lab) (c : Cv) : Bool := decide (c.name = nm) && decide (c.l = l)
theorem keyB_iff {nm : ByteArray} {l : List Lab} {c : Cv} : keyB nm l c = true ↔ c.name = nm ∧ c.l = l := by simp [keyB]
def fC (L : List Cv) (nm : ByteArray) (l : List Lab) : Option Cv := L.find? (keyB nm l)
theorem findV_c (vs : List Vv) (nm : ByteArray) (l : List Lab) : (findV vs nm l).map Vv.c = fC (vs.map Vv.c) nm l := by
  unfold fC findV
  rw [List.find?_map]
  rfl
def SortC (L : List Cv) : Prop := L.Pairwise fun a b => cmpC a b < 0
theorem SortC.tail {a : Cv} {L : List Cv} (h : SortC (a :: L)) : SortC L := (List.pairwise_cons.1 h).2
theorem SortC.head {a : Cv} {L : List Cv} (h : SortC (a :: L)) : ∀ b ∈ L, cmpC a b < 0 := (List.pairwise_cons.1 h).1
theorem fC_nil (nm : ByteArray) (l : List Lab) : fC [] nm l = none := rfl
theorem fC_cons (c : Cv) (L : List Cv) (nm : ByteArray) (l : List Lab) : fC (c :: L) nm l = if c.name = nm ∧ c.l = l then some c else fC L nm l := by
  unfold fC
  rw [List.find?_cons]
  by_cases h : c.name = nm ∧ c.l = l
  · rw [if_pos h, keyB_iff.2 h]
  · rw [if_neg h]
    have : keyB nm l c = false := by
      cases e : keyB nm l c
      · rfl
      · exact absurd (keyB_iff.1 e) h
    rw [this]
theorem fC_none {L : List Cv} {nm : ByteArray} {l : List Lab} (h : ∀ c ∈ L, ¬ (c.name = nm ∧ c.l = l)) : fC L nm l = none := by
  induction L with
  | nil => rfl
  | cons c L ih => rw [fC_cons, if_neg (h c (by simp)), ih fun x hx => h x (by simp [hx])]
theorem fC_some {L : List Cv} {nm : ByteArray} {l : List Lab} {c : Cv} (h : fC L nm l = some c) : c ∈ L ∧ c.name = nm ∧ c.l = l := by
  have h1 := List.mem_of_find?_eq_some h
  have h2 := List.find?_some h
  exact ⟨h1, keyB_iff.1 h2⟩
theorem fC_self {L : List Cv} (h : SortC L) {c : Cv} (hc : c ∈ L) : fC L c.name c.l = some c := by
  induction L with
  | nil => cases hc
  | cons a L ih =>
    rw [fC_cons]
    rcases List.mem_cons.1 hc with rfl | hc
    · rw [if_pos ⟨rfl, rfl⟩]
    · have := h.head c hc
      rw [if_neg (fun e => by have := (cmpC_zero a c).2 e; omega)]
      exact ih h.tail hc
noncomputable def mgC : List Cv → List Cv → List Cv
  | [], ys => ys
  | a :: xs, [] => a :: xs
  | a :: xs, b :: ys => if cmpC a b < 0 then a :: mgC xs (b :: ys) else if 0 < cmpC a b then b :: mgC (a :: xs) ys else twoC a b :: mgC xs ys
termination_by xs ys => xs.length + ys.length
theorem mgC_nilR (xs : List Cv) : mgC xs [] = xs := by cases xs <;> (unfold mgC; rfl)
theorem mgC_nilL (ys : List Cv) : mgC [] ys = ys := by unfold mgC; rfl
theorem mgC_cons (a b : Cv) (xs ys : List Cv) : mgC (a :: xs) (b :: ys) = if cmpC a b < 0 then a :: mgC xs (b :: ys) else if 0 < cmpC a b then b :: mgC (a :: xs) ys else twoC a b :: mgC xs ys := by rw [mgC]
theorem mz_mgC (xs ys : List Vv) : (mz xs ys).map outP = mgC (xs.map Vv.c) (ys.map Vv.c) := by
  induction xs, ys using mz.induct with
  | case1 ys =>
    rw [mz_nilL, List.map_nil, mgC_nilL, List.map_map]; rfl
  | case2 x xs =>
    rw [mz_nilR, List.map_nil, mgC_nilR, List.map_map]; rfl
  | case3 x xs y ys h ih =>
    rw [mz_left (.inr ⟨_, _, rfl, h⟩), List.map_cons, ih, List.map_cons, List.map_cons, mgC_cons, cmpC_v, if_pos h]; rfl
  | case4 x xs y ys h h2 ih =>
    rw [mz_right (.inr ⟨_, _, rfl, h2⟩), List.map_cons, ih, List.map_cons, List.map_cons, mgC_cons, cmpC_v, if_neg h, if_pos h2]; rfl
  | case5 x xs y ys h h2 ih =>
    rw [mz_both (by omega), List.map_cons, ih, List.map_cons, List.map_cons, mgC_cons, cmpC_v, if_neg h, if_neg h2]; rfl
theorem mgC_mem {X Y : List Cv} {c : Cv} (h : c ∈ mgC X Y) : c ∈ X ∨ c ∈ Y ∨ ∃ x ∈ X, ∃ y ∈ Y, cmpC x y = 0 ∧ c = twoC x y := by
  induction X, Y using mgC.induct with
  | case1 ys => rw [mgC_nilL] at h; exact .inr (.inl h)
  | case2 x xs => rw [mgC_nilR] at h; exact .inl h
  | case3 x xs y ys h1 ih =>
    rw [mgC_cons, if_pos h1] at h
    rcases List.mem_cons.1 h with rfl | h
    · exact .inl (by simp)
    · rcases ih h with h | h | ⟨u, hu, v, hv, e⟩
      · exact .inl (by simp [h])
      · exact .inr (.inl h)
      · exact .inr (.inr ⟨u, by simp [hu], v, hv, e⟩)
  | case4 x xs y ys h1 h2 ih =>
    rw [mgC_cons, if_neg h1, if_pos h2] at h
    rcases List.mem_cons.1 h with rfl | h
    · exact .inr (.inl (by simp))
    · rcases ih h with h | h | ⟨u, hu, v, hv, e⟩
      · exact .inl h
      · exact .inr (.inl (by simp [h]))
      · exact .inr (.inr ⟨u, hu, v, by simp [hv], e⟩)
  | case5 x xs y ys h1 h2 ih =>
    rw [mgC_cons, if_neg h1, if_neg h2] at h
    rcases List.mem_cons.1 h with rfl | h
    · exact .inr (.inr ⟨x, by simp, y, by simp, by omega, rfl⟩)
    · rcases ih h with h | h | ⟨u, hu, v, hv, e⟩
      · exact .inl (by simp [h])
      · exact .inr (.inl (by simp [h]))
      · exact .inr (.inr ⟨u, by simp [hu], v, by simp [hv], e⟩)
theorem mgC_head {X Y : List Cv} {a : Cv} (hx : ∀ x ∈ X, cmpC a x < 0) (hy : ∀ y ∈ Y, cmpC a y < 0) : ∀ c ∈ mgC X Y, cmpC a c < 0 := by
  intro c hc
  rcases mgC_mem hc with h | h | ⟨x, h, y, _, _, rfl⟩
  · exact hx c h
  · exact hy c h
  · rw [show cmpC a (twoC x y) = cmpC a x from cmpC_key rfl rfl rfl rfl]; exact hx x h
theorem mgC_sort {X Y : List Cv} (hx : SortC X) (hy : SortC Y) : SortC (mgC X Y) := by
  induction X, Y using mgC.induct with
  | case1 ys => rw [mgC_nilL]; exact hy
  | case2 x xs => rw [mgC_nilR]; exact hx
  | case3 x xs y ys h1 ih =>
    rw [mgC_cons, if_pos h1]
    refine List.pairwise_cons.2 ⟨mgC_head hx.head (fun u hu => ?_), ih hx.tail hy⟩
    rcases List.mem_cons.1 hu with rfl | hu
    · exact h1
    · exact cmpC_lt h1 (hy.head u hu)
  | case4 x xs y ys h1 h2 ih =>
    rw [mgC_cons, if_neg h1, if_pos h2]
    have h3 : cmpC y x < 0 := by rw [cmpC_anti]; omega
    refine List.pairwise_cons.2 ⟨mgC_head (fun u hu => ?_) hy.head, ih hx hy.tail⟩
    rcases List.mem_cons.1 hu with rfl | hu
    · exact h3
    · exact cmpC_lt h3 (hx.head u hu)
  | case5 x xs y ys h1 h2 ih =>
    rw [mgC_cons, if_neg h1, if_neg h2]
    have h3 := (cmpC_zero x y).1 (by omega)
    refine List.pairwise_cons.2 ⟨fun u hu => ?_, ih hx.tail hy.tail⟩
    rw [show cmpC (twoC x y) u = cmpC x u from cmpC_key rfl rfl rfl rfl]
    exact mgC_head hx.head (fun v hv => by rw [cmpC_key h3.1 h3.2 rfl rfl]; exact hy.head v hv) u hu
noncomputable def comb : Option Cv → Option Cv → Option Cv
  | none, y => y
  | some x, none => some x
  | some x, some y => some (twoC x y)
theorem comb_none (x : Option Cv) : comb x none = x := by cases x <;> rfl
theorem fC_behind {L : List Cv} {a : Cv} {nm : ByteArray} {l : List Lab} (h : ∀ b ∈ L, cmpC a b < 0) (hk : a.name = nm ∧ a.l = l) : fC L nm l = none :=
  fC_none fun c hc e => by
    have h0 := h c hc
    have := (cmpC_zero a c).2 ⟨hk.1.trans e.1.symm, hk.2.trans e.2.symm⟩
    omega
theorem fC_mgC {X Y : List Cv} (hx : SortC X) (hy : SortC Y) (nm : ByteArray) (l : List Lab) : fC (mgC X Y) nm l = comb (fC X nm l) (fC Y nm l) := by
  induction X, Y using mgC.induct with
  | case1 ys => rw [mgC_nilL]; rfl
  | case2 x xs => rw [mgC_nilR, fC_nil, comb_none]
  | case3 x xs y ys h1 ih =>
    rw [mgC_cons, if_pos h1, fC_cons, fC_cons x]
    by_cases hk : x.name = nm ∧ x.l = l
    · rw [if_pos hk, if_pos hk, fC_behind (a := x) (L := y :: ys) (fun u hu => ?_) hk]
      · rfl
      · rcases List.mem_cons.1 hu with rfl | hu
        · exact h1
        · exact cmpC_lt h1 (hy.head u hu)
    · rw [if_neg hk, if_neg hk]; exact ih hx.tail hy
  | case4 x xs y ys h1 h2 ih =>
    have h3 : cmpC y x < 0 := by rw [cmpC_anti]; omega
    rw [mgC_cons, if_neg h1, if_pos h2, fC_cons, fC_cons y]
    by_cases hk : y.name = nm ∧ y.l = l
    · rw [if_pos hk, if_pos hk, fC_behind (a := y) (L := x :: xs) (fun u hu => ?_) hk]
      · rfl
      · rcases List.mem_cons.1 hu with rfl | hu
        · exact h3
        · exact cmpC_lt h3 (hx.head u hu)
    · rw [if_neg hk, if_neg hk]; exact ih hx hy.tail
  | case5 x xs y ys h1 h2 ih =>
    have h3 := (cmpC_zero x y).1 (by omega)
    rw [mgC_cons, if_neg h1, if_neg h2, fC_cons, fC_cons x, fC_cons y]
    by_cases hk : x.name = nm ∧ x.l = l
    · rw [if_pos (show (twoC x y).name = nm ∧ (twoC x y).l = l from hk), if_pos hk, if_pos ⟨h3.1 ▸ hk.1, h3.2 ▸ hk.2⟩]; rfl
    · rw [if_neg (show ¬ ((twoC x y).name = nm ∧ (twoC x y).l = l) from hk), if_neg hk, if_neg (fun e => hk ⟨h3.1.trans e.1, h3.2.trans e.2⟩)]; exact ih hx.tail hy.tail
theorem fC_ext {X Y : List Cv} (hx : SortC X) (hy : SortC Y) (h : ∀ nm l, fC X nm l = fC Y nm l) : X = Y := by
  induction X generalizing Y with
  | nil =>
    cases Y with
    | nil => rfl
    | cons y Y =>
      have := h y.name y.l
      rw [fC_self hy (by simp)] at this
      cases this
  | cons x X ih =>
    cases Y with
    | nil =>
      have := h x.name x.l
      rw [fC_self hx (by simp)] at this
      cases this
    | cons y Y =>
      have h1 := h x.name x.l
      rw [fC_self hx (by simp)] at h1
      have h2 := h y.name y.l
      rw [fC_self hy (by simp)] at h2
      have m1 := (fC_some h1.symm).1
      have m2 := (fC_some h2).1
      have e : x = y := by
        rcases List.mem_cons.1 m1 with e | m1
        · exact e
        · rcases List.mem_cons.1 m2 with e | m2
          · exact e.symm
          · have q1 := hy.head x m1
            have q2 := hx.head y m2
            rw [cmpC_anti] at q1
            omega
      subst e
      congr 1
      refine ih hx.tail hy.tail fun nm l => ?_
      by_cases hk : x.name = nm ∧ x.l = l
      · rw [fC_behind hx.head hk, fC_behind hy.head hk]
      · have := h nm l
        rwa [fC_cons, fC_cons, if_neg hk, if_neg hk] at this
end Go.Proofs.YtpiegngjpnpohaaGreat.Sn
