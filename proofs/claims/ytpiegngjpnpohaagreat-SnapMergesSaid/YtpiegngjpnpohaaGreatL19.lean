/- Lemmas for the laws of this seat, laid together of Sn8, Sn9. -/
import Derived.Test.YtpiegngjpnpohaaGreatL18
import Derived.Laws.OwnMore
import Derived.Lib.SliceRun

namespace Go.Proofs.YtpiegngjpnpohaaGreat.Sn
open Go.RowKit Go.Proofs.YtpiegngjpnpohaaGreat.La Go.Proofs.YtpiegngjpnpohaaGreat.Sl Go.Proofs.YtpiegngjpnpohaaGreat.Ck Go.Proofs.YtpiegngjpnpohaaGreat.Rc Go.Proofs.YtpiegngjpnpohaaGreat.Rk Go.Proofs.YtpiegngjpnpohaaGreat.Wi Go.Proofs.YtpiegngjpnpohaaGreat.Fb
set_option linter.unusedVariables false
set_option maxRecDepth 100000 in
set_option maxHeartbeats 8000000 in
theorem rcheck_any (s : Ss) (w : World) (h : SAt s w w.heap.size) :
    Calls Tryz.prog 13 #[s.v] w fun e w' => e = .returned (.tuple #[.int .i64 (chkS s.p s.vs).1, .int .i64 (chkS s.p s.vs).2]) ∧ Below w.heap.size w w' := by
  have hvs := h.vs
  have hcap := h.cap
  have hlen := h.len
  have hp := h.p
  unfold Ss.v
  obtain ⟨p, A, c, vs, rf⟩ := s
  dsimp only at *
  clear h
  by_cases hp2 : p < 1 ∨ 14 < p
  · have e : chkS p vs = (1, 0) := by unfold chkS; rw [if_pos hp2]
    rw [e]
    generalize vs.length = n at *
    have hc : decide (p < 1) = true ∨ (decide (p < 1) = false ∧ (14 : Int) < p) := by
      by_cases g : p < 1
      · exact .inl (decide_eq_true g)
      · exact .inr ⟨decide_eq_false g, by omega⟩
    rcases hc with hc | ⟨hc1, hc2⟩
    all_goals
      go_enter Tryz.func13, Tryz.ntmps13
      go_wp2
      go_ret2
      exact ⟨rfl, (Below.refl _ _).alloc (Nat.le_refl _) _⟩
  · have hc1 : decide (p < 1) = false := decide_eq_false (by omega)
    have hc2 : ¬ (14 : Int) < p := by omega
    by_cases hn : 256 < vs.length
    · have e : chkS p vs = (3, 256) := by unfold chkS; rw [if_neg hp2, if_pos hn]
      rw [e]
      generalize vs.length = n at *
      have hnI : (256 : Int) < (n : Int) := by omega
      go_enter Tryz.func13, Tryz.ntmps13
      go_wp2
      go_ret2
      exact ⟨rfl, (Below.refl _ _).alloc (Nat.le_refl _) _⟩
    · have e : chkS p vs = scan p none vs 0 := by unfold chkS; rw [if_neg hp2, if_neg hn]
      rw [e]
      obtain ⟨R, hR⟩ : ∃ R, R = scan p none vs 0 := ⟨_, rfl⟩
      rw [← hR]
      obtain ⟨r1, r2⟩ := R
      dsimp only
      obtain ⟨n, hnd⟩ : ∃ n, n = vs.length := ⟨_, rfl⟩
      rw [← hnd] at hn hcap ⊢
      have hnI : ¬ (256 : Int) < (n : Int) := by omega
      clear e hp2 hcap hlen hn hp
      replace hvs := Lib.hid hvs
      replace hR := Lib.hid hR
      replace hnd := Lib.hid hnd
      go_enter Tryz.func13, Tryz.ntmps13
      go_upto_region 1 with fail
      have hb1 : Below w.heap.size w (w.alloc (.cells #[.int .i64 p, .slice A n c, .int .u64 rf] 25)) := (Below.refl _ _).alloc (Nat.le_refl _) _
      have hs1 : (w.alloc (.cells #[.int .i64 p, .slice A n c, .int .u64 rf] 25)).heap.size = w.heap.size + 1 := by simp
      have y0 : (w.alloc (.cells #[.int .i64 p, .slice A n c, .int .u64 rf] 25)).cell? ⟨w.heap.size, 0, none⟩ = some (.int .i64 p) := by rw [Mg.cell_new]; rfl
      have y1 : (w.alloc (.cells #[.int .i64 p, .slice A n c, .int .u64 rf] 25)).cell? ⟨w.heap.size, 1, none⟩ = some (.slice A n c) := by rw [Mg.cell_new]; rfl
      obtain ⟨w1, hw1⟩ : ∃ w1, w1 = w.alloc (.cells #[.int .i64 p, .slice A n c, .int .u64 rf] 25) := ⟨_, rfl⟩
      rw [← hw1] at hb1 hs1 y0 y1 ⊢
      clear hw1
      go_wp2
      go_loopw [4] (fun v wr => ∃ k : Nat, v = .int .i64 (k : Int) ∧ k ≤ n ∧ Below w1.heap.size w1 wr ∧ Hid (scan p (prevV vs k) (vs.drop k) k = (r1, r2))) (fun v _ => n - (intOf v).toNat)
      case atStart => exact ⟨0, rfl, Nat.zero_le _, Below.refl _ _, Lib.hid (by rw [hR.out]; rfl)⟩
      case round =>
        obtain ⟨k, rfl, hk, hbr, hsc⟩ := hrel
        have hbw : Below w.heap.size w wr := hb1.trans (hbr.mono hb1.size)
        have ycell := kc hbr (by omega) y1
        have ypr := kc hbr (by omega) y0
        by_cases hlt : k < n
        · have hil : k < vs.length := by rw [← hnd.out]; exact hlt
          have hnext := hsc.out
          rw [scan_next hil] at hnext
          obtain ⟨v, hv⟩ : ∃ v, v = vs[k] := ⟨_, rfl⟩
          have hva : VAt v w w.heap.size := by rw [hv]; exact hvs.out.all _ (List.getElem_mem hil)
          obtain ⟨b, off, hA, hbB, x0, x1, x2, x3, x4, x5, x6, x7, x8, x9, x10⟩ := (hvs.out.below hbw).cells k hil
          rw [← hv] at hnext x0 x1 x2 x3 x4 x5 x6 x7 x8 x9 x10
          subst hA
          replace hv := Lib.hid hv
          have gI : (k : Int) < (n : Int) := by omega
          have gI0 : (0 : Int) ≤ (k : Int) := by omega
          replace hsc := Lib.hid hsc
          have cck := fun W (kk : Below w.heap.size w W) => hva.d.rcheck (Nat.le_refl _) kk
          have cho := fun W (kk : Below w.heap.size w W) => rholds_any p v W ((hva.below kk).mono kk.size)
          have hprev : 0 < k → ∃ u, prevV vs k = some u ∧ vs[k - 1]? = some u := fun h0 => by
            refine ⟨vs[k - 1], ?_, List.getElem?_eq_getElem (by omega)⟩
            unfold prevV
            rw [if_neg (by omega), List.getElem?_eq_getElem (by omega)]
          obtain ⟨me, hme⟩ : ∃ me, me = chkD v.d := ⟨_, rfl⟩
          obtain ⟨ho, hho⟩ : ∃ ho, ho = holdB p v := ⟨_, rfl⟩
          have hstep : stepE p (prevV vs k) v = if me ≠ 0 then me else if ho = false then 2 else match prevV vs k with
            | none => 0
            | some u => behV u v := by rw [hme, hho]; rfl
          rw [← hme] at cck
          rw [← hho] at cho
          replace cck := Lib.hid cck
          replace cho := Lib.hid cho
          replace hprev := Lib.hid hprev
          replace hstep := Lib.hid hstep
          replace hnext := Lib.hid hnext
          clear hme hho
          obtain ⟨ln, hln⟩ : ∃ ln, ln = v.d.l.length := ⟨_, rfl⟩
          obtain ⟨cn, hcn⟩ : ∃ cn, cn = v.cs.length := ⟨_, rfl⟩
          rw [← hln] at x3
          rw [← hcn] at x6
          replace hln := Lib.hid hln
          replace hcn := Lib.hid hcn
          have vget := fun W (kk : Below w.heap.size w W) (hk0 : 0 < k) => (hvs.out.below kk).cells (k - 1) (by rw [← hnd.out]; omega)
          replace vget := Lib.hid vget
          go_upto_region 9 with fail
          have hb3 : Below wr.heap.size wr (wr.alloc (.cells #[.int .i64 v.d.kind, .string v.d.name, .string v.d.help, .slice v.d.A ln v.d.c] 43)) := (Below.refl _ _).alloc (Nat.le_refl _) _
          have p0 : (wr.alloc (.cells #[.int .i64 v.d.kind, .string v.d.name, .string v.d.help, .slice v.d.A ln v.d.c] 43)).cell? ⟨wr.heap.size, 0, none⟩ = some (.int .i64 v.d.kind) := by rw [Mg.cell_new]; rfl
          have p1 : (wr.alloc (.cells #[.int .i64 v.d.kind, .string v.d.name, .string v.d.help, .slice v.d.A ln v.d.c] 43)).cell? ⟨wr.heap.size, 1, none⟩ = some (.string v.d.name) := by rw [Mg.cell_new]; rfl
          have p2 : (wr.alloc (.cells #[.int .i64 v.d.kind, .string v.d.name, .string v.d.help, .slice v.d.A ln v.d.c] 43)).cell? ⟨wr.heap.size, 2, none⟩ = some (.string v.d.help) := by rw [Mg.cell_new]; rfl
          have p3 : (wr.alloc (.cells #[.int .i64 v.d.kind, .string v.d.name, .string v.d.help, .slice v.d.A ln v.d.c] 43)).cell? ⟨wr.heap.size, 3, none⟩ = some (.slice v.d.A ln v.d.c) := by rw [Mg.cell_new]; rfl
          have hlt3 : wr.heap.size < (wr.alloc (.cells #[.int .i64 v.d.kind, .string v.d.name, .string v.d.help, .slice v.d.A ln v.d.c] 43)).heap.size := by simp
          obtain ⟨w3, hw3⟩ : ∃ w3, w3 = wr.alloc (.cells #[.int .i64 v.d.kind, .string v.d.name, .string v.d.help, .slice v.d.A ln v.d.c] 43) := ⟨_, rfl⟩
          rw [← hw3] at hb3 p0 p1 p2 p3 hlt3 ⊢
          clear hw3 x0 x1 x2 x3 x4 x5 x6 x7 x8 x9 x10 ycell ypr
          have hbw3 := hbw.trans (hb3.mono hbw.size)
          have hbr3 := hbr.trans (hb3.mono hbr.size)
          have cck' := cck.out w3 hbw3
          unfold DD.v at cck'
          rw [← hln.out] at cck'
          go_upto_region 10 with (go_at_call 49; refine cck'.mono ?_; rintro e w4 ⟨rfl, hb4⟩)
          clear cck' cck
          have hlt4 : wr.heap.size < w4.heap.size := Nat.lt_of_lt_of_le hlt3 hb4.size
          have hbw4 := hbw3.trans (hb4.mono hbw3.size)
          have hbr4 := hbr3.trans (hb4.mono hbr3.size)
          have pp0 := kc hb4 hlt3 p0
          have pp1 := kc hb4 hlt3 p1
          have pp2 := kc hb4 hlt3 p2
          have pp3 := kc hb4 hlt3 p3
          clear p0 p1 p2 p3
          by_cases hme : me = 0
          · subst hme
            have hstep2 := hstep.out
            rw [if_neg (by decide)] at hstep2
            go_upto_region 12 with fail
            have ycell := kc hbr4 (by omega) y1
            have ypr := kc hbr4 (by omega) y0
            obtain ⟨b', off', hA', hbB', x0, x1, x2, x3, x4, x5, x6, x7, x8, x9, x10⟩ := (hvs.out.below hbw4).cells k hil
            cases hA'
            rw [← hv.out] at x0 x1 x2 x3 x4 x5 x6 x7 x8 x9 x10
            rw [← hln.out] at x3
            rw [← hcn.out] at x6
            have cho' := cho.out
            unfold Vv.v at cho'
            rw [← hln.out, ← hcn.out] at cho'
            replace cho' := Lib.hid cho'
            refine Reg.region_below (by kernel_rfl) (by kernel_rfl) ?_
            intro Sx _ f hf hs
            have hwlt4 : w.heap.size < w4.heap.size := by have := hbr4.size; omega
            have e0 := Reg.keepc hf hwlt4 ycell
            have e1 := Reg.keepc hf hwlt4 ypr
            have hbb : b < w4.heap.size := by have := hbw4.size; omega
            have d0 := Reg.keepc hf hbb x0
            have d1 := Reg.keepc hf hbb x1
            have d2 := Reg.keepc hf hbb x2
            have d3 := Reg.keepc hf hbb x3
            have d4 := Reg.keepc hf hbb x4
            have d5 := Reg.keepc hf hbb x5
            have d6 := Reg.keepc hf hbb x6
            have d7 := Reg.keepc hf hbb x7
            have d8 := Reg.keepc hf hbb x8
            have d9 := Reg.keepc hf hbb x9
            have d10 := Reg.keepc hf hbb x10
            have kk := fun s => hbw4.trans ((hf s).mono hbw4.size)
            have qh := fun s => cho'.out (f s) (kk s)
            clear x0 x1 x2 x3 x4 x5 x6 x7 x8 x9 x10 ycell ypr
            repeat (go_big_quiet_step ((go_at_call 50; with_reducible exact Reg.met hs (qh _))))
            refine wpQuiet_nil ?_
            intro s
            have hb5 := hf s
            obtain ⟨w5, hw5⟩ : ∃ w5, w5 = f s := ⟨_, rfl⟩
            rw [← hw5] at hb5 ⊢
            clear hw5 qh kk d0 d1 d2 d3 d4 d5 d6 d7 d8 d9 d10 e0 e1 hf hs cho' cho
            have hlt5 : wr.heap.size < w5.heap.size := Nat.lt_of_lt_of_le hlt4 hb5.size
            have hbw5 := hbw4.trans (hb5.mono hbw4.size)
            have hbr5 := hbr4.trans (hb5.mono hbr4.size)
            have p0 := kc hb5 hlt4 pp0
            have p1 := kc hb5 hlt4 pp1
            have p2 := kc hb5 hlt4 pp2
            have p3 := kc hb5 hlt4 pp3
            clear pp0 pp1 pp2 pp3
            cases ho
            · rw [if_pos rfl] at hstep2
              have hfin := hnext.out
              rw [hstep2, if_pos (by decide)] at hfin
              obtain ⟨rfl, rfl⟩ : 2 = r1 ∧ (k : Int) = r2 := by simpa using hfin
              go_wp2
              go_ret2
              exact ⟨rfl, hbw5⟩
            · rw [if_neg (by decide)] at hstep2
              by_cases hk0 : k = 0
              · have hfin := hnext.out
                have hpn : prevV vs k = none := by unfold prevV; rw [if_pos hk0]
                rw [hstep2, hpn] at hfin
                dsimp only at hfin
                rw [if_neg (by decide)] at hfin
                replace hfin := Lib.hid hfin
                have gk0 : ((k : Int) == 0) = true := by simp [hk0]
                go_wp2
                exact ⟨⟨k + 1, by go_num, hlt, hbr5, hfin⟩, by simp [intOf]; omega⟩
              · have gk0 : ((k : Int) == 0) = false := by simp [hk0]
                go_upto_region 16 with fail
                have ycell := kc hbr5 (by omega) y1
                obtain ⟨u, hu1, hu2⟩ := hprev.out (by omega)
                rw [hu1] at hstep2
                dsimp only at hstep2
                obtain ⟨b', off', hA', hbB', x0, x1, x2, x3, _⟩ := vget.out w5 hbw5 (by omega)
                cases hA'
                obtain ⟨hkl, hue⟩ := List.getElem?_eq_some_iff.1 hu2
                rw [hue] at x0 x1 x2 x3
                have hua : VAt u w w.heap.size := hvs.out.all u (by rw [← hue]; exact List.getElem_mem hkl)
                have gI1 : (1 : Int) ≤ (k : Int) := by omega
                have gI2 : (k : Int) - 1 < (n : Int) := by omega
                obtain ⟨lu, hlu⟩ : ∃ lu, lu = u.d.l.length := ⟨_, rfl⟩
                rw [← hlu] at x3
                have ccm := fun W (kk : Below w.heap.size w W) => hua.d.rcmp hva.d (Nat.le_refl _) kk
                unfold DD.v at ccm
                rw [← hlu, ← hln.out] at ccm
                have hfin := hnext.out
                rw [hu1, hstep2] at hfin
                unfold behV at hfin
                obtain ⟨cm, hcm⟩ : ∃ cm, cm = cmpD u.d v.d := ⟨_, rfl⟩
                rw [← hcm] at hfin ccm
                replace hfin := Lib.hid hfin
                replace hlu := Lib.hid hlu
                replace ccm := Lib.hid ccm
                clear hcm hstep2 hue hu1 hu2 hkl hprev vget hstep hnext
                go_upto_region 17 with fail
                have hb6 : Below w5.heap.size w5 (w5.alloc (.cells #[.int .i64 u.d.kind, .string u.d.name, .string u.d.help, .slice u.d.A lu u.d.c] 43)) := (Below.refl _ _).alloc (Nat.le_refl _) _
                have g0 : (w5.alloc (.cells #[.int .i64 u.d.kind, .string u.d.name, .string u.d.help, .slice u.d.A lu u.d.c] 43)).cell? ⟨w5.heap.size, 0, none⟩ = some (.int .i64 u.d.kind) := by rw [Mg.cell_new]; rfl
                have g1 : (w5.alloc (.cells #[.int .i64 u.d.kind, .string u.d.name, .string u.d.help, .slice u.d.A lu u.d.c] 43)).cell? ⟨w5.heap.size, 1, none⟩ = some (.string u.d.name) := by rw [Mg.cell_new]; rfl
                have g2 : (w5.alloc (.cells #[.int .i64 u.d.kind, .string u.d.name, .string u.d.help, .slice u.d.A lu u.d.c] 43)).cell? ⟨w5.heap.size, 2, none⟩ = some (.string u.d.help) := by rw [Mg.cell_new]; rfl
                have g3 : (w5.alloc (.cells #[.int .i64 u.d.kind, .string u.d.name, .string u.d.help, .slice u.d.A lu u.d.c] 43)).cell? ⟨w5.heap.size, 3, none⟩ = some (.slice u.d.A lu u.d.c) := by rw [Mg.cell_new]; rfl
                have hs6 : w5.heap.size < (w5.alloc (.cells #[.int .i64 u.d.kind, .string u.d.name, .string u.d.help, .slice u.d.A lu u.d.c] 43)).heap.size := by simp
                obtain ⟨w6, hw6⟩ : ∃ w6, w6 = w5.alloc (.cells #[.int .i64 u.d.kind, .string u.d.name, .string u.d.help, .slice u.d.A lu u.d.c] 43) := ⟨_, rfl⟩
                rw [← hw6] at hb6 g0 g1 g2 g3 hs6 ⊢
                clear hw6 x0 x1 x2 x3
                have hlt6 : wr.heap.size < w6.heap.size := Nat.lt_of_lt_of_le hlt5 hb6.size
                have hbw6 := hbw5.trans (hb6.mono hbw5.size)
                have hbr6 := hbr5.trans (hb6.mono hbr5.size)
                have m0 := kc hb6 hlt5 p0
                have m1 := kc hb6 hlt5 p1
                have m2 := kc hb6 hlt5 p2
                have m3 := kc hb6 hlt5 p3
                clear p0 p1 p2 p3
                go_upto_region 18 with (go_at_call 51; refine (ccm.out _ hbw6).mono ?_; rintro e w7 ⟨rfl, hb7⟩)
                have hbw7 := hbw6.trans (hb7.mono hbw6.size)
                have hbr7 := hbr6.trans (hb7.mono hbr6.size)
                have q0 := kc hb7 hs6 g0
                have q1 := kc hb7 hs6 g1
                have q2 := kc hb7 hs6 g2
                have q3 := kc hb7 hs6 g3
                have z0 := kc hb7 hlt6 m0
                have z1 := kc hb7 hlt6 m1
                have z2 := kc hb7 hlt6 m2
                have z3 := kc hb7 hlt6 m3
                clear m0 m1 m2 m3 g0 g1 g2 g3 ycell
                have hfin := hfin.out
                by_cases hc0 : cm = 0
                · rw [if_pos hc0, if_pos (by decide)] at hfin
                  obtain ⟨rfl, rfl⟩ : 10 = r1 ∧ (k : Int) = r2 := by simpa using hfin
                  subst hc0
                  go_wp2
                  go_ret2
                  exact ⟨rfl, hbw7⟩
                · have hc0' : (cm == 0) = false := by simpa using hc0
                  rw [if_neg hc0] at hfin
                  by_cases hc1 : 0 < cm
                  · rw [if_pos hc1, if_pos (by decide)] at hfin
                    obtain ⟨rfl, rfl⟩ : 15 = r1 ∧ (k : Int) = r2 := by simpa using hfin
                    clear hc0
                    go_wp2
                    go_ret2
                    exact ⟨rfl, hbw7⟩
                  · rw [if_neg hc1] at hfin
                    clear hc0
                    by_cases hnm : u.d.name = v.d.name
                    · have hnm' : (u.d.name.toList == v.d.name.toList) = true := by rw [beqS]; exact decide_eq_true hnm
                      by_cases hkd : u.d.kind = v.d.kind
                      · have hkd' : (u.d.kind != v.d.kind) = false := by simpa using hkd
                        by_cases hhp : u.d.help = v.d.help
                        · have hhp' : (u.d.help.toList == v.d.help.toList) = true := by rw [beqS]; exact decide_eq_true hhp
                          rw [if_neg (c := u.d.name = v.d.name ∧ ¬ (u.d.kind = v.d.kind ∧ u.d.help = v.d.help)) (fun h => h.2 ⟨hkd, hhp⟩), if_neg (by decide)] at hfin
                          replace hfin := Lib.hid hfin
                          replace hnm := Lib.hid hnm
                          replace hkd := Lib.hid hkd
                          replace hhp := Lib.hid hhp
                          go_wp2
                          exact ⟨⟨k + 1, by go_num, hlt, hbr7, hfin⟩, by simp [intOf]; omega⟩
                        · have hhp' : (u.d.help.toList == v.d.help.toList) = false := by rw [beqS]; exact decide_eq_false hhp
                          rw [if_pos (c := u.d.name = v.d.name ∧ ¬ (u.d.kind = v.d.kind ∧ u.d.help = v.d.help)) ⟨hnm, fun h => hhp h.2⟩, if_pos (by decide)] at hfin
                          obtain ⟨rfl, rfl⟩ : 12 = r1 ∧ (k : Int) = r2 := by simpa using hfin
                          replace hnm := Lib.hid hnm
                          replace hkd := Lib.hid hkd
                          replace hhp := Lib.hid hhp
                          go_wp2
                          go_ret2
                          exact ⟨rfl, hbw7⟩
                      · have hkd' : (u.d.kind != v.d.kind) = true := by simpa using hkd
                        rw [if_pos (c := u.d.name = v.d.name ∧ ¬ (u.d.kind = v.d.kind ∧ u.d.help = v.d.help)) ⟨hnm, fun h => hkd h.1⟩, if_pos (by decide)] at hfin
                        obtain ⟨rfl, rfl⟩ : 12 = r1 ∧ (k : Int) = r2 := by simpa using hfin
                        replace hnm := Lib.hid hnm
                        replace hkd := Lib.hid hkd
                        go_wp2
                        go_ret2
                        exact ⟨rfl, hbw7⟩
                    · have hnm' : (u.d.name.toList == v.d.name.toList) = false := by rw [beqS]; exact decide_eq_false hnm
                      rw [if_neg (c := u.d.name = v.d.name ∧ ¬ (u.d.kind = v.d.kind ∧ u.d.help = v.d.help)) (fun h => hnm h.1), if_neg (by decide)] at hfin
                      replace hfin := Lib.hid hfin
                      replace hnm := Lib.hid hnm
                      go_wp2
                      exact ⟨⟨k + 1, by go_num, hlt, hbr7, hfin⟩, by simp [intOf]; omega⟩
          · have hstep2 := hstep.out
            rw [if_pos hme] at hstep2
            have hfin := hnext.out
            rw [hstep2, if_pos hme] at hfin
            obtain ⟨rfl, rfl⟩ : me = r1 ∧ (k : Int) = r2 := by simpa using hfin
            have hme' : (me != 0) = true := by simpa using hme
            clear hstep2 hfin hme
            go_wp2
            go_ret2
            exact ⟨rfl, hbw4⟩
        · obtain rfl : k = n := by omega
          have := hsc.out
          rw [scan_end (by rw [hnd.out]; exact Nat.le_refl _)] at this
          cases this
          go_wp2
          go_ret2
          exact ⟨rfl, hbw⟩
end Go.Proofs.YtpiegngjpnpohaaGreat.Sn

namespace Go.Proofs.YtpiegngjpnpohaaGreat.Sn
open Go.RowKit Go.Proofs.YtpiegngjpnpohaaGreat.La Go.Proofs.YtpiegngjpnpohaaGreat.Sl Go.Proofs.YtpiegngjpnpohaaGreat.Ck Go.Proofs.YtpiegngjpnpohaaGreat.Rc Go.Proofs.YtpiegngjpnpohaaGreat.Rk Go.Proofs.YtpiegngjpnpohaaGreat.Wi Go.Proofs.YtpiegngjpnpohaaGreat.Fb
set_option linter.unusedVariables false
theorem info_cnt : (Tryz.prog.info? 54).map (fun i => (i.zero, i.size, i.bytes)) = some (some (.agg #[.int .i64 0, .int .u64 0]), 2, 16) := by kernel_rfl
theorem info_lab : (Tryz.prog.info? 103).map (fun i => (i.zero, i.size, i.bytes)) = some (some (.agg #[.string ⟨#[]⟩, .string ⟨#[]⟩]), 2, 32) := by kernel_rfl
theorem inf3 {i : Option TypeInfo} {z : Value} {s b : Nat} (h : i.map (fun i => (i.zero, i.size, i.bytes)) = some (some z, s, b)) : ∃ x, i = some x ∧ x.zero = some z ∧ x.size = s ∧ x.bytes = b := by
  cases i with
  | none => cases h
  | some x =>
    simp only [Option.map_some, Option.some.injEq, Prod.mk.injEq] at h
    exact ⟨x, rfl, h.1, h.2.1, h.2.2⟩
theorem flat_ok (l : List Cnt) : ∀ u ∈ flat l, u.oneCell' = true := by
  intro u hu
  unfold flat at hu
  obtain ⟨c, _, hc⟩ := List.mem_flatMap.1 hu
  simp at hc
  rcases hc with rfl | rfl <;> rfl
theorem labs_ok (l : List Lab) : ∀ u ∈ labs l, u.oneCell' = true := by
  intro u hu
  unfold labs at hu
  obtain ⟨c, _, hc⟩ := List.mem_flatMap.1 hu
  simp [labV] at hc
  rcases hc with rfl | rfl <;> rfl
theorem run_clip {P : Program} (t e : TypeId) (ht : P.underlying t = some (.slice e)) {i : TypeInfo} {s : Nat} (hi : P.info? e = some i) (hs : i.size = s) (A : Option Addr) (n cap : Nat) (hk : n ≤ cap) (W : World) :
    (Instr.slice t (.slice A n cap) none (some (.int .i64 n)) (some (.int .i64 n))).run P W = .ok (.slice A n n) W := by
  have he : P.elem t = e := by simp [Program.elem, ht]
  have ht' : P.underlying t = some (.slice (P.elem t)) := by rw [he]; exact ht
  rw [run_slice_hm W t A n cap ht' .i64 .i64 (n : Int) (n : Int) (by omega) (by omega) (by omega), he, Sl.run_sizeOf hi, hs]
  cases A <;> simp [Result.andThen, sliced, Addr.add]
def ClonePost (w : World) (e : TypeId) (s n : Nat) (xs : List Value) (en : Ending) (w' : World) : Prop :=
  ∃ A c, en = .returned (.slice A n c) ∧ w'.ownsRow w.heap.size e s (.slice A n c) n xs ∧ Below w.heap.size w w'
set_option maxRecDepth 100000 in
theorem cloneC_any (l : List Cnt) (A : Option Addr) (c : Nat) (B : Nat) (w : World) (h : Rd w B 2 A (flat l) l.length) (hl : l.length ≤ 8796093022208) :
    Calls Tryz.prog 111 #[.slice A l.length c] w (ClonePost w 54 2 l.length (flat l)) := by
  obtain ⟨i0, hinf, hz0, hz1, hz2⟩ := inf3 info_cnt
  cases A with
  | none =>
    have hl0 : l.length = 0 := by
      rcases Nat.eq_zero_or_pos l.length with h0 | h0
      · exact h0
      · obtain ⟨b, off, e, _⟩ := h.cells h0; cases e
    have e : flat l = [] := List.eq_nil_of_length_eq_zero (by rw [h.len, hl0])
    rw [e, hl0]
    clear h hl e hl0
    have heq := fun W => Lib.run_eql_slice_nil (P := Tryz.prog) W 46 54 none 0 c 0 0 Tryz.underlying46
    go_enter Tryz.func111, Tryz.ntmps111
    go_wp2
    go_ret
    exact ⟨none, 0, rfl, World.ownsRow_nil w _ _ _, Below.refl _ _⟩
  | some a =>
    have h1 := flat_ok l
    obtain ⟨n, hn⟩ : ∃ n, n = l.length := ⟨_, rfl⟩
    rw [← hn] at h hl ⊢
    have hr : ∀ o, Rd (w.alloc o) (B + w.heap.size + 1) 2 (some a) (flat l) n := fun o => by
      refine ⟨h.len, fun h0 => ?_⟩
      obtain ⟨b, off, e, hb, hc⟩ := h.cells h0
      refine ⟨b, off, e, by omega, fun j u hu => ?_⟩
      have hx := hc j u hu
      have hlt := World.block_lt_of_cell? w _ hx
      exact kc ((Below.refl w.heap.size w).alloc (Nat.le_refl _) o) hlt hx
    have ho := World.ownsRow_lit (base := w.heap.size) (e := 54) (size := 2) w #[] 0 (Nat.le_refl _) (Nat.zero_le _) rfl
    generalize flat l = xs at *
    replace hr := Lib.hid hr
    replace ho := Lib.hid ho
    clear h hn
    have heq := fun W => Lib.run_eql_slice_nil (P := Tryz.prog) W 46 54 (some a) n c 0 0 Tryz.underlying46
    go_enter Tryz.func111, Tryz.ntmps111
    go_wp2_with (at_builtin; refine wpList_append_rd rfl _ _ _ rfl w.heap.size 54 Tryz.underlying46 hinf hz0 hz1 hz2 rfl (by decide) rfl ho.out rfl (hr.out _) h1 (by unfold maxLen; omega) (by omega) (by simp) ?_; intro A1 c1 w1 ho1 hb1 hs1)
    go_ret
    refine ⟨A1, c1, by simp, ?_, ((Below.refl _ _).alloc (Nat.le_refl _) _).trans hb1⟩
    simpa using ho1
set_option maxRecDepth 100000 in
theorem cloneL_any (l : List Lab) (A : Option Addr) (c : Nat) (B : Nat) (w : World) (h : Rd w B 2 A (labs l) l.length) (hl : l.length ≤ 4398046511104) :
    Calls Tryz.prog 160 #[.slice A l.length c] w (ClonePost w 103 2 l.length (labs l)) := by
  obtain ⟨i0, hinf, hz0, hz1, hz2⟩ := inf3 info_lab
  cases A with
  | none =>
    have hl0 : l.length = 0 := by
      rcases Nat.eq_zero_or_pos l.length with h0 | h0
      · exact h0
      · obtain ⟨b, off, e, _⟩ := h.cells h0; cases e
    have e : labs l = [] := List.eq_nil_of_length_eq_zero (by rw [h.len, hl0])
    rw [e, hl0]
    clear h hl e hl0
    have heq := fun W => Lib.run_eql_slice_nil (P := Tryz.prog) W 36 103 none 0 c 0 0 Tryz.underlying36
    go_enter Tryz.func160, Tryz.ntmps160
    go_wp2
    go_ret
    exact ⟨none, 0, rfl, World.ownsRow_nil w _ _ _, Below.refl _ _⟩
  | some a =>
    have h1 := labs_ok l
    obtain ⟨n, hn⟩ : ∃ n, n = l.length := ⟨_, rfl⟩
    rw [← hn] at h hl ⊢
    have hr : ∀ o, Rd (w.alloc o) (B + w.heap.size + 1) 2 (some a) (labs l) n := fun o => by
      refine ⟨h.len, fun h0 => ?_⟩
      obtain ⟨b, off, e, hb, hc⟩ := h.cells h0
      refine ⟨b, off, e, by omega, fun j u hu => ?_⟩
      have hx := hc j u hu
      have hlt := World.block_lt_of_cell? w _ hx
      exact kc ((Below.refl w.heap.size w).alloc (Nat.le_refl _) o) hlt hx
    have ho := World.ownsRow_lit (base := w.heap.size) (e := 103) (size := 2) w #[] 0 (Nat.le_refl _) (Nat.zero_le _) rfl
    generalize labs l = xs at *
    replace hr := Lib.hid hr
    replace ho := Lib.hid ho
    clear h hn
    have heq := fun W => Lib.run_eql_slice_nil (P := Tryz.prog) W 36 103 (some a) n c 0 0 Tryz.underlying36
    go_enter Tryz.func160, Tryz.ntmps160
    go_wp2_with (at_builtin; refine wpList_append_rd rfl _ _ _ rfl w.heap.size 103 Tryz.underlying36 hinf hz0 hz1 hz2 rfl (by decide) rfl ho.out rfl (hr.out _) h1 (by unfold maxLen; omega) (by omega) (by simp) ?_; intro A1 c1 w1 ho1 hb1 hs1)
    go_ret
    refine ⟨A1, c1, by simp, ?_, ((Below.refl _ _).alloc (Nat.le_refl _) _).trans hb1⟩
    simpa using ho1
theorem clipC_any (A : Option Addr) (n c : Nat) (h : n ≤ c) (w : World) :
    Calls Tryz.prog 110 #[.slice A n c] w fun e w' => e = .returned (.slice A n n) ∧ w' = w := by
  obtain ⟨i0, hinf, hz0, hz1, hz2⟩ := inf3 info_cnt
  have t1 := run_clip 46 54 Tryz.underlying46 hinf hz1 A n c h
  clear h hinf hz0 hz1 hz2
  go_enter Tryz.func110, Tryz.ntmps110
  go_wp2
  go_ret
  exact ⟨rfl, rfl⟩
theorem clipL_any (A : Option Addr) (n c : Nat) (h : n ≤ c) (w : World) :
    Calls Tryz.prog 159 #[.slice A n c] w fun e w' => e = .returned (.slice A n n) ∧ w' = w := by
  obtain ⟨i0, hinf, hz0, hz1, hz2⟩ := inf3 info_lab
  have t1 := run_clip 36 103 Tryz.underlying36 hinf hz1 A n c h
  clear h hinf hz0 hz1 hz2
  go_enter Tryz.func159, Tryz.ntmps159
  go_wp2
  go_ret
  exact ⟨rfl, rfl⟩
end Go.Proofs.YtpiegngjpnpohaaGreat.Sn
