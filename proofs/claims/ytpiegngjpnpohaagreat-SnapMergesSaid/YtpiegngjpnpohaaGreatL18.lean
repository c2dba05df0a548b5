/- Lemmas for the laws of this seat, laid together of Sn6, Sn7. -/
import Derived.Test.YtpiegngjpnpohaaGreatL17

namespace Go.Proofs.YtpiegngjpnpohaaGreat.Sn
open Go.RowKit Go.Proofs.YtpiegngjpnpohaaGreat.La Go.Proofs.YtpiegngjpnpohaaGreat.Sl Go.Proofs.YtpiegngjpnpohaaGreat.Ck Go.Proofs.YtpiegngjpnpohaaGreat.Rc Go.Proofs.YtpiegngjpnpohaaGreat.Rk Go.Proofs.YtpiegngjpnpohaaGreat.Wi Go.Proofs.YtpiegngjpnpohaaGreat.Fb
set_option linter.unusedVariables false
theorem hi_sign {t : Int} (h : In t) : (0 ≤ hiI t) = (0 ≤ t) := by unfold In at h; unfold hiI; apply propext; omega
def RH (k0 tt n me tf g4 : Int) (cn : Nat) (u z f hb r : Bool) : Prop :=
  (k0 = 1 ∧ ((decide (0 ≤ hiI tt) = false ∧ r = false) ∨ (decide (0 ≤ hiI tt) = true ∧ cn ≠ 0 ∧ r = false) ∨ (decide (0 ≤ hiI tt) = true ∧ cn = 0 ∧ (n == 0) = false ∧ r = false) ∨ (decide (0 ≤ hiI tt) = true ∧ cn = 0 ∧ (n == 0) = true ∧ r = z))) ∨
  (k0 = 2 ∧ (((me != 0) = true ∧ r = false) ∨ (me = 0 ∧ (n != tf) = true ∧ r = false) ∨ (me = 0 ∧ (n != tf) = false ∧ z = false ∧ r = false) ∨ (me = 0 ∧ (n != tf) = false ∧ z = true ∧ r = hb))) ∨
  ((k0 == 1) = false ∧ (k0 == 2) = false ∧ ((u = false ∧ r = false) ∨ (u = true ∧ (0 : Int) < (cn : Int) ∧ r = false) ∨ (u = true ∧ cn = 0 ∧ (9223372036854775807 : Int) < n ∧ r = false) ∨ (u = true ∧ cn = 0 ∧ n = 0 ∧ r = z) ∨
    (u = true ∧ cn = 0 ∧ ¬ (9223372036854775807 : Int) < n ∧ (n == 0) = false ∧ f = false ∧ r = false) ∨ (u = true ∧ cn = 0 ∧ ¬ (9223372036854775807 : Int) < n ∧ (n == 0) = false ∧ f = true ∧ r = decide (g4 ≤ 0))))
theorem rh_of (p : Int) (v : Vv) (ht : In v.t) (hn : 0 ≤ v.n) : RH v.d.kind v.t v.n (mayE p v.cs) (totF 0 v.cs) (cmpF v.mn v.mx) v.cs.length (decide (v.t = 0)) (zer3 v) (fin3 v) (decide (lowS p v.cs ≤ v.t ∧ v.t ≤ higS p v.cs)) (holdB p v) := by
  have hs := hi_sign ht
  unfold RH holdB
  by_cases h1 : v.d.kind = 1
  · rw [if_pos h1]
    refine .inl ⟨h1, ?_⟩
    simp only [hs]
    by_cases g1 : 0 ≤ v.t
    · by_cases g2 : v.cs.length = 0
      · by_cases g3 : v.n = 0
        · right; right; right; simp [g1, g2, g3]
        · right; right; left; simp [g1, g2, g3]
      · right; left; simp [g1, g2]
    · left; simp [g1]
  · by_cases h2 : v.d.kind = 2
    · rw [if_neg h1, if_pos h2]
      refine .inr (.inl ⟨h2, ?_⟩)
      unfold histB
      by_cases g1 : mayE p v.cs = 0
      · by_cases g2 : v.n = totF 0 v.cs
        · cases g3 : zer3 v
          · right; right; left; simp [g1, g2]
          · right; right; right; simp [g1, g2]
        · right; left; simp [g1, g2]
      · left; simp [g1]
    · rw [if_neg h1, if_neg h2]
      refine .inr (.inr ⟨by simpa using h1, by simpa using h2, ?_⟩)
      by_cases g1 : v.t = 0
      · by_cases g2 : v.cs.length = 0
        · by_cases g3 : 9223372036854775807 < v.n
          · right; right; left; rw [if_pos (.inr (.inr g3))]; exact ⟨decide_eq_true g1, g2, g3, rfl⟩
          · rw [if_neg (by omega)]
            by_cases g4 : v.n = 0
            · right; right; right; left; rw [if_pos g4]; exact ⟨decide_eq_true g1, g2, g4, rfl⟩
            · rw [if_neg g4]
              right; right; right; right
              cases g5 : fin3 v
              · left; exact ⟨decide_eq_true g1, g2, g3, by simpa using g4, rfl, rfl⟩
              · right; exact ⟨decide_eq_true g1, g2, g3, by simpa using g4, rfl, by simp⟩
        · right; left; rw [if_pos (.inr (.inl (by omega)))]; exact ⟨decide_eq_true g1, by omega, rfl⟩
      · left; rw [if_pos (.inl g1)]; exact ⟨decide_eq_false g1, rfl⟩
set_option maxRecDepth 100000 in
set_option maxHeartbeats 8000000 in
theorem rholds_any (p : Int) (v : Vv) (w : World) (h : VAt v w w.heap.size) :
    Calls Tryz.prog 50 #[.int .i64 p, v.v] w fun e w' => e = .returned (.bool (holdB p v)) ∧ Below w.heap.size w w' := by
  have cz1 := zero_any v.sm
  have cz2 := zero_any v.mn
  have cz3 := zero_any v.mx
  have cf1 := finite_any v.sm h.sm
  have cf2 := finite_any v.mn h.mn
  have cf3 := finite_any v.mx h.mx
  have ccm := rcompare_any v.mn v.mx h.mn h.mx
  have cm := fun W (k : Below w.heap.size w W) => rmay_any W w.heap.size p v.cs v.CA v.cc (h.cs.below k) k.size
  have ct := fun W (k : Below w.heap.size w W) => rtotal_any W w.heap.size v.CA v.cs v.cc (h.cs.below k) k.size
  have cb := fun (e : mayE p v.cs = 0) W (k : Below w.heap.size w W) => between_any p v W ((h.below k).mono k.size) e
  have hzz : zer3 v = (zeroF v.sm && zeroF v.mn && zeroF v.mx) := rfl
  have hff : fin3 v = (finF v.sm && finF v.mn && finF v.mx) := rfl
  have hu := I128_inj (a := v.t) (b := 0) h.tot (by unfold In; omega)
  rw [show hiI 0 = 0 from by decide, show loI 0 = 0 from by decide] at hu
  have hcase := rh_of p v h.tot h.n.1
  have hnew := fun (w1 : World) (e : w1 = _) => V11.new w 49 v (w1 := w1) e
  obtain ⟨r, hr⟩ : ∃ r, r = holdB p v := ⟨_, rfl⟩
  rw [← hr] at hcase ⊢
  generalize zer3 v = z at *
  generalize fin3 v = f at *
  unfold Vv.v at *
  obtain ⟨⟨k0, n0, h0, A0, c0, l0⟩, tt, CA, cc, cs0, n, sm, mn, mx⟩ := v
  dsimp only at *
  unfold Vv.row at hnew
  dsimp only at hnew
  clear h hr
  obtain ⟨ln, hln⟩ : ∃ ln, ln = l0.length := ⟨_, rfl⟩
  obtain ⟨cn, hcn⟩ : ∃ cn, cn = cs0.length := ⟨_, rfl⟩
  rw [← hln, ← hcn] at hnew cb ⊢
  rw [← hcn] at hcase cm ct
  generalize decide (tt = 0) = u at *
  generalize zeroF sm = za at *
  generalize zeroF mn = zb at *
  generalize zeroF mx = zc at *
  generalize finF sm = fa at *
  generalize finF mn = fb at *
  generalize finF mx = fc at *
  generalize cmpF mn mx = g4 at *
  generalize decide (lowS p cs0 ≤ tt ∧ tt ≤ higS p cs0) = hb at *
  generalize mayE p cs0 = me at *
  generalize totF 0 cs0 = tf at *
  unfold RH at hcase
  replace hff := Lib.hid hff
  replace hzz := Lib.hid hzz
  replace hnew := Lib.hid hnew
  replace hln := Lib.hid hln
  replace hcn := Lib.hid hcn
  replace hcase := Lib.hid hcase
  replace hu := Lib.hid hu
  replace cm := Lib.hid cm
  replace ct := Lib.hid ct
  replace cb := Lib.hid cb
  go_enter Tryz.func50, Tryz.ntmps50
  go_upto_region 1 with fail
  obtain ⟨w1, hw1⟩ : ∃ w1, w1 = w.alloc (.cells #[.int .i64 k0, .string n0, .string h0, .slice A0 ln c0, .int .i64 (hiI tt), .int .u64 (loI tt), .slice CA cn cc, .int .u64 n, .float .f64 sm, .float .f64 mn, .float .f64 mx] 49) := ⟨_, rfl⟩
  rw [← hw1]
  obtain ⟨hb1, hlt, hv⟩ := hnew.out w1 hw1
  clear hw1 hnew
  obtain ⟨z0, z1, z2, z3, z4, z5, z6, z7, z8, z9, z10⟩ := id hv
  dsimp only at z0 z1 z2 z3 z4 z5 z6 z7 z8 z9 z10
  rw [← hcn.out] at z6
  rw [← hln.out] at z3
  go_cut [5] (fun s5 wx => s5 = .bool z ∧ wx = w1)
  case first =>
    cases za
    · go_wp2_with (go_at_call 100; (first | (with_reducible refine (cz1 _).mono ?_) | (with_reducible refine (cz2 _).mono ?_) | (with_reducible refine (cz3 _).mono ?_)); rintro e w' ⟨rfl, rfl⟩)
      go_meet
      case rel => exact ⟨by rw [hzz.out]; rfl, rfl⟩
    · cases zb
      · go_wp2_with (go_at_call 100; (first | (with_reducible refine (cz1 _).mono ?_) | (with_reducible refine (cz2 _).mono ?_) | (with_reducible refine (cz3 _).mono ?_)); rintro e w' ⟨rfl, rfl⟩)
        go_meet
        case rel => exact ⟨by rw [hzz.out]; rfl, rfl⟩
      · go_wp2_with (go_at_call 100; (first | (with_reducible refine (cz1 _).mono ?_) | (with_reducible refine (cz2 _).mono ?_) | (with_reducible refine (cz3 _).mono ?_)); rintro e w' ⟨rfl, rfl⟩)
        go_meet
        case rel => exact ⟨by rw [hzz.out]; simp, rfl⟩
  case rest =>
    obtain ⟨rfl, hwc⟩ := hcut
    subst hwc
    clear cz1 cz2 cz3 hzz
    go_upto_region 2 with fail
    go_cut [6] (fun s6 wx => s6 = .bool u ∧ wx = wc)
    case first =>
      cases g1 : (hiI tt == 0)
      · go_wp2
        go_meet
        case rel => exact ⟨by rw [← hu.out, g1]; rfl, rfl⟩
      · go_wp2
        go_meet
        case rel => exact ⟨by rw [← hu.out, g1]; simp, rfl⟩
    case rest =>
      obtain ⟨rfl, hwc⟩ := hcut
      subst hwc
      clear hu
      rcases hcase.out with ⟨rfl, hc⟩ | ⟨rfl, hc⟩ | ⟨k1, k2, hc⟩
      · clear hcase cf1 cf2 cf3 ccm cm ct cb hff
        rcases hc with ⟨e1, rfl⟩ | ⟨e1, e2, rfl⟩ | ⟨e1, e2, e3, rfl⟩ | ⟨e1, e2, e3, rfl⟩
        · go_wp2
          go_ret
          exact ⟨rfl, hb1⟩
        · have e2' : ((cn : Int) == 0) = false := by simpa using e2
          clear e2
          go_wp2
          go_ret
          exact ⟨rfl, hb1⟩
        · have e2' : ((cn : Int) == 0) = true := by simp [e2]
          clear e2
          go_wp2
          go_ret
          exact ⟨rfl, hb1⟩
        · have e2' : ((cn : Int) == 0) = true := by simp [e2]
          clear e2
          go_wp2
          go_ret
          exact ⟨rfl, hb1⟩
      · clear hcase cf1 cf2 cf3 ccm hff
        go_wp2_with fail
        refine (cm.out _ hb1).mono ?_
        rintro e w2 ⟨rfl, hb2⟩
        have hbw := hb1.trans (hb2.mono hb1.size)
        clear z0 z1 z2 z3 z4 z5 z6 z7 z8 z9 z10
        have hv2 := hv.below hb2 hlt
        have hlt2 : w.heap.size < w2.heap.size := Nat.lt_of_lt_of_le hlt hb2.size
        obtain ⟨z0, z1, z2, z3, z4, z5, z6, z7, z8, z9, z10⟩ := id hv2
        dsimp only at z0 z1 z2 z3 z4 z5 z6 z7 z8 z9 z10
        rw [← hcn.out] at z6
        rw [← hln.out] at z3
        go_upto_region 8 with fail
        refine Reg.region_below (by kernel_rfl) (by kernel_rfl) ?_
        intro Sx _ f hf hs
        have y6 := Reg.keepc hf hlt2 z6
        have y7 := Reg.keepc hf hlt2 z7
        have kk := fun s => hbw.trans ((hf s).mono hbw.size)
        have q1 := fun s => ct.out (f s) (kk s)
        clear z0 z1 z2 z3 z4 z5 z6 z7 z8 z9 z10
        rcases hc with ⟨e1, rfl⟩ | ⟨e1, e2, rfl⟩ | ⟨e1, e2, rfl, rfl⟩ | ⟨e1, e2, rfl, rfl⟩
        · repeat (go_big_quiet_step ((go_at_call 102; with_reducible exact Reg.met hs (q1 _))))
          refine wpQuiet_nil ?_
          intro s
          have hb3 := hf s
          go_wp2
          go_ret
          exact ⟨rfl, hbw.trans (hb3.mono hbw.size)⟩
        · subst e1
          repeat (go_big_quiet_step ((go_at_call 102; with_reducible exact Reg.met hs (q1 _))))
          refine wpQuiet_nil ?_
          intro s
          have hb3 := hf s
          go_wp2
          go_ret
          exact ⟨rfl, hbw.trans (hb3.mono hbw.size)⟩
        · subst e1
          repeat (go_big_quiet_step ((go_at_call 102; with_reducible exact Reg.met hs (q1 _))))
          refine wpQuiet_nil ?_
          intro s
          have hb3 := hf s
          go_wp2
          go_ret
          exact ⟨rfl, hbw.trans (hb3.mono hbw.size)⟩
        · subst e1
          have cb' := cb.out rfl
          replace cb' := Lib.hid cb'
          repeat (go_big_quiet_step ((go_at_call 102; with_reducible exact Reg.met hs (q1 _))))
          refine wpQuiet_nil ?_
          intro s
          have hb3 := hf s
          have hbw3 := kk s
          have hv3 := hv2.below hb3 hlt2
          obtain ⟨w3, hw3⟩ : ∃ w3, w3 = f s := ⟨_, rfl⟩
          rw [← hw3] at hb3 hv3 hbw3 ⊢
          clear hw3 kk q1 y6 y7 hf hs
          obtain ⟨z0, z1, z2, z3, z4, z5, z6, z7, z8, z9, z10⟩ := hv3
          dsimp only at z0 z1 z2 z3 z4 z5 z6 z7 z8 z9 z10
          rw [← hcn.out] at z6
          rw [← hln.out] at z3
          go_wp2_with (go_at_call 103; refine (cb'.out _ hbw3).mono ?_; rintro e w4 ⟨rfl, hb4⟩)
          go_ret
          exact ⟨rfl, hbw3.trans (hb4.mono hbw3.size)⟩
      · clear hcase cm ct cb
        rcases hc with ⟨rfl, rfl⟩ | ⟨rfl, e2, rfl⟩ | ⟨rfl, e2, e3, rfl⟩ | ⟨rfl, e2, e3, rfl⟩ | ⟨rfl, e2, e3, e4, rfl, rfl⟩ | ⟨rfl, e2, e3, e4, rfl, rfl⟩
        · go_wp2
          go_ret
          exact ⟨rfl, hb1⟩
        · go_wp2
          go_ret
          exact ⟨rfl, hb1⟩
        · subst e2
          go_wp2
          go_ret
          exact ⟨rfl, hb1⟩
        · subst e2
          subst e3
          go_wp2
          go_ret
          exact ⟨rfl, hb1⟩
        all_goals
          subst e2
          go_upto_region 15 with fail
          go_cut [8] (fun s8 wx => ∃ ff : Bool, s8 = .bool ff ∧ Hid (ff = (fa && fb && fc)) ∧ wx = wc)
          case first =>
            cases fa
            · go_wp2_with (go_at_call 104; (first | (with_reducible refine (cf1 _).mono ?_) | (with_reducible refine (cf2 _).mono ?_) | (with_reducible refine (cf3 _).mono ?_)); rintro e w' ⟨rfl, rfl⟩)
              go_meet
              case rel => exact ⟨false, rfl, rfl, rfl⟩
            · cases fb
              · go_wp2_with (go_at_call 104; (first | (with_reducible refine (cf1 _).mono ?_) | (with_reducible refine (cf2 _).mono ?_) | (with_reducible refine (cf3 _).mono ?_)); rintro e w' ⟨rfl, rfl⟩)
                go_meet
                case rel => exact ⟨false, rfl, rfl, rfl⟩
              · go_wp2_with (go_at_call 104; (first | (with_reducible refine (cf1 _).mono ?_) | (with_reducible refine (cf2 _).mono ?_) | (with_reducible refine (cf3 _).mono ?_)); rintro e w' ⟨rfl, rfl⟩)
                go_meet
                case rel => exact ⟨fc, rfl, Lib.hid (by simp), rfl⟩
        · obtain ⟨ff, rfl, hf2, hwc⟩ := hcut
          subst hwc
          obtain rfl : false = ff := by rw [hf2.out, ← hff.out]
          go_wp2
          go_ret
          exact ⟨rfl, hb1⟩
        · obtain ⟨ff, rfl, hf2, hwc⟩ := hcut
          subst hwc
          obtain rfl : true = ff := by rw [hf2.out, ← hff.out]
          go_wp2_with (go_at_call 105; refine (ccm _).mono ?_; rintro e w' ⟨rfl, rfl⟩)
          go_ret
          exact ⟨rfl, hb1⟩
end Go.Proofs.YtpiegngjpnpohaaGreat.Sn

namespace Go.Proofs.YtpiegngjpnpohaaGreat.Sn
open Go.RowKit Go.Proofs.YtpiegngjpnpohaaGreat.La Go.Proofs.YtpiegngjpnpohaaGreat.Sl Go.Proofs.YtpiegngjpnpohaaGreat.Ck Go.Proofs.YtpiegngjpnpohaaGreat.Rc Go.Proofs.YtpiegngjpnpohaaGreat.Rk Go.Proofs.YtpiegngjpnpohaaGreat.Wi Go.Proofs.YtpiegngjpnpohaaGreat.Fb
set_option linter.unusedVariables false
def behV (u v : Vv) : Int := if cmpD u.d v.d = 0 then 10 else if 0 < cmpD u.d v.d then 15 else if u.d.name = v.d.name ∧ ¬ (u.d.kind = v.d.kind ∧ u.d.help = v.d.help) then 12 else 0
def stepE (p : Int) (prev : Option Vv) (v : Vv) : Int :=
  if chkD v.d ≠ 0 then chkD v.d else if holdB p v = false then 2 else match prev with
    | none => 0
    | some u => behV u v
def scan (p : Int) : Option Vv → List Vv → Int → Int × Int
  | _, [], _ => (0, 0)
  | prev, v :: r, i => if stepE p prev v ≠ 0 then (stepE p prev v, i) else scan p (some v) r (i + 1)
def chkS (p : Int) (vs : List Vv) : Int × Int := if p < 1 ∨ 14 < p then (1, 0) else if 256 < vs.length then (3, 256) else scan p none vs 0
def prevV (vs : List Vv) (k : Nat) : Option Vv := if k = 0 then none else vs[k - 1]?
theorem scan_next {p : Int} {vs : List Vv} {k : Nat} (h : k < vs.length) : scan p (prevV vs k) (vs.drop k) k = if stepE p (prevV vs k) vs[k] ≠ 0 then (stepE p (prevV vs k) vs[k], (k : Int)) else scan p (prevV vs (k + 1)) (vs.drop (k + 1)) ((k + 1 : Nat) : Int) := by
  rw [List.drop_eq_getElem_cons h, scan]
  have : prevV vs (k + 1) = some vs[k] := by unfold prevV; rw [if_neg (by omega), Nat.add_sub_cancel, List.getElem?_eq_getElem h]
  rw [this]; rfl
theorem scan_end {p : Int} {vs : List Vv} {k : Nat} (h : vs.length ≤ k) : scan p (prevV vs k) (vs.drop k) k = (0, 0) := by rw [List.drop_eq_nil_of_le h]; rfl
theorem DAt.check {d : DD} {w W : World} {B : Nat} (h : DAt d w B) (hB : B ≤ w.heap.size) (k : Below B w W) : Calls Tryz.prog 45 #[d.v] W fun e w' => e = .returned (.int .i64 (chkD d)) ∧ Below W.heap.size W w' :=
  check_any d (((h.below k).rd).mono (Nat.le_trans hB k.size)) h.cap h.len h.name h.help h.texts
theorem DAt.rcheck {d : DD} {w W : World} {B : Nat} (h : DAt d w B) (hB : B ≤ w.heap.size) (k : Below B w W) : Calls Tryz.prog 49 #[d.v] W fun e w' => e = .returned (.int .i64 (chkD d)) ∧ Below W.heap.size W w' :=
  rcheck_any d (((h.below k).rd).mono (Nat.le_trans hB k.size)) (Nat.le_trans h.len2 (by decide)) h.name h.help h.texts
theorem DAt.cmp {a b : DD} {w W : World} {B : Nat} (h : DAt a w B) (h' : DAt b w B) (hB : B ≤ w.heap.size) (k : Below B w W) : Calls Tryz.prog 47 #[a.v, b.v] W fun e w' => e = .returned (.int .i64 (cmpD a b)) ∧ Below W.heap.size W w' :=
  compare_any a b ⟨((h.below k).rd).mono (Nat.le_trans hB k.size), Nat.le_trans h.len2 (by decide)⟩ ⟨((h'.below k).rd).mono (Nat.le_trans hB k.size), Nat.le_trans h'.len2 (by decide)⟩ (Nat.le_refl _)
theorem DAt.rcmp {a b : DD} {w W : World} {B : Nat} (h : DAt a w B) (h' : DAt b w B) (hB : B ≤ w.heap.size) (k : Below B w W) : Calls Tryz.prog 51 #[a.v, b.v] W fun e w' => e = .returned (.int .i64 (cmpD a b)) ∧ Below W.heap.size W w' :=
  rcompare_any a b (((h.below k).rd).mono (Nat.le_trans hB k.size)) (((h'.below k).rd).mono (Nat.le_trans hB k.size)) (Nat.le_trans h.len2 (by decide)) (Nat.le_trans h'.len2 (by decide))
theorem beqS (a b : ByteArray) : (a.toList == b.toList) = decide (a = b) := by
  rw [Bool.eq_iff_iff]
  simp only [beq_iff_eq, decide_eq_true_eq]
  constructor
  · intro h
    rw [ByteArray.toList_eq, ByteArray.toList_eq] at h
    exact ByteArray.ext (Array.toList_inj.1 h)
  · rintro rfl; rfl
set_option maxRecDepth 100000 in
theorem alike_any (a b : DD) (w : World) :
    Calls Tryz.prog 48 #[a.v, b.v] w fun e w' => e = .returned (.bool (decide (a.kind = b.kind ∧ a.help = b.help))) ∧ Below w.heap.size w w' := by
  unfold DD.v
  obtain ⟨k1, n1, h1, A1, c1, l1⟩ := a
  obtain ⟨k2, n2, h2, A2, c2, l2⟩ := b
  dsimp only
  generalize l1.length = m1
  generalize l2.length = m2
  obtain ⟨r, hr⟩ : ∃ r, r = decide (k1 = k2 ∧ h1 = h2) := ⟨_, rfl⟩
  rw [← hr]
  have hcase : ((k1 == k2) = false ∧ r = false) ∨ ((k1 == k2) = true ∧ r = decide (h1 = h2)) := by
    rw [hr]
    by_cases e : k1 = k2
    · right; simp [e]
    · left; simp [e]
  have hb0 : Below w.heap.size w ((w.alloc (.cells #[.int .i64 k1, .string n1, .string h1, .slice A1 m1 c1] 43)).alloc (.cells #[.int .i64 k2, .string n2, .string h2, .slice A2 m2 c2] 43)) := ((Below.refl _ _).alloc (Nat.le_refl _) _).alloc (by simp) _
  clear hr
  rcases hcase with ⟨e1, rfl⟩ | ⟨e1, rfl⟩
  · go_enter Tryz.func48, Tryz.ntmps48
    go_wp2
    go_ret
    exact ⟨rfl, hb0⟩
  · go_enter Tryz.func48, Tryz.ntmps48
    go_wp2
    go_ret
    exact ⟨by simp [beqS], hb0⟩
set_option maxRecDepth 100000 in
set_option maxHeartbeats 8000000 in
theorem check_any (s : Ss) (w : World) (h : SAt s w w.heap.size) :
    Calls Tryz.prog 12 #[s.v] w fun e w' => e = .returned (.tuple #[.int .i64 (chkS s.p s.vs).1, .int .i64 (chkS s.p s.vs).2]) ∧ Below w.heap.size w w' := by
  have hvs := h.vs
  have hcap := h.cap
  have hlen := h.len
  have hp := h.p
  unfold Ss.v
  obtain ⟨p, A, c, vs, rf⟩ := s
  dsimp only at *
  clear h
  by_cases hp2 : p < 1 ∨ 14 < p
  · have e : chkS p vs = (1, 0) := by unfold chkS; rw [if_pos hp2]
    rw [e]
    generalize vs.length = n at *
    have hc : decide (p < 1) = true ∨ (decide (p < 1) = false ∧ (14 : Int) < p) := by
      by_cases g : p < 1
      · exact .inl (decide_eq_true g)
      · exact .inr ⟨decide_eq_false g, by omega⟩
    rcases hc with hc | ⟨hc1, hc2⟩
    all_goals
      go_enter Tryz.func12, Tryz.ntmps12
      go_wp2
      go_ret2
      exact ⟨rfl, (Below.refl _ _).alloc (Nat.le_refl _) _⟩
  · have hc1 : decide (p < 1) = false := decide_eq_false (by omega)
    have hc2 : ¬ (14 : Int) < p := by omega
    by_cases hn : 256 < vs.length
    · have e : chkS p vs = (3, 256) := by unfold chkS; rw [if_neg hp2, if_pos hn]
      rw [e]
      generalize vs.length = n at *
      have hnI : (256 : Int) < (n : Int) := by omega
      go_enter Tryz.func12, Tryz.ntmps12
      go_wp2
      go_ret2
      exact ⟨rfl, (Below.refl _ _).alloc (Nat.le_refl _) _⟩
    · have e : chkS p vs = scan p none vs 0 := by unfold chkS; rw [if_neg hp2, if_neg hn]
      rw [e]
      obtain ⟨R, hR⟩ : ∃ R, R = scan p none vs 0 := ⟨_, rfl⟩
      rw [← hR]
      obtain ⟨r1, r2⟩ := R
      dsimp only
      obtain ⟨n, hnd⟩ : ∃ n, n = vs.length := ⟨_, rfl⟩
      rw [← hnd] at hn hcap ⊢
      have hnI : ¬ (256 : Int) < (n : Int) := by omega
      clear e hp2 hcap hlen hn hp
      replace hvs := Lib.hid hvs
      replace hR := Lib.hid hR
      replace hnd := Lib.hid hnd
      go_enter Tryz.func12, Tryz.ntmps12
      go_upto_region 1 with fail
      have hb1 : Below w.heap.size w (w.alloc (.cells #[.int .i64 p, .slice A n c, .int .u64 rf] 25)) := (Below.refl _ _).alloc (Nat.le_refl _) _
      have hs1 : (w.alloc (.cells #[.int .i64 p, .slice A n c, .int .u64 rf] 25)).heap.size = w.heap.size + 1 := by simp
      have y0 : (w.alloc (.cells #[.int .i64 p, .slice A n c, .int .u64 rf] 25)).cell? ⟨w.heap.size, 0, none⟩ = some (.int .i64 p) := by rw [Mg.cell_new]; rfl
      have y1 : (w.alloc (.cells #[.int .i64 p, .slice A n c, .int .u64 rf] 25)).cell? ⟨w.heap.size, 1, none⟩ = some (.slice A n c) := by rw [Mg.cell_new]; rfl
      obtain ⟨w1, hw1⟩ : ∃ w1, w1 = w.alloc (.cells #[.int .i64 p, .slice A n c, .int .u64 rf] 25) := ⟨_, rfl⟩
      rw [← hw1] at hb1 hs1 y0 y1 ⊢
      clear hw1
      go_wp2
      go_loopw [26] (fun v wr => ∃ k : Nat, v = .int .i64 (k : Int) ∧ k ≤ n ∧ Below w1.heap.size w1 wr ∧ Hid (scan p (prevV vs k) (vs.drop k) k = (r1, r2))) (fun v _ => n - (intOf v).toNat)
      case atStart => exact ⟨0, rfl, Nat.zero_le _, Below.refl _ _, Lib.hid (by rw [hR.out]; rfl)⟩
      case round =>
        obtain ⟨k, rfl, hk, hbr, hsc⟩ := hrel
        have hbw : Below w.heap.size w wr := hb1.trans (hbr.mono hb1.size)
        by_cases hlt : k < n
        · have hil : k < vs.length := by rw [← hnd.out]; exact hlt
          have hnext := hsc.out
          rw [scan_next hil] at hnext
          obtain ⟨v, hv⟩ : ∃ v, v = vs[k] := ⟨_, rfl⟩
          have hva : VAt v w w.heap.size := by rw [hv]; exact hvs.out.all _ (List.getElem_mem hil)
          obtain ⟨b, off, hA, hbB, x0, x1, x2, x3, x4, x5, x6, x7, x8, x9, x10⟩ := (hvs.out.below hbw).cells k hil
          rw [← hv] at hnext x0 x1 x2 x3 x4 x5 x6 x7 x8 x9 x10
          subst hA
          replace hv := Lib.hid hv
          have gI : (k : Int) < (n : Int) := by omega
          have gI0 : (0 : Int) ≤ (k : Int) := by omega
          replace hsc := Lib.hid hsc
          have cck := fun W (kk : Below w.heap.size w W) => hva.d.check (Nat.le_refl _) kk
          have cho := fun W (kk : Below w.heap.size w W) => holds_any p v W ((hva.below kk).mono kk.size)
          have hprev : 0 < k → ∃ u, prevV vs k = some u ∧ vs[k - 1]? = some u := fun h0 => by
            refine ⟨vs[k - 1], ?_, List.getElem?_eq_getElem (by omega)⟩
            unfold prevV
            rw [if_neg (by omega), List.getElem?_eq_getElem (by omega)]
          have hnew := fun (w1 : World) (e : w1 = _) => V11.new wr 49 v (w1 := w1) e
          unfold Vv.row at hnew
          obtain ⟨me, hme⟩ : ∃ me, me = chkD v.d := ⟨_, rfl⟩
          obtain ⟨ho, hho⟩ : ∃ ho, ho = holdB p v := ⟨_, rfl⟩
          have hstep : stepE p (prevV vs k) v = if me ≠ 0 then me else if ho = false then 2 else match prevV vs k with
            | none => 0
            | some u => behV u v := by rw [hme, hho]; rfl
          rw [← hme] at cck
          rw [← hho] at cho
          replace cck := Lib.hid cck
          replace cho := Lib.hid cho
          replace hprev := Lib.hid hprev
          replace hnew := Lib.hid hnew
          replace hstep := Lib.hid hstep
          replace hnext := Lib.hid hnext
          clear hme hho
          obtain ⟨ln, hln⟩ : ∃ ln, ln = v.d.l.length := ⟨_, rfl⟩
          obtain ⟨cn, hcn⟩ : ∃ cn, cn = v.cs.length := ⟨_, rfl⟩
          rw [← hln] at x3
          rw [← hcn] at x6
          replace hln := Lib.hid hln
          replace hcn := Lib.hid hcn
          have hsf := fun (a : Addr) (x : Nat) (W : World) => run_store Tryz.prog W a (.float .f64 x) .plain rfl
          go_upto_region 8 with fail
          obtain ⟨w3, hw3⟩ : ∃ w3, w3 = wr.alloc (.cells #[.int .i64 v.d.kind, .string v.d.name, .string v.d.help, .slice v.d.A ln v.d.c, .int .i64 (hiI v.t), .int .u64 (loI v.t), .slice v.CA cn v.cc, .int .u64 v.n, .float .f64 v.sm, .float .f64 v.mn, .float .f64 v.mx] 49) := ⟨_, rfl⟩
          rw [← hw3]
          obtain ⟨hb3, hlt3, hv3⟩ := hnew.out w3 (by rw [hw3, hln.out, hcn.out])
          clear hw3 hnew x0 x1 x2 x3 x4 x5 x6 x7 x8 x9 x10
          have hbw3 := hbw.trans (hb3.mono hbw.size)
          have hbr3 := hbr.trans (hb3.mono hbr.size)
          have ycell := kc hbr3 (by omega) y1
          have ypr := kc hbr3 (by omega) y0
          have vget := fun W (kk : Below w.heap.size w W) (hk0 : 0 < k) => (hvs.out.below kk).cells (k - 1) (by rw [← hnd.out]; omega)
          replace vget := Lib.hid vget
          obtain ⟨z0, z1, z2, z3, z4, z5, z6, z7, z8, z9, z10⟩ := id hv3
          rw [← hln.out] at z3
          rw [← hcn.out] at z6
          have cck' := cck.out w3 hbw3
          unfold DD.v at cck'
          rw [← hln.out] at cck'
          go_upto_region 9 with (go_at_call 45; refine cck'.mono ?_; rintro e w4 ⟨rfl, hb4⟩)
          clear cck' cck z0 z1 z2 z3 z4 z5 z6 z7 z8 z9 z10 hsf
          have hv4 := hv3.below hb4 hlt3
          have hlt4 : wr.heap.size < w4.heap.size := Nat.lt_of_lt_of_le hlt3 hb4.size
          have hbw4 := hbw3.trans (hb4.mono hbw3.size)
          have hbr4 := hbr3.trans (hb4.mono hbr3.size)
          clear ycell ypr
          have ycell := kc hbr4 (by omega) y1
          have ypr := kc hbr4 (by omega) y0
          by_cases hme : me = 0
          · subst hme
            obtain ⟨z0, z1, z2, z3, z4, z5, z6, z7, z8, z9, z10⟩ := id hv4
            rw [← hln.out] at z3
            rw [← hcn.out] at z6
            have cho' := cho.out w4 hbw4
            unfold Vv.v at cho'
            rw [← hln.out, ← hcn.out] at cho'
            have hstep2 := hstep.out
            rw [if_neg (by decide)] at hstep2
            cases ho
            · rw [if_pos rfl] at hstep2
              have hfin := hnext.out
              rw [hstep2, if_pos (by decide)] at hfin
              obtain ⟨rfl, rfl⟩ : 2 = r1 ∧ (k : Int) = r2 := by simpa using hfin
              go_wp2_with (go_at_call 46; refine cho'.mono ?_; rintro e w5 ⟨rfl, hb5⟩)
              go_ret2
              exact ⟨rfl, hbw4.trans (hb5.mono hbw4.size)⟩
            · rw [if_neg (by decide)] at hstep2
              by_cases hk0 : k = 0
              · have hfin := hnext.out
                have hpn : prevV vs k = none := by unfold prevV; rw [if_pos hk0]
                rw [hstep2, hpn] at hfin
                dsimp only at hfin
                rw [if_neg (by decide)] at hfin
                replace hfin := Lib.hid hfin
                have gk0 : ((k : Int) == 0) = true := by simp [hk0]
                go_wp2_with (go_at_call 46; refine cho'.mono ?_; rintro e w5 ⟨rfl, hb5⟩)
                exact ⟨⟨k + 1, by go_num, hlt, hbr4.trans (hb5.mono hbr4.size), hfin⟩, by simp [intOf]; omega⟩
              · have gk0 : ((k : Int) == 0) = false := by simp [hk0]
                go_upto_region 14 with (go_at_call 46; refine cho'.mono ?_; rintro e w5 ⟨rfl, hb5⟩)
                clear z0 z1 z2 z3 z4 z5 z6 z7 z8 z9 z10 cho' cho ycell ypr
                have hv5 := hv4.below hb5 hlt4
                have hlt5 : wr.heap.size < w5.heap.size := Nat.lt_of_lt_of_le hlt4 hb5.size
                have hbw5 := hbw4.trans (hb5.mono hbw4.size)
                have hbr5 := hbr4.trans (hb5.mono hbr4.size)
                have ycell := kc hbr5 (by omega) y1
                obtain ⟨u, hu1, hu2⟩ := hprev.out (by omega)
                rw [hu1] at hstep2
                dsimp only at hstep2
                obtain ⟨b', off', hA', hbB', x0, x1, x2, x3, _⟩ := vget.out w5 hbw5 (by omega)
                cases hA'
                obtain ⟨hkl, hue⟩ := List.getElem?_eq_some_iff.1 hu2
                rw [hue] at x0 x1 x2 x3
                have hua : VAt u w w.heap.size := hvs.out.all u (by rw [← hue]; exact List.getElem_mem hkl)
                have gI1 : (1 : Int) ≤ (k : Int) := by omega
                have gI2 : (k : Int) - 1 < (n : Int) := by omega
                obtain ⟨lu, hlu⟩ : ∃ lu, lu = u.d.l.length := ⟨_, rfl⟩
                rw [← hlu] at x3
                have ccm := fun W (kk : Below w.heap.size w W) => hua.d.cmp hva.d (Nat.le_refl _) kk
                unfold DD.v at ccm
                rw [← hlu, ← hln.out] at ccm
                have hfin := hnext.out
                rw [hu1, hstep2] at hfin
                unfold behV at hfin
                obtain ⟨cm, hcm⟩ : ∃ cm, cm = cmpD u.d v.d := ⟨_, rfl⟩
                rw [← hcm] at hfin ccm
                replace hfin := Lib.hid hfin
                replace hlu := Lib.hid hlu
                replace ccm := Lib.hid ccm
                clear hcm hstep2 hue hu1 hu2 hkl hprev vget hstep hnext
                go_upto_region 15 with fail
                have hb6 : Below w5.heap.size w5 (w5.alloc (.cells #[.int .i64 u.d.kind, .string u.d.name, .string u.d.help, .slice u.d.A lu u.d.c] 43)) := (Below.refl _ _).alloc (Nat.le_refl _) _
                have g0 : (w5.alloc (.cells #[.int .i64 u.d.kind, .string u.d.name, .string u.d.help, .slice u.d.A lu u.d.c] 43)).cell? ⟨w5.heap.size, 0, none⟩ = some (.int .i64 u.d.kind) := by rw [Mg.cell_new]; rfl
                have g1 : (w5.alloc (.cells #[.int .i64 u.d.kind, .string u.d.name, .string u.d.help, .slice u.d.A lu u.d.c] 43)).cell? ⟨w5.heap.size, 1, none⟩ = some (.string u.d.name) := by rw [Mg.cell_new]; rfl
                have g2 : (w5.alloc (.cells #[.int .i64 u.d.kind, .string u.d.name, .string u.d.help, .slice u.d.A lu u.d.c] 43)).cell? ⟨w5.heap.size, 2, none⟩ = some (.string u.d.help) := by rw [Mg.cell_new]; rfl
                have g3 : (w5.alloc (.cells #[.int .i64 u.d.kind, .string u.d.name, .string u.d.help, .slice u.d.A lu u.d.c] 43)).cell? ⟨w5.heap.size, 3, none⟩ = some (.slice u.d.A lu u.d.c) := by rw [Mg.cell_new]; rfl
                have hs6 : w5.heap.size < (w5.alloc (.cells #[.int .i64 u.d.kind, .string u.d.name, .string u.d.help, .slice u.d.A lu u.d.c] 43)).heap.size := by simp
                obtain ⟨w6, hw6⟩ : ∃ w6, w6 = w5.alloc (.cells #[.int .i64 u.d.kind, .string u.d.name, .string u.d.help, .slice u.d.A lu u.d.c] 43) := ⟨_, rfl⟩
                rw [← hw6] at hb6 g0 g1 g2 g3 hs6 ⊢
                clear hw6 x0 x1 x2 x3
                have hv6 := hv5.below hb6 hlt5
                have hlt6 : wr.heap.size < w6.heap.size := Nat.lt_of_lt_of_le hlt5 hb6.size
                have hbw6 := hbw5.trans (hb6.mono hbw5.size)
                have hbr6 := hbr5.trans (hb6.mono hbr5.size)
                obtain ⟨z0, z1, z2, z3, z4, z5, z6, z7, z8, z9, z10⟩ := id hv6
                rw [← hln.out] at z3
                rw [← hcn.out] at z6
                go_upto_region 16 with (go_at_call 47; refine (ccm.out _ hbw6).mono ?_; rintro e w7 ⟨rfl, hb7⟩)
                have hv7 := hv6.below hb7 hlt6
                have hbw7 := hbw6.trans (hb7.mono hbw6.size)
                have hbr7 := hbr6.trans (hb7.mono hbr6.size)
                have q0 := kc hb7 hs6 g0
                have q1 := kc hb7 hs6 g1
                have q2 := kc hb7 hs6 g2
                have q3 := kc hb7 hs6 g3
                clear z0 z1 z2 z3 z4 z5 z6 z7 z8 z9 z10 g0 g1 g2 g3 ycell
                obtain ⟨z0, z1, z2, z3, z4, z5, z6, z7, z8, z9, z10⟩ := id hv7
                rw [← hln.out] at z3
                rw [← hcn.out] at z6
                have hfin := hfin.out
                by_cases hc0 : cm = 0
                · rw [if_pos hc0, if_pos (by decide)] at hfin
                  obtain ⟨rfl, rfl⟩ : 10 = r1 ∧ (k : Int) = r2 := by simpa using hfin
                  subst hc0
                  go_wp2
                  go_ret2
                  exact ⟨rfl, hbw7⟩
                · have hc0' : (cm == 0) = false := by simpa using hc0
                  rw [if_neg hc0] at hfin
                  by_cases hc1 : 0 < cm
                  · rw [if_pos hc1, if_pos (by decide)] at hfin
                    obtain ⟨rfl, rfl⟩ : 15 = r1 ∧ (k : Int) = r2 := by simpa using hfin
                    clear hc0
                    go_wp2
                    go_ret2
                    exact ⟨rfl, hbw7⟩
                  · rw [if_neg hc1] at hfin
                    clear hc0
                    have cal := alike_any u.d v.d
                    unfold DD.v at cal
                    rw [← hlu.out, ← hln.out] at cal
                    by_cases hnm : u.d.name = v.d.name
                    · have hnm' : (u.d.name.toList == v.d.name.toList) = true := by rw [beqS]; exact decide_eq_true hnm
                      by_cases hal : u.d.kind = v.d.kind ∧ u.d.help = v.d.help
                      · rw [if_neg (c := u.d.name = v.d.name ∧ ¬ (u.d.kind = v.d.kind ∧ u.d.help = v.d.help)) (fun h => h.2 hal), if_neg (by decide)] at hfin
                        rw [decide_eq_true hal] at cal
                        replace hfin := Lib.hid hfin
                        replace hnm := Lib.hid hnm
                        replace hal := Lib.hid hal
                        go_wp2_with (go_at_call 48; refine (cal _).mono ?_; rintro e w8 ⟨rfl, hb8⟩)
                        exact ⟨⟨k + 1, by go_num, hlt, hbr7.trans (hb8.mono hbr7.size), hfin⟩, by simp [intOf]; omega⟩
                      · rw [if_pos (c := u.d.name = v.d.name ∧ ¬ (u.d.kind = v.d.kind ∧ u.d.help = v.d.help)) ⟨hnm, hal⟩, if_pos (by decide)] at hfin
                        rw [decide_eq_false hal] at cal
                        obtain ⟨rfl, rfl⟩ : 12 = r1 ∧ (k : Int) = r2 := by simpa using hfin
                        replace hnm := Lib.hid hnm
                        replace hal := Lib.hid hal
                        go_wp2_with (go_at_call 48; refine (cal _).mono ?_; rintro e w8 ⟨rfl, hb8⟩)
                        go_ret2
                        exact ⟨rfl, hbw7.trans (hb8.mono hbw7.size)⟩
                    · have hnm' : (u.d.name.toList == v.d.name.toList) = false := by rw [beqS]; exact decide_eq_false hnm
                      rw [if_neg (c := u.d.name = v.d.name ∧ ¬ (u.d.kind = v.d.kind ∧ u.d.help = v.d.help)) (fun h => hnm h.1), if_neg (by decide)] at hfin
                      replace hfin := Lib.hid hfin
                      clear cal
                      replace hnm := Lib.hid hnm
                      go_wp2
                      exact ⟨⟨k + 1, by go_num, hlt, hbr7, hfin⟩, by simp [intOf]; omega⟩
          · have hstep2 := hstep.out
            rw [if_pos hme] at hstep2
            have hfin := hnext.out
            rw [hstep2, if_pos hme] at hfin
            obtain ⟨rfl, rfl⟩ : me = r1 ∧ (k : Int) = r2 := by simpa using hfin
            have hme' : (me != 0) = true := by simpa using hme
            clear hstep2 hfin hme
            go_wp2
            go_ret2
            exact ⟨rfl, hbw4⟩
        · obtain rfl : k = n := by omega
          have := hsc.out
          rw [scan_end (by rw [hnd.out]; exact Nat.le_refl _)] at this
          cases this
          go_wp2
          go_ret2
          exact ⟨rfl, hbw⟩
end Go.Proofs.YtpiegngjpnpohaaGreat.Sn
