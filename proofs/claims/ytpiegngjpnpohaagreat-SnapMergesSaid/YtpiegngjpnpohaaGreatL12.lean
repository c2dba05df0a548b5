/- Lemmas for the laws of this seat, laid together of St4, St5. -/
import Derived.Test.YtpiegngjpnpohaaGreatL11
import Derived.Deep.DeepCutAuto

namespace Go.Proofs.YtpiegngjpnpohaaGreat.St
open Go.RowKit Go.Sort Go.Shelf Go.Proofs Go.Lib
set_option linter.unusedVariables false
theorem at_left {X U V Y : List Cnt} {a i : Nat} (ha : a = X.length) (hi : i < U.length) : U[i]! = (X ++ (U ++ V) ++ Y).toArray[a + i]! := by
  have := at_mid (X := X) (U := U) (Y := V ++ Y) (k := a + i) (i := i) (by omega) hi
  rw [List.append_assoc, List.append_assoc, this]
theorem at_right {X U V Y : List Cnt} {m i : Nat} (hm : m = X.length + U.length) (hi : i < V.length) : V[i]! = (X ++ (U ++ V) ++ Y).toArray[m + i]! := by
  have := at_mid (X := X ++ U) (U := V) (Y := Y) (k := m + i) (i := i) (by simp; omega) hi
  rw [List.append_assoc] at this
  rw [List.append_assoc, List.append_assoc, this]
def Calling (w0 : World) (blk off cap g N : Nat) (len : Nat) : Prop :=
  ∀ (w1 : World) (a m b : Nat) (X U V Y : List Cnt), b - a < len → a = X.length → m = X.length + U.length → b = X.length + U.length + V.length → 0 < U.length → 0 < V.length → N = X.length + U.length + V.length + Y.length → Srt U → Srt V →
    SWK encC 2 w0 blk off (X ++ (U ++ V) ++ Y).toArray w1 →
    Calls Tryz.prog 208 #[.slice (some ⟨blk, off, none⟩) N cap, .int .i64 a, .int .i64 m, .int .i64 b, .func (.func g) #[] #[]] w1 (MergePost w0 blk off X (U ++ V) Y)
set_option maxRecDepth 100000 in
set_option maxHeartbeats 4000000 in
theorem merge_two (w0 w : World) (blk off cap a m b g : Nat) (d0 : Array Cnt) (X U V Y : List Cnt) (C : RowC w0 blk off d0 g) (ha : a = X.length) (hm : m = X.length + U.length) (hb : b = X.length + U.length + V.length) (hU2 : 2 ≤ U.length) (hV2 : 2 ≤ V.length)
    (hN : d0.size = X.length + U.length + V.length + Y.length) (hU : Srt U) (hV : Srt V) (ih : Calling w0 blk off cap g d0.size (b - a)) (S : SWK encC 2 w0 blk off (X ++ (U ++ V) ++ Y).toArray w) :
    Calls Tryz.prog 208 #[.slice (some ⟨blk, off, none⟩) d0.size cap, .int .i64 a, .int .i64 m, .int .i64 b, .func (.func g) #[] #[]] w (MergePost w0 blk off X (U ++ V) Y) := by
  have rot := fun (w : World) (a m b : Nat) (X P Q Y : List Cnt) => rotate_any w0 w blk off cap a m b d0 X P Q Y (.func (.func g) #[] #[]) C.R
  obtain ⟨N, hNs⟩ : ∃ N, N = d0.size := ⟨_, rfl⟩
  have hsz := C.small
  rw [← hNs] at hN hsz rot ih ⊢
  have hdz : (X ++ (U ++ V) ++ Y).toArray.size = d0.size := by simp; omega
  obtain ⟨h, hh⟩ : ∃ h, h = (U.length + V.length) / 2 := ⟨_, rfl⟩
  obtain ⟨mid, hmid⟩ : ∃ mid, mid = a + h := ⟨_, rfl⟩
  have f1 : ((a : Int) + (b : Int)) / 2 = (mid : Int) := by omega
  have hul : U.length = m - a := by omega
  have hvl : V.length = b - m := by omega
  have ham : a + 2 ≤ m := by omega
  have hmb : m + 2 ≤ b := by omega
  have hbN : b ≤ N := by omega
  have hmab : a < mid ∧ mid < b ∧ 2 * mid ≤ a + b ∧ a + b ≤ 2 * mid + 1 := by omega
  obtain ⟨hm1, hm2, hm3, hm4⟩ := hmab
  have atU := fun i (hi : i < U.length) => at_left (X := X) (U := U) (V := V) (Y := Y) ha hi
  have atV := fun i (hi : i < V.length) => at_right (X := X) (U := U) (V := V) (Y := Y) hm hi
  have cut := fun s s0 r0 => cut_ok (h := h) (s := s) (s0 := s0) (r0 := r0) hU hV
  obtain ⟨s0, r0, hc⟩ : ∃ s0 r0, (mid < m ∧ s0 + b = mid + m ∧ r0 = mid) ∨ (m ≤ mid ∧ s0 = a ∧ r0 = m) := by
    by_cases hx : mid < m
    · exact ⟨mid + m - b, mid, .inl ⟨hx, by omega, rfl⟩⟩
    · exact ⟨a, m, .inr ⟨by omega, rfl, rfl⟩⟩
  have hNI : (N : Int) < 4611686018427387904 := by omega
  have hs0 : a ≤ s0 ∧ s0 ≤ r0 ∧ r0 ≤ m ∧ r0 ≤ mid ∧ mid + m ≤ s0 + b := by omega
  obtain ⟨hs0, hs1, hs2, hs3, hs4⟩ := hs0
  have t1 : ((m : Int) - (a : Int) == 1) = false := beq_eq_false_iff_ne.2 (by omega)
  have t2 : ((b : Int) - (m : Int) == 1) = false := beq_eq_false_iff_ne.2 (by omega)
  have t3 : (a : Int) ≤ (m : Int) := by omega
  have t4 : (m : Int) ≤ (b : Int) := by omega
  have t5 : (b : Int) ≤ (N : Int) := by omega
  have t6 : (0 : Int) ≤ (a : Int) + (b : Int) := by omega
  have t7 : (a : Int) + (b : Int) < 9223372036854775808 := by omega
  have t8 : (0 : Int) ≤ (mid : Int) := by omega
  have t9 : (mid : Int) ≤ (b : Int) := by omega
  have t10 : (mid : Int) + (m : Int) < 9223372036854775808 := by omega
  have t11 : (0 : Int) ≤ (mid : Int) + (m : Int) := by omega
  have eg := C.eg
  have mixed : Tryz.prog.follows .mixedOrders = true := by kernel_rfl
  have HC := Lib.hid C
  have S0 := Lib.hid S
  have HU := Lib.hid hU
  have HV := Lib.hid hV
  replace rot := Lib.hid rot
  replace ih := Lib.hid ih
  replace atU := Lib.hid atU
  replace atV := Lib.hid atV
  replace cut := Lib.hid cut
  replace hdz := Lib.hid hdz
  replace hNs := Lib.hid hNs
  replace hN := Lib.hid hN
  replace ha := Lib.hid ha
  replace hm := Lib.hid hm
  replace hb := Lib.hid hb
  replace hh := Lib.hid hh
  replace hmid := Lib.hid hmid
  replace hul := Lib.hid hul
  replace hvl := Lib.hid hvl
  clear C S hU hV hU2 hV2
  go_enter Tryz.func208, Tryz.ntmps208
  go_upto_if 140 with fail
  go_cut [20, 21] (fun s r wx => s = .int .i64 (s0 : Int) ∧ r = .int .i64 (r0 : Int) ∧ wx = w)
  case first => as_aux_lemma =>
    rcases hc with ⟨h1, h2, h3⟩ | ⟨h1, h2, h3⟩
    · have g1 : (mid : Int) < (m : Int) := by omega
      have g2 : (mid : Int) + (m : Int) - (b : Int) = (s0 : Int) := by omega
      have g3 : (mid : Int) = (r0 : Int) := by omega
      clear h2 h3
      replace g3 := Lib.hid g3
      have g4 : decide (mid < m) = true := decide_eq_true h1
      simp only [g4]
      clear g4 g1
      go_wp2
      go_meet
      case rel => exact ⟨by first | rfl | simp [g2], by rw [g3.out], rfl⟩
    · have g1 : ¬ (mid : Int) < (m : Int) := by omega
      subst h2 h3
      have g4 : decide (mid < r0) = false := decide_eq_false (by omega)
      clear h1 g1
      simp only [g4]
      clear g4
      go_wp2
      go_meet
      case rel => exact ⟨rfl, rfl, rfl⟩
  case rest => as_aux_lemma =>
    obtain ⟨rfl, rfl, rfl⟩ := hcut
    go_wp2_with fail
    go_loopg [20, 21] (r0 - s0) (fun kx s10 s11 wr => ∃ (i j : Nat), s10 = .int .i64 (i : Int) ∧ s11 = .int .i64 (j : Int) ∧ s0 ≤ i ∧ i ≤ j ∧ j ≤ r0 ∧ j - i ≤ kx ∧ Hid (s0 < i → (U[i - a - 1]!).1 ≤ (V[h - (i - a)]!).1) ∧ Hid (j < r0 → (V[h - 1 - (j - a)]!).1 < (U[j - a]!).1) ∧
      Hid (SWK encC 2 w0 blk off (X ++ (U ++ V) ++ Y).toArray wr))
    case atStart => exact ⟨s0, r0, rfl, rfl, Nat.le_refl _, hs1, Nat.le_refl _, Nat.le_refl _, fun h => absurd h (by omega), fun h => absurd h (by omega), S0⟩
    case round =>
      clear S0
      obtain ⟨i, j, rfl, rfl, hi, hij, hj, hkx, p1, p2, S1⟩ := hrel
      by_cases hlt : i < j
      · obtain ⟨c, hcm⟩ : ∃ c, c = (i + j) / 2 := ⟨_, rfl⟩
        have hh1 : i ≤ c := by omega
        have hh2 : c < j := by omega
        have k1 : ((i : Int) + (j : Int)) / 2 = (c : Int) := by omega
        have k2 : (i : Int) < (j : Int) := by omega
        have k3 : (0 : Int) ≤ (i : Int) + (j : Int) := by omega
        have k4 : (i : Int) + (j : Int) < 9223372036854775808 := by omega
        have k5 : (c : Int) < (N : Int) := by omega
        obtain ⟨e, he⟩ : ∃ e, e = mid + m - 1 - c := ⟨_, rfl⟩
        have k6 : (mid : Int) + (m : Int) - 1 - (c : Int) = (e : Int) := by omega
        have k7 : (e : Int) < (N : Int) := by omega
        have k8 : IntKind.i64.wrap (e : Int) = (e : Int) := by rw [IntKind.wrap_i64]; omega
        have kc : c - a < U.length := by have := hul.out; omega
        have kd : h - 1 - (c - a) < V.length := by have := hvl.out; have := hmid.out; omega
        have ke : e = m + (h - 1 - (c - a)) := by have := hmid.out; omega
        have kf : c = a + (c - a) := by omega
        replace hcm := Lib.hid hcm
        obtain ⟨x, hx⟩ : ∃ x, x = U[c - a]! := ⟨_, rfl⟩
        obtain ⟨y, hy⟩ : ∃ y, y = V[h - 1 - (c - a)]! := ⟨_, rfl⟩
        obtain ⟨c0, c1⟩ := swk_look S1.out HC.out.R hdz.out (i := c) (by rw [hdz.out, ← hNs.out]; omega) (x := x) (by rw [hx]; have := atU.out (c - a) kc; rw [← kf] at this; exact this)
        obtain ⟨d0', d1'⟩ := swk_look S1.out HC.out.R hdz.out (i := e) (by rw [hdz.out, ← hNs.out]; omega) (x := y) (by rw [hy]; have := atV.out _ kd; rw [← ke] at this; exact this)
        have hc := swk_cmp S1.out HC.out hdz.out y x
        replace hx := Lib.hid hx
        replace hy := Lib.hid hy
        clear kc kd kf
        replace ke := Lib.hid ke
        replace he := Lib.hid he
        by_cases hlv : cmpC y x < 0
        · have hlu := (cmpC_neg y x).1 hlv
          obtain ⟨cv, hcv⟩ : ∃ cv, cv = cmpC y x := ⟨_, rfl⟩
          rw [← hcv] at hc hlv
          replace hcv := Lib.hid hcv
          replace hlu := Lib.hid hlu
          go_wp2_with fail
          go_quiet_grown (first | (go_at_fn g; refine Calls.grown_of (hc _ _)))
          have S2 : Hid (SWK encC 2 w0 blk off (X ++ (U ++ V) ++ Y).toArray (grow (wr.drewN nq) osq)) := S1.out.grown nq osq
          clear c0 c1 d0' d1' hc S1
          generalize grow (wr.drewN nq) osq = w2 at S2 ⊢
          clear nq osq
          go_wp2_with fail
          go_roundg (c - i)
          case measure => omega
          case rel => exact ⟨i, c, rfl, rfl, hi, hh1, by omega, Nat.le_refl _, p1, fun _ => by rw [← hx.out, ← hy.out]; exact hlu.out, S2⟩
        · have hlu : x.1 ≤ y.1 := by
            have := (cmpC_neg y x)
            omega
          obtain ⟨cv, hcv⟩ : ∃ cv, cv = cmpC y x := ⟨_, rfl⟩
          rw [← hcv] at hc hlv
          replace hcv := Lib.hid hcv
          replace hlu := Lib.hid hlu
          have hdv : decide (cv < 0) = false := decide_eq_false hlv
          clear hlv
          go_wp2_with fail
          go_quiet_grown (first | (go_at_fn g; refine Calls.grown_of (hc _ _)))
          have S2 : Hid (SWK encC 2 w0 blk off (X ++ (U ++ V) ++ Y).toArray (grow (wr.drewN nq) osq)) := S1.out.grown nq osq
          clear c0 c1 d0' d1' hc S1
          generalize grow (wr.drewN nq) osq = w2 at S2 ⊢
          clear nq osq
          go_wp2_with fail
          go_roundg (j - (c + 1))
          case measure => omega
          case rel => exact ⟨c + 1, j, by simp, rfl, by omega, by omega, hj, Nat.le_refl _, fun _ => by
            rw [show c + 1 - a - 1 = c - a by omega, show h - (c + 1 - a) = h - 1 - (c - a) by omega, ← hx.out, ← hy.out]; exact hlu.out, p2, S2⟩
      · obtain rfl : i = j := by omega
        have hge : ¬ (i : Int) < (i : Int) := by omega
        obtain ⟨s, hs⟩ : ∃ s, i = a + s := ⟨i - a, by omega⟩
        have hcut : ∀ x ∈ U.take s ++ V.take (h - s), ∀ y ∈ U.drop s ++ V.drop (h - s), x.1 ≤ y.1 := by
          have e1 := hmid.out
          have e2 := hul.out
          have e3 := hvl.out
          refine cut.out s (s0 - a) (r0 - a) (by omega) (by omega) (by omega) (by omega) (by omega) (by omega) (fun hh => ?_) (fun hh => ?_)
          · have := p1.out (by omega)
            rw [show i - a - 1 = s - 1 by omega, show i - a = s by omega] at this
            exact this
          · have := p2.out (by omega)
            rw [show i - a = s by omega] at this
            exact this
        obtain ⟨e, he⟩ : ∃ e, e = mid + m - i := ⟨_, rfl⟩
        have f2 : (mid : Int) + (m : Int) - (i : Int) = (e : Int) := by omega
        have q1 : (U.take s).length = s := by rw [List.length_take]; have := hul.out; omega
        have q2 : (U.drop s).length = m - i := by rw [List.length_drop]; have := hul.out; omega
        have q3 : (V.take (h - s)).length = mid - i := by rw [List.length_take]; have := hvl.out; have := hmid.out; omega
        have q4 : (V.drop (h - s)).length = b - e := by rw [List.length_drop]; have := hvl.out; have := hmid.out; omega
        have eU : U = U.take s ++ U.drop s := (List.take_append_drop s U).symm
        have eV : V = V.take (h - s) ++ V.drop (h - s) := (List.take_append_drop (h - s) V).symm
        have r1 : i ≤ m ∧ i ≤ mid ∧ m ≤ e ∧ mid ≤ e ∧ e ≤ b := by omega
        obtain ⟨r1, r2, r3, r4, r5⟩ := r1
        have U1s := HU.out.take s
        have U2s := HU.out.drop s
        have V1s := HV.out.take (h - s)
        have V2s := HV.out.drop (h - s)
        obtain ⟨U1, hU1⟩ : ∃ x, x = U.take s := ⟨_, rfl⟩
        obtain ⟨U2, hU2⟩ : ∃ x, x = U.drop s := ⟨_, rfl⟩
        obtain ⟨V1, hV1⟩ : ∃ x, x = V.take (h - s) := ⟨_, rfl⟩
        obtain ⟨V2, hV2⟩ : ∃ x, x = V.drop (h - s) := ⟨_, rfl⟩
        rw [← hU1, ← hU2, ← hV1, ← hV2] at hcut
        rw [← hU1] at q1 eU U1s
        rw [← hU2] at q2 eU U2s
        rw [← hV1] at q3 eV V1s
        rw [← hV2] at q4 eV V2s
        clear hU1 hU2 hV1 hV2
        have hpm : ((U1 ++ V1) ++ (U2 ++ V2)).Perm (U ++ V) := by rw [eU, eV]; exact rot_perm
        have hXl : X.length = a := ha.out.symm
        have hYl : N = X.length + U1.length + U2.length + V1.length + V2.length + Y.length := by rw [hN.out, eU, eV]; simp only [List.length_append]; omega
        rw [eU, eV] at S1
        have hlm : m = X.length + U1.length + U2.length := by omega
        have hle' : e = X.length + U1.length + U2.length + V1.length := by omega
        have hlb : b = X.length + U1.length + U2.length + V1.length + V2.length := by omega
        have hli : i = X.length + U1.length := by omega
        have hlmid : mid = X.length + U1.length + V1.length := by omega
        clear eU eV p1 p2 cut atU atV HU HV hul hvl hN hc hs q1 q2 q3 q4 hkx hi hij hj hs0 hs1 hs2 hs3 hs4 he
        replace hpm := Lib.hid hpm
        have hbel := Lib.hid hcut
        clear hcut
        replace hXl := Lib.hid hXl
        replace hYl := Lib.hid hYl
        replace hlm := Lib.hid hlm
        replace hle' := Lib.hid hle'
        replace hlb := Lib.hid hlb
        replace hli := Lib.hid hli
        replace hlmid := Lib.hid hlmid
        replace U1s := Lib.hid U1s
        replace U2s := Lib.hid U2s
        replace V1s := Lib.hid V1s
        replace V2s := Lib.hid V2s
        have eI : (e : Int) ≤ (N : Int) := by omega
        obtain ⟨b1, hb1⟩ : ∃ b1 : Bool, b1 = (decide (i < m) && decide (m < e)) := ⟨_, rfl⟩
        replace hb1 := Lib.hid hb1
        go_upto_region 39 with fail
        go_cut [185] (fun s wx => s = .bool b1 ∧ wx = wr)
        case first => as_aux_lemma =>
          by_cases c1 : i < m
          · by_cases c2 : m < e
            · have e1 : b1 = true := by rw [hb1.out]; simp [c1, c2]
              subst e1
              have d1 : decide (i < m) = true := decide_eq_true c1
              have d2 : decide (m < e) = true := decide_eq_true c2
              go_wp2
              go_meet
              case rel => exact ⟨rfl, rfl⟩
            · have e1 : b1 = false := by rw [hb1.out]; simp [c2]
              subst e1
              have d1 : decide (i < m) = true := decide_eq_true c1
              have d2 : decide (m < e) = false := decide_eq_false c2
              go_wp2
              go_meet
              case rel => exact ⟨rfl, rfl⟩
          · have e1 : b1 = false := by rw [hb1.out]; simp [c1]
            subst e1
            have d1 : decide (i < m) = false := decide_eq_false c1
            go_wp2
            go_meet
            case rel => exact ⟨rfl, rfl⟩
        case rest => as_aux_lemma =>
          obtain ⟨rfl, rfl⟩ := hcut
          go_upto_if 185 with fail
          go_cut [185] (fun s wx => Hid (SWK encC 2 w0 blk off (X ++ (U1 ++ V1) ++ (U2 ++ V2) ++ Y).toArray wx))
          case first => as_aux_lemma =>
            by_cases c1 : b1 = true
            · obtain rfl := c1
              have c2 := hb1.out
              simp only [eq_comm (a := true), Bool.and_eq_true, decide_eq_true_eq] at c2
              obtain ⟨c2, c3⟩ := c2
              have S2 : SWK encC 2 w0 blk off ((X ++ U1) ++ (U2 ++ V1) ++ (V2 ++ Y)).toArray wc := by have := S1.out; simpa using this
              have c := rot.out wc i m e (X ++ U1) U2 V1 (V2 ++ Y) (by rw [List.length_append, hli.out]) (by rw [List.length_append, hlm.out]) (by rw [List.length_append, hle'.out]) (by have := hlm.out; have := hli.out; omega) (by have := hlm.out; have := hle'.out; omega) (by simp only [List.length_append]; have := hYl.out; omega) hsz S2
              replace c := Lib.hid c
              clear S2 S1 hb1 rot
              replace c2 := Lib.hid c2
              replace c3 := Lib.hid c3
              go_wp2_with fail
              refine c.out.mono ?_
              rintro x w1 ⟨rfl, S3⟩
              replace S3 := Lib.hid S3
              clear c
              go_wp2
              go_meet
              case rel =>
                have := S3.out
                show SWK encC 2 w0 blk off _ _
                simpa using this
            · have c1' : b1 = false := by simpa using c1
              subst c1'
              have c2 := hb1.out
              have hz : U2 = [] ∨ V1 = [] := by
                by_cases c3 : i < m
                · refine .inr (List.eq_nil_of_length_eq_zero ?_)
                  have c4 : ¬ m < e := by intro c4; simp [c3, c4] at c2
                  have := hlm.out; have := hle'.out; omega
                · refine .inl (List.eq_nil_of_length_eq_zero ?_)
                  have := hlm.out; have := hli.out; omega
              have S3 : Hid (SWK encC 2 w0 blk off (X ++ (U1 ++ V1) ++ (U2 ++ V2) ++ Y).toArray wc) := by
                have := S1.out
                show SWK encC 2 w0 blk off _ _
                rcases hz with hz | hz <;> subst hz <;> simpa using this
              clear c2 c1 hz S1 hb1 rot
              go_wp2
              go_meet
              case rel => exact S3
          case rest => as_aux_lemma =>
            obtain ⟨b2, hb2⟩ : ∃ b2 : Bool, b2 = (decide (a < i) && decide (i < mid)) := ⟨_, rfl⟩
            have S1' := hcut
            clear hcut rot hb1
            replace hb2 := Lib.hid hb2
            go_upto_region 41 with fail
            go_cut [199] (fun s wx => s = .bool b2 ∧ wx = wc)
            case first => as_aux_lemma =>
              by_cases c1 : a < i
              · by_cases c2 : i < mid
                · have e1 : b2 = true := by rw [hb2.out]; simp [c1, c2]
                  subst e1
                  have d1 : decide (a < i) = true := decide_eq_true c1
                  have d2 : decide (i < mid) = true := decide_eq_true c2
                  go_wp2
                  go_meet
                  case rel => exact ⟨rfl, rfl⟩
                · have e1 : b2 = false := by rw [hb2.out]; simp [c2]
                  subst e1
                  have d1 : decide (a < i) = true := decide_eq_true c1
                  have d2 : decide (i < mid) = false := decide_eq_false c2
                  go_wp2
                  go_meet
                  case rel => exact ⟨rfl, rfl⟩
              · have e1 : b2 = false := by rw [hb2.out]; simp [c1]
                subst e1
                have d1 : decide (a < i) = false := decide_eq_false c1
                go_wp2
                go_meet
                case rel => exact ⟨rfl, rfl⟩
            case rest => as_aux_lemma =>
              obtain ⟨rfl, rfl⟩ := hcut
              go_upto_if 199 with fail
              go_cut [199] (fun s wx => Hid (∃ W1 : List Cnt, W1.Perm (U1 ++ V1) ∧ Srt W1 ∧ SWK encC 2 w0 blk off (X ++ W1 ++ (U2 ++ V2) ++ Y).toArray wx))
              case first => as_aux_lemma =>
                by_cases c1 : b2 = true
                · obtain rfl := c1
                  have c2 := hb2.out
                  simp only [eq_comm (a := true), Bool.and_eq_true, decide_eq_true_eq] at c2
                  obtain ⟨c2, c3⟩ := c2
                  have S2 : SWK encC 2 w0 blk off (X ++ (U1 ++ V1) ++ (U2 ++ V2 ++ Y)).toArray wc := by have := S1'.out; simpa using this
                  have c := ih.out wc a i mid X U1 V1 (U2 ++ V2 ++ Y) (by omega) hXl.out.symm hli.out hlmid.out (by have := hli.out; have := hXl.out; omega) (by have := hlmid.out; have := hli.out; omega) (by simp only [List.length_append]; have := hYl.out; omega) U1s.out V1s.out S2
                  replace c := Lib.hid c
                  clear S2 S1' hb2 ih
                  replace c2 := Lib.hid c2
                  replace c3 := Lib.hid c3
                  go_wp2_with fail
                  refine c.out.mono ?_
                  rintro x w1 ⟨rfl, W1, p1, p2, S3⟩
                  have S4 : Hid (∃ W1 : List Cnt, W1.Perm (U1 ++ V1) ∧ Srt W1 ∧ SWK encC 2 w0 blk off (X ++ W1 ++ (U2 ++ V2) ++ Y).toArray w1) := ⟨W1, p1, p2, by simpa using S3⟩
                  clear c S3 p1 p2
                  go_wp2
                  go_meet
                  case rel => exact S4
                · have c1' : b2 = false := by simpa using c1
                  subst c1'
                  have c2 := hb2.out
                  have hz : U1 = [] ∨ V1 = [] := by
                    by_cases c3 : a < i
                    · refine .inr (List.eq_nil_of_length_eq_zero ?_)
                      have c4 : ¬ i < mid := by intro c4; simp [c3, c4] at c2
                      have := hlmid.out; have := hli.out; omega
                    · refine .inl (List.eq_nil_of_length_eq_zero ?_)
                      have := hXl.out; have := hli.out; omega
                  have S4 : Hid (∃ W1 : List Cnt, W1.Perm (U1 ++ V1) ∧ Srt W1 ∧ SWK encC 2 w0 blk off (X ++ W1 ++ (U2 ++ V2) ++ Y).toArray wc) := by
                    refine ⟨U1 ++ V1, List.Perm.refl _, ?_, S1'.out⟩
                    rcases hz with hz | hz <;> subst hz
                    · simpa using V1s.out
                    · simpa using U1s.out
                  clear c2 c1 hz S1' hb2
                  go_wp2
                  go_meet
                  case rel => exact S4
              case rest => as_aux_lemma =>
                obtain ⟨W1, w1p, w1s, S2⟩ := hcut.out
                have w1l : W1.length = U1.length + V1.length := by rw [w1p.length_eq, List.length_append]
                clear hcut S1' hb2
                replace w1p := Lib.hid w1p
                replace w1s := Lib.hid w1s
                replace S2 := Lib.hid S2
                replace w1l := Lib.hid w1l
                obtain ⟨b3, hb3⟩ : ∃ b3 : Bool, b3 = (decide (mid < e) && decide (e < b)) := ⟨_, rfl⟩
                replace hb3 := Lib.hid hb3
                go_upto_region 43 with fail
                go_cut [213] (fun s wx => s = .bool b3 ∧ wx = wc)
                case first => as_aux_lemma =>
                  by_cases c1 : mid < e
                  · by_cases c2 : e < b
                    · have e1 : b3 = true := by rw [hb3.out]; simp [c1, c2]
                      subst e1
                      have d1 : decide (mid < e) = true := decide_eq_true c1
                      have d2 : decide (e < b) = true := decide_eq_true c2
                      go_wp2
                      go_meet
                      case rel => exact ⟨rfl, rfl⟩
                    · have e1 : b3 = false := by rw [hb3.out]; simp [c2]
                      subst e1
                      have d1 : decide (mid < e) = true := decide_eq_true c1
                      have d2 : decide (e < b) = false := decide_eq_false c2
                      go_wp2
                      go_meet
                      case rel => exact ⟨rfl, rfl⟩
                  · have e1 : b3 = false := by rw [hb3.out]; simp [c1]
                    subst e1
                    have d1 : decide (mid < e) = false := decide_eq_false c1
                    go_wp2
                    go_meet
                    case rel => exact ⟨rfl, rfl⟩
                case rest => as_aux_lemma =>
                  obtain ⟨rfl, rfl⟩ := hcut
                  by_cases c1 : b3 = true
                  · obtain rfl := c1
                    have c2 := hb3.out
                    simp only [eq_comm (a := true), Bool.and_eq_true, decide_eq_true_eq] at c2
                    obtain ⟨c2, c3⟩ := c2
                    have S3 : SWK encC 2 w0 blk off ((X ++ W1) ++ (U2 ++ V2) ++ Y).toArray wc := by have := S2.out; simpa using this
                    have c := ih.out wc mid e b (X ++ W1) U2 V2 Y (by omega) (by rw [List.length_append, w1l.out]; have := hlmid.out; omega) (by rw [List.length_append, w1l.out]; have := hle'.out; omega) (by rw [List.length_append, w1l.out]; have := hlb.out; omega) (by have := hlmid.out; have := hle'.out; omega) (by have := hlb.out; have := hle'.out; omega) (by simp only [List.length_append]; have := hYl.out; have := w1l.out; omega) U2s.out V2s.out S3
                    replace c := Lib.hid c
                    clear S3 S2 hb3 ih
                    replace c2 := Lib.hid c2
                    replace c3 := Lib.hid c3
                    go_wp2_with fail
                    refine c.out.mono ?_
                    rintro x w1 ⟨rfl, W2, p1, p2, S3⟩
                    have fin : Hid (∃ W : List Cnt, W.Perm (U ++ V) ∧ Srt W ∧ SWK encC 2 w0 blk off (X ++ W ++ Y).toArray w1) :=
                      ⟨W1 ++ W2, (w1p.out.append p1).trans hpm.out, w1s.out.parts p2 (fun x hx y hy => hbel.out x (w1p.out.mem_iff.1 hx) y (p1.mem_iff.1 hy)), by simpa using S3⟩
                    clear c S3 p1 p2
                    go_wp2
                    go_end0
                    exact ⟨rfl, fin.out⟩
                  · have c1' : b3 = false := by simpa using c1
                    subst c1'
                    have c2 := hb3.out
                    have hz : U2 = [] ∨ V2 = [] := by
                      by_cases c3 : mid < e
                      · refine .inr (List.eq_nil_of_length_eq_zero ?_)
                        have c4 : ¬ e < b := by intro c4; simp [c3, c4] at c2
                        have := hlb.out; have := hle'.out; omega
                      · refine .inl (List.eq_nil_of_length_eq_zero ?_)
                        have := hlmid.out; have := hle'.out; omega
                    have s2 : Srt (U2 ++ V2) := by
                      rcases hz with hz | hz <;> subst hz
                      · simpa using V2s.out
                      · simpa using U2s.out
                    have fin : Hid (∃ W : List Cnt, W.Perm (U ++ V) ∧ Srt W ∧ SWK encC 2 w0 blk off (X ++ W ++ Y).toArray wc) :=
                      ⟨W1 ++ (U2 ++ V2), (w1p.out.append (List.Perm.refl _)).trans hpm.out, w1s.out.parts s2 (fun x hx y hy => hbel.out x (w1p.out.mem_iff.1 hx) y hy), by simpa using S2.out⟩
                    clear c2 c1 hz S2 hb3
                    go_wp2
                    go_end0
                    exact ⟨rfl, fin.out⟩
theorem merge_any (w0 : World) (blk off cap g : Nat) (d0 : Array Cnt) (C : RowC w0 blk off d0 g) : ∀ f, Calling w0 blk off cap g d0.size f := by
  intro f
  induction f with
  | zero => intro w1 a m b X U V Y h; omega
  | succ f ih =>
    intro w1 a m b X U V Y hf ha hm hb h1 h2 hN hU hV S
    by_cases u1 : U.length = 1
    · obtain ⟨u, rfl⟩ := List.length_eq_one_iff.1 u1
      have e : m = a + 1 := by simp at hm; omega
      subst e
      have := merge_left w0 w1 blk off cap a b g d0 X V Y u C ha (by simp at hb; omega) (by simp at hN; omega) hV (by simpa using S)
      simpa using this
    · by_cases v1 : V.length = 1
      · obtain ⟨v, rfl⟩ := List.length_eq_one_iff.1 v1
        have e : b = m + 1 := by simp at hb; omega
        subst e
        exact merge_right w0 w1 blk off cap a m g d0 X U Y v C ha hm (by omega) (by simp at hN; omega) hU S
      · exact merge_two w0 w1 blk off cap a m b g d0 X U V Y C ha hm hb (by omega) (by omega) hN hU hV (fun w2 a' m' b' X' U' V' Y' h => ih w2 a' m' b' X' U' V' Y' (by omega)) S
end Go.Proofs.YtpiegngjpnpohaaGreat.St

namespace Go.Proofs.YtpiegngjpnpohaaGreat.St
open Go.RowKit Go.Sort Go.Shelf Go.Proofs Go.Lib
set_option linter.unusedVariables false
set_option maxRecDepth 100000 in
set_option maxHeartbeats 4000000 in
theorem insertion_any (w0 w : World) (blk off cap a b g : Nat) (d0 : Array Cnt) (X Z Y : List Cnt) (C : RowC w0 blk off d0 g) (ha : a = X.length) (hb : b = X.length + Z.length) (hN : d0.size = X.length + Z.length + Y.length)
    (S : SWK encC 2 w0 blk off (X ++ Z ++ Y).toArray w) :
    Calls Tryz.prog 207 #[.slice (some ⟨blk, off, none⟩) d0.size cap, .int .i64 a, .int .i64 b, .func (.func g) #[] #[]] w (MergePost w0 blk off X Z Y) := by
  obtain ⟨N, hNs⟩ : ∃ N, N = d0.size := ⟨_, rfl⟩
  have hsz := C.small
  rw [← hNs] at hN hsz ⊢
  have hNI : (N : Int) < 4611686018427387904 := by omega
  have hab : a ≤ b := by omega
  have hbN : b ≤ N := by omega
  have hZl : Z.length = b - a := by omega
  have eg := C.eg
  have mixed : Tryz.prog.follows .mixedOrders = true := by kernel_rfl
  have S0 : Hid (∃ P Q : List Cnt, P.length = 1 ∧ (P ++ Q).Perm Z ∧ Srt P ∧ SWK encC 2 w0 blk off (X ++ P ++ (Q ++ Y)).toArray w) ∨ Z = [] := by
    cases Z with
    | nil => exact .inr rfl
    | cons z Z => exact .inl ⟨[z], Z, rfl, List.Perm.refl _, List.pairwise_singleton _ _, by simpa using S⟩
  have S00 := Lib.hid S
  have HC := Lib.hid C
  replace hNs := Lib.hid hNs
  replace hN := Lib.hid hN
  replace ha := Lib.hid ha
  replace hZl := Lib.hid hZl
  clear S C hb
  rcases S0 with S0 | S0
  rotate_left
  · have hl : b = a := by have := hZl.out; rw [S0] at this; simp at this; omega
    subst hl
    have fin : MergePost w0 blk off X Z Y (.returned (.tuple #[])) w := ⟨rfl, [], by rw [S0], List.Pairwise.nil, by have := S00.out; rw [S0] at this; exact this⟩
    replace fin := Lib.hid fin
    clear S0
    go_enter Tryz.func207, Tryz.ntmps207
    go_wp2
    go_loopg [8] (0) (fun g1 vi wr => ∃ i : Nat, vi = .int .i64 (i : Int) ∧ b < i ∧ wr = w)
    case atStart => exact ⟨b + 1, by simp, by omega, rfl⟩
    case round =>
      obtain ⟨i, rfl, hi, rfl⟩ := hrel
      have hd : ¬ i < b := by omega
      go_wp2
      go_end0
      exact fin.out
  have hab1 : a + 1 ≤ b := by
    obtain ⟨P, Q, h1, h2, _⟩ := S0.out
    have h3 := h2.length_eq
    have := hZl.out
    simp at h3; omega
  clear S00
  go_enter Tryz.func207, Tryz.ntmps207
  go_wp2
  go_loopg [8] (b - a) (fun g1 vi wr => ∃ (i : Nat), vi = .int .i64 (i : Int) ∧ a < i ∧ i ≤ b ∧ b - i ≤ g1 ∧ Hid (∃ P Q : List Cnt, P.length = i - a ∧ (P ++ Q).Perm Z ∧ Srt P ∧ SWK encC 2 w0 blk off (X ++ P ++ (Q ++ Y)).toArray wr))
  case atStart => exact ⟨a + 1, by simp, by omega, by omega, by omega, by rw [show a + 1 - a = 1 by omega]; exact S0⟩
  case round =>
    clear S0
    obtain ⟨i, rfl, hai, hib, hg1, hS⟩ := hrel
    obtain ⟨P, Q, hP, hZ, hs, S1⟩ := hS.out
    clear hS
    have hPQ : P.length + Q.length = b - a := by have := hZ.length_eq; rw [List.length_append, hZl.out] at this; exact this
    by_cases hlt : i < b
    · have hltz : (i : Int) < (b : Int) := by omega
      obtain ⟨u, Q, rfl⟩ : ∃ u Q', Q = u :: Q' := by
        cases Q with
        | nil => simp at hPQ; omega
        | cons u Q' => exact ⟨u, Q', rfl⟩
      have S2 : Hid (SWK encC 2 w0 blk off (X ++ (P.take (i - a) ++ u :: P.drop (i - a)) ++ (Q ++ Y)).toArray wr) := by
        rw [List.take_of_length_le (by omega), List.drop_of_length_le (by omega)]
        show SWK encC 2 w0 blk off _ _
        simpa using S1
      have hNN : X.length + P.length + 1 + Q.length + Y.length = N := by
        have h1 := hN.out; have h2 := hZl.out
        simp only [List.length_cons] at hPQ
        omega
      have hle := fun i j (h1 : i ≤ j) (h2 : j < P.length) => hs.le h1 h2
      replace hs := Lib.hid hs
      replace hle := Lib.hid hle
      replace hNN := Lib.hid hNN
      replace hP := Lib.hid hP
      replace hZ := Lib.hid hZ
      clear S1 hPQ
      go_wp2
      go_loopg [9] (i - a) (fun g2 vj wr2 => ∃ (k : Nat), vj = .int .i64 ((a + k : Nat) : Int) ∧ k ≤ i - a ∧ k ≤ g2 ∧ Hid (∀ t, k ≤ t → t < P.length → u.1 < (P[t]!).1) ∧ Hid (SWK encC 2 w0 blk off (X ++ (P.take k ++ u :: P.drop k) ++ (Q ++ Y)).toArray wr2))
      case atStart => exact ⟨i - a, by rw [show a + (i - a) = i by omega], Nat.le_refl _, Nat.le_refl _, fun t h1 h2 => absurd h2 (by have := hP.out; omega), S2⟩
      case round =>
        clear S2
        obtain ⟨k, rfl, hk, hg2, hgt, S2⟩ := hrel
        have hkP : k ≤ P.length := by have := hP.out; omega
        have fin : (∀ t, t < k → (P[t]!).1 ≤ u.1) → ∀ w3, SWK encC 2 w0 blk off (X ++ (P.take k ++ u :: P.drop k) ++ (Q ++ Y)).toArray w3 → Hid (∃ P Q : List Cnt, P.length = i + 1 - a ∧ (P ++ Q).Perm Z ∧ Srt P ∧ SWK encC 2 w0 blk off (X ++ P ++ (Q ++ Y)).toArray w3) := fun hlo w3 S3 =>
          ⟨P.take k ++ u :: P.drop k, Q, by have := (insert_perm P u k).length_eq; rw [this]; simp; have := hP.out; omega, by
            refine (List.Perm.append_right Q (insert_perm P u k)).trans (List.Perm.trans ?_ hZ.out)
            simpa using (List.perm_middle (a := u) (l₁ := P) (l₂ := Q)).symm, hs.out.insert (fun t h1 _ => hlo t h1) (fun t h1 h2 => Int.le_of_lt (hgt.out t h1 h2)), S3⟩
        replace fin := Lib.hid fin
        have hz : (X ++ (P.take k ++ u :: P.drop k) ++ (Q ++ Y)).toArray.size = d0.size := by rw [← hNs.out, ← hNN.out]; simp; omega
        by_cases hk0 : k = 0
        · subst hk0
          have S3 : Hid (∃ P Q : List Cnt, P.length = i + 1 - a ∧ (P ++ Q).Perm Z ∧ Srt P ∧ SWK encC 2 w0 blk off (X ++ P ++ (Q ++ Y)).toArray wr.drew) := fin.out (fun t ht => absurd ht (Nat.not_lt_zero t)) _ S2.out.drew
          clear S2 fin hgt hz
          obtain ⟨c, hca⟩ : ∃ c, c = a + 0 := ⟨_, rfl⟩
          rw [← hca]
          have hcN : ¬ a < c := by omega
          have hjaz : decide ((c : Int) > (a : Int)) = false := decide_eq_false (by omega)
          have hjaz' : ¬ (a : Int) < (c : Int) := by omega
          replace hca := Lib.hid hca
          go_wp2_with fail
          go_region
          all_goals go_wp2
          go_roundg (b - (i + 1))
          case measure => omega
          case rel => exact ⟨i + 1, by simp, by omega, by omega, Nat.le_refl _, S3⟩
        · obtain ⟨k, rfl⟩ : ∃ k', k = k' + 1 := ⟨k - 1, by omega⟩
          have hkk : a + k + 1 < N := by have := hNN.out; have := hP.out; have := ha.out; omega
          have hlen : (P.take (k + 1)).length = k + 1 := by rw [List.length_take]; omega
          obtain ⟨x, hx⟩ : ∃ x, x = P[k]! := ⟨_, rfl⟩
          have hu : u = (X ++ (P.take (k + 1) ++ u :: P.drop (k + 1)) ++ (Q ++ Y)).toArray[a + k + 1]! := by
            have := at_mid (X := X ++ P.take (k + 1)) (U := u :: P.drop (k + 1)) (Y := Q ++ Y) (k := a + k + 1) (i := 0) (by rw [List.length_append, hlen, ha.out]; omega) (by simp)
            have e : X ++ (P.take (k + 1) ++ u :: P.drop (k + 1)) ++ (Q ++ Y) = (X ++ P.take (k + 1)) ++ ((u :: P.drop (k + 1)) ++ (Q ++ Y)) := by simp
            rw [e, this]; rfl
          have hxx : x = (X ++ (P.take (k + 1) ++ u :: P.drop (k + 1)) ++ (Q ++ Y)).toArray[a + k]! := by
            have := at_mid (X := X) (U := P.take (k + 1)) (Y := u :: P.drop (k + 1) ++ (Q ++ Y)) (k := a + k) (i := k) (by rw [ha.out]) (by omega)
            have e : X ++ (P.take (k + 1) ++ u :: P.drop (k + 1)) ++ (Q ++ Y) = X ++ (P.take (k + 1) ++ (u :: P.drop (k + 1) ++ (Q ++ Y))) := by simp
            rw [e, this, hx, getElem!_pos P k (by omega), getElem!_pos (P.take (k + 1)) k (by omega), List.getElem_take]
          obtain ⟨c0, c1⟩ := swk_look S2.out HC.out.R hz (i := a + k + 1) (by rw [hz, ← hNs.out]; omega) (x := u) hu
          obtain ⟨d0', d1'⟩ := swk_look S2.out HC.out.R hz (i := a + k) (by rw [hz, ← hNs.out]; omega) (x := x) hxx
          have hc := swk_cmp S2.out HC.out hz u x
          have hdown := down_step (X := X) (V := P) (Y := Q ++ Y) (u := u) (k := k) (i := a + k + 1) (j := a + k) (by omega) (by rw [ha.out]) (by rw [ha.out])
          replace hu := Lib.hid hu
          replace hxx := Lib.hid hxx
          replace hdown := Lib.hid hdown
          replace hx := Lib.hid hx
          replace hz := Lib.hid hz
          rw [show a + (k + 1) = a + k + 1 by omega]
          obtain ⟨c, hca⟩ : ∃ c, c = a + k := ⟨_, rfl⟩
          rw [← hca] at c0 c1 d0' d1' hu hxx hdown hkk ⊢
          have g1 : decide (a < c + 1) = true := decide_eq_true (by omega)
          have g1' : (a : Int) < (c : Int) + 1 := by omega
          have g2 : (c : Int) < (N : Int) := by omega
          have g3 : (c : Int) + 1 < (N : Int) := by omega
          have g4 : ((c : Int) + 1).toNat = c + 1 := by omega
          have g5 : IntKind.i64.wrap ((c : Int)) = (c : Int) := by rw [IntKind.wrap_i64]; omega
          have g6 : (0 : Int) ≤ (c : Int) + 1 := by omega
          have g7 : IntKind.i64.wrap ((c : Int) + 1) = (c : Int) + 1 := by rw [IntKind.wrap_i64]; omega
          have ec : ((c + 1 : Nat) : Int) = (c : Int) + 1 := by omega
          rw [ec]
          replace hca := Lib.hid hca
          clear ec hkP hlen hk0
          by_cases hlv : cmpC u x < 0
          · have hlu := (cmpC_neg u x).1 hlv
            obtain ⟨cv, hcv⟩ : ∃ cv, cv = cmpC u x := ⟨_, rfl⟩
            rw [← hcv] at hc hlv
            replace hcv := Lib.hid hcv
            replace hlu := Lib.hid hlu
            go_wp2_with fail
            go_quiet_grown (first | (go_at_fn g; refine Calls.grown_of (hc _ _)))
            have S3 : Hid (SWK encC 2 w0 blk off (X ++ (P.take (k + 1) ++ u :: P.drop (k + 1)) ++ (Q ++ Y)).toArray (grow (wr.drewN nq) osq)) := S2.out.grown nq osq
            clear c0 c1 d0' d1' hc S2 fin
            generalize grow (wr.drewN nq) osq = w2 at S3 ⊢
            clear nq osq
            obtain ⟨⟨i0, j0⟩, ⟨i1, j1⟩⟩ := swk_cells S3.out HC.out.R hz.out (i := c) (by rw [hz.out, ← hNs.out]; omega)
            obtain ⟨⟨p0, q0⟩, ⟨p1, q1⟩⟩ := swk_cells S3.out HC.out.R hz.out (i := c + 1) (by rw [hz.out, ← hNs.out]; omega)
            have S4 := swk_swap S3.out HC.out.R (i := c + 1) (j := c) (by rw [hz.out, ← hNs.out]; omega) (by rw [hz.out, ← hNs.out]; omega) u x hu.out hxx.out
            rw [hdown.out] at S4
            rw [← hxx.out] at i0 i1
            rw [← hu.out] at p0 p1
            have t1 : ∀ w3 : World, w3 = (((w2.drew.setCell ⟨blk, off + (c + 1) * 2, none⟩ (.int .i64 x.1)).setCell ⟨blk, off + (c + 1) * 2 + 1, none⟩ (.int .u64 x.2)).setCell ⟨blk, off + c * 2, none⟩ (.int .i64 u.1)).setCell ⟨blk, off + c * 2 + 1, none⟩ (.int .u64 u.2) → Hid (SWK encC 2 w0 blk off (X ++ (P.take k ++ u :: P.drop k) ++ (Q ++ Y)).toArray w3) := by
              intro w3 h; subst h; exact S4
            replace t1 := Lib.hid t1
            have hgt2 : Hid (∀ t, k ≤ t → t < P.length → u.1 < (P[t]!).1) := fun t h1 h2 => by
              by_cases e : t = k
              · subst e; rw [← hx.out]; exact hlu.out
              · exact hgt.out t (by omega) h2
            clear S3 S4 hgt
            go_wp2_with fail
            go_region
            go_wp2
            go_roundg (k)
            case measure => omega
            case rel => exact ⟨k, by rw [← hca.out], by omega, Nat.le_refl _, hgt2, t1.out _ rfl⟩
          · have hlu : x.1 ≤ u.1 := by
              have := (cmpC_neg u x)
              omega
            have S3 := fun n os => fin.out (fun t ht => by
              have := hle.out t k (by omega) (by have := hP.out; omega)
              rw [← hx.out] at this
              omega) _ (S2.out.grown n os)
            obtain ⟨cv, hcv⟩ : ∃ cv, cv = cmpC u x := ⟨_, rfl⟩
            rw [← hcv] at hc hlv
            replace hcv := Lib.hid hcv
            replace hlu := Lib.hid hlu
            replace S3 := Lib.hid S3
            have hdv : decide (cv < 0) = false := decide_eq_false hlv
            clear hlv fin
            go_wp2_with fail
            go_quiet_grown (first | (go_at_fn g; refine Calls.grown_of (hc _ _)))
            have S4 := S3.out nq osq
            clear c0 c1 d0' d1' hc S2 S3 hgt
            generalize grow (wr.drewN nq) osq = w2 at S4 ⊢
            clear nq osq
            go_wp2_with fail
            go_roundg (b - (i + 1))
            case measure => omega
            case rel => exact ⟨i + 1, by simp, by omega, by omega, Nat.le_refl _, S4⟩
    · obtain rfl : i = b := by omega
      have hge : ¬ (i : Int) < (i : Int) := by omega
      have hQ : Q = [] := List.eq_nil_of_length_eq_zero (by omega)
      subst hQ
      have fin : MergePost w0 blk off X Z Y (.returned (.tuple #[])) wr := ⟨rfl, P, by simpa using hZ, hs, by simpa using S1⟩
      replace fin := Lib.hid fin
      clear hP hZ hs S1 hPQ
      go_wp2
      go_end0
      exact fin.out
end Go.Proofs.YtpiegngjpnpohaaGreat.St
