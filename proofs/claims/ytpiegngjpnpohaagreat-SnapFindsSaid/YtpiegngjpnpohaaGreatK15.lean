/- Lemmas for the laws of this seat, laid together of St4. -/
import Derived.Test.YtpiegngjpnpohaaGreatK14
import Derived.Deep.DeepCutAuto

namespace Go.Proofs.YtpiegngjpnpohaaGreat.St
open Go.RowKit Go.Sort Go.Shelf Go.Proofs Go.Lib
set_option linter.unusedVariables false
theorem at_left {X U V Y : List Cnt} {a i : Nat} (ha : a = X.length) (hi : i < U.length) : U[i]! = (X ++ (U ++ V) ++ Y).toArray[a + i]! := by
  have := at_mid (X := X) (U := U) (Y := V ++ Y) (k := a + i) (i := i) (by omega) hi
  rw [List.append_assoc, List.append_assoc, this]
theorem at_right {X U V Y : List Cnt} {m i : Nat} (hm : m = X.length + U.length) (hi : i < V.length) : V[i]! = (X ++ (U ++ V) ++ Y).toArray[m + i]! := by
  have := at_mid (X := X ++ U) (U := V) (Y := Y) (k := m + i) (i := i) (by simp; omega) hi
  rw [List.append_assoc] at this
  rw [List.append_assoc, List.append_assoc, this]
def Calling (w0 : World) (blk off cap g N : Nat) (len : Nat) : Prop :=
  ∀ (w1 : World) (a m b : Nat) (X U V Y : List Cnt), b - a < len → a = X.length → m = X.length + U.length → b = X.length + U.length + V.length → 0 < U.length → 0 < V.length → N = X.length + U.length + V.length + Y.length → Srt U → Srt V →
    SWK encC 2 w0 blk off (X ++ (U ++ V) ++ Y).toArray w1 →
    Calls Tryz.prog 208 #[.slice (some ⟨blk, off, none⟩) N cap, .int .i64 a, .int .i64 m, .int .i64 b, .func (.func g) #[] #[]] w1 (MergePost w0 blk off X (U ++ V) Y)
set_option maxRecDepth 100000 in
set_option maxHeartbeats 4000000 in
theorem merge_two (w0 w : World) (blk off cap a m b g : Nat) (d0 : Array Cnt) (X U V Y : List Cnt) (C : RowC w0 blk off d0 g) (ha : a = X.length) (hm : m = X.length + U.length) (hb : b = X.length + U.length + V.length) (hU2 : 2 ≤ U.length) (hV2 : 2 ≤ V.length)
    (hN : d0.size = X.length + U.length + V.length + Y.length) (hU : Srt U) (hV : Srt V) (ih : Calling w0 blk off cap g d0.size (b - a)) (S : SWK encC 2 w0 blk off (X ++ (U ++ V) ++ Y).toArray w) :
    Calls Tryz.prog 208 #[.slice (some ⟨blk, off, none⟩) d0.size cap, .int .i64 a, .int .i64 m, .int .i64 b, .func (.func g) #[] #[]] w (MergePost w0 blk off X (U ++ V) Y) := by
  have rot := fun (w : World) (a m b : Nat) (X P Q Y : List Cnt) => rotate_any w0 w blk off cap a m b d0 X P Q Y (.func (.func g) #[] #[]) C.R
  obtain ⟨N, hNs⟩ : ∃ N, N = d0.size := ⟨_, rfl⟩
  have hsz := C.small
  rw [← hNs] at hN hsz rot ih ⊢
  have hdz : (X ++ (U ++ V) ++ Y).toArray.size = d0.size := by simp; omega
  obtain ⟨h, hh⟩ : ∃ h, h = (U.length + V.length) / 2 := ⟨_, rfl⟩
  obtain ⟨mid, hmid⟩ : ∃ mid, mid = a + h := ⟨_, rfl⟩
  have f1 : ((a : Int) + (b : Int)) / 2 = (mid : Int) := by omega
  have hul : U.length = m - a := by omega
  have hvl : V.length = b - m := by omega
  have ham : a + 2 ≤ m := by omega
  have hmb : m + 2 ≤ b := by omega
  have hbN : b ≤ N := by omega
  have hmab : a < mid ∧ mid < b ∧ 2 * mid ≤ a + b ∧ a + b ≤ 2 * mid + 1 := by omega
  obtain ⟨hm1, hm2, hm3, hm4⟩ := hmab
  have atU := fun i (hi : i < U.length) => at_left (X := X) (U := U) (V := V) (Y := Y) ha hi
  have atV := fun i (hi : i < V.length) => at_right (X := X) (U := U) (V := V) (Y := Y) hm hi
  have cut := fun s s0 r0 => cut_ok (h := h) (s := s) (s0 := s0) (r0 := r0) hU hV
  obtain ⟨s0, r0, hc⟩ : ∃ s0 r0, (mid < m ∧ s0 + b = mid + m ∧ r0 = mid) ∨ (m ≤ mid ∧ s0 = a ∧ r0 = m) := by
    by_cases hx : mid < m
    · exact ⟨mid + m - b, mid, .inl ⟨hx, by omega, rfl⟩⟩
    · exact ⟨a, m, .inr ⟨by omega, rfl, rfl⟩⟩
  have hNI : (N : Int) < 4611686018427387904 := by omega
  have hs0 : a ≤ s0 ∧ s0 ≤ r0 ∧ r0 ≤ m ∧ r0 ≤ mid ∧ mid + m ≤ s0 + b := by omega
  obtain ⟨hs0, hs1, hs2, hs3, hs4⟩ := hs0
  have t1 : ((m : Int) - (a : Int) == 1) = false := beq_eq_false_iff_ne.2 (by omega)
  have t2 : ((b : Int) - (m : Int) == 1) = false := beq_eq_false_iff_ne.2 (by omega)
  have t3 : (a : Int) ≤ (m : Int) := by omega
  have t4 : (m : Int) ≤ (b : Int) := by omega
  have t5 : (b : Int) ≤ (N : Int) := by omega
  have t6 : (0 : Int) ≤ (a : Int) + (b : Int) := by omega
  have t7 : (a : Int) + (b : Int) < 9223372036854775808 := by omega
  have t8 : (0 : Int) ≤ (mid : Int) := by omega
  have t9 : (mid : Int) ≤ (b : Int) := by omega
  have t10 : (mid : Int) + (m : Int) < 9223372036854775808 := by omega
  have t11 : (0 : Int) ≤ (mid : Int) + (m : Int) := by omega
  have eg := C.eg
  have mixed : Tryz.prog.follows .mixedOrders = true := by kernel_rfl
  have HC := Lib.hid C
  have S0 := Lib.hid S
  have HU := Lib.hid hU
  have HV := Lib.hid hV
  replace rot := Lib.hid rot
  replace ih := Lib.hid ih
  replace atU := Lib.hid atU
  replace atV := Lib.hid atV
  replace cut := Lib.hid cut
  replace hdz := Lib.hid hdz
  replace hNs := Lib.hid hNs
  replace hN := Lib.hid hN
  replace ha := Lib.hid ha
  replace hm := Lib.hid hm
  replace hb := Lib.hid hb
  replace hh := Lib.hid hh
  replace hmid := Lib.hid hmid
  replace hul := Lib.hid hul
  replace hvl := Lib.hid hvl
  clear C S hU hV hU2 hV2
  go_enter Tryz.func208, Tryz.ntmps208
  go_upto_if 140 with fail
  go_cut [20, 21] (fun s r wx => s = .int .i64 (s0 : Int) ∧ r = .int .i64 (r0 : Int) ∧ wx = w)
  case first => as_aux_lemma =>
    rcases hc with ⟨h1, h2, h3⟩ | ⟨h1, h2, h3⟩
    · have g1 : (mid : Int) < (m : Int) := by omega
      have g2 : (mid : Int) + (m : Int) - (b : Int) = (s0 : Int) := by omega
      have g3 : (mid : Int) = (r0 : Int) := by omega
      clear h2 h3
      replace g3 := Lib.hid g3
      have g4 : decide (mid < m) = true := decide_eq_true h1
      simp only [g4]
      clear g4 g1
      go_wp2
      go_meet
      case rel => exact ⟨by first | rfl | simp [g2], by rw [g3.out], rfl⟩
    · have g1 : ¬ (mid : Int) < (m : Int) := by omega
      subst h2 h3
      have g4 : decide (mid < r0) = false := decide_eq_false (by omega)
      clear h1 g1
      simp only [g4]
      clear g4
      go_wp2
      go_meet
      case rel => exact ⟨rfl, rfl, rfl⟩
  case rest => as_aux_lemma =>
    obtain ⟨rfl, rfl, rfl⟩ := hcut
    go_wp2_with fail
    go_loopg [20, 21] (r0 - s0) (fun kx s10 s11 wr => ∃ (i j : Nat), s10 = .int .i64 (i : Int) ∧ s11 = .int .i64 (j : Int) ∧ s0 ≤ i ∧ i ≤ j ∧ j ≤ r0 ∧ j - i ≤ kx ∧ Hid (s0 < i → (U[i - a - 1]!).1 ≤ (V[h - (i - a)]!).1) ∧ Hid (j < r0 → (V[h - 1 - (j - a)]!).1 < (U[j - a]!).1) ∧
      Hid (SWK encC 2 w0 blk off (X ++ (U ++ V) ++ Y).toArray wr))
    case atStart => exact ⟨s0, r0, rfl, rfl, Nat.le_refl _, hs1, Nat.le_refl _, Nat.le_refl _, fun h => absurd h (by omega), fun h => absurd h (by omega), S0⟩
    case round =>
      clear S0
      obtain ⟨i, j, rfl, rfl, hi, hij, hj, hkx, p1, p2, S1⟩ := hrel
      by_cases hlt : i < j
      · obtain ⟨c, hcm⟩ : ∃ c, c = (i + j) / 2 := ⟨_, rfl⟩
        have hh1 : i ≤ c := by omega
        have hh2 : c < j := by omega
        have k1 : ((i : Int) + (j : Int)) / 2 = (c : Int) := by omega
        have k2 : (i : Int) < (j : Int) := by omega
        have k3 : (0 : Int) ≤ (i : Int) + (j : Int) := by omega
        have k4 : (i : Int) + (j : Int) < 9223372036854775808 := by omega
        have k5 : (c : Int) < (N : Int) := by omega
        obtain ⟨e, he⟩ : ∃ e, e = mid + m - 1 - c := ⟨_, rfl⟩
        have k6 : (mid : Int) + (m : Int) - 1 - (c : Int) = (e : Int) := by omega
        have k7 : (e : Int) < (N : Int) := by omega
        have k8 : IntKind.i64.wrap (e : Int) = (e : Int) := by rw [IntKind.wrap_i64]; omega
        have kc : c - a < U.length := by have := hul.out; omega
        have kd : h - 1 - (c - a) < V.length := by have := hvl.out; have := hmid.out; omega
        have ke : e = m + (h - 1 - (c - a)) := by have := hmid.out; omega
        have kf : c = a + (c - a) := by omega
        replace hcm := Lib.hid hcm
        obtain ⟨x, hx⟩ : ∃ x, x = U[c - a]! := ⟨_, rfl⟩
        obtain ⟨y, hy⟩ : ∃ y, y = V[h - 1 - (c - a)]! := ⟨_, rfl⟩
        obtain ⟨c0, c1⟩ := swk_look S1.out HC.out.R hdz.out (i := c) (by rw [hdz.out, ← hNs.out]; omega) (x := x) (by rw [hx]; have := atU.out (c - a) kc; rw [← kf] at this; exact this)
        obtain ⟨d0', d1'⟩ := swk_look S1.out HC.out.R hdz.out (i := e) (by rw [hdz.out, ← hNs.out]; omega) (x := y) (by rw [hy]; have := atV.out _ kd; rw [← ke] at this; exact this)
        have hc := swk_cmp S1.out HC.out hdz.out y x
        replace hx := Lib.hid hx
        replace hy := Lib.hid hy
        clear kc kd kf
        replace ke := Lib.hid ke
        replace he := Lib.hid he
        by_cases hlv : cmpC y x < 0
        · have hlu := (cmpC_neg y x).1 hlv
          obtain ⟨cv, hcv⟩ : ∃ cv, cv = cmpC y x := ⟨_, rfl⟩
          rw [← hcv] at hc hlv
          replace hcv := Lib.hid hcv
          replace hlu := Lib.hid hlu
          go_wp2_with fail
          go_quiet_grown (first | (go_at_fn g; refine Calls.grown_of (hc _ _)))
          have S2 : Hid (SWK encC 2 w0 blk off (X ++ (U ++ V) ++ Y).toArray (grow (wr.drewN nq) osq)) := S1.out.grown nq osq
          clear c0 c1 d0' d1' hc S1
          generalize grow (wr.drewN nq) osq = w2 at S2 ⊢
          clear nq osq
          go_wp2_with fail
          go_roundg (c - i)
          case measure => omega
          case rel => exact ⟨i, c, rfl, rfl, hi, hh1, by omega, Nat.le_refl _, p1, fun _ => by rw [← hx.out, ← hy.out]; exact hlu.out, S2⟩
        · have hlu : x.1 ≤ y.1 := by
            have := (cmpC_neg y x)
            omega
          obtain ⟨cv, hcv⟩ : ∃ cv, cv = cmpC y x := ⟨_, rfl⟩
          rw [← hcv] at hc hlv
          replace hcv := Lib.hid hcv
          replace hlu := Lib.hid hlu
          have hdv : decide (cv < 0) = false := decide_eq_false hlv
          clear hlv
          go_wp2_with fail
          go_quiet_grown (first | (go_at_fn g; refine Calls.grown_of (hc _ _)))
          have S2 : Hid (SWK encC 2 w0 blk off (X ++ (U ++ V) ++ Y).toArray (grow (wr.drewN nq) osq)) := S1.out.grown nq osq
          clear c0 c1 d0' d1' hc S1
          generalize grow (wr.drewN nq) osq = w2 at S2 ⊢
          clear nq osq
          go_wp2_with fail
          go_roundg (j - (c + 1))
          case measure => omega
          case rel => exact ⟨c + 1, j, by simp, rfl, by omega, by omega, hj, Nat.le_refl _, fun _ => by
            rw [show c + 1 - a - 1 = c - a by omega, show h - (c + 1 - a) = h - 1 - (c - a) by omega, ← hx.out, ← hy.out]; exact hlu.out, p2, S2⟩
      · obtain rfl : i = j := by omega
        have hge : ¬ (i : Int) < (i : Int) := by omega
        obtain ⟨s, hs⟩ : ∃ s, i = a + s := ⟨i - a, by omega⟩
        have hcut : ∀ x ∈ U.take s ++ V.take (h - s), ∀ y ∈ U.drop s ++ V.drop (h - s), x.1 ≤ y.1 := by
          have e1 := hmid.out
          have e2 := hul.out
          have e3 := hvl.out
          refine cut.out s (s0 - a) (r0 - a) (by omega) (by omega) (by omega) (by omega) (by omega) (by omega) (fun hh => ?_) (fun hh => ?_)
          · have := p1.out (by omega)
            rw [show i - a - 1 = s - 1 by omega, show i - a = s by omega] at this
            exact this
          · have := p2.out (by omega)
            rw [show i - a = s by omega] at this
            exact this
        obtain ⟨e, he⟩ : ∃ e, e = mid + m - i := ⟨_, rfl⟩
        have f2 : (mid : Int) + (m : Int) - (i : Int) = (e : Int) := by omega
        have q1 : (U.take s).length = s := by rw [List.length_take]; have := hul.out; omega
        have q2 : (U.drop s).length = m - i := by rw [List.length_drop]; have := hul.out; omega
        have q3 : (V.take (h - s)).length = mid - i := by rw [List.length_take]; have := hvl.out; have := hmid.out; omega
        have q4 : (V.drop (h - s)).length = b - e := by rw [List.length_drop]; have := hvl.out; have := hmid.out; omega
        have eU : U = U.take s ++ U.drop s := (List.take_append_drop s U).symm
        have eV : V = V.take (h - s) ++ V.drop (h - s) := (List.take_append_drop (h - s) V).symm
        have r1 : i ≤ m ∧ i ≤ mid ∧ m ≤ e ∧ mid ≤ e ∧ e ≤ b := by omega
        obtain ⟨r1, r2, r3, r4, r5⟩ := r1
        have U1s := HU.out.take s
        have U2s := HU.out.drop s
        have V1s := HV.out.take (h - s)
        have V2s := HV.out.drop (h - s)
        obtain ⟨U1, hU1⟩ : ∃ x, x = U.take s := ⟨_, rfl⟩
        obtain ⟨U2, hU2⟩ : ∃ x, x = U.drop s := ⟨_, rfl⟩
        obtain ⟨V1, hV1⟩ : ∃ x, x = V.take (h - s) := ⟨_, rfl⟩
        obtain ⟨V2, hV2⟩ : ∃ x, x = V.drop (h - s) := ⟨_, rfl⟩
        rw [← hU1, ← hU2, ← hV1, ← hV2] at hcut
        rw [← hU1] at q1 eU U1s
        rw [← hU2] at q2 eU U2s
        rw [← hV1] at q3 eV V1s
        rw [← hV2] at q4 eV V2s
        clear hU1 hU2 hV1 hV2
        have hpm : ((U1 ++ V1) ++ (U2 ++ V2)).Perm (U ++ V) := by rw [eU, eV]; exact rot_perm
        have hXl : X.length = a := ha.out.symm
        have hYl : N = X.length + U1.length + U2.length + V1.length + V2.length + Y.length := by rw [hN.out, eU, eV]; simp only [List.length_append]; omega
        rw [eU, eV] at S1
        have hlm : m = X.length + U1.length + U2.length := by omega
        have hle' : e = X.length + U1.length + U2.length + V1.length := by omega
        have hlb : b = X.length + U1.length + U2.length + V1.length + V2.length := by omega
        have hli : i = X.length + U1.length := by omega
        have hlmid : mid = X.length + U1.length + V1.length := by omega
        clear eU eV p1 p2 cut atU atV HU HV hul hvl hN hc hs q1 q2 q3 q4 hkx hi hij hj hs0 hs1 hs2 hs3 hs4 he
        replace hpm := Lib.hid hpm
        have hbel := Lib.hid hcut
        clear hcut
        replace hXl := Lib.hid hXl
        replace hYl := Lib.hid hYl
        replace hlm := Lib.hid hlm
        replace hle' := Lib.hid hle'
        replace hlb := Lib.hid hlb
        replace hli := Lib.hid hli
        replace hlmid := Lib.hid hlmid
        replace U1s := Lib.hid U1s
        replace U2s := Lib.hid U2s
        replace V1s := Lib.hid V1s
        replace V2s := Lib.hid V2s
        have eI : (e : Int) ≤ (N : Int) := by omega
        obtain ⟨b1, hb1⟩ : ∃ b1 : Bool, b1 = (decide (i < m) && decide (m < e)) := ⟨_, rfl⟩
        replace hb1 := Lib.hid hb1
        go_upto_region 39 with fail
        go_cut [185] (fun s wx => s = .bool b1 ∧ wx = wr)
        case first => as_aux_lemma =>
          by_cases c1 : i < m
          · by_cases c2 : m < e
            · have e1 : b1 = true := by rw [hb1.out]; simp [c1, c2]
              subst e1
              have d1 : decide (i < m) = true := decide_eq_true c1
              have d2 : decide (m < e) = true := decide_eq_true c2
              go_wp2
              go_meet
              case rel => exact ⟨rfl, rfl⟩
            · have e1 : b1 = false := by rw [hb1.out]; simp [c2]
              subst e1
              have d1 : decide (i < m) = true := decide_eq_true c1
              have d2 : decide (m < e) = false := decide_eq_false c2
              go_wp2
              go_meet
              case rel => exact ⟨rfl, rfl⟩
          · have e1 : b1 = false := by rw [hb1.out]; simp [c1]
            subst e1
            have d1 : decide (i < m) = false := decide_eq_false c1
            go_wp2
            go_meet
            case rel => exact ⟨rfl, rfl⟩
        case rest => as_aux_lemma =>
          obtain ⟨rfl, rfl⟩ := hcut
          go_upto_if 185 with fail
          go_cut [185] (fun s wx => Hid (SWK encC 2 w0 blk off (X ++ (U1 ++ V1) ++ (U2 ++ V2) ++ Y).toArray wx))
          case first => as_aux_lemma =>
            by_cases c1 : b1 = true
            · obtain rfl := c1
              have c2 := hb1.out
              simp only [eq_comm (a := true), Bool.and_eq_true, decide_eq_true_eq] at c2
              obtain ⟨c2, c3⟩ := c2
              have S2 : SWK encC 2 w0 blk off ((X ++ U1) ++ (U2 ++ V1) ++ (V2 ++ Y)).toArray wc := by have := S1.out; simpa using this
              have c := rot.out wc i m e (X ++ U1) U2 V1 (V2 ++ Y) (by rw [List.length_append, hli.out]) (by rw [List.length_append, hlm.out]) (by rw [List.length_append, hle'.out]) (by have := hlm.out; have := hli.out; omega) (by have := hlm.out; have := hle'.out; omega) (by simp only [List.length_append]; have := hYl.out; omega) hsz S2
              replace c := Lib.hid c
              clear S2 S1 hb1 rot
              replace c2 := Lib.hid c2
              replace c3 := Lib.hid c3
              go_wp2_with fail
              refine c.out.mono ?_
              rintro x w1 ⟨rfl, S3⟩
              replace S3 := Lib.hid S3
              clear c
              go_wp2
              go_meet
              case rel =>
                have := S3.out
                show SWK encC 2 w0 blk off _ _
                simpa using this
            · have c1' : b1 = false := by simpa using c1
              subst c1'
              have c2 := hb1.out
              have hz : U2 = [] ∨ V1 = [] := by
                by_cases c3 : i < m
                · refine .inr (List.eq_nil_of_length_eq_zero ?_)
                  have c4 : ¬ m < e := by intro c4; simp [c3, c4] at c2
                  have := hlm.out; have := hle'.out; omega
                · refine .inl (List.eq_nil_of_length_eq_zero ?_)
                  have := hlm.out; have := hli.out; omega
              have S3 : Hid (SWK encC 2 w0 blk off (X ++ (U1 ++ V1) ++ (U2 ++ V2) ++ Y).toArray wc) := by
                have := S1.out
                show SWK encC 2 w0 blk off _ _
                rcases hz with hz | hz <;> subst hz <;> simpa using this
              clear c2 c1 hz S1 hb1 rot
              go_wp2
              go_meet
              case rel => exact S3
          case rest => as_aux_lemma =>
            obtain ⟨b2, hb2⟩ : ∃ b2 : Bool, b2 = (decide (a < i) && decide (i < mid)) := ⟨_, rfl⟩
            have S1' := hcut
            clear hcut rot hb1
            replace hb2 := Lib.hid hb2
            go_upto_region 41 with fail
            go_cut [199] (fun s wx => s = .bool b2 ∧ wx = wc)
            case first => as_aux_lemma =>
              by_cases c1 : a < i
              · by_cases c2 : i < mid
                · have e1 : b2 = true := by rw [hb2.out]; simp [c1, c2]
                  subst e1
                  have d1 : decide (a < i) = true := decide_eq_true c1
                  have d2 : decide (i < mid) = true := decide_eq_true c2
                  go_wp2
                  go_meet
                  case rel => exact ⟨rfl, rfl⟩
                · have e1 : b2 = false := by rw [hb2.out]; simp [c2]
                  subst e1
                  have d1 : decide (a < i) = true := decide_eq_true c1
                  have d2 : decide (i < mid) = false := decide_eq_false c2
                  go_wp2
                  go_meet
                  case rel => exact ⟨rfl, rfl⟩
              · have e1 : b2 = false := by rw [hb2.out]; simp [c1]
                subst e1
                have d1 : decide (a < i) = false := decide_eq_false c1
                go_wp2
                go_meet
                case rel => exact ⟨rfl, rfl⟩
            case rest => as_aux_lemma =>
              obtain ⟨rfl, rfl⟩ := hcut
              go_upto_if 199 with fail
              go_cut [199] (fun s wx => Hid (∃ W1 : List Cnt, W1.Perm (U1 ++ V1) ∧ Srt W1 ∧ SWK encC 2 w0 blk off (X ++ W1 ++ (U2 ++ V2) ++ Y).toArray wx))
              case first => as_aux_lemma =>
                by_cases c1 : b2 = true
                · obtain rfl := c1
                  have c2 := hb2.out
                  simp only [eq_comm (a := true), Bool.and_eq_true, decide_eq_true_eq] at c2
                  obtain ⟨c2, c3⟩ := c2
                  have S2 : SWK encC 2 w0 blk off (X ++ (U1 ++ V1) ++ (U2 ++ V2 ++ Y)).toArray wc := by have := S1'.out; simpa using this
                  have c := ih.out wc a i mid X U1 V1 (U2 ++ V2 ++ Y) (by omega) hXl.out.symm hli.out hlmid.out (by have := hli.out; have := hXl.out; omega) (by have := hlmid.out; have := hli.out; omega) (by simp only [List.length_append]; have := hYl.out; omega) U1s.out V1s.out S2
                  replace c := Lib.hid c
                  clear S2 S1' hb2 ih
                  replace c2 := Lib.hid c2
                  replace c3 := Lib.hid c3
                  go_wp2_with fail
                  refine c.out.mono ?_
                  rintro x w1 ⟨rfl, W1, p1, p2, S3⟩
                  have S4 : Hid (∃ W1 : List Cnt, W1.Perm (U1 ++ V1) ∧ Srt W1 ∧ SWK encC 2 w0 blk off (X ++ W1 ++ (U2 ++ V2) ++ Y).toArray w1) := ⟨W1, p1, p2, by simpa using S3⟩
                  clear c S3 p1 p2
                  go_wp2
                  go_meet
                  case rel => exact S4
                · have c1' : b2 = false := by simpa using c1
                  subst c1'
                  have c2 := hb2.out
                  have hz : U1 = [] ∨ V1 = [] := by
                    by_cases c3 : a < i
                    · refine .inr (List.eq_nil_of_length_eq_zero ?_)
                      have c4 : ¬ i < mid := by intro c4; simp [c3, c4] at c2
                      have := hlmid.out; have := hli.out; omega
                    · refine .inl (List.eq_nil_of_length_eq_zero ?_)
                      have := hXl.out; have := hli.out; omega
                  have S4 : Hid (∃ W1 : List Cnt, W1.Perm (U1 ++ V1) ∧ Srt W1 ∧ SWK encC 2 w0 blk off (X ++ W1 ++ (U2 ++ V2) ++ Y).toArray wc) := by
                    refine ⟨U1 ++ V1, List.Perm.refl _, ?_, S1'.out⟩
                    rcases hz with hz | hz <;> subst hz
                    · simpa using V1s.out
                    · simpa using U1s.out
                  clear c2 c1 hz S1' hb2
                  go_wp2
                  go_meet
                  case rel => exact S4
              case rest => as_aux_lemma =>
                obtain ⟨W1, w1p, w1s, S2⟩ := hcut.out
                have w1l : W1.length = U1.length + V1.length := by rw [w1p.length_eq, List.length_append]
                clear hcut S1' hb2
                replace w1p := Lib.hid w1p
                replace w1s := Lib.hid w1s
                replace S2 := Lib.hid S2
                replace w1l := Lib.hid w1l
                obtain ⟨b3, hb3⟩ : ∃ b3 : Bool, b3 = (decide (mid < e) && decide (e < b)) := ⟨_, rfl⟩
                replace hb3 := Lib.hid hb3
                go_upto_region 43 with fail
                go_cut [213] (fun s wx => s = .bool b3 ∧ wx = wc)
                case first => as_aux_lemma =>
                  by_cases c1 : mid < e
                  · by_cases c2 : e < b
                    · have e1 : b3 = true := by rw [hb3.out]; simp [c1, c2]
                      subst e1
                      have d1 : decide (mid < e) = true := decide_eq_true c1
                      have d2 : decide (e < b) = true := decide_eq_true c2
                      go_wp2
                      go_meet
                      case rel => exact ⟨rfl, rfl⟩
                    · have e1 : b3 = false := by rw [hb3.out]; simp [c2]
                      subst e1
                      have d1 : decide (mid < e) = true := decide_eq_true c1
                      have d2 : decide (e < b) = false := decide_eq_false c2
                      go_wp2
                      go_meet
                      case rel => exact ⟨rfl, rfl⟩
                  · have e1 : b3 = false := by rw [hb3.out]; simp [c1]
                    subst e1
                    have d1 : decide (mid < e) = false := decide_eq_false c1
                    go_wp2
                    go_meet
                    case rel => exact ⟨rfl, rfl⟩
                case rest => as_aux_lemma =>
                  obtain ⟨rfl, rfl⟩ := hcut
                  by_cases c1 : b3 = true
                  · obtain rfl := c1
                    have c2 := hb3.out
                    simp only [eq_comm (a := true), Bool.and_eq_true, decide_eq_true_eq] at c2
                    obtain ⟨c2, c3⟩ := c2
                    have S3 : SWK encC 2 w0 blk off ((X ++ W1) ++ (U2 ++ V2) ++ Y).toArray wc := by have := S2.out; simpa using this
                    have c := ih.out wc mid e b (X ++ W1) U2 V2 Y (by omega) (by rw [List.length_append, w1l.out]; have := hlmid.out; omega) (by rw [List.length_append, w1l.out]; have := hle'.out; omega) (by rw [List.length_append, w1l.out]; have := hlb.out; omega) (by have := hlmid.out; have := hle'.out; omega) (by have := hlb.out; have := hle'.out; omega) (by simp only [List.length_append]; have := hYl.out; have := w1l.out; omega) U2s.out V2s.out S3
                    replace c := Lib.hid c
                    clear S3 S2 hb3 ih
                    replace c2 := Lib.hid c2
                    replace c3 := Lib.hid c3
                    go_wp2_with fail
                    refine c.out.mono ?_
                    rintro x w1 ⟨rfl, W2, p1, p2, S3⟩
                    have fin : Hid (∃ W : List Cnt, W.Perm (U ++ V) ∧ Srt W ∧ SWK encC 2 w0 blk off (X ++ W ++ Y).toArray w1) :=
                      ⟨W1 ++ W2, (w1p.out.append p1).trans hpm.out, w1s.out.parts p2 (fun x hx y hy => hbel.out x (w1p.out.mem_iff.1 hx) y (p1.mem_iff.1 hy)), by simpa using S3⟩
                    clear c S3 p1 p2
                    go_wp2
                    go_end0
                    exact ⟨rfl, fin.out⟩
                  · have c1' : b3 = false := by simpa using c1
                    subst c1'
                    have c2 := hb3.out
                    have hz : U2 = [] ∨ V2 = [] := by
                      by_cases c3 : mid < e
                      · refine .inr (List.eq_nil_of_length_eq_zero ?_)
                        have c4 : ¬ e < b := by intro c4; simp [c3, c4] at c2
                        have := hlb.out; have := hle'.out; omega
                      · refine .inl (List.eq_nil_of_length_eq_zero ?_)
                        have := hlmid.out; have := hle'.out; omega
                    have s2 : Srt (U2 ++ V2) := by
                      rcases hz with hz | hz <;> subst hz
                      · simpa using V2s.out
                      · simpa using U2s.out
                    have fin : Hid (∃ W : List Cnt, W.Perm (U ++ V) ∧ Srt W ∧ SWK encC 2 w0 blk off (X ++ W ++ Y).toArray wc) :=
                      ⟨W1 ++ (U2 ++ V2), (w1p.out.append (List.Perm.refl _)).trans hpm.out, w1s.out.parts s2 (fun x hx y hy => hbel.out x (w1p.out.mem_iff.1 hx) y hy), by simpa using S2.out⟩
                    clear c2 c1 hz S2 hb3
                    go_wp2
                    go_end0
                    exact ⟨rfl, fin.out⟩
theorem merge_any (w0 : World) (blk off cap g : Nat) (d0 : Array Cnt) (C : RowC w0 blk off d0 g) : ∀ f, Calling w0 blk off cap g d0.size f := by
  intro f
  induction f with
  | zero => intro w1 a m b X U V Y h; omega
  | succ f ih =>
    intro w1 a m b X U V Y hf ha hm hb h1 h2 hN hU hV S
    by_cases u1 : U.length = 1
    · obtain ⟨u, rfl⟩ := List.length_eq_one_iff.1 u1
      have e : m = a + 1 := by simp at hm; omega
      subst e
      have := merge_left w0 w1 blk off cap a b g d0 X V Y u C ha (by simp at hb; omega) (by simp at hN; omega) hV (by simpa using S)
      simpa using this
    · by_cases v1 : V.length = 1
      · obtain ⟨v, rfl⟩ := List.length_eq_one_iff.1 v1
        have e : b = m + 1 := by simp at hb; omega
        subst e
        exact merge_right w0 w1 blk off cap a m g d0 X U Y v C ha hm (by omega) (by simp at hN; omega) hU S
      · exact merge_two w0 w1 blk off cap a m b g d0 X U V Y C ha hm hb (by omega) (by omega) hN hU hV (fun w2 a' m' b' X' U' V' Y' h => ih w2 a' m' b' X' U' V' Y' (by omega)) S
end Go.Proofs.YtpiegngjpnpohaaGreat.St
