/- The document's Utf: the walk. -/
import Derived.Test.YtgjcdhcbniholaaGreatUt
import Derived.Test.YtgjcdhcbniholaaGreatLa9
namespace Go.Proofs.YtgjcdhcbniholaaGreat.Ut
open Go.RowKit Go.Proofs.YtgjcdhcbniholaaGreat.La
set_option linter.unusedVariables false

def natU : Value → Nat
  | .int _ n => n.toNat
  | _ => 0

set_option maxRecDepth 100000 in
theorem tail_any (s : ByteArray) (j : Nat) (hs : (s.size : Int) ≤ 140737488355328) (w : World) :
    Calls Tryz.prog 70 #[.string s, .int .i64 (j : Int)] w fun e w' => e = .returned (.bool (tailB s j)) ∧ w' = w := by
  have hj0 : (0 : Int) ≤ (j : Int) := by omega
  by_cases h1 : j < s.size
  · have g1 : (j : Int) < (s.size : Int) := by omega
    by_cases h2 : (128 : Int) ≤ (s[j].toNat : Int)
    · by_cases h3 : (s[j].toNat : Int) < 192
      · have e : tailB s j = true := by unfold tailB; rw [bn_at s j h1]; simp; omega
        rw [e]; clear e
        go_enter Tryz.func70, Tryz.ntmps70
        go_wp2
        go_ret
        exact ⟨rfl, rfl⟩
      · have e : tailB s j = false := by unfold tailB; rw [bn_at s j h1]; simp; omega
        rw [e]; clear e
        go_enter Tryz.func70, Tryz.ntmps70
        go_wp2
        go_ret
        exact ⟨rfl, rfl⟩
    · have e : tailB s j = false := by unfold tailB; rw [bn_at s j h1]; simp; omega
      rw [e]; clear e
      go_enter Tryz.func70, Tryz.ntmps70
      go_wp2
      go_ret
      exact ⟨rfl, rfl⟩
  · have g1 : ¬ (j : Int) < (s.size : Int) := by omega
    have e : tailB s j = false := by unfold tailB; simp; omega
    rw [e]; clear e
    go_enter Tryz.func70, Tryz.ntmps70
    go_wp2
    go_ret
    exact ⟨rfl, rfl⟩

theorem tails_lt (s : ByteArray) (i n : Nat) : ∀ m, m ≤ n → tailsB s i m = false → tailsB s i n = false := by
  induction n with
  | zero => intro m hm h; obtain rfl : m = 0 := by omega
            exact h
  | succ n ih =>
    intro m hm h
    by_cases e : m = n + 1
    · subst e; exact h
    · rw [tailsB, ih m (by omega) h]; rfl

set_option maxRecDepth 100000 in
set_option maxHeartbeats 8000000 in
theorem utf_any (s : ByteArray) (hs : (s.size : Int) ≤ 140737488355328) (w : World) :
    Calls Tryz.prog 61 #[.string s] w fun e w' => e = .returned (.bool (utfB s)) ∧ w' = w := by
  have ct := fun j => tail_any s j hs
  obtain ⟨R, hR⟩ : ∃ R, R = utfB s := ⟨_, rfl⟩
  rw [← hR]
  have hR2 : refF s s.size 0 = R := by rw [hR, ref_utf]; rfl
  replace ct := Lib.hid ct
  replace hR2 := Lib.hid hR2
  clear hR
  go_enter Tryz.func61, Tryz.ntmps61
  go_wp2
  go_loopw [3] (fun v wr => ∃ f i : Nat, v = .int .i64 (i : Int) ∧ i ≤ s.size ∧ s.size ≤ f + i ∧ Hid (refF s f i = R) ∧ w = wr) (fun v _ => s.size + 1 - natU v)
  case atStart => exact ⟨s.size, 0, rfl, Nat.zero_le _, by omega, hR2, rfl⟩
  case round =>
    obtain ⟨f, i, rfl, hi, hf, hr, hww⟩ := hrel
    subst hww
    have hi0 : (0 : Int) ≤ (i : Int) := by omega
    by_cases hlt : i < s.size
    · have hltI : (i : Int) < (s.size : Int) := by omega
      obtain ⟨f, rfl⟩ : ∃ f', f = f' + 1 := ⟨f - 1, by omega⟩
      have hr' := hr.out
      rw [refF, if_pos hlt, refS, bn_at s i hlt] at hr'
      obtain ⟨b, hb⟩ : ∃ b, b = s[i].toNat := ⟨_, rfl⟩
      have hbI : (s[i].toNat : Int) = (b : Int) := by omega
      have hb256 : b < 256 := by rw [hb]; exact s[i].toNat_lt
      rw [← hb] at hr'
      replace hb := Lib.hid hb
      have g0 : (0 : Int) ≤ (b : Int) := by omega
      by_cases b1 : b < 128
      · rw [if_pos b1] at hr'
        have t1 : (b : Int) < 128 := by omega
        replace hr' := Lib.hid hr'
        clear b1 hr hb256
        go_wp2
        exact ⟨⟨f, i + 1, by simp, hlt, by omega, hr', trivial⟩, by simp [natU]; omega⟩
      rw [if_neg b1] at hr'
      have t1 : ¬ (b : Int) < 128 := by omega
      by_cases b2 : b < 192
      · rw [if_pos b2] at hr'
        have t2 : ¬ (192 : Int) ≤ (b : Int) := by omega
        have t3 : ¬ (224 : Int) ≤ (b : Int) := by omega
        have t4 : ¬ (240 : Int) ≤ (b : Int) := by omega
        subst hr'
        clear b1 b2 hr hb256
        go_wp2
        go_ret
        exact ⟨rfl, rfl⟩
      rw [if_neg b2] at hr'
      have t2 : (192 : Int) ≤ (b : Int) := by omega
      by_cases b3 : b < 224
      · rw [if_pos b3] at hr'
        have t3 : (b : Int) < 224 := by omega
        obtain ⟨c0, hc0⟩ : ∃ c0, c0 = b - 192 := ⟨_, rfl⟩
        rw [← hc0] at hr'
        have hcI : (b : Int) - 192 = (c0 : Int) := by omega
        have hc31 : c0 ≤ 31 := by omega
        replace hr' := Lib.hid hr'
        replace hb := Lib.hid hb
        clear hr hb256 b1 b2 hc0 b3
        go_wp2
        go_loopw [4, 6] (fun v u wr => ∃ k cc : Nat, u = .int .i64 ((k : Int) + 1) ∧ k ≤ 1 ∧ Hid (tailsB s i k = true) ∧ v = .int .i64 (cc : Int) ∧ Hid (cc = vN s i c0 k) ∧ (k = 0 → cc ≤ 31) ∧ (k ≤ 1 → cc ≤ 2047) ∧ (k ≤ 2 → cc ≤ 131071) ∧ cc ≤ 8388607 ∧ i + k < s.size ∧ w = wr) (fun _ u _ => 10 - natU u)
        case atStart => exact ⟨0, c0, by simp, Nat.zero_le _, rfl, rfl, rfl, by omega, by omega, by omega, by omega, hlt, rfl⟩
        case round =>
          obtain ⟨k, cc, rfl, hk, htl, rfl, hcc, k0, k1, k2, k3, hik, hww⟩ := hrel
          subst hww
          have hcc0 : (0 : Int) ≤ (cc : Int) := by omega
          have hcc3 : (cc : Int) ≤ 8388607 := by omega
          by_cases hkn : k < 1
          · have hkI : (k : Int) + 1 ≤ 1 := by omega
            have hcc2 : (cc : Int) ≤ 131071 := by omega
            obtain ⟨q, hq, hqI⟩ : ∃ q, q = i + (k + 1) ∧ (i : Int) + ((k : Int) + 1) = (q : Int) := ⟨_, rfl, by omega⟩
            have c1 := ct.out q
            have htn : tailsB s i (k + 1) = tailB s q := by rw [tailsB, htl.out, hq]; rfl
            have hq0 : (0 : Int) ≤ (q : Int) := by omega
            have hqs : (q : Int) ≤ 140737488355328 := by omega
            replace hq := Lib.hid hq
            cases hq2 : tailB s q with
            | false =>
              rw [hq2] at c1 htn
              have hres : R = false := by
                have h1 := hr'.out
                rw [chk, tails_lt s i 1 (k + 1) (by omega) htn, if_neg (by decide)] at h1
                exact h1.symm
              subst hres
              replace c1 := Lib.hid c1
              clear hcc htn
              go_wp2_with fail
              refine (c1.out _).mono ?_
              rintro e w' ⟨rfl, hw⟩
              rw [hw]; clear hw w'
              go_wp2
              go_ret
              exact ⟨rfl, rfl⟩
            | true =>
              rw [hq2] at c1 htn
              have hqd : q < s.size ∧ 128 ≤ bn s q ∧ bn s q < 192 := by simpa [tailB] using hq2
              obtain ⟨q1, q2, q3⟩ := hqd
              have hqb := bn_at s q q1
              have hv : vN s i c0 (k + 1) = 64 * cc + (bn s q - 128) := by rw [hcc.out, hq.out]; rfl
              obtain ⟨d, hd⟩ : ∃ d, d = s[q].toNat := ⟨_, rfl⟩
              have hdI : (s[q].toNat : Int) = (d : Int) := by omega
              have d1 : (128 : Int) ≤ (d : Int) := by omega
              have d2 : (d : Int) < 192 := by omega
              have hv2 : vN s i c0 (k + 1) = 64 * cc + (d - 128) := by omega
              have hqI2 : (q : Int) < (s.size : Int) := by omega
              have hv3 : 64 * (cc : Int) + (d : Int) - 128 = ((64 * cc + (d - 128) : Nat) : Int) := by omega
              replace c1 := Lib.hid c1
              replace hv2 := Lib.hid hv2
              replace htn := Lib.hid htn
              replace hv3 := Lib.hid hv3
              clear hv hd hqb hq2
              go_wp2_with fail
              refine (c1.out _).mono ?_
              rintro e w' ⟨rfl, hw⟩
              rw [hw]; clear hw w' c1
              go_wp2
              refine ⟨⟨k + 1, 64 * cc + (d - 128), by simp, hkn, htn, by rw [← hv3.out], Lib.hid hv2.out.symm, by omega, by omega, by omega, by omega, by have := hq.out; omega, trivial⟩, by simp [natU]; omega⟩
          · obtain rfl : k = 1 := by omega
            have hchk : chk s i 1 c0 = if badC 1 cc = true then none else some (1 + 1) := by rw [chk, htl.out, if_pos rfl, hcc.out]
            rw [hchk] at hr'
            clear hcc htl hchk k0 k1 k2 k3
            by_cases m1 : (cc : Int) < 128
            · have hbad : badC 1 cc = true := by unfold badC; simp; omega
              have hres : R = false := by have h1 := hr'.out; rw [hbad, if_pos rfl] at h1; exact h1.symm
              subst hres
              clear hbad hr'
              go_wp2
              go_ret
              exact ⟨rfl, rfl⟩
            by_cases m2 : (1114111 : Int) < (cc : Int)
            · have hbad : badC 1 cc = true := by unfold badC; simp; omega
              have hres : R = false := by have h1 := hr'.out; rw [hbad, if_pos rfl] at h1; exact h1.symm
              subst hres
              clear hbad hr'
              go_wp2
              go_ret
              exact ⟨rfl, rfl⟩
            by_cases m3 : (55296 : Int) ≤ (cc : Int)
            · by_cases m4 : (cc : Int) ≤ 57343
              · have hbad : badC 1 cc = true := by unfold badC; simp; omega
                have hres : R = false := by have h1 := hr'.out; rw [hbad, if_pos rfl] at h1; exact h1.symm
                subst hres
                clear hbad hr'
                go_wp2
                go_ret
                exact ⟨rfl, rfl⟩
              · have hbad : badC 1 cc = false := by unfold badC; simp; omega
                have hres : refF s f (i + 2) = R := by have h1 := hr'.out; rw [hbad, if_neg (by decide)] at h1; exact h1
                replace hres := Lib.hid hres
                clear hbad hr'
                go_wp2
                exact ⟨⟨f, i + 2, by simp, by omega, by omega, hres, trivial⟩, by simp [natU]; omega⟩
            · have hbad : badC 1 cc = false := by unfold badC; simp; omega
              have hres : refF s f (i + 2) = R := by have h1 := hr'.out; rw [hbad, if_neg (by decide)] at h1; exact h1
              replace hres := Lib.hid hres
              clear hbad hr'
              go_wp2
              exact ⟨⟨f, i + 2, by simp, by omega, by omega, hres, trivial⟩, by simp [natU]; omega⟩
      rw [if_neg b3] at hr'
      have t3 : ¬ (b : Int) < 224 := by omega
      have t4 : (224 : Int) ≤ (b : Int) := by omega
      by_cases b4 : b < 240
      · rw [if_pos b4] at hr'
        have t5 : (b : Int) < 240 := by omega
        obtain ⟨c0, hc0⟩ : ∃ c0, c0 = b - 224 := ⟨_, rfl⟩
        rw [← hc0] at hr'
        have hcI : (b : Int) - 224 = (c0 : Int) := by omega
        have hc31 : c0 ≤ 31 := by omega
        replace hr' := Lib.hid hr'
        replace hb := Lib.hid hb
        clear hr hb256 b1 b2 hc0 b3 b4
        go_wp2
        go_loopw [4, 6] (fun v u wr => ∃ k cc : Nat, u = .int .i64 ((k : Int) + 1) ∧ k ≤ 2 ∧ Hid (tailsB s i k = true) ∧ v = .int .i64 (cc : Int) ∧ Hid (cc = vN s i c0 k) ∧ (k = 0 → cc ≤ 31) ∧ (k ≤ 1 → cc ≤ 2047) ∧ (k ≤ 2 → cc ≤ 131071) ∧ cc ≤ 8388607 ∧ i + k < s.size ∧ w = wr) (fun _ u _ => 10 - natU u)
        case atStart => exact ⟨0, c0, by simp, Nat.zero_le _, rfl, rfl, rfl, by omega, by omega, by omega, by omega, hlt, rfl⟩
        case round =>
          obtain ⟨k, cc, rfl, hk, htl, rfl, hcc, k0, k1, k2, k3, hik, hww⟩ := hrel
          subst hww
          have hcc0 : (0 : Int) ≤ (cc : Int) := by omega
          have hcc3 : (cc : Int) ≤ 8388607 := by omega
          by_cases hkn : k < 2
          · have hkI : (k : Int) + 1 ≤ 2 := by omega
            have hcc2 : (cc : Int) ≤ 131071 := by omega
            obtain ⟨q, hq, hqI⟩ : ∃ q, q = i + (k + 1) ∧ (i : Int) + ((k : Int) + 1) = (q : Int) := ⟨_, rfl, by omega⟩
            have c1 := ct.out q
            have htn : tailsB s i (k + 1) = tailB s q := by rw [tailsB, htl.out, hq]; rfl
            have hq0 : (0 : Int) ≤ (q : Int) := by omega
            have hqs : (q : Int) ≤ 140737488355328 := by omega
            replace hq := Lib.hid hq
            cases hq2 : tailB s q with
            | false =>
              rw [hq2] at c1 htn
              have hres : R = false := by
                have h1 := hr'.out
                rw [chk, tails_lt s i 2 (k + 1) (by omega) htn, if_neg (by decide)] at h1
                exact h1.symm
              subst hres
              replace c1 := Lib.hid c1
              clear hcc htn
              go_wp2_with fail
              refine (c1.out _).mono ?_
              rintro e w' ⟨rfl, hw⟩
              rw [hw]; clear hw w'
              go_wp2
              go_ret
              exact ⟨rfl, rfl⟩
            | true =>
              rw [hq2] at c1 htn
              have hqd : q < s.size ∧ 128 ≤ bn s q ∧ bn s q < 192 := by simpa [tailB] using hq2
              obtain ⟨q1, q2, q3⟩ := hqd
              have hqb := bn_at s q q1
              have hv : vN s i c0 (k + 1) = 64 * cc + (bn s q - 128) := by rw [hcc.out, hq.out]; rfl
              obtain ⟨d, hd⟩ : ∃ d, d = s[q].toNat := ⟨_, rfl⟩
              have hdI : (s[q].toNat : Int) = (d : Int) := by omega
              have d1 : (128 : Int) ≤ (d : Int) := by omega
              have d2 : (d : Int) < 192 := by omega
              have hv2 : vN s i c0 (k + 1) = 64 * cc + (d - 128) := by omega
              have hqI2 : (q : Int) < (s.size : Int) := by omega
              have hv3 : 64 * (cc : Int) + (d : Int) - 128 = ((64 * cc + (d - 128) : Nat) : Int) := by omega
              replace c1 := Lib.hid c1
              replace hv2 := Lib.hid hv2
              replace htn := Lib.hid htn
              replace hv3 := Lib.hid hv3
              clear hv hd hqb hq2
              go_wp2_with fail
              refine (c1.out _).mono ?_
              rintro e w' ⟨rfl, hw⟩
              rw [hw]; clear hw w' c1
              go_wp2
              refine ⟨⟨k + 1, 64 * cc + (d - 128), by simp, hkn, htn, by rw [← hv3.out], Lib.hid hv2.out.symm, by omega, by omega, by omega, by omega, by have := hq.out; omega, trivial⟩, by simp [natU]; omega⟩
          · obtain rfl : k = 2 := by omega
            have hchk : chk s i 2 c0 = if badC 2 cc = true then none else some (2 + 1) := by rw [chk, htl.out, if_pos rfl, hcc.out]
            rw [hchk] at hr'
            clear hcc htl hchk k0 k1 k2 k3
            by_cases m1 : (cc : Int) < 2048
            · have hbad : badC 2 cc = true := by unfold badC; simp; omega
              have hres : R = false := by have h1 := hr'.out; rw [hbad, if_pos rfl] at h1; exact h1.symm
              subst hres
              clear hbad hr'
              go_wp2
              go_ret
              exact ⟨rfl, rfl⟩
            by_cases m2 : (1114111 : Int) < (cc : Int)
            · have hbad : badC 2 cc = true := by unfold badC; simp; omega
              have hres : R = false := by have h1 := hr'.out; rw [hbad, if_pos rfl] at h1; exact h1.symm
              subst hres
              clear hbad hr'
              go_wp2
              go_ret
              exact ⟨rfl, rfl⟩
            by_cases m3 : (55296 : Int) ≤ (cc : Int)
            · by_cases m4 : (cc : Int) ≤ 57343
              · have hbad : badC 2 cc = true := by unfold badC; simp; omega
                have hres : R = false := by have h1 := hr'.out; rw [hbad, if_pos rfl] at h1; exact h1.symm
                subst hres
                clear hbad hr'
                go_wp2
                go_ret
                exact ⟨rfl, rfl⟩
              · have hbad : badC 2 cc = false := by unfold badC; simp; omega
                have hres : refF s f (i + 3) = R := by have h1 := hr'.out; rw [hbad, if_neg (by decide)] at h1; exact h1
                replace hres := Lib.hid hres
                clear hbad hr'
                go_wp2
                exact ⟨⟨f, i + 3, by simp, by omega, by omega, hres, trivial⟩, by simp [natU]; omega⟩
            · have hbad : badC 2 cc = false := by unfold badC; simp; omega
              have hres : refF s f (i + 3) = R := by have h1 := hr'.out; rw [hbad, if_neg (by decide)] at h1; exact h1
              replace hres := Lib.hid hres
              clear hbad hr'
              go_wp2
              exact ⟨⟨f, i + 3, by simp, by omega, by omega, hres, trivial⟩, by simp [natU]; omega⟩
      rw [if_neg b4] at hr'
      have t5 : ¬ (b : Int) < 240 := by omega
      have t6 : (240 : Int) ≤ (b : Int) := by omega
      by_cases b5 : b < 248
      · rw [if_pos b5] at hr'
        have t7 : (b : Int) < 248 := by omega
        obtain ⟨c0, hc0⟩ : ∃ c0, c0 = b - 240 := ⟨_, rfl⟩
        rw [← hc0] at hr'
        have hcI : (b : Int) - 240 = (c0 : Int) := by omega
        have hc31 : c0 ≤ 31 := by omega
        replace hr' := Lib.hid hr'
        replace hb := Lib.hid hb
        clear hr hb256 b1 b2 hc0 b3 b4 b5
        go_wp2
        go_loopw [4, 6] (fun v u wr => ∃ k cc : Nat, u = .int .i64 ((k : Int) + 1) ∧ k ≤ 3 ∧ Hid (tailsB s i k = true) ∧ v = .int .i64 (cc : Int) ∧ Hid (cc = vN s i c0 k) ∧ (k = 0 → cc ≤ 31) ∧ (k ≤ 1 → cc ≤ 2047) ∧ (k ≤ 2 → cc ≤ 131071) ∧ cc ≤ 8388607 ∧ i + k < s.size ∧ w = wr) (fun _ u _ => 10 - natU u)
        case atStart => exact ⟨0, c0, by simp, Nat.zero_le _, rfl, rfl, rfl, by omega, by omega, by omega, by omega, hlt, rfl⟩
        case round =>
          obtain ⟨k, cc, rfl, hk, htl, rfl, hcc, k0, k1, k2, k3, hik, hww⟩ := hrel
          subst hww
          have hcc0 : (0 : Int) ≤ (cc : Int) := by omega
          have hcc3 : (cc : Int) ≤ 8388607 := by omega
          by_cases hkn : k < 3
          · have hkI : (k : Int) + 1 ≤ 3 := by omega
            have hcc2 : (cc : Int) ≤ 131071 := by omega
            obtain ⟨q, hq, hqI⟩ : ∃ q, q = i + (k + 1) ∧ (i : Int) + ((k : Int) + 1) = (q : Int) := ⟨_, rfl, by omega⟩
            have c1 := ct.out q
            have htn : tailsB s i (k + 1) = tailB s q := by rw [tailsB, htl.out, hq]; rfl
            have hq0 : (0 : Int) ≤ (q : Int) := by omega
            have hqs : (q : Int) ≤ 140737488355328 := by omega
            replace hq := Lib.hid hq
            cases hq2 : tailB s q with
            | false =>
              rw [hq2] at c1 htn
              have hres : R = false := by
                have h1 := hr'.out
                rw [chk, tails_lt s i 3 (k + 1) (by omega) htn, if_neg (by decide)] at h1
                exact h1.symm
              subst hres
              replace c1 := Lib.hid c1
              clear hcc htn
              go_wp2_with fail
              refine (c1.out _).mono ?_
              rintro e w' ⟨rfl, hw⟩
              rw [hw]; clear hw w'
              go_wp2
              go_ret
              exact ⟨rfl, rfl⟩
            | true =>
              rw [hq2] at c1 htn
              have hqd : q < s.size ∧ 128 ≤ bn s q ∧ bn s q < 192 := by simpa [tailB] using hq2
              obtain ⟨q1, q2, q3⟩ := hqd
              have hqb := bn_at s q q1
              have hv : vN s i c0 (k + 1) = 64 * cc + (bn s q - 128) := by rw [hcc.out, hq.out]; rfl
              obtain ⟨d, hd⟩ : ∃ d, d = s[q].toNat := ⟨_, rfl⟩
              have hdI : (s[q].toNat : Int) = (d : Int) := by omega
              have d1 : (128 : Int) ≤ (d : Int) := by omega
              have d2 : (d : Int) < 192 := by omega
              have hv2 : vN s i c0 (k + 1) = 64 * cc + (d - 128) := by omega
              have hqI2 : (q : Int) < (s.size : Int) := by omega
              have hv3 : 64 * (cc : Int) + (d : Int) - 128 = ((64 * cc + (d - 128) : Nat) : Int) := by omega
              replace c1 := Lib.hid c1
              replace hv2 := Lib.hid hv2
              replace htn := Lib.hid htn
              replace hv3 := Lib.hid hv3
              clear hv hd hqb hq2
              go_wp2_with fail
              refine (c1.out _).mono ?_
              rintro e w' ⟨rfl, hw⟩
              rw [hw]; clear hw w' c1
              go_wp2
              refine ⟨⟨k + 1, 64 * cc + (d - 128), by simp, hkn, htn, by rw [← hv3.out], Lib.hid hv2.out.symm, by omega, by omega, by omega, by omega, by have := hq.out; omega, trivial⟩, by simp [natU]; omega⟩
          · obtain rfl : k = 3 := by omega
            have hchk : chk s i 3 c0 = if badC 3 cc = true then none else some (3 + 1) := by rw [chk, htl.out, if_pos rfl, hcc.out]
            rw [hchk] at hr'
            clear hcc htl hchk k0 k1 k2 k3
            by_cases m1 : (cc : Int) < 65536
            · have hbad : badC 3 cc = true := by unfold badC; simp; omega
              have hres : R = false := by have h1 := hr'.out; rw [hbad, if_pos rfl] at h1; exact h1.symm
              subst hres
              clear hbad hr'
              go_wp2
              go_ret
              exact ⟨rfl, rfl⟩
            by_cases m2 : (1114111 : Int) < (cc : Int)
            · have hbad : badC 3 cc = true := by unfold badC; simp; omega
              have hres : R = false := by have h1 := hr'.out; rw [hbad, if_pos rfl] at h1; exact h1.symm
              subst hres
              clear hbad hr'
              go_wp2
              go_ret
              exact ⟨rfl, rfl⟩
            by_cases m3 : (55296 : Int) ≤ (cc : Int)
            · by_cases m4 : (cc : Int) ≤ 57343
              · have hbad : badC 3 cc = true := by unfold badC; simp; omega
                have hres : R = false := by have h1 := hr'.out; rw [hbad, if_pos rfl] at h1; exact h1.symm
                subst hres
                clear hbad hr'
                go_wp2
                go_ret
                exact ⟨rfl, rfl⟩
              · have hbad : badC 3 cc = false := by unfold badC; simp; omega
                have hres : refF s f (i + 4) = R := by have h1 := hr'.out; rw [hbad, if_neg (by decide)] at h1; exact h1
                replace hres := Lib.hid hres
                clear hbad hr'
                go_wp2
                exact ⟨⟨f, i + 4, by simp, by omega, by omega, hres, trivial⟩, by simp [natU]; omega⟩
            · have hbad : badC 3 cc = false := by unfold badC; simp; omega
              have hres : refF s f (i + 4) = R := by have h1 := hr'.out; rw [hbad, if_neg (by decide)] at h1; exact h1
              replace hres := Lib.hid hres
              clear hbad hr'
              go_wp2
              exact ⟨⟨f, i + 4, by simp, by omega, by omega, hres, trivial⟩, by simp [natU]; omega⟩
      · rw [if_neg b5] at hr'
        have t7 : ¬ (b : Int) < 248 := by omega
        have g9 : (b : Int) < 256 := by omega
        subst hr'
        clear hr hb256 b1 b2 b3 b4 b5
        go_wp2
        go_ret
        exact ⟨rfl, rfl⟩
    · have hge : ¬ (i : Int) < (s.size : Int) := by omega
      have hR3 : R = true := by
        have h1 := hr.out
        cases f with
        | zero => exact h1.symm
        | succ f => rw [refF, if_neg hlt] at h1; exact h1.symm
      subst hR3
      go_wp2
      go_ret
      exact ⟨rfl, rfl⟩
end Go.Proofs.YtgjcdhcbniholaaGreat.Ut
