/- Lemmas for the laws of this seat, laid together of Ut, Uw, Rc0. -/
import Derived.Test.YtpiegngjpnpohaaGreatL03
import Derived.Test.YtpiegngjpnpohaaGreatL04

namespace Go.Proofs.YtpiegngjpnpohaaGreat.Ut
open Go.RowKit Go.Proofs.YtpiegngjpnpohaaGreat.La
set_option linter.unusedVariables false
def bn (s : ByteArray) (i : Nat) : Nat := (s.get! i).toNat
theorem bn_at (s : ByteArray) (i : Nat) (h : i < s.size) : bn s i = s[i].toNat := by
  unfold bn
  rw [show s.get! i = s[i] from by
    show s.data[i]! = s.data[i]
    rw [getElem!_pos s.data i h]]
theorem bn_lt (s : ByteArray) (i : Nat) : bn s i < 256 := (s.get! i).toNat_lt
def tailB (s : ByteArray) (j : Nat) : Bool := decide (j < s.size ∧ 128 ≤ bn s j ∧ bn s j < 192)
def vN (s : ByteArray) (i c0 : Nat) : Nat → Nat
  | 0 => c0
  | k + 1 => 64 * vN s i c0 k + (bn s (i + (k + 1)) - 128)
def tailsB (s : ByteArray) (i : Nat) : Nat → Bool
  | 0 => true
  | k + 1 => tailsB s i k && tailB s (i + (k + 1))
def badC (n c : Nat) : Bool := decide (n = 1 ∧ c < 128 ∨ n = 2 ∧ c < 2048 ∨ n = 3 ∧ c < 65536 ∨ 1114111 < c ∨ 55296 ≤ c ∧ c ≤ 57343)
def chk (s : ByteArray) (i n c0 : Nat) : Option Nat := if tailsB s i n = true then (if badC n (vN s i c0 n) = true then none else some (n + 1)) else none
def refS (s : ByteArray) (i : Nat) : Option Nat :=
  if bn s i < 128 then some 1
  else if bn s i < 192 then none
  else if bn s i < 224 then chk s i 1 (bn s i - 192)
  else if bn s i < 240 then chk s i 2 (bn s i - 224)
  else if bn s i < 248 then chk s i 3 (bn s i - 240)
  else none
def refF (s : ByteArray) : Nat → Nat → Bool
  | 0, _ => true
  | b + 1, pos => if pos < s.size then (match refS s pos with
    | none => false
    | some n => refF s b (pos + n)) else true
theorem pre_iff (s : ByteArray) (i : Nat) : Lib.hasPrefix (s.data.toList.drop i) [239, 191, 189] = decide (i + 2 < s.size ∧ bn s i = 239 ∧ bn s (i + 1) = 191 ∧ bn s (i + 2) = 189) := by
  rw [Bool.eq_iff_iff, decide_eq_true_iff]
  have key : ∀ (j : Nat) (b : UInt8), (∃ h : j < s.size, s[j] = b) ↔ j < s.size ∧ bn s j = b.toNat := by
    intro j b
    constructor
    · rintro ⟨h, e⟩; exact ⟨h, by rw [bn_at s j h, e]⟩
    · rintro ⟨h, e⟩; exact ⟨h, by rw [bn_at s j h] at e; exact UInt8.toNat_inj.1 e⟩
  have cons : ∀ (j : Nat) (b : UInt8) (r : List UInt8), Lib.hasPrefix (s.data.toList.drop j) (b :: r) = true ↔ (j < s.size ∧ bn s j = b.toNat) ∧ Lib.hasPrefix (s.data.toList.drop (j + 1)) r = true := by
    intro j b r
    by_cases h : j < s.size
    · have e : s.data.toList.drop j = s[j] :: s.data.toList.drop (j + 1) := by
        rw [List.drop_eq_getElem_cons (by simpa using h)]; rfl
      rw [e, ← key]
      simp only [Lib.hasPrefix, List.isPrefixOf, Bool.and_eq_true, beq_iff_eq]
      constructor
      · rintro ⟨a, b⟩; exact ⟨⟨h, a.symm⟩, b⟩
      · rintro ⟨⟨_, a⟩, b⟩; exact ⟨a.symm, b⟩
    · have e : s.data.toList.drop j = [] := List.drop_of_length_le (by simp; omega)
      rw [e]
      simp [Lib.hasPrefix, h]
  rw [cons, cons, cons]
  have n0 : Lib.hasPrefix (s.data.toList.drop (i + 1 + 1 + 1)) [] = true := by simp [Lib.hasPrefix]
  rw [n0]
  simp only [and_true, show (239 : UInt8).toNat = 239 from rfl, show (191 : UInt8).toNat = 191 from rfl, show (189 : UInt8).toNat = 189 from rfl]
  rw [show i + 1 + 1 = i + 2 by omega]
  constructor
  · rintro ⟨⟨_, h1⟩, ⟨_, h2⟩, h3, h4⟩; exact ⟨h3, h1, h2, h4⟩
  · rintro ⟨h3, h1, h2, h4⟩; exact ⟨⟨by omega, h1⟩, ⟨by omega, h2⟩, h3, h4⟩
def StepOk (bad : Bool) (m : Nat) : Option Nat → Prop
  | none => bad = true
  | some n => bad = false ∧ m = n
set_option maxRecDepth 100000 in
theorem step_eq (s : ByteArray) (i : Nat) (h : i < s.size) : StepOk (badAt s i) (Utf8.decode s i).2 (refS s i) := by
  unfold badAt
  rw [pre_iff]
  have e0 : (s.get! (i + 0)).toNat = bn s i := rfl
  have e1 : (s.get! (i + 1)).toNat = bn s (i + 1) := rfl
  have e2 : (s.get! (i + 2)).toNat = bn s (i + 2) := rfl
  have e3 : (s.get! (i + 3)).toNat = bn s (i + 3) := rfl
  have l0 := bn_lt s i
  have l1 := bn_lt s (i + 1)
  have l2 := bn_lt s (i + 2)
  have l3 := bn_lt s (i + 3)
  unfold Utf8.decode refS chk
  have v1 : ∀ c, vN s i c 1 = 64 * c + (bn s (i + 1) - 128) := fun _ => rfl
  have v2 : ∀ c, vN s i c 2 = 64 * (64 * c + (bn s (i + 1) - 128)) + (bn s (i + 2) - 128) := fun _ => rfl
  have v3 : ∀ c, vN s i c 3 = 64 * (64 * (64 * c + (bn s (i + 1) - 128)) + (bn s (i + 2) - 128)) + (bn s (i + 3) - 128) := fun _ => rfl
  simp only [e0, e1, e2, e3, tailsB, tailB, v1, v2, v3, badC, Utf8.runeError, Utf8.valid]
  generalize bn s i = b0 at *
  generalize bn s (i + 1) = b1 at *
  generalize bn s (i + 2) = b2 at *
  generalize bn s (i + 3) = b3 at *
  by_cases c0 : b0 < 128
  · rw [if_pos c0, if_pos c0]; simp [StepOk]; omega
  rw [if_neg c0, if_neg c0]
  by_cases c1 : b0 < 192
  · rw [if_pos c1, if_neg (by simp; omega), if_neg (by simp; omega), if_neg (by simp; omega)]; simp [StepOk]; omega
  rw [if_neg c1]
  by_cases c2 : b0 < 224
  · rw [if_pos c2]
    by_cases t1 : i + 1 < s.size ∧ 128 ≤ b1 ∧ b1 < 192
    · have u1 : (b0 / 32 == 6 && (decide (i + 1 < s.size) && b1 / 64 == 2)) = true := by simp; omega
      rw [if_pos u1]
      by_cases k : 128 ≤ 64 * (b0 - 192) + (b1 - 128)
      · rw [if_pos (by omega), if_pos (by simp; omega), if_neg (by simp; omega)]; simp [StepOk]; omega
      · rw [if_neg (by omega), if_pos (by simp; omega), if_pos (by simp; omega)]; simp [StepOk]; omega
    · rw [if_neg (by simp; omega), if_neg (by simp; omega), if_neg (by simp; omega), if_neg (by simp; omega)]; simp [StepOk]; omega
  rw [if_neg c2]
  by_cases c3 : b0 < 240
  · rw [if_pos c3]
    by_cases t1 : (i + 1 < s.size ∧ 128 ≤ b1 ∧ b1 < 192) ∧ i + 2 < s.size ∧ 128 ≤ b2 ∧ b2 < 192
    · rw [if_neg (by simp; omega), if_pos (by simp; omega)]
      by_cases k : 2048 ≤ 64 * (64 * (b0 - 224) + (b1 - 128)) + (b2 - 128) ∧ ¬ (55296 ≤ 64 * (64 * (b0 - 224) + (b1 - 128)) + (b2 - 128) ∧ 64 * (64 * (b0 - 224) + (b1 - 128)) + (b2 - 128) ≤ 57343)
      · rw [if_pos (by simp; omega), if_pos (by simp; omega), if_neg (by simp; omega)]; simp [StepOk]; omega
      · rw [if_neg (by simp; omega), if_pos (by simp; omega), if_pos (by simp; omega)]; simp [StepOk]; omega
    · rw [if_neg (by simp; omega), if_neg (by simp; omega), if_neg (by simp; omega), if_neg (by simp; omega)]; simp [StepOk]; omega
  rw [if_neg c3]
  by_cases c4 : b0 < 248
  · rw [if_pos c4]
    by_cases t1 : ((i + 1 < s.size ∧ 128 ≤ b1 ∧ b1 < 192) ∧ i + 2 < s.size ∧ 128 ≤ b2 ∧ b2 < 192) ∧ i + 3 < s.size ∧ 128 ≤ b3 ∧ b3 < 192
    · rw [if_neg (by simp; omega), if_neg (by simp; omega), if_pos (by simp; omega)]
      by_cases k : 65536 ≤ 64 * (64 * (64 * (b0 - 240) + (b1 - 128)) + (b2 - 128)) + (b3 - 128) ∧ 64 * (64 * (64 * (b0 - 240) + (b1 - 128)) + (b2 - 128)) + (b3 - 128) ≤ 1114111
      · rw [if_pos (by simp; omega), if_pos (by simp; omega), if_neg (by simp; omega)]; simp [StepOk]; omega
      · rw [if_neg (by simp; omega), if_pos (by simp; omega), if_pos (by simp; omega)]; simp [StepOk]; omega
    · rw [if_neg (by simp; omega), if_neg (by simp; omega), if_neg (by simp; omega), if_neg (by simp; omega)]; simp [StepOk]; omega
  · rw [if_neg c4, if_neg (by simp; omega), if_neg (by simp; omega), if_neg (by simp; omega)]; simp [StepOk]; omega
theorem ref_utf (s : ByteArray) : ∀ b pos, refF s b pos = utfF s b pos
  | 0, _ => rfl
  | b + 1, pos => by
    rw [refF, utfF]
    by_cases h : pos < s.size
    · rw [if_pos h, if_pos h]
      have := step_eq s pos h
      cases hr : refS s pos with
      | none => rw [hr] at this; simp only [StepOk] at this; rw [this]; rfl
      | some n =>
        rw [hr] at this
        simp only [StepOk] at this
        rw [this.1, this.2]
        simp only [Bool.not_false, Bool.true_and]
        exact ref_utf s b _
    · rw [if_neg h, if_neg h]
end Go.Proofs.YtpiegngjpnpohaaGreat.Ut

namespace Go.Proofs.YtpiegngjpnpohaaGreat.Ut
open Go.RowKit Go.Proofs.YtpiegngjpnpohaaGreat.La
set_option linter.unusedVariables false
def natU : Value → Nat
  | .int _ n => n.toNat
  | _ => 0
set_option maxRecDepth 100000 in
theorem tail_any (s : ByteArray) (j : Nat) (hs : (s.size : Int) ≤ 140737488355328) (w : World) :
    Calls Tryz.prog 192 #[.string s, .int .i64 (j : Int)] w fun e w' => e = .returned (.bool (tailB s j)) ∧ w' = w := by
  have hj0 : (0 : Int) ≤ (j : Int) := by omega
  by_cases h1 : j < s.size
  · have g1 : (j : Int) < (s.size : Int) := by omega
    by_cases h2 : (128 : Int) ≤ (s[j].toNat : Int)
    · by_cases h3 : (s[j].toNat : Int) < 192
      · have e : tailB s j = true := by unfold tailB; rw [bn_at s j h1]; simp; omega
        rw [e]; clear e
        go_enter Tryz.func192, Tryz.ntmps192
        go_wp2
        go_ret
        exact ⟨rfl, rfl⟩
      · have e : tailB s j = false := by unfold tailB; rw [bn_at s j h1]; simp; omega
        rw [e]; clear e
        go_enter Tryz.func192, Tryz.ntmps192
        go_wp2
        go_ret
        exact ⟨rfl, rfl⟩
    · have e : tailB s j = false := by unfold tailB; rw [bn_at s j h1]; simp; omega
      rw [e]; clear e
      go_enter Tryz.func192, Tryz.ntmps192
      go_wp2
      go_ret
      exact ⟨rfl, rfl⟩
  · have g1 : ¬ (j : Int) < (s.size : Int) := by omega
    have e : tailB s j = false := by unfold tailB; simp; omega
    rw [e]; clear e
    go_enter Tryz.func192, Tryz.ntmps192
    go_wp2
    go_ret
    exact ⟨rfl, rfl⟩
theorem tails_lt (s : ByteArray) (i n : Nat) : ∀ m, m ≤ n → tailsB s i m = false → tailsB s i n = false := by
  induction n with
  | zero => intro m hm h; obtain rfl : m = 0 := by omega
            exact h
  | succ n ih =>
    intro m hm h
    by_cases e : m = n + 1
    · subst e; exact h
    · rw [tailsB, ih m (by omega) h]; rfl
set_option maxRecDepth 100000 in
set_option maxHeartbeats 8000000 in
theorem utf_any (s : ByteArray) (hs : (s.size : Int) ≤ 140737488355328) (w : World) :
    Calls Tryz.prog 154 #[.string s] w fun e w' => e = .returned (.bool (utfB s)) ∧ w' = w := by
  have ct := fun j => tail_any s j hs
  obtain ⟨R, hR⟩ : ∃ R, R = utfB s := ⟨_, rfl⟩
  rw [← hR]
  have hR2 : refF s s.size 0 = R := by rw [hR, ref_utf]; rfl
  replace ct := Lib.hid ct
  replace hR2 := Lib.hid hR2
  clear hR
  go_enter Tryz.func154, Tryz.ntmps154
  go_wp2
  go_loopw [3] (fun v wr => ∃ f i : Nat, v = .int .i64 (i : Int) ∧ i ≤ s.size ∧ s.size ≤ f + i ∧ Hid (refF s f i = R) ∧ w = wr) (fun v _ => s.size + 1 - natU v)
  case atStart => exact ⟨s.size, 0, rfl, Nat.zero_le _, by omega, hR2, rfl⟩
  case round =>
    obtain ⟨f, i, rfl, hi, hf, hr, hww⟩ := hrel
    subst hww
    have hi0 : (0 : Int) ≤ (i : Int) := by omega
    by_cases hlt : i < s.size
    · have hltI : (i : Int) < (s.size : Int) := by omega
      obtain ⟨f, rfl⟩ : ∃ f', f = f' + 1 := ⟨f - 1, by omega⟩
      have hr' := hr.out
      rw [refF, if_pos hlt, refS, bn_at s i hlt] at hr'
      obtain ⟨b, hb⟩ : ∃ b, b = s[i].toNat := ⟨_, rfl⟩
      have hbI : (s[i].toNat : Int) = (b : Int) := by omega
      have hb256 : b < 256 := by rw [hb]; exact s[i].toNat_lt
      rw [← hb] at hr'
      replace hb := Lib.hid hb
      have g0 : (0 : Int) ≤ (b : Int) := by omega
      by_cases b1 : b < 128
      · rw [if_pos b1] at hr'
        have t1 : (b : Int) < 128 := by omega
        replace hr' := Lib.hid hr'
        clear b1 hr hb256
        go_wp2
        exact ⟨⟨f, i + 1, by simp, hlt, by omega, hr', trivial⟩, by simp [natU]; omega⟩
      rw [if_neg b1] at hr'
      have t1 : ¬ (b : Int) < 128 := by omega
      by_cases b2 : b < 192
      · rw [if_pos b2] at hr'
        have t2 : ¬ (192 : Int) ≤ (b : Int) := by omega
        have t3 : ¬ (224 : Int) ≤ (b : Int) := by omega
        have t4 : ¬ (240 : Int) ≤ (b : Int) := by omega
        subst hr'
        clear b1 b2 hr hb256
        go_wp2
        go_ret
        exact ⟨rfl, rfl⟩
      rw [if_neg b2] at hr'
      have t2 : (192 : Int) ≤ (b : Int) := by omega
      by_cases b3 : b < 224
      · rw [if_pos b3] at hr'
        have t3 : (b : Int) < 224 := by omega
        obtain ⟨c0, hc0⟩ : ∃ c0, c0 = b - 192 := ⟨_, rfl⟩
        rw [← hc0] at hr'
        have hcI : (b : Int) - 192 = (c0 : Int) := by omega
        have hc31 : c0 ≤ 31 := by omega
        replace hr' := Lib.hid hr'
        replace hb := Lib.hid hb
        clear hr hb256 b1 b2 hc0 b3
        go_wp2
        go_loopw [4, 6] (fun v u wr => ∃ k cc : Nat, u = .int .i64 ((k : Int) + 1) ∧ k ≤ 1 ∧ Hid (tailsB s i k = true) ∧ v = .int .i64 (cc : Int) ∧ Hid (cc = vN s i c0 k) ∧ (k = 0 → cc ≤ 31) ∧ (k ≤ 1 → cc ≤ 2047) ∧ (k ≤ 2 → cc ≤ 131071) ∧ cc ≤ 8388607 ∧ i + k < s.size ∧ w = wr) (fun _ u _ => 10 - natU u)
        case atStart => exact ⟨0, c0, by simp, Nat.zero_le _, rfl, rfl, rfl, by omega, by omega, by omega, by omega, hlt, rfl⟩
        case round =>
          obtain ⟨k, cc, rfl, hk, htl, rfl, hcc, k0, k1, k2, k3, hik, hww⟩ := hrel
          subst hww
          have hcc0 : (0 : Int) ≤ (cc : Int) := by omega
          have hcc3 : (cc : Int) ≤ 8388607 := by omega
          by_cases hkn : k < 1
          · have hkI : (k : Int) + 1 ≤ 1 := by omega
            have hcc2 : (cc : Int) ≤ 131071 := by omega
            obtain ⟨q, hq, hqI⟩ : ∃ q, q = i + (k + 1) ∧ (i : Int) + ((k : Int) + 1) = (q : Int) := ⟨_, rfl, by omega⟩
            have c1 := ct.out q
            have htn : tailsB s i (k + 1) = tailB s q := by rw [tailsB, htl.out, hq]; rfl
            have hq0 : (0 : Int) ≤ (q : Int) := by omega
            have hqs : (q : Int) ≤ 140737488355328 := by omega
            replace hq := Lib.hid hq
            cases hq2 : tailB s q with
            | false =>
              rw [hq2] at c1 htn
              have hres : R = false := by
                have h1 := hr'.out
                rw [chk, tails_lt s i 1 (k + 1) (by omega) htn, if_neg (by decide)] at h1
                exact h1.symm
              subst hres
              replace c1 := Lib.hid c1
              clear hcc htn
              go_wp2_with fail
              refine (c1.out _).mono ?_
              rintro e w' ⟨rfl, hw⟩
              rw [hw]; clear hw w'
              go_wp2
              go_ret
              exact ⟨rfl, rfl⟩
            | true =>
              rw [hq2] at c1 htn
              have hqd : q < s.size ∧ 128 ≤ bn s q ∧ bn s q < 192 := by simpa [tailB] using hq2
              obtain ⟨q1, q2, q3⟩ := hqd
              have hqb := bn_at s q q1
              have hv : vN s i c0 (k + 1) = 64 * cc + (bn s q - 128) := by rw [hcc.out, hq.out]; rfl
              obtain ⟨d, hd⟩ : ∃ d, d = s[q].toNat := ⟨_, rfl⟩
              have hdI : (s[q].toNat : Int) = (d : Int) := by omega
              have d1 : (128 : Int) ≤ (d : Int) := by omega
              have d2 : (d : Int) < 192 := by omega
              have hv2 : vN s i c0 (k + 1) = 64 * cc + (d - 128) := by omega
              have hqI2 : (q : Int) < (s.size : Int) := by omega
              have hv3 : 64 * (cc : Int) + (d : Int) - 128 = ((64 * cc + (d - 128) : Nat) : Int) := by omega
              replace c1 := Lib.hid c1
              replace hv2 := Lib.hid hv2
              replace htn := Lib.hid htn
              replace hv3 := Lib.hid hv3
              clear hv hd hqb hq2
              go_wp2_with fail
              refine (c1.out _).mono ?_
              rintro e w' ⟨rfl, hw⟩
              rw [hw]; clear hw w' c1
              go_wp2
              refine ⟨⟨k + 1, 64 * cc + (d - 128), by simp, hkn, htn, by rw [← hv3.out], Lib.hid hv2.out.symm, by omega, by omega, by omega, by omega, by have := hq.out; omega, trivial⟩, by simp [natU]; omega⟩
          · obtain rfl : k = 1 := by omega
            have hchk : chk s i 1 c0 = if badC 1 cc = true then none else some (1 + 1) := by rw [chk, htl.out, if_pos rfl, hcc.out]
            rw [hchk] at hr'
            clear hcc htl hchk k0 k1 k2 k3
            by_cases m1 : (cc : Int) < 128
            · have hbad : badC 1 cc = true := by unfold badC; simp; omega
              have hres : R = false := by have h1 := hr'.out; rw [hbad, if_pos rfl] at h1; exact h1.symm
              subst hres
              clear hbad hr'
              go_wp2
              go_ret
              exact ⟨rfl, rfl⟩
            by_cases m2 : (1114111 : Int) < (cc : Int)
            · have hbad : badC 1 cc = true := by unfold badC; simp; omega
              have hres : R = false := by have h1 := hr'.out; rw [hbad, if_pos rfl] at h1; exact h1.symm
              subst hres
              clear hbad hr'
              go_wp2
              go_ret
              exact ⟨rfl, rfl⟩
            by_cases m3 : (55296 : Int) ≤ (cc : Int)
            · by_cases m4 : (cc : Int) ≤ 57343
              · have hbad : badC 1 cc = true := by unfold badC; simp; omega
                have hres : R = false := by have h1 := hr'.out; rw [hbad, if_pos rfl] at h1; exact h1.symm
                subst hres
                clear hbad hr'
                go_wp2
                go_ret
                exact ⟨rfl, rfl⟩
              · have hbad : badC 1 cc = false := by unfold badC; simp; omega
                have hres : refF s f (i + 2) = R := by have h1 := hr'.out; rw [hbad, if_neg (by decide)] at h1; exact h1
                replace hres := Lib.hid hres
                clear hbad hr'
                go_wp2
                exact ⟨⟨f, i + 2, by simp, by omega, by omega, hres, trivial⟩, by simp [natU]; omega⟩
            · have hbad : badC 1 cc = false := by unfold badC; simp; omega
              have hres : refF s f (i + 2) = R := by have h1 := hr'.out; rw [hbad, if_neg (by decide)] at h1; exact h1
              replace hres := Lib.hid hres
              clear hbad hr'
              go_wp2
              exact ⟨⟨f, i + 2, by simp, by omega, by omega, hres, trivial⟩, by simp [natU]; omega⟩
      rw [if_neg b3] at hr'
      have t3 : ¬ (b : Int) < 224 := by omega
      have t4 : (224 : Int) ≤ (b : Int) := by omega
      by_cases b4 : b < 240
      · rw [if_pos b4] at hr'
        have t5 : (b : Int) < 240 := by omega
        obtain ⟨c0, hc0⟩ : ∃ c0, c0 = b - 224 := ⟨_, rfl⟩
        rw [← hc0] at hr'
        have hcI : (b : Int) - 224 = (c0 : Int) := by omega
        have hc31 : c0 ≤ 31 := by omega
        replace hr' := Lib.hid hr'
        replace hb := Lib.hid hb
        clear hr hb256 b1 b2 hc0 b3 b4
        go_wp2
        go_loopw [4, 6] (fun v u wr => ∃ k cc : Nat, u = .int .i64 ((k : Int) + 1) ∧ k ≤ 2 ∧ Hid (tailsB s i k = true) ∧ v = .int .i64 (cc : Int) ∧ Hid (cc = vN s i c0 k) ∧ (k = 0 → cc ≤ 31) ∧ (k ≤ 1 → cc ≤ 2047) ∧ (k ≤ 2 → cc ≤ 131071) ∧ cc ≤ 8388607 ∧ i + k < s.size ∧ w = wr) (fun _ u _ => 10 - natU u)
        case atStart => exact ⟨0, c0, by simp, Nat.zero_le _, rfl, rfl, rfl, by omega, by omega, by omega, by omega, hlt, rfl⟩
        case round =>
          obtain ⟨k, cc, rfl, hk, htl, rfl, hcc, k0, k1, k2, k3, hik, hww⟩ := hrel
          subst hww
          have hcc0 : (0 : Int) ≤ (cc : Int) := by omega
          have hcc3 : (cc : Int) ≤ 8388607 := by omega
          by_cases hkn : k < 2
          · have hkI : (k : Int) + 1 ≤ 2 := by omega
            have hcc2 : (cc : Int) ≤ 131071 := by omega
            obtain ⟨q, hq, hqI⟩ : ∃ q, q = i + (k + 1) ∧ (i : Int) + ((k : Int) + 1) = (q : Int) := ⟨_, rfl, by omega⟩
            have c1 := ct.out q
            have htn : tailsB s i (k + 1) = tailB s q := by rw [tailsB, htl.out, hq]; rfl
            have hq0 : (0 : Int) ≤ (q : Int) := by omega
            have hqs : (q : Int) ≤ 140737488355328 := by omega
            replace hq := Lib.hid hq
            cases hq2 : tailB s q with
            | false =>
              rw [hq2] at c1 htn
              have hres : R = false := by
                have h1 := hr'.out
                rw [chk, tails_lt s i 2 (k + 1) (by omega) htn, if_neg (by decide)] at h1
                exact h1.symm
              subst hres
              replace c1 := Lib.hid c1
              clear hcc htn
              go_wp2_with fail
              refine (c1.out _).mono ?_
              rintro e w' ⟨rfl, hw⟩
              rw [hw]; clear hw w'
              go_wp2
              go_ret
              exact ⟨rfl, rfl⟩
            | true =>
              rw [hq2] at c1 htn
              have hqd : q < s.size ∧ 128 ≤ bn s q ∧ bn s q < 192 := by simpa [tailB] using hq2
              obtain ⟨q1, q2, q3⟩ := hqd
              have hqb := bn_at s q q1
              have hv : vN s i c0 (k + 1) = 64 * cc + (bn s q - 128) := by rw [hcc.out, hq.out]; rfl
              obtain ⟨d, hd⟩ : ∃ d, d = s[q].toNat := ⟨_, rfl⟩
              have hdI : (s[q].toNat : Int) = (d : Int) := by omega
              have d1 : (128 : Int) ≤ (d : Int) := by omega
              have d2 : (d : Int) < 192 := by omega
              have hv2 : vN s i c0 (k + 1) = 64 * cc + (d - 128) := by omega
              have hqI2 : (q : Int) < (s.size : Int) := by omega
              have hv3 : 64 * (cc : Int) + (d : Int) - 128 = ((64 * cc + (d - 128) : Nat) : Int) := by omega
              replace c1 := Lib.hid c1
              replace hv2 := Lib.hid hv2
              replace htn := Lib.hid htn
              replace hv3 := Lib.hid hv3
              clear hv hd hqb hq2
              go_wp2_with fail
              refine (c1.out _).mono ?_
              rintro e w' ⟨rfl, hw⟩
              rw [hw]; clear hw w' c1
              go_wp2
              refine ⟨⟨k + 1, 64 * cc + (d - 128), by simp, hkn, htn, by rw [← hv3.out], Lib.hid hv2.out.symm, by omega, by omega, by omega, by omega, by have := hq.out; omega, trivial⟩, by simp [natU]; omega⟩
          · obtain rfl : k = 2 := by omega
            have hchk : chk s i 2 c0 = if badC 2 cc = true then none else some (2 + 1) := by rw [chk, htl.out, if_pos rfl, hcc.out]
            rw [hchk] at hr'
            clear hcc htl hchk k0 k1 k2 k3
            by_cases m1 : (cc : Int) < 2048
            · have hbad : badC 2 cc = true := by unfold badC; simp; omega
              have hres : R = false := by have h1 := hr'.out; rw [hbad, if_pos rfl] at h1; exact h1.symm
              subst hres
              clear hbad hr'
              go_wp2
              go_ret
              exact ⟨rfl, rfl⟩
            by_cases m2 : (1114111 : Int) < (cc : Int)
            · have hbad : badC 2 cc = true := by unfold badC; simp; omega
              have hres : R = false := by have h1 := hr'.out; rw [hbad, if_pos rfl] at h1; exact h1.symm
              subst hres
              clear hbad hr'
              go_wp2
              go_ret
              exact ⟨rfl, rfl⟩
            by_cases m3 : (55296 : Int) ≤ (cc : Int)
            · by_cases m4 : (cc : Int) ≤ 57343
              · have hbad : badC 2 cc = true := by unfold badC; simp; omega
                have hres : R = false := by have h1 := hr'.out; rw [hbad, if_pos rfl] at h1; exact h1.symm
                subst hres
                clear hbad hr'
                go_wp2
                go_ret
                exact ⟨rfl, rfl⟩
              · have hbad : badC 2 cc = false := by unfold badC; simp; omega
                have hres : refF s f (i + 3) = R := by have h1 := hr'.out; rw [hbad, if_neg (by decide)] at h1; exact h1
                replace hres := Lib.hid hres
                clear hbad hr'
                go_wp2
                exact ⟨⟨f, i + 3, by simp, by omega, by omega, hres, trivial⟩, by simp [natU]; omega⟩
            · have hbad : badC 2 cc = false := by unfold badC; simp; omega
              have hres : refF s f (i + 3) = R := by have h1 := hr'.out; rw [hbad, if_neg (by decide)] at h1; exact h1
              replace hres := Lib.hid hres
              clear hbad hr'
              go_wp2
              exact ⟨⟨f, i + 3, by simp, by omega, by omega, hres, trivial⟩, by simp [natU]; omega⟩
      rw [if_neg b4] at hr'
      have t5 : ¬ (b : Int) < 240 := by omega
      have t6 : (240 : Int) ≤ (b : Int) := by omega
      by_cases b5 : b < 248
      · rw [if_pos b5] at hr'
        have t7 : (b : Int) < 248 := by omega
        obtain ⟨c0, hc0⟩ : ∃ c0, c0 = b - 240 := ⟨_, rfl⟩
        rw [← hc0] at hr'
        have hcI : (b : Int) - 240 = (c0 : Int) := by omega
        have hc31 : c0 ≤ 31 := by omega
        replace hr' := Lib.hid hr'
        replace hb := Lib.hid hb
        clear hr hb256 b1 b2 hc0 b3 b4 b5
        go_wp2
        go_loopw [4, 6] (fun v u wr => ∃ k cc : Nat, u = .int .i64 ((k : Int) + 1) ∧ k ≤ 3 ∧ Hid (tailsB s i k = true) ∧ v = .int .i64 (cc : Int) ∧ Hid (cc = vN s i c0 k) ∧ (k = 0 → cc ≤ 31) ∧ (k ≤ 1 → cc ≤ 2047) ∧ (k ≤ 2 → cc ≤ 131071) ∧ cc ≤ 8388607 ∧ i + k < s.size ∧ w = wr) (fun _ u _ => 10 - natU u)
        case atStart => exact ⟨0, c0, by simp, Nat.zero_le _, rfl, rfl, rfl, by omega, by omega, by omega, by omega, hlt, rfl⟩
        case round =>
          obtain ⟨k, cc, rfl, hk, htl, rfl, hcc, k0, k1, k2, k3, hik, hww⟩ := hrel
          subst hww
          have hcc0 : (0 : Int) ≤ (cc : Int) := by omega
          have hcc3 : (cc : Int) ≤ 8388607 := by omega
          by_cases hkn : k < 3
          · have hkI : (k : Int) + 1 ≤ 3 := by omega
            have hcc2 : (cc : Int) ≤ 131071 := by omega
            obtain ⟨q, hq, hqI⟩ : ∃ q, q = i + (k + 1) ∧ (i : Int) + ((k : Int) + 1) = (q : Int) := ⟨_, rfl, by omega⟩
            have c1 := ct.out q
            have htn : tailsB s i (k + 1) = tailB s q := by rw [tailsB, htl.out, hq]; rfl
            have hq0 : (0 : Int) ≤ (q : Int) := by omega
            have hqs : (q : Int) ≤ 140737488355328 := by omega
            replace hq := Lib.hid hq
            cases hq2 : tailB s q with
            | false =>
              rw [hq2] at c1 htn
              have hres : R = false := by
                have h1 := hr'.out
                rw [chk, tails_lt s i 3 (k + 1) (by omega) htn, if_neg (by decide)] at h1
                exact h1.symm
              subst hres
              replace c1 := Lib.hid c1
              clear hcc htn
              go_wp2_with fail
              refine (c1.out _).mono ?_
              rintro e w' ⟨rfl, hw⟩
              rw [hw]; clear hw w'
              go_wp2
              go_ret
              exact ⟨rfl, rfl⟩
            | true =>
              rw [hq2] at c1 htn
              have hqd : q < s.size ∧ 128 ≤ bn s q ∧ bn s q < 192 := by simpa [tailB] using hq2
              obtain ⟨q1, q2, q3⟩ := hqd
              have hqb := bn_at s q q1
              have hv : vN s i c0 (k + 1) = 64 * cc + (bn s q - 128) := by rw [hcc.out, hq.out]; rfl
              obtain ⟨d, hd⟩ : ∃ d, d = s[q].toNat := ⟨_, rfl⟩
              have hdI : (s[q].toNat : Int) = (d : Int) := by omega
              have d1 : (128 : Int) ≤ (d : Int) := by omega
              have d2 : (d : Int) < 192 := by omega
              have hv2 : vN s i c0 (k + 1) = 64 * cc + (d - 128) := by omega
              have hqI2 : (q : Int) < (s.size : Int) := by omega
              have hv3 : 64 * (cc : Int) + (d : Int) - 128 = ((64 * cc + (d - 128) : Nat) : Int) := by omega
              replace c1 := Lib.hid c1
              replace hv2 := Lib.hid hv2
              replace htn := Lib.hid htn
              replace hv3 := Lib.hid hv3
              clear hv hd hqb hq2
              go_wp2_with fail
              refine (c1.out _).mono ?_
              rintro e w' ⟨rfl, hw⟩
              rw [hw]; clear hw w' c1
              go_wp2
              refine ⟨⟨k + 1, 64 * cc + (d - 128), by simp, hkn, htn, by rw [← hv3.out], Lib.hid hv2.out.symm, by omega, by omega, by omega, by omega, by have := hq.out; omega, trivial⟩, by simp [natU]; omega⟩
          · obtain rfl : k = 3 := by omega
            have hchk : chk s i 3 c0 = if badC 3 cc = true then none else some (3 + 1) := by rw [chk, htl.out, if_pos rfl, hcc.out]
            rw [hchk] at hr'
            clear hcc htl hchk k0 k1 k2 k3
            by_cases m1 : (cc : Int) < 65536
            · have hbad : badC 3 cc = true := by unfold badC; simp; omega
              have hres : R = false := by have h1 := hr'.out; rw [hbad, if_pos rfl] at h1; exact h1.symm
              subst hres
              clear hbad hr'
              go_wp2
              go_ret
              exact ⟨rfl, rfl⟩
            by_cases m2 : (1114111 : Int) < (cc : Int)
            · have hbad : badC 3 cc = true := by unfold badC; simp; omega
              have hres : R = false := by have h1 := hr'.out; rw [hbad, if_pos rfl] at h1; exact h1.symm
              subst hres
              clear hbad hr'
              go_wp2
              go_ret
              exact ⟨rfl, rfl⟩
            by_cases m3 : (55296 : Int) ≤ (cc : Int)
            · by_cases m4 : (cc : Int) ≤ 57343
              · have hbad : badC 3 cc = true := by unfold badC; simp; omega
                have hres : R = false := by have h1 := hr'.out; rw [hbad, if_pos rfl] at h1; exact h1.symm
                subst hres
                clear hbad hr'
                go_wp2
                go_ret
                exact ⟨rfl, rfl⟩
              · have hbad : badC 3 cc = false := by unfold badC; simp; omega
                have hres : refF s f (i + 4) = R := by have h1 := hr'.out; rw [hbad, if_neg (by decide)] at h1; exact h1
                replace hres := Lib.hid hres
                clear hbad hr'
                go_wp2
                exact ⟨⟨f, i + 4, by simp, by omega, by omega, hres, trivial⟩, by simp [natU]; omega⟩
            · have hbad : badC 3 cc = false := by unfold badC; simp; omega
              have hres : refF s f (i + 4) = R := by have h1 := hr'.out; rw [hbad, if_neg (by decide)] at h1; exact h1
              replace hres := Lib.hid hres
              clear hbad hr'
              go_wp2
              exact ⟨⟨f, i + 4, by simp, by omega, by omega, hres, trivial⟩, by simp [natU]; omega⟩
      · rw [if_neg b5] at hr'
        have t7 : ¬ (b : Int) < 248 := by omega
        have g9 : (b : Int) < 256 := by omega
        subst hr'
        clear hr hb256 b1 b2 b3 b4 b5
        go_wp2
        go_ret
        exact ⟨rfl, rfl⟩
    · have hge : ¬ (i : Int) < (s.size : Int) := by omega
      have hR3 : R = true := by
        have h1 := hr.out
        cases f with
        | zero => exact h1.symm
        | succ f => rw [refF, if_neg hlt] at h1; exact h1.symm
      subst hR3
      go_wp2
      go_ret
      exact ⟨rfl, rfl⟩
end Go.Proofs.YtpiegngjpnpohaaGreat.Ut

namespace Go.Proofs.YtpiegngjpnpohaaGreat.Rc
open Go.RowKit Go.Proofs.YtpiegngjpnpohaaGreat.La
set_option linter.unusedVariables false
theorem cmp_neg : ∀ a b : List UInt8, Lib.compareBytes b a = - Lib.compareBytes a b
  | [], [] => rfl
  | [], _ :: _ => rfl
  | _ :: _, [] => rfl
  | a :: x, b :: y => by
    rw [Lib.compareBytes, Lib.compareBytes]
    by_cases h1 : a < b
    · have h2 : ¬ b < a := fun h => by have := UInt8.lt_iff_toNat_lt.1 h; have := UInt8.lt_iff_toNat_lt.1 h1; omega
      simp [h1, h2]
    · by_cases h2 : b < a
      · simp [h1, h2]
      · simp only [h1, h2, if_false]; exact cmp_neg x y
theorem less_iff : ∀ a b : List UInt8, Op.bytesLess a b = decide (Lib.compareBytes a b = -1)
  | [], [] => rfl
  | [], _ :: _ => rfl
  | _ :: _, [] => rfl
  | a :: x, b :: y => by
    rw [Op.bytesLess, Lib.compareBytes]
    by_cases h1 : a < b
    · simp [h1]
    · by_cases h2 : b < a
      · have h3 : ¬ a = b := fun e => by subst e; exact h1 h2
        simp [h1, h2, h3]
      · have h3 : a = b := UInt8.toNat_inj.1 (by
          have a1 : ¬ a.toNat < b.toNat := fun h => h1 (UInt8.lt_iff_toNat_lt.2 h)
          have a2 : ¬ b.toNat < a.toNat := fun h => h2 (UInt8.lt_iff_toNat_lt.2 h)
          omega)
        subst h3
        simp [less_iff x y]
theorem blt_iff (a b : ByteArray) : blt a b = decide (cB a b = -1) := by
  unfold blt cB
  rw [ByteArray.toList_eq, ByteArray.toList_eq]
  exact less_iff _ _
theorem cB_neg (a b : ByteArray) : cB b a = - cB a b := cmp_neg _ _
theorem cB_if (a b : ByteArray) : cB a b = if blt a b = true then -1 else if blt b a = true then 1 else 0 := by
  rw [blt_iff, blt_iff, cB_neg a b]
  have := cB_ord.range a b
  rcases this with h | h | h <;> simp [h]
theorem tl_ne {x y : ByteArray} (h : x ≠ y) : (x.toList == y.toList) = false := by
  have hne : x.toList ≠ y.toList := fun e => h (by
    rw [ByteArray.toList_eq, ByteArray.toList_eq] at e
    exact ByteArray.ext (Array.toList_inj.1 e))
  simp [hne]
theorem cB_zero (a b : ByteArray) : cB a b = 0 ↔ a = b := cB_ord.eq a b
set_option maxRecDepth 100000 in
theorem order_any (a b : ByteArray) (w : World) :
    Calls Tryz.prog 106 #[.string a, .string b] w fun e w' => e = .returned (.int .i64 (cB a b)) ∧ w' = w := by
  rw [cB_if]
  unfold blt
  by_cases h1 : Op.bytesLess a.toList b.toList = true
  · rw [if_pos h1]
    go_enter Tryz.func106, Tryz.ntmps106
    go_wp2
    go_ret
    exact ⟨rfl, rfl⟩
  · rw [if_neg h1]
    have h1 : Op.bytesLess a.toList b.toList = false := by simpa using h1
    by_cases h2 : Op.bytesLess b.toList a.toList = true
    · rw [if_pos h2]
      go_enter Tryz.func106, Tryz.ntmps106
      go_wp2
      go_ret
      exact ⟨rfl, rfl⟩
    · rw [if_neg h2]
      have h2 : Op.bytesLess b.toList a.toList = false := by simpa using h2
      go_enter Tryz.func106, Tryz.ntmps106
      go_wp2
      go_ret
      exact ⟨rfl, rfl⟩
def behB (a name : ByteArray) : Int := if blt a name = true then 0 else if a = name then 10 else 15
theorem behE_last (l : List Lab) (x : Lab) (h : l.getLast? = some x) (name : ByteArray) : behE l name = behB x.1 name := by
  unfold behE
  rw [h]
  rfl
set_option maxRecDepth 100000 in
theorem rbehind_any (a b : ByteArray) (w : World) :
    Calls Tryz.prog 99 #[.string a, .string b] w fun e w' => e = .returned (.int .i64 (behB a b)) ∧ w' = w := by
  unfold behB
  by_cases h1 : a = b
  · subst h1
    have hf : blt a a = false := by rw [blt_iff, (cB_zero a a).2 rfl]; rfl
    rw [hf, if_neg (by decide), if_pos rfl]
    clear hf
    go_enter Tryz.func99, Tryz.ntmps99
    go_wp2
    go_ret
    exact ⟨rfl, rfl⟩
  · have t1 := tl_ne h1
    have hz : cB a b ≠ 0 := fun e => h1 ((cB_zero a b).1 e)
    have hr := cB_ord.range a b
    have hsw : blt a b = !blt b a := by
      rw [blt_iff, blt_iff, cB_neg a b]
      rcases hr with h | h | h
      · simp [h]
      · exact absurd h hz
      · simp [h]
    rw [hsw, if_neg h1]
    unfold blt
    clear hz hr hsw
    by_cases h2 : Op.bytesLess b.toList a.toList = true
    · rw [h2, if_neg (by decide)]
      clear h1
      go_enter Tryz.func99, Tryz.ntmps99
      go_wp2
      go_ret
      exact ⟨rfl, rfl⟩
    · have h2 : Op.bytesLess b.toList a.toList = false := by simpa using h2
      rw [h2, if_pos (by decide)]
      clear h1
      go_enter Tryz.func99, Tryz.ntmps99
      go_wp2
      go_ret
      exact ⟨rfl, rfl⟩
set_option maxRecDepth 100000 in
theorem rtext_any (s : ByteArray) (hs : s.size ≤ 9223372036854775807) (w : World) :
    Calls Tryz.prog 97 #[.string s] w fun e w' => e = .returned (.int .i64 (valE s)) ∧ w' = w := by
  unfold valE
  by_cases h1 : 1024 < s.size
  · rw [if_pos h1]
    have t1 : (1024 : Int) < (s.size : Int) := by omega
    clear h1
    go_enter Tryz.func97, Tryz.ntmps97
    go_wp2
    go_ret
    exact ⟨rfl, rfl⟩
  · rw [if_neg h1]
    have t1 : ¬ (1024 : Int) < (s.size : Int) := by omega
    have c := Ut.utf_any s (by omega)
    clear h1 hs
    cases hu : utfB s with
    | true =>
      rw [hu] at c
      rw [if_pos rfl]
      replace c := Lib.hid c
      go_enter Tryz.func97, Tryz.ntmps97
      go_wp2_with fail
      refine (c.out _).mono ?_
      rintro e w' ⟨rfl, hw⟩
      rw [hw]; clear hw w'
      go_wp2
      go_ret
      exact ⟨rfl, rfl⟩
    | false =>
      rw [hu] at c
      rw [if_neg (by decide)]
      replace c := Lib.hid c
      go_enter Tryz.func97, Tryz.ntmps97
      go_wp2_with fail
      refine (c.out _).mono ?_
      rintro e w' ⟨rfl, hw⟩
      rw [hw]; clear hw w'
      go_wp2
      go_ret
      exact ⟨rfl, rfl⟩
end Go.Proofs.YtpiegngjpnpohaaGreat.Rc
