/- Lemmas for the laws of this seat, laid together of Fd, Fe, La0, La1, La2. -/
import Derived.Test.YtpiegngjpnpohaaGreatL00
import Derived.Test.YtpiegngjpnpohaaGreatL01
import Derived.Deep.DeepCutAuto
import Derived.Test.YtpiegngjpnpohaaGreatChecked
import Derived.WalkKit
import Derived.ProofKit
import Derived.WalkSmall
import Derived.BigQuiet
import Derived.Deep.QuietTactic
import Derived.Handy
import Derived.Outline
import Derived.Lib.Hide
import Derived.LoopTactic
import Derived.IntWalk
import Derived.WalkSpells
import Derived.WalkLawsBesides

namespace Go.Proofs.YtpiegngjpnpohaaGreat.Fb
open Go.RowKit Ieee Go.Proofs.YtpiegngjpnpohaaGreat.Wf
set_option linter.unusedVariables false
theorem stk1 (S : Nat) : sticky S 1 = S / 2 + (if S % 2 = 1 then 1 - S / 2 % 2 else 0) := sticky_one S
theorem pk_down {S E : Nat} (h1 : 72057594037927936 ≤ S) (h2 : S < 144115188075855872) : sticky S 1 < 72057594037927936 ∧ 36028797018963968 ≤ sticky S 1 ∧ pk (sticky S 1) (E + 1) = pk S E := by
  have e := stk1 S
  have b : 36028797018963968 ≤ sticky S 1 ∧ sticky S 1 < 72057594037927936 := by
    split at e <;> omega
  refine ⟨b.2, b.1, ?_⟩
  have hl : (sticky S 1).log2 = 55 := (Nat.log2_eq_iff (by omega)).2 ⟨b.1, b.2⟩
  unfold pk
  rw [if_neg (by omega), if_pos h1, hl]
  simp
theorem pk_up {S E : Nat} (h0 : S ≠ 0) (h1 : S < 36028797018963968) : pk (S * 2) E = pk S (E + 1) := by
  have hl : (S * 2).log2 = S.log2 + 1 := by have := log2_mul_pow h0 1; rwa [Nat.pow_one] at this
  have h55 : S.log2 < 55 := (Nat.log2_lt h0).2 (by omega)
  unfold pk
  rw [if_neg (by omega), if_neg (by omega), hl]
  obtain ⟨d, hd⟩ : ∃ d, d = min (55 - (S.log2 + 1)) E := ⟨_, rfl⟩
  have hd2 : min (55 - S.log2) (E + 1) = d + 1 := by omega
  rw [← hd, hd2, show E + 1 - (d + 1) = E - d by omega, Nat.mul_assoc, ← Nat.pow_succ', Nat.succ_eq_add_one]
theorem pk_flat {S E : Nat} (h0 : S = 0 → E = 0) (h1 : S < 72057594037927936) (h2 : 36028797018963968 ≤ S ∨ E = 0) : pk S E = min (E * 4503599627370496 + rnd S 3) 9218868437227405312 := by
  have hm : min (55 - S.log2) E = 0 := by
    rcases h2 with h | h
    · have hl : S.log2 = 55 := (Nat.log2_eq_iff (by omega)).2 ⟨h, h1⟩
      rw [hl]; omega
    · omega
  unfold pk
  rw [if_neg (by omega), hm]
  simp
theorem rnd3 (S : Nat) : rnd S 3 = S / 8 + (if 4 < S % 8 ∨ (S % 8 = 4 ∧ S / 8 % 2 = 1) then 1 else 0) := by
  unfold rnd
  rw [show (2 : Nat) ^ 3 = 8 from rfl]
  congr 1
  by_cases h : 4 < S % 8 ∨ (S % 8 = 4 ∧ S / 8 % 2 = 1)
  · rw [if_pos h, if_pos (by omega)]
  · rw [if_neg h, if_neg (by omega)]
theorem or_parts (a b : Nat) (ha : a < 2048) (hb : b < 4503599627370496) : (a * 4503599627370496 ||| b) = a * 4503599627370496 + b := by
  have := Nat.two_pow_add_eq_or_of_lt (i := 52) (b := b) (by omega) a
  rw [show (2 : Nat) ^ 52 = 4503599627370496 from rfl, Nat.mul_comm] at this
  rw [this]
theorem shift_bits (S : Nat) (h : S < 18446744073709551616) : bits BinOp.or IntKind.u64 ((S : Int) / 2 ^ 1) (bits BinOp.and IntKind.u64 (S : Int) 1) = ((sticky S 1 : Nat) : Int) := by
  have h1 := u64_and_nat S 1 (by omega) (by omega)
  have e1 : S &&& 1 = S % 2 := Nat.and_one_is_mod S
  have h2 := u64_or_nat (S / 2) (S % 2) (by omega) (by omega)
  rw [e1] at h1
  rw [show ((1 : Nat) : Int) = 1 from rfl] at h1
  rw [h1, show ((S : Int) / 2 ^ 1) = ((S / 2 : Nat) : Int) by simp, h2, shr_or]
def Out (F Q out : Nat) : Prop :=
  ((Q : Int) = 9007199254740992 ∧ 2045 ≤ F ∧ out = 9218868437227405312) ∨ ((Q : Int) = 9007199254740992 ∧ F < 2045 ∧ out = (F + 2) * 4503599627370496) ∨
  (((Q : Int) == 9007199254740992) = false ∧ ¬ (4503599627370496 : Int) ≤ (Q : Int) ∧ F = 0 ∧ out = Q) ∨
  (((Q : Int) == 9007199254740992) = false ∧ (4503599627370496 : Int) ≤ (Q : Int) ∧ F < 2046 ∧ out = (F + 1) * 4503599627370496 + (Q - 4503599627370496)) ∨
  (((Q : Int) == 9007199254740992) = false ∧ (4503599627370496 : Int) ≤ (Q : Int) ∧ 2046 ≤ F ∧ out = 9218868437227405312)
def Up (T Q : Nat) : Prop := (4 < T % 8 ∧ Q = T / 8 + 1) ∨ (T % 8 = 4 ∧ T / 8 % 2 = 1 ∧ Q = T / 8 + 1) ∨ (T % 8 = 4 ∧ T / 8 % 2 = 0 ∧ Q = T / 8) ∨ (T % 8 < 4 ∧ Q = T / 8)
theorem fin_of {T F : Nat} (h1 : T < 72057594037927936) (h2 : 36028797018963968 ≤ T ∨ F = 0) (h0 : T = 0 → F = 0) :
    ∃ Q out, Up T Q ∧ Out F Q out ∧ Q ≤ 9007199254740992 ∧ pk T F = out := by
  rw [pk_flat h0 h1 h2, rnd3]
  obtain ⟨Q, hQ⟩ : ∃ Q, Q = T / 8 + (if 4 < T % 8 ∨ (T % 8 = 4 ∧ T / 8 % 2 = 1) then 1 else 0) := ⟨_, rfl⟩
  rw [← hQ]
  have hup : Up T Q := by
    unfold Up
    split at hQ <;> omega
  have hQ2 : Q ≤ 9007199254740992 := by unfold Up at hup; omega
  have hQ3 : Q < 4503599627370496 → F = 0 := by unfold Up at hup; omega
  refine ⟨Q, _, hup, ?_, hQ2, rfl⟩
  clear hup hQ
  unfold Out
  simp only [beq_eq_false_iff_ne, ne_eq]
  by_cases hq : Q = 9007199254740992
  · by_cases hf : 2045 ≤ F <;> omega
  · by_cases hm : Q < 4503599627370496
    · have := hQ3 hm; omega
    · by_cases hf : 2046 ≤ F <;> omega
theorem or_word (x : Int) (a q : Nat) (ha : a < 2048) (hq : q < 18446744073709551616) (hx : x = (a : Int) * 4503599627370496) :
    bits BinOp.or IntKind.u64 x (bits BinOp.and IntKind.u64 (q : Int) 4503599627370495) = ((a * 4503599627370496 + q % 4503599627370496 : Nat) : Int) := by
  have h1 := u64_and_nat q 4503599627370495 hq (by omega)
  rw [show q &&& 4503599627370495 = q % 4503599627370496 from Nat.and_two_pow_sub_one_eq_mod q 52] at h1
  rw [show ((4503599627370495 : Nat) : Int) = 4503599627370495 from rfl] at h1
  have hm : q % 4503599627370496 < 4503599627370496 := Nat.mod_lt _ (by decide)
  rw [h1, hx, show (a : Int) * 4503599627370496 = ((a * 4503599627370496 : Nat) : Int) by omega]
  rw [u64_or_nat _ _ (by omega) (by omega), or_parts a _ ha hm]
theorem or_top (r : Nat) (h : r < 9223372036854775808) : bits BinOp.or IntKind.u64 (r : Int) 9223372036854775808 = ((double.word true r : Nat) : Int) := by
  rw [or_sign r h]
  simp [Format.word, Format.signWeight, double]
  omega
set_option maxRecDepth 100000 in
set_option maxHeartbeats 2000000 in
theorem packed_any (neg : Bool) (S E : Nat) (hS : S < 144115188075855872) (hE : E ≤ 3000) (h0 : S = 0 → E = 0) (w : World) :
    Calls Tryz.prog 170 #[.bool neg, .int .u64 S, .int .i64 ((E : Int) - 1074)] w fun e w' => e = .returned (.int .u64 (double.word neg (pk S E) : Nat)) ∧ ∃ n, w' = w.drewN n := by
  obtain ⟨P, hP⟩ : ∃ P, P = pk S E := ⟨_, rfl⟩
  rw [← hP]
  have hP' := hP.symm
  clear hP
  go_enter Tryz.func170, Tryz.ntmps170
  go_wp2
  go_loop [1, 2] (fun m e => ∃ S' E' : Nat, m = .int .u64 S' ∧ e = .int .i64 ((E' : Int) - 1074) ∧ S' < 144115188075855872 ∧ E' ≤ 3001 ∧ (72057594037927936 ≤ S' → E' ≤ 3000) ∧ (S' = 0 → E' = 0) ∧ pk S' E' = P) (fun m _ => (intOf m).toNat / 72057594037927936)
  case atStart => exact ⟨S, E, rfl, rfl, hS, by omega, fun _ => hE, h0, hP'⟩
  case round =>
    obtain ⟨S', E', rfl, rfl, b1, b2, b3, b4, b5⟩ := hrel
    by_cases hb : 72057594037927936 ≤ S'
    · have hbI : (72057594037927936 : Int) ≤ (S' : Int) := by omega
      have hsh := shift_bits S' (by omega)
      obtain ⟨d1, d2, d3⟩ := pk_down (E := E') hb b1
      have hsh' : bits BinOp.or IntKind.u64 ((S' : Int) / 2) (bits BinOp.and IntKind.u64 (S' : Int) 1) = ((sticky S' 1 : Nat) : Int) := by simpa using hsh
      clear hsh
      generalize hT : sticky S' 1 = T at *
      clear hT
      go_wp2
      refine ⟨⟨T, E' + 1, rfl, by congr 1; omega, by omega, by omega, fun g => by omega, fun g => by omega, d3.trans b5⟩, ?_⟩
      simp only [intOf, Int.toNat_natCast]
      omega
    · have hbI : ¬ (72057594037927936 : Int) ≤ (S' : Int) := by omega
      have hb' : S' < 72057594037927936 := by omega
      clear b1 b3 hS hE h0 hb
      replace b5 := Lib.hid b5
      go_wp2
      go_loop [1, 2] (fun m e => ∃ T F : Nat, m = .int .u64 T ∧ e = .int .i64 ((F : Int) - 1074) ∧ T < 72057594037927936 ∧ F ≤ 3001 ∧ (T = 0 → F = 0) ∧ pk T F = pk S' E') (fun _ e => (intOf e + 1074).toNat)
      case atStart => exact ⟨S', E', rfl, rfl, hb', b2, b4, rfl⟩
      case round =>
        obtain ⟨T, F, rfl, rfl, t1, t2, t3, t4⟩ := hrel
        by_cases hTF : T < 36028797018963968 ∧ 0 < F
        · obtain ⟨hT, hF⟩ := hTF
          have hTI : (T : Int) < 36028797018963968 := by omega
          have hFI : (-1074 : Int) < (F : Int) - 1074 := by omega
          have hup := pk_up (S := T) (E := F - 1) (by omega) hT
          rw [Nat.sub_add_cancel hF] at hup
          go_wp2
          refine ⟨⟨T * 2, F - 1, by congr 1, by congr 1; omega, by omega, by omega, fun g => by omega, hup.trans t4⟩, ?_⟩
          simp only [intOf]
          omega
        · obtain ⟨Q, out, hup, hO, hQ2, hout⟩ := fin_of (T := T) (F := F) t1 (by omega) t3
          unfold Up at hup
          replace hO := Lib.hid hO
          have eR : bits BinOp.and IntKind.u64 (T : Int) 7 = ((T % 8 : Nat) : Int) := by
            have := u64_and_nat T 7 (by omega) (by omega)
            rw [show T &&& 7 = T % 8 from Nat.and_two_pow_sub_one_eq_mod T 3] at this
            exact this
          have eO : bits BinOp.and IntKind.u64 ((T / 8 : Nat) : Int) 1 = ((T / 8 % 2 : Nat) : Int) := by
            have := u64_and_nat (T / 8) 1 (by omega) (by omega)
            rw [Nat.and_one_is_mod] at this
            exact this
          have eM : (T : Int) / 8 = ((T / 8 : Nat) : Int) := by omega
          have hM : T / 8 < 9007199254740992 := by omega
          have hQI : (Q : Int) ≤ 9007199254740992 := by omega
          have hFI : (F : Int) ≤ 3001 := by omega
          rw [← t4, hout] at b5
          have hex : (¬ (T : Int) < 36028797018963968) ∨ ((T : Int) < 36028797018963968 ∧ ¬ ((-1074 : Int) < (F : Int) - 1074)) := by omega
          have hTI : (T : Int) < 72057594037927936 := by omega
          clear t1 t2 t3 t4 hTF hout hb'
          obtain ⟨M, hMd⟩ : ∃ M, M = T / 8 := ⟨_, rfl⟩
          obtain ⟨R, hRd⟩ : ∃ R, R = T % 8 := ⟨_, rfl⟩
          obtain ⟨o, hod⟩ : ∃ o, o = M % 2 := ⟨_, rfl⟩
          rw [← hMd] at eM eO hM hup
          rw [← hRd] at eR hup
          rw [← hod] at eO hup
          have hMI : (M : Int) < 9007199254740992 := by omega
          have hupI : ((4 : Int) < (R : Int) ∧ (Q : Int) = (M : Int) + 1) ∨ ((R : Int) = 4 ∧ (o : Int) = 1 ∧ (Q : Int) = (M : Int) + 1) ∨ ((R : Int) = 4 ∧ (o : Int) = 0 ∧ (Q : Int) = (M : Int)) ∨ ((R : Int) < 4 ∧ (Q : Int) = (M : Int)) := by omega
          replace hupI := Lib.hid hupI
          clear hMd hRd hod hup hM hQ2
          rcases hex with hex | ⟨hex, hF0⟩
          all_goals
            go_upto_region 9 with fail
            go_cut [42] (fun s wx => ∃ u : Bool, s = .bool u ∧ Hid ((Q : Int) = if u = true then (M : Int) + 1 else (M : Int)) ∧ wx = w)
            case first =>
              clear hO b5 hex hTI
              rcases hupI.out with ⟨q1, q2⟩ | ⟨q1, q0, q2⟩ | ⟨q1, q0, q2⟩ | ⟨q1, q2⟩
              · go_wp2
                go_meet
                case rel => exact ⟨true, rfl, q2, rfl⟩
              · rw [q0] at eO
                have q3 : ¬ (4 : Int) < (R : Int) := by omega
                have q4 : ((R : Int) == 4) = true := by simp [q1]
                clear q1 q0
                go_wp2
                go_meet
                case rel => exact ⟨true, rfl, q2, rfl⟩
              · rw [q0] at eO
                have q3 : ¬ (4 : Int) < (R : Int) := by omega
                have q4 : ((R : Int) == 4) = true := by simp [q1]
                clear q1 q0
                go_wp2
                go_meet
                case rel => exact ⟨false, rfl, q2, rfl⟩
              · have q3 : ¬ (4 : Int) < (R : Int) := by omega
                have q4 : ((R : Int) == 4) = false := by simp; omega
                go_wp2
                go_meet
                case rel => exact ⟨false, rfl, q2, rfl⟩
            case rest =>
              obtain ⟨u, rfl, hu, rfl⟩ := hcut
              clear hupI hex eR eO hbI b2 b4
              try clear hF0
              have hu1 : (u = false ∧ (M : Int) = (Q : Int)) ∨ (u = true ∧ (M : Int) + 1 = (Q : Int)) := by
                have := hu.out
                cases u <;> simp at this <;> simp <;> omega
              clear hu
              rcases hu1 with ⟨rfl, hu1⟩ | ⟨rfl, hu1⟩
              all_goals
                obtain ⟨X, hX⟩ : ∃ X, X = double.word true P := ⟨_, rfl⟩
                replace hX := Lib.hid hX
                rcases hO.out with ⟨g1, g2, g4⟩ | ⟨g1, g2, g4⟩ | ⟨g1, g2, g3, g4⟩ | ⟨g1, g2, g3, g4⟩ | ⟨g1, g2, g3, g4⟩
                · have g3 : (2047 : Int) ≤ (F : Int) - 1074 + 1 + 1075 := by omega
                  clear g2
                  have hb := b5.out
                  rw [g4] at hb
                  have ht := or_top P (by omega)
                  rw [← hX.out, ← hb] at ht
                  rw [show ((9218868437227405312 : Nat) : Int) = 9218868437227405312 from rfl] at ht
                  have hw : ((P : Nat) : Int) = 9218868437227405312 := by omega
                  replace hw := Lib.hid hw
                  clear hO hQI eM hTI g4 hb hMI b5
                  cases neg
                  · go_wp2
                    go_ret
                    exact ⟨by rw [show double.word false P = P from rfl, hw.out]; rfl, 0, rfl⟩
                  · go_wp2
                    go_ret
                    exact ⟨by rw [← hX.out]; rfl, 0, rfl⟩
                · have g3 : ¬ (2047 : Int) ≤ (F : Int) - 1074 + 1 + 1075 := by omega
                  have hor := or_word (((F : Int) - 1074 + 1 + 1075) * 4503599627370496) (F + 2) 4503599627370496 (by omega) (by decide) (by omega)
                  rw [show (F + 2) * 4503599627370496 + 4503599627370496 % 4503599627370496 = P by have := b5.out; omega] at hor
                  rw [show ((4503599627370496 : Nat) : Int) = 4503599627370496 from rfl] at hor
                  have hb := b5.out
                  have ht := or_top P (by omega)
                  rw [← hX.out] at ht
                  clear g2 hO hQI eM hTI g4 hb hMI b5
                  cases neg
                  · go_wp2
                    go_ret
                    exact ⟨rfl, 0, rfl⟩
                  · go_wp2
                    go_ret
                    exact ⟨by rw [← hX.out]; rfl, 0, rfl⟩
                · obtain rfl : P = Q := by have := b5.out; omega
                  subst g3
                  have hb := b5.out
                  have ht := or_top P (by omega)
                  rw [← hX.out] at ht
                  clear hO hQI eM hTI g4 hb hMI b5
                  cases neg
                  · go_wp2
                    go_ret
                    exact ⟨rfl, 0, rfl⟩
                  · go_wp2
                    go_ret
                    exact ⟨by rw [← hX.out]; rfl, 0, rfl⟩
                · have g5 : ¬ (2047 : Int) ≤ (F : Int) - 1074 + 1075 := by omega
                  have hor := or_word (((F : Int) - 1074 + 1075) * 4503599627370496) (F + 1) Q (by omega) (by omega) (by omega)
                  rw [show (F + 1) * 4503599627370496 + Q % 4503599627370496 = P by
                    have := b5.out
                    have q1 : Q ≠ 9007199254740992 := by simp at g1; omega
                    omega] at hor
                  have hb := b5.out
                  have ht := or_top P (by omega)
                  rw [← hX.out] at ht
                  clear g3 hO eM hTI g4 hb b5
                  cases neg
                  · go_wp2
                    go_ret
                    exact ⟨rfl, 0, rfl⟩
                  · go_wp2
                    go_ret
                    exact ⟨by rw [← hX.out]; rfl, 0, rfl⟩
                · have g5 : (2047 : Int) ≤ (F : Int) - 1074 + 1075 := by omega
                  clear g3
                  have hb := b5.out
                  rw [g4] at hb
                  have ht := or_top P (by omega)
                  rw [← hX.out, ← hb] at ht
                  rw [show ((9218868437227405312 : Nat) : Int) = 9218868437227405312 from rfl] at ht
                  have hw : ((P : Nat) : Int) = 9218868437227405312 := by omega
                  replace hw := Lib.hid hw
                  clear hO eM hTI g4 hb b5
                  cases neg
                  · go_wp2
                    go_ret
                    exact ⟨by rw [show double.word false P = P from rfl, hw.out]; rfl, 0, rfl⟩
                  · go_wp2
                    go_ret
                    exact ⟨by rw [← hX.out]; rfl, 0, rfl⟩
end Go.Proofs.YtpiegngjpnpohaaGreat.Fb

namespace Go.Proofs.YtpiegngjpnpohaaGreat.Fb
open Go.RowKit Ieee Go.Proofs.YtpiegngjpnpohaaGreat.Wf
set_option linter.unusedVariables false
def fadd (a b : Nat) : Nat := (double.add a b).getD 0
theorem sum_num (s t : Bool) (m n : Nat) (i j : Int) : ∃ d, (Datum.number s m i).sum (.number t n j) = some d ∧ (Datum.number t n j).sum (.number s m i) = some d := by
  refine ⟨_, rfl, ?_⟩
  simp only [Datum.sum]
  rw [Int.min_comm j i, Int.add_comm (signed t n _) (signed s m _), Bool.and_comm]
theorem fin_mg {b : Nat} (hf : finF b = true) : mg b < 9218868437227405312 := by simpa [finF] using hf
theorem add_facts {a b : Nat} (ha : okF a) (hb : okF b) (fa : finF a = true) (fb : finF b = true) : double.add a b = some (fadd a b) ∧ fadd a b = fadd b a := by
  obtain ⟨m, p, e1⟩ := read_num ha (fin_mg fa)
  obtain ⟨n, q, e2⟩ := read_num hb (fin_mg fb)
  obtain ⟨d, h1, h2⟩ := sum_num (negF a) (negF b) m n p q
  have x1 : double.add a b = some (double.write d) := by unfold Format.add; rw [e1, e2, h1]; rfl
  have x2 : double.add b a = some (double.write d) := by unfold Format.add; rw [e1, e2, h2]; rfl
  have f1 : fadd a b = double.write d := by unfold fadd; rw [x1]; rfl
  have f2 : fadd b a = double.write d := by unfold fadd; rw [x2]; rfl
  exact ⟨by rw [x1, f1], by rw [f1, f2]⟩
theorem fadd_ok {a b : Nat} (ha : okF a) (hb : okF b) (fa : finF a = true) (fb : finF b = true) : okF (fadd a b) := double.add_lt (add_facts ha hb fa fb).1
theorem parts_word {b : Nat} (h : okF b) (hf : finF b = true) : ∃ k m, Parts (mg b) k m ∧ double.read b = .number (negF b) m (-1074 + (k : Int)) ∧ k ≤ 2046 := by
  obtain ⟨k, m, h1, h2⟩ := parts_of (mg b)
  have h3 := fin_mg hf
  have h4 := h2 h3 (negF b)
  rw [word_of h] at h4
  exact ⟨k, m, h1, h4, by have := h1.eq; omega⟩
theorem fadd_eq {a b k m k' m' : Nat} (ha : okF a) (hb : okF b) (fa : finF a = true) (fb : finF b = true) (hle : mg b ≤ mg a) (p : Parts (mg a) k m) (q : Parts (mg b) k' m')
    (e1 : double.read a = .number (negF a) m (-1074 + (k : Int))) (e2 : double.read b = .number (negF b) m' (-1074 + (k' : Int))) :
    fadd a b = if negF a = negF b then double.word (negF a) (sumR true k m k' m') else if mg a = mg b then 0 else double.word (negF a) (sumR false k m k' m') := by
  have e1' : double.read (double.word (negF a) (mg a)) = .number (negF a) m (-1074 + (k : Int)) := by rw [word_of ha]; exact e1
  have e2' : double.read (double.word (negF b) (mg b)) = .number (negF b) m' (-1074 + (k' : Int)) := by rw [word_of hb]; exact e2
  have h := add_words (negF a) (negF b) p q hle (fin_mg fa) e1' e2'
  rw [word_of ha, word_of hb] at h
  have : double.add a b = _ := h
  unfold fadd
  rw [this]; rfl
theorem sticky_pos {N k : Nat} (h : N ≠ 0) : sticky N k ≠ 0 := by
  have hp : 0 < 2 ^ k := Nat.two_pow_pos k
  unfold sticky
  have := Nat.div_add_mod N (2 ^ k)
  split
  · rename_i e
    intro h0
    rw [h0, e] at this; simp at this; omega
  · intro h0; omega
theorem sticky_stop {N j d : Nat} (h : sticky N j ≤ 1) (hd : j ≤ d) : sticky N d = sticky N j := by
  obtain ⟨c, rfl⟩ := Nat.le.dest hd
  clear hd
  induction c with
  | zero => rfl
  | succ c ih =>
    rw [← Nat.add_assoc, ← sticky_sticky, ih, stk1]
    rcases (show sticky N j = 0 ∨ sticky N j = 1 by omega) with e | e <;> rw [e] <;> rfl
theorem same_rung {r k m r' k' m' : Nat} (h : Parts r k m) (h' : Parts r' k' m') (hr : r' ≤ r) : sticky (8 * m') (k - k') ≤ 8 * m ∧ (8 * m = sticky (8 * m') (k - k') ↔ r = r') := by
  obtain ⟨hk, hm⟩ := parts_le h h' hr
  have hcmp := parts_cmp h h'
  rw [show min k k' = k' by omega, Nat.sub_self, Nat.pow_zero, Nat.mul_one] at hcmp
  have hs := sticky_sub m m' (k - k') hm
  have hle : sticky (8 * m') (k - k') ≤ 8 * m := by
    have hp : 0 < 2 ^ (k - k') := Nat.two_pow_pos _
    have h1 : 8 * m' ≤ 8 * m * 2 ^ (k - k') := by rw [Nat.mul_assoc]; omega
    have h2 : 8 * m' / 2 ^ (k - k') ≤ 8 * m := Nat.div_le_of_le_mul (by rw [Nat.mul_comm (2 ^ (k - k'))]; exact h1)
    unfold sticky
    split
    · exact h2
    · rename_i hne
      rcases Nat.lt_or_ge (8 * m' / 2 ^ (k - k')) (8 * m) with g | g
      · omega
      · have e : 8 * m' / 2 ^ (k - k') = 8 * m := by omega
        have := Nat.div_add_mod (8 * m') (2 ^ (k - k'))
        rw [e, Nat.mul_comm] at this
        omega
  refine ⟨hle, fun e => ?_, fun e => ?_⟩
  · by_cases hne : r = r'
    · exact hne
    · have := mt hcmp.2.1 hne
      have h0 : 8 * (m * 2 ^ (k - k') - m') ≠ 0 := by omega
      have := sticky_pos (k := k - k') h0
      omega
  · have := hcmp.2.2 e
    have h0 : 8 * (m * 2 ^ (k - k') - m') = 0 := by omega
    rw [h0, sticky_nought] at hs
    omega
set_option maxRecDepth 100000 in
theorem rparts_any (a k m : Nat) (h : okF a) (hf : finF a = true) (p : Parts (mg a) k m) (w : World) :
    Calls Tryz.prog 169 #[.int .u64 a] w fun e w' => e = .returned (.tuple #[.int .u64 m, .int .i64 ((k : Int) - 1074)]) ∧ w' = w := by
  have hlt := fin_mg hf
  have f1 : bits BinOp.and IntKind.u64 ((a : Int) / 4503599627370496) 2047 = ((mg a / 4503599627370496 : Nat) : Int) := by
    have h1 := u64_and_nat (a / 4503599627370496) 2047 (by unfold okF at h; omega) (by omega)
    rw [show (a / 4503599627370496) &&& 2047 = a / 4503599627370496 % 2048 from Nat.and_two_pow_sub_one_eq_mod _ 11] at h1
    rw [show ((a : Int) / 4503599627370496) = ((a / 4503599627370496 : Nat) : Int) by omega]
    rw [show ((2047 : Nat) : Int) = 2047 from rfl] at h1
    rw [h1]
    unfold mg okF at *; omega
  have f2 : bits BinOp.and IntKind.u64 (a : Int) 4503599627370495 = ((mg a % 4503599627370496 : Nat) : Int) := by
    have h1 := u64_and_nat a 4503599627370495 h (by omega)
    rw [show a &&& 4503599627370495 = a % 4503599627370496 from Nat.and_two_pow_sub_one_eq_mod a 52] at h1
    rw [show ((4503599627370495 : Nat) : Int) = 4503599627370495 from rfl] at h1
    rw [h1]
    unfold mg; omega
  have f3 : bits BinOp.or IntKind.u64 ((mg a % 4503599627370496 : Nat) : Int) 4503599627370496 = ((mg a % 4503599627370496 + 4503599627370496 : Nat) : Int) := by
    have hm : mg a % 4503599627370496 < 4503599627370496 := Nat.mod_lt _ (by decide)
    have h1 := u64_or_nat (mg a % 4503599627370496) 4503599627370496 (by omega) (by omega)
    rw [Nat.or_comm, show (4503599627370496 : Nat) = 1 * 4503599627370496 from rfl, or_parts 1 _ (by decide) hm] at h1
    rw [show ((1 * 4503599627370496 : Nat) : Int) = 4503599627370496 from rfl] at h1
    rw [h1]; omega
  obtain ⟨q1, q2, q3⟩ := p
  obtain ⟨e, he⟩ : ∃ e, e = mg a / 4503599627370496 := ⟨_, rfl⟩
  obtain ⟨x, hx⟩ : ∃ x, x = mg a % 4503599627370496 := ⟨_, rfl⟩
  rw [← he] at f1
  rw [← hx] at f2 f3
  by_cases h0 : e = 0
  · have hk : k = 0 := by omega
    have hm : (x : Int) = (m : Int) := by omega
    subst h0
    clear q1 q2 q3 he hx hlt h hf f3
    subst hk
    go_enter Tryz.func169, Tryz.ntmps169
    go_wp2
    go_ret2
    exact ⟨rfl, rfl⟩
  · have hk : (e : Int) - 1075 = (k : Int) - 1074 := by omega
    have hm : ((x + 4503599627370496 : Nat) : Int) = (m : Int) := by omega
    have h0' : ((e : Int) == 0) = false := by simp; omega
    have heI : (e : Int) ≤ 2047 := by omega
    clear q1 q2 q3 he hx hlt h hf h0
    rw [hm] at f3
    clear hm
    go_enter Tryz.func169, Tryz.ntmps169
    go_wp2
    go_ret2
    exact ⟨rfl, rfl⟩
theorem rIsNaN_any (x : Nat) (h : okF x) (hf : finF x = true) (w : World) :
    Calls Tryz.prog 167 #[.int .u64 x] w fun e w' => e = .returned (.bool false) ∧ w' = w := by
  have f1 := mg_bits x h
  have hl := fin_mg hf
  have f2 : ¬ (9218868437227405312 : Int) < ((mg x : Nat) : Int) := by omega
  generalize mg x = y at *
  clear h hf hl
  go_enter Tryz.func167, Tryz.ntmps167
  go_wp2
  go_ret
  exact ⟨rfl, rfl⟩
theorem parts_small {r k m : Nat} (h : Parts r k m) : 8 * m < 72057594037927936 := by have := h.lt; omega
set_option maxRecDepth 100000 in
set_option maxHeartbeats 2000000 in
theorem radd_walk (a b A B : Nat) (ho : (a = A ∧ b = B ∧ mg B ≤ mg A) ∨ (a = B ∧ b = A ∧ mg B < mg A)) (hA : okF A) (hB : okF B) (fA : finF A = true) (fB : finF B = true) (w : World) :
    Calls Tryz.prog 115 #[.int .u64 a, .int .u64 b] w fun e w' => e = .returned (.int .u64 (fadd A B)) ∧ ∃ n, w' = w.drewN n := by
  have hle : mg B ≤ mg A := by omega
  obtain ⟨k, m, p, e1, hk⟩ := parts_word hA fA
  obtain ⟨k', m', q, e2, hk'⟩ := parts_word hB fB
  have hsum := fadd_eq hA hB fA fB hle p q e1 e2
  obtain ⟨hkk, _⟩ := parts_le p q hle
  obtain ⟨hs1, hs2⟩ := same_rung p q hle
  have nA := rIsNaN_any A hA fA
  have nB := rIsNaN_any B hB fB
  have pA := rparts_any A k m hA fA p
  have pB := rparts_any B k' m' hB fB q
  have b1 := mg_bits A hA
  have b2 := mg_bits B hB
  have s1 := sign_bits A hA
  have s2 := sign_bits B hB
  have hinf : (((mg A : Nat) : Int) == 9218868437227405312) = false := by have := fin_mg fA; simp; omega
  have hm := parts_small p
  have hm' := parts_small q
  have hmI : IntKind.u64.wrap ((m : Int) * 8) = ((8 * m : Nat) : Int) := by rw [IntKind.wrap_u64]; omega
  have hmI' : IntKind.u64.wrap ((m' : Int) * 8) = ((8 * m' : Nat) : Int) := by rw [IntKind.wrap_u64]; omega
  have hbd := (add_bounds p q hle).1
  have hk0 : 8 * m = 0 → k = 0 := fun e => by have := p.ge; omega
  obtain ⟨r, hr⟩ : ∃ r, r = fadd A B := ⟨_, rfl⟩
  rw [← hr] at hsum ⊢
  have hor : (a = A ∧ b = B ∧ ¬ mg A < mg B) ∨ (a = B ∧ b = A ∧ mg B < mg A) := by omega
  generalize mg A = x at *
  generalize mg B = y at *
  obtain ⟨M, hMd⟩ : ∃ M, M = 8 * m := ⟨_, rfl⟩
  obtain ⟨M', hMd'⟩ : ∃ M', M' = 8 * m' := ⟨_, rfl⟩
  obtain ⟨d, hd⟩ : ∃ d, d = k - k' := ⟨_, rfl⟩
  unfold sumR at hsum
  rw [← hMd, ← hMd', ← hd] at hsum hbd hs2
  rw [← hMd, ← hMd', ← hd] at hs1
  rw [← hMd] at hmI hm hk0
  rw [← hMd'] at hmI' hm'
  have hkd : (k : Int) = (k' : Int) + (d : Int) := by omega
  clear hMd hMd' p q e1 e2 ho hle hr fA fB hd
  replace hsum := Lib.hid hsum
  replace hbd := Lib.hid hbd
  replace hs1 := Lib.hid hs1
  replace hs2 := Lib.hid hs2
  replace hk0 := Lib.hid hk0
  replace hA := Lib.hid hA
  replace hB := Lib.hid hB
  have hkI : (k : Int) ≤ 2046 := by omega
  have hkI' : (k' : Int) ≤ 2046 := by omega
  have hMI : (M : Int) < 72057594037927936 := by omega
  have hMI' : (M' : Int) < 72057594037927936 := by omega
  clear hk hk' hm hm'
  rcases hor with ⟨rfl, rfl, hlt⟩ | ⟨rfl, rfl, hlt⟩
  all_goals
    go_enter Tryz.func115, Tryz.ntmps115
    replace s1 := Lib.hid s1
    replace hkd := Lib.hid hkd
    replace hmI := Lib.hid hmI
    replace hmI' := Lib.hid hmI'
    replace s2 := Lib.hid s2
    replace hMI := Lib.hid hMI
    replace hMI' := Lib.hid hMI'
    replace hkI := Lib.hid hkI
    replace hkI' := Lib.hid hkI'
    go_upto_region 7 with (first
      | (go_at_call 167; with_reducible refine (nA _).mono ?_; rintro e w' ⟨rfl, rfl⟩)
      | (go_at_call 167; with_reducible refine (nB _).mono ?_; rintro e w' ⟨rfl, rfl⟩))
    clear hlt
    go_upto_region 11 with fail
    go_upto_region 13 with (first
      | (go_at_call 169; with_reducible refine (pA _).mono ?_; rintro e w' ⟨rfl, rfl⟩)
      | (go_at_call 169; with_reducible refine (pB _).mono ?_; rintro e w' ⟨rfl, rfl⟩))
    replace hMI := hMI.out
    replace hMI' := hMI'.out
    replace hmI := hmI.out
    replace hmI' := hmI'.out
    replace hkI := hkI.out
    replace hkI' := hkI'.out
    clear pA pB nA nB b1 b2 hkk hinf
    go_upto_region 15 with fail
    clear hmI hmI'
    have pk1 := fun (neg : Bool) (N : Nat) (h1 : N < 144115188075855872) (h2 : N = 0 → k = 0) (W : World) => packed_any neg N k h1 (by omega) h2 W
    replace pk1 := Lib.hid pk1
    go_wp2
    go_loop [9, 11] (fun n i => ∃ j : Nat, n = .int .u64 (sticky M' j : Nat) ∧ i = .int .i64 ((k' : Int) - 1074 + (j : Int)) ∧ j ≤ d) (fun _ i => (1074 + d + k' - (intOf i + 2000).toNat : Nat) + 1000)
    case atStart => exact ⟨0, by rw [sticky_zero], by congr 1; omega, Nat.zero_le _⟩
    case round =>
      obtain ⟨j, rfl, rfl, hj⟩ := hrel
      have hkd' := hkd.out
      have hstl : sticky M' j < 72057594037927936 := by
        rcases Nat.eq_zero_or_pos j with e | e
        · rw [e, sticky_zero]; omega
        · have h1 := sticky_le M' j
          have h2 : M' / 2 ^ j ≤ M' / 2 := Nat.div_le_div_left (by
            have : 2 ^ 1 ≤ 2 ^ j := Nat.pow_le_pow_right (by decide) e
            omega) (by decide)
          omega
      have hst := sticky_sticky M' j
      have hsb := shift_bits (sticky M' j) (by omega)
      have hstop := fun h => sticky_stop (N := M') (j := j) (d := d) h hj
      by_cases hgo : j < d ∧ 1 < sticky M' j
      · obtain ⟨hlt, h1⟩ := hgo
        have g1 : (k' : Int) - 1074 + (j : Int) < (k : Int) - 1074 := by omega
        have g2 : (1 : Int) < ((sticky M' j : Nat) : Int) := by omega
        have hsb' : bits BinOp.or IntKind.u64 (((sticky M' j : Nat) : Int) / 2) (bits BinOp.and IntKind.u64 ((sticky M' j : Nat) : Int) 1) = ((sticky M' (j + 1) : Nat) : Int) := by rw [← hst]; simpa using hsb
        have hjI : (j : Int) ≤ 2046 := by omega
        have hsI : ((sticky M' j : Nat) : Int) < 72057594037927936 := by omega
        replace hstop := Lib.hid hstop
        replace hstl := Lib.hid hstl
        clear hst hsb hkd'
        obtain ⟨T', hT'⟩ : ∃ T', T' = sticky M' (j + 1) := ⟨_, rfl⟩
        rw [← hT'] at hsb'
        generalize sticky M' j = T at *
        replace hT' := Lib.hid hT'
        go_wp2
        refine ⟨⟨j + 1, by rw [hT'.out], by congr 1; omega, hlt⟩, ?_⟩
        simp only [intOf]
        omega
      · have hT : sticky M' d = sticky M' j := by
          by_cases hlt : j < d
          · exact hstop (by omega)
          · rw [show d = j by omega]
        have hex : ((k' : Int) - 1074 + (j : Int) < (k : Int) - 1074 ∧ ¬ (1 : Int) < ((sticky M' j : Nat) : Int)) ∨ ¬ ((k' : Int) - 1074 + (j : Int) < (k : Int) - 1074) := by omega
        rw [hT] at hsum hbd hs1 hs2
        clear hst hsb hkd' hstop hgo hT
        generalize sticky M' j = T at *
        obtain ⟨N, hN⟩ : ∃ N, N = M + T := ⟨_, rfl⟩
        obtain ⟨D, hD⟩ : ∃ D, D = M - T := ⟨_, rfl⟩
        have hNI : (M : Int) + (T : Int) = (N : Int) := by omega
        have hDI : (M : Int) - (T : Int) = (D : Int) := by have := hs1.out; omega
        have hND : N < 144115188075855872 ∧ (N = 0 → k = 0) ∧ D < 144115188075855872 := by
          have h1 := hbd.out
          have h2 := hk0.out
          refine ⟨by omega, fun e => h2 (by omega), by omega⟩
        have hD0 : D = 0 ↔ x = y := by have h1 := hs1.out; have h2 := hs2.out; omega
        rw [← hN, ← hD] at hsum
        have hTI : (T : Int) < 72057594037927936 := by omega
        have p1 := fun neg W => pk1.out neg N hND.1 hND.2.1 W
        have p2 := fun neg h W => pk1.out neg D hND.2.2 h W
        replace p2 := Lib.hid p2
        have hsum := hsum.out
        have q1 := s1.out
        have q2 := s2.out
        simp only [if_true, Bool.false_eq_true, if_false] at hsum
        clear hND hN hD hbd hk0 hs1 hs2 pk1 hA hB s1 s2 hstl
        rcases hex with ⟨g1, g2⟩ | g1
        all_goals
          go_upto_region 19 with fail
          clear hMI' hkI hkI' hkd
          generalize negF a = s at *
          generalize negF b = t at *
          by_cases hst : s = t
          · subst hst
            rw [if_pos rfl] at hsum
            subst hsum
            clear p2 hDI hD0
            cases s
            all_goals
              simp only [if_true, Bool.false_eq_true, if_false] at q1 q2
              go_wp2_with (go_at_call 170; refine (p1 _ _).mono ?_; rintro e w' ⟨rfl, nn, rfl⟩)
              go_ret
              exact ⟨rfl, _, rfl⟩
          · rw [if_neg (by first | exact hst | exact fun e => hst e.symm)] at hsum
            by_cases hxy : x = y
            · rw [if_pos hxy] at hsum
              subst hsum
              have hMT : ((M : Int) == (T : Int)) = true := by simp; have := hD0.2 hxy; omega
              clear p1 p2 hNI hDI hD0 hxy
              cases s <;> cases t
              all_goals first
                | exact absurd rfl hst
                | (clear hst
                   simp only [if_true, Bool.false_eq_true, if_false] at q1 q2
                   go_wp2
                   go_ret
                   first | exact ⟨rfl, 0, rfl⟩ | exact ⟨rfl, _, rfl⟩)
            · rw [if_neg hxy] at hsum
              subst hsum
              have hMT : ((M : Int) == (T : Int)) = false := by simp; intro h; exact hxy (hD0.1 (by omega))
              have p3 := fun neg W => p2.out neg (fun e => absurd (hD0.1 e) hxy) W
              clear p1 p2 hNI hD0 hxy
              cases s <;> cases t
              all_goals first
                | exact absurd rfl hst
                | (clear hst
                   simp only [if_true, Bool.false_eq_true, if_false] at q1 q2
                   go_wp2_with (go_at_call 170; refine (p3 _ _).mono ?_; rintro e w' ⟨rfl, nn, rfl⟩)
                   go_ret
                   exact ⟨rfl, _, rfl⟩)
theorem radd_any (a b : Nat) (ha : okF a) (hb : okF b) (fa : finF a = true) (fb : finF b = true) (w : World) :
    Calls Tryz.prog 115 #[.int .u64 a, .int .u64 b] w fun e w' => e = .returned (.int .u64 (fadd a b)) ∧ ∃ n, w' = w.drewN n := by
  by_cases h : mg b ≤ mg a
  · exact radd_walk a b a b (.inl ⟨rfl, rfl, h⟩) ha hb fa fb w
  · rw [(add_facts ha hb fa fb).2]
    exact radd_walk a b b a (.inr ⟨rfl, rfl, by omega⟩) hb ha fb fa w
end Go.Proofs.YtpiegngjpnpohaaGreat.Fb

namespace Go.Proofs.YtpiegngjpnpohaaGreat.La
open Go.RowKit
set_option linter.unusedVariables false
def isL (c : Int) : Bool := decide (97 ≤ c ∧ c ≤ 122 ∨ 65 ≤ c ∧ c ≤ 90 ∨ 48 ≤ c ∧ c ≤ 57 ∨ c = 95)
def isLB (b : UInt8) : Bool := isL (b.toNat : Int)
theorem ret_bool {a b : Bool} (h : a = b) : Ending.returned (.bool a) = .returned (.bool b) := by rw [h]
theorem letter_any (c : Int) (w : World) :
    Calls Tryz.prog 139 #[.int .u8 c] w fun e w' => e = .returned (.bool (isL c)) ∧ w' = w := by
  go_enter Tryz.func139, Tryz.ntmps139
  go_wp2
  all_goals
    go_ret
    refine ⟨ret_bool ?_, rfl⟩
    unfold isL
    first | (symm; refine decide_eq_true ?_; omega) | (symm; refine decide_eq_false ?_; omega) | (rw [Bool.eq_iff_iff]; simp only [Bool.or_eq_true, decide_eq_true_eq, beq_iff_eq]; omega)
theorem rletter_any (c : Int) (w : World) :
    Calls Tryz.prog 206 #[.int .u8 c] w fun e w' => e = .returned (.bool (isL c)) ∧ w' = w := by
  go_enter Tryz.func206, Tryz.ntmps206
  go_wp2
  all_goals
    go_ret
    refine ⟨ret_bool ?_, rfl⟩
    unfold isL
    first | (symm; refine decide_eq_true ?_; omega) | (symm; refine decide_eq_false ?_; omega) | (rw [Bool.eq_iff_iff]; simp only [Bool.or_eq_true, decide_eq_true_eq, beq_iff_eq]; omega)
end Go.Proofs.YtpiegngjpnpohaaGreat.La

namespace Go.Proofs.YtpiegngjpnpohaaGreat.La
open Go.RowKit
set_option linter.unusedVariables false
def isR (colon : Bool) (b : UInt8) : Bool := isLB b || (colon && b == 58)
def rowL (colon : Bool) (l : List UInt8) : List UInt8 := l.takeWhile (isR colon)
theorem rowL_len (colon : Bool) (l : List UInt8) : (rowL colon l).length ≤ l.length := (List.takeWhile_sublist _).length_le
theorem rowL_step (colon : Bool) (l : List UInt8) {k : Nat} (h : k ≤ (rowL colon l).length) :
    (k < (rowL colon l).length ↔ ∃ b, l[k]? = some b ∧ isR colon b = true) := by
  induction l generalizing k with
  | nil => simp [rowL]
  | cons a r ih =>
    by_cases ha : isR colon a = true
    · have e : rowL colon (a :: r) = a :: rowL colon r := by simp [rowL, ha]
      rw [e] at h ⊢
      cases k with
      | zero => simp [ha]
      | succ k => simp only [List.length_cons, List.getElem?_cons_succ] at h ⊢; rw [← ih (k := k) (by omega)]; omega
    · have e : rowL colon (a :: r) = [] := by simp [rowL, ha]
      rw [e] at h ⊢
      obtain rfl : k = 0 := by simpa using h
      simp [ha]
theorem get_data (s : ByteArray) {j : Nat} (h : j < s.size) : s.data.toList[j]? = some s[j] := by
  rw [List.getElem?_eq_getElem (by simpa using h), Array.getElem_toList]; rfl
theorem len_data (s : ByteArray) : s.data.toList.length = s.size := Array.length_toList
theorem is58 (b : UInt8) : ((b.toNat : Int) == 58) = (b == 58) := by
  rw [Bool.eq_iff_iff, beq_iff_eq, beq_iff_eq]
  constructor
  · intro h; exact UInt8.toNat_inj.1 (by have : (58 : UInt8).toNat = 58 := rfl; omega)
  · rintro rfl; rfl
set_option maxHeartbeats 1000000 in
theorem row_any (s : ByteArray) (at_ : Nat) (colon : Bool) (hs : s.size ≤ 9223372036854775807) (hat : at_ ≤ s.size) (w : World) :
    Calls Tryz.prog 191 #[.string s, .int .i64 at_, .bool colon] w fun e w' => e = .returned (.int .i64 ((rowL colon (s.data.toList.drop at_)).length : Nat)) ∧ w' = w := by
  obtain ⟨R, hR⟩ : ∃ R, R = (rowL colon (s.data.toList.drop at_)).length := ⟨_, rfl⟩
  have hRl : at_ + R ≤ s.size := by
    have := rowL_len colon (s.data.toList.drop at_)
    rw [List.length_drop, len_data] at this; omega
  have hst : ∀ k, k ≤ R → (k < R ↔ ∃ b, s.data.toList[at_ + k]? = some b ∧ isR colon b = true) := by
    intro k hk
    have := rowL_step colon (s.data.toList.drop at_) (k := k) (by omega)
    rw [← hR, List.getElem?_drop] at this; exact this
  rw [← hR]
  clear hR
  replace hst := Lib.hid hst
  go_enter Tryz.func191, Tryz.ntmps191
  go_wp2
  go_loopw [7] (fun n wr => ∃ k : Nat, k ≤ R ∧ n = .int .i64 k ∧ w = wr) (fun n _ => R - (RowKit.intOf n).toNat)
  case atStart => exact ⟨0, Nat.zero_le _, rfl, rfl⟩
  case round =>
    obtain ⟨k, hk, rfl, rfl⟩ := hrel
    obtain ⟨i, hi⟩ : ∃ i, i = at_ + k := ⟨_, rfl⟩
    have hik : (at_ : Int) + (k : Int) = (i : Int) := by omega
    have hs' := hst.out k hk
    rw [← hi] at hs'
    by_cases hlt : i < s.size
    · rw [get_data s hlt] at hs'
      have hs2 : k < R ↔ isR colon s[i] = true := by simpa using hs'
      have cl := rletter_any (s[i].toNat : Int)
      have e58 := is58 s[i]
      have hcase : (isL (s[i].toNat : Int) = true ∧ k < R) ∨ (isL (s[i].toNat : Int) = false ∧ colon = true ∧ (s[i] == 58) = true ∧ k < R) ∨ (isL (s[i].toNat : Int) = false ∧ colon = true ∧ (s[i] == 58) = false ∧ k = R) ∨ (isL (s[i].toNat : Int) = false ∧ colon = false ∧ k = R) := by
        unfold isR isLB at hs2
        revert hs2
        cases isL (s[i].toNat : Int) <;> cases colon <;> cases (s[i] == 58) <;> simp <;> omega
      clear hs' hs2
      rcases hcase with ⟨h1, h2⟩ | ⟨h1, rfl, h3, h2⟩ | ⟨h1, rfl, h3, h2⟩ | ⟨h1, rfl, h2⟩
      · rw [h1] at cl
        replace hi := Lib.hid hi
        clear e58
        go_wp2_with fail
        refine (cl _).mono ?_
        rintro e w' ⟨rfl, rfl⟩
        go_wp2
        exact ⟨⟨k + 1, by omega, by go_num, trivial⟩, by simp [RowKit.intOf]; omega⟩
      · rw [h1] at cl
        rw [h3] at e58
        replace hi := Lib.hid hi
        go_wp2_with fail
        refine (cl _).mono ?_
        rintro e w' ⟨rfl, rfl⟩
        go_wp2
        exact ⟨⟨k + 1, by omega, by go_num, trivial⟩, by simp [RowKit.intOf]; omega⟩
      · rw [h1] at cl
        rw [h3] at e58
        replace hi := Lib.hid hi
        subst h2
        go_wp2_with fail
        refine (cl _).mono ?_
        rintro e w' ⟨rfl, rfl⟩
        go_wp2
        go_ret
        exact ⟨rfl, rfl⟩
      · rw [h1] at cl
        replace hi := Lib.hid hi
        subst h2
        clear e58
        go_wp2_with fail
        refine (cl _).mono ?_
        rintro e w' ⟨rfl, rfl⟩
        go_wp2
        go_ret
        exact ⟨rfl, rfl⟩
    · obtain rfl : k = R := by omega
      replace hi := Lib.hid hi
      clear hs'
      go_wp2
      go_ret
      exact ⟨rfl, rfl⟩
end Go.Proofs.YtpiegngjpnpohaaGreat.La

namespace Go.Proofs.YtpiegngjpnpohaaGreat.La
open Go.RowKit
set_option linter.unusedVariables false
def digB (b : UInt8) : Bool := decide (48 ≤ (b.toNat : Int) ∧ (b.toNat : Int) ≤ 57)
def firstL : List UInt8 → Bool
  | [] => false
  | b :: r => decide (r.length + 1 ≤ 64) && !digB b
def nmL (colon : Bool) (l : List UInt8) : Bool := firstL l && l.all (isR colon)
def sBucket : List UInt8 := [95, 98, 117, 99, 107, 101, 116]
def sSum : List UInt8 := [95, 115, 117, 109]
def sCount : List UInt8 := [95, 99, 111, 117, 110, 116]
def sLe : List UInt8 := [108, 101]
def sQuantile : List UInt8 := [113, 117, 97, 110, 116, 105, 108, 101]
def sUnder : List UInt8 := [95, 95]
def nameL (l : List UInt8) : Bool := nmL true l && (!Lib.hasSuffix l sBucket && (!Lib.hasSuffix l sSum && !Lib.hasSuffix l sCount))
def lnameL (l : List UInt8) : Bool := nmL false l && (!(l == sLe) && (!(l == sQuantile) && !Lib.hasPrefix l sUnder))
theorem row_all (colon : Bool) (l : List UInt8) : ((rowL colon l).length = l.length) ↔ l.all (isR colon) = true := by
  induction l with
  | nil => simp [rowL]
  | cons a r ih =>
    by_cases ha : isR colon a = true
    · have e : rowL colon (a :: r) = a :: rowL colon r := by simp [rowL, ha]
      rw [e]; simp [ha]; simpa using ih
    · have e : rowL colon (a :: r) = [] := by simp [rowL, ha]
      rw [e]; simp [ha]
theorem first_data (s : ByteArray) (h : 0 < s.size) : firstL s.data.toList = (decide (s.size ≤ 64) && !digB s[0]) := by
  have h1 := len_data s
  have h2 := get_data s h
  cases hl : s.data.toList with
  | nil => rw [hl] at h1; simp at h1; omega
  | cons b r =>
    rw [hl] at h1 h2
    simp at h1 h2
    rw [firstL, h1, h2]
theorem first_nil (s : ByteArray) (h : s.size = 0) : firstL s.data.toList = false := by
  have h1 := len_data s
  have : s.data.toList = [] := List.eq_nil_of_length_eq_zero (by omega)
  rw [this]; rfl
theorem plain_any (s : ByteArray) (colon : Bool) (hs : s.size ≤ 9223372036854775807) (w : World) :
    Calls Tryz.prog 152 #[.string s, .bool colon] w fun e w' => e = .returned (.bool (nmL colon s.data.toList)) ∧ w' = w := by
  by_cases h0 : s.size = 0
  · have e : nmL colon s.data.toList = false := by rw [nmL, first_nil s h0]; rfl
    replace e := Lib.hid e
    go_enter Tryz.func152, Tryz.ntmps152
    go_wp2
    go_ret
    exact ⟨ret_bool e.out.symm, rfl⟩
  · have hp : 0 < s.size := by omega
    have hf := first_data s hp
    by_cases h1 : 64 < s.size
    · have e : nmL colon s.data.toList = false := by rw [nmL, hf, decide_eq_false (by omega)]; rfl
      have t1 : ¬ (s.size : Int) ≤ 64 := by omega
      replace e := Lib.hid e
      clear hf h0
      go_enter Tryz.func152, Tryz.ntmps152
      go_wp2
      go_ret
      exact ⟨ret_bool e.out.symm, rfl⟩
    · have t0 : (1 : Int) ≤ (s.size : Int) := by omega
      have t1 : (s.size : Int) ≤ 64 := by omega
      have c := row_any s 0 colon hs (Nat.zero_le _)
      rw [List.drop_zero] at c
      have hra := row_all colon s.data.toList
      rw [len_data] at hra
      rw [decide_eq_true (show s.size ≤ 64 by omega), Bool.true_and] at hf
      obtain ⟨R, hR⟩ : ∃ R, R = (rowL colon s.data.toList).length := ⟨_, rfl⟩
      rw [← hR] at c hra
      have e0 : ((0 : Nat) : Int) = 0 := rfl
      rw [e0] at c
      by_cases hq : R = s.size
      · have e : nmL colon s.data.toList = !digB s[0] := by rw [nmL, hf, hra.1 hq, Bool.and_true]
        have e2 : ((R : Int) == (s.size : Int)) = true := beq_iff_eq.2 (by omega)
        replace e := Lib.hid e
        clear hf h0 hra hR hq h1
        go_enter Tryz.func152, Tryz.ntmps152
        go_wp2_with fail
        refine (c _).mono ?_
        rintro e w' ⟨rfl, rfl⟩
        go_wp2
        all_goals
          go_ret
          refine ⟨ret_bool ?_, rfl⟩
          rw [e.out]
          unfold digB
          first | rfl | (rw [Bool.eq_iff_iff]; simp; omega)
      · have e : nmL colon s.data.toList = false := by
          rw [nmL]
          have : s.data.toList.all (isR colon) = false := by
            cases hh : s.data.toList.all (isR colon) with
            | false => rfl
            | true => exact absurd (hra.2 hh) hq
          rw [this, Bool.and_false]
        have e2 : ((R : Int) == (s.size : Int)) = false := beq_eq_false_iff_ne.2 (by omega)
        replace e := Lib.hid e
        clear hf h0 hra hR hq h1
        go_enter Tryz.func152, Tryz.ntmps152
        go_wp2_with fail
        refine (c _).mono ?_
        rintro e w' ⟨rfl, rfl⟩
        go_wp2
        go_ret
        exact ⟨ret_bool e.out.symm, rfl⟩
end Go.Proofs.YtpiegngjpnpohaaGreat.La
