/- Lemmas for the laws of this seat, laid together of Div, WdP, WdR. -/
import Derived.Test.YtpiegngjpnpohaaGreatK00
import Derived.Test.YtpiegngjpnpohaaGreatK08
import Derived.Test.YtpiegngjpnpohaaGreatChecked
import Derived.WalkKit
import Derived.BigQuiet
import Derived.Deep.QuietTactic
import Derived.RegionTactic
import Derived.ChangeAlike
import Derived.Outline
import Derived.Lib.Hide
import Derived.LoopTactic
import Derived.IntWalk
import Derived.Lib.ItoaNum
import Derived.Deep.DeepCutAuto
import Derived.Deep.CutBlock

namespace Go.Proofs.YtpiegngjpnpohaaGreat.Div
open Go.RowKit Go.Proofs.YtpiegngjpnpohaaGreat.DivM
set_option linter.unusedVariables false
theorem lz_any (y s : Nat) (hs : Lib.bitLen y + s = 64) (hy : y ≤ 18446744073709551615) (w : World) :
    Calls Tryz.prog 180 #[.int .u64 y] w fun e w' => e = .returned (.int .i64 (s : Int)) ∧ w = w' :=
  (Tryz.bits_LeadingZeros64 (y : Int) w (by omega) (by omega)).mono fun e w' ⟨he, hw⟩ => by
    refine ⟨?_, hw.symm⟩
    rw [he]; congr 2; rw [Int.toNat_natCast]; omega
theorem div64_zero (lo y : Nat) (h0 : 0 < y) (hy : y ≤ 18446744073709551615) (hlo : lo ≤ 18446744073709551615) (w : World) :
    Calls Tryz.prog 199 #[.int .u64 0, .int .u64 lo, .int .u64 y] w fun e w' => e = .returned (.tuple #[.int .u64 ((lo / y : Nat) : Int), .int .u64 ((lo % y : Nat) : Int)]) ∧ ∃ n, w' = w.drewN n := by
  have h1 : (1 : Int) ≤ (y : Int) := by omega
  have h2 : ((y : Int) == 0) = false := beq_eq_false_iff_ne.2 (by omega)
  have h3 : ¬ y = 0 := by omega
  go_enter Tryz.func199, Tryz.ntmps199
  go_wp2
  go_quiet (fail)
  go_wp2
  go_ret2
  refine ⟨?_, _, rfl⟩
  have e : IntKind.u64.wrap ((lo : Int) / y) = (lo : Int) / y := by
    have := Nat.div_le_self lo y
    have e : (lo : Int) / y = ((lo / y : Nat) : Int) := by simp
    rw [e]; generalize lo / y = q at *
    exact IntWalk.u64_in _ (by omega)
  simp [e]
structure Nums (hi lo y s Y y1 y0 U z u1 u0 : Nat) : Prop where
  n1 : Y = y * 2 ^ s
  n2 : Y = y1 * 4294967296 + y0
  n3 : y0 < 4294967296
  n4 : 4294967296 ≤ 2 * y1
  n5 : y1 < 4294967296
  n6 : z = u1 * 4294967296 + u0
  n7 : u1 < 4294967296
  n8 : u0 < 4294967296
  n9 : (hi * 18446744073709551616 + lo) * 2 ^ s = (U * 4294967296 + u1) * 4294967296 + u0
  n10 : U < Y
theorem nums_of {hi lo y s : Nat} (h0 : 0 < hi) (hh : hi < y) (hy : y ≤ 18446744073709551615) (hlo : lo ≤ 18446744073709551615) (hs : Lib.bitLen y + s = 64) (hs63 : s ≤ 63) :
    ∃ Y y1 y0 U z u1 u0 : Nat, Nums hi lo y s Y y1 y0 U z u1 u0 ∧ IntKind.u64.wrap ((y : Int) * 2 ^ s) = (Y : Int) ∧ (Y : Int) / 4294967296 = (y1 : Int) ∧ bits BinOp.and IntKind.u64 (Y : Int) 4294967295 = (y0 : Int) ∧
      bits BinOp.or IntKind.u64 (IntKind.u64.wrap ((hi : Int) * 2 ^ s)) ((lo : Int) / 2 ^ (64 - s)) = (U : Int) ∧ IntKind.u64.wrap ((lo : Int) * 2 ^ s) = (z : Int) ∧ (z : Int) / 4294967296 = (u1 : Int) ∧ bits BinOp.and IntKind.u64 (z : Int) 4294967295 = (u0 : Int) := by
  have hP : 0 < 2 ^ s := Nat.pow_pos (by decide)
  have hl := (Lib.bitLenAux_bounds 64 y (by omega) (by omega))
  have e0 : Lib.bitLenAux 64 y = Lib.bitLen y := rfl
  rw [e0] at hl
  obtain ⟨l1, l2, l3⟩ := hl
  have hY1 : 9223372036854775808 ≤ y * 2 ^ s := by
    have : 2 ^ (Lib.bitLen y - 1) * 2 ^ s ≤ y * 2 ^ s := Nat.mul_le_mul_right _ l2
    rw [← Nat.pow_add, show Lib.bitLen y - 1 + s = 63 by omega] at this; exact this
  have hY2 : y * 2 ^ s < 18446744073709551616 := by
    have : y * 2 ^ s < 2 ^ Lib.bitLen y * 2 ^ s := Nat.mul_lt_mul_of_pos_right l3 hP
    rw [← Nat.pow_add, show Lib.bitLen y + s = 64 by omega] at this; exact this
  have hH : hi * 2 ^ s + 2 ^ s ≤ y * 2 ^ s := by
    have : (hi + 1) * 2 ^ s ≤ y * 2 ^ s := Nat.mul_le_mul_right _ hh
    rw [Nat.add_mul, Nat.one_mul] at this; exact this
  have hT : 2 ^ s * 2 ^ (64 - s) = 18446744073709551616 := by rw [← Nat.pow_add, show s + (64 - s) = 64 by omega]
  have hT0 : 0 < 2 ^ (64 - s) := Nat.pow_pos (by decide)
  have hL : lo / 2 ^ (64 - s) < 2 ^ s := by rw [Nat.div_lt_iff_lt_mul hT0, hT]; omega
  have hLo : lo * 2 ^ s = lo / 2 ^ (64 - s) * 18446744073709551616 + lo * 2 ^ s % 18446744073709551616 := by
    have : lo * 2 ^ s / 18446744073709551616 = lo / 2 ^ (64 - s) := by
      rw [← hT, Nat.mul_comm lo, Nat.mul_div_mul_left _ _ hP]
    rw [← this]; exact (Nat.div_add_mod' _ _).symm
  have hz : lo * 2 ^ s % 18446744073709551616 < 18446744073709551616 := Nat.mod_lt _ (by decide)
  have hV : (hi * 18446744073709551616 + lo) * 2 ^ s = hi * 2 ^ s * 18446744073709551616 + lo * 2 ^ s := by
    rw [Nat.add_mul, Nat.mul_right_comm]
  have hor : hi * 2 ^ s ||| lo / 2 ^ (64 - s) = hi * 2 ^ s + lo / 2 ^ (64 - s) := by
    rw [Nat.mul_comm hi]; exact (Nat.two_pow_add_eq_or_of_lt hL hi).symm
  have c1 : (y : Int) * 2 ^ s = ((y * 2 ^ s : Nat) : Int) := by rw [Int.natCast_mul]; simp
  have c2 : (hi : Int) * 2 ^ s = ((hi * 2 ^ s : Nat) : Int) := by rw [Int.natCast_mul]; simp
  have c3 : (lo : Int) * 2 ^ s = ((lo * 2 ^ s : Nat) : Int) := by rw [Int.natCast_mul]; simp
  have c4 : (lo : Int) / 2 ^ (64 - s) = ((lo / 2 ^ (64 - s) : Nat) : Int) := by simp
  rw [c1, c2, c3, c4]
  clear c1 c2 c3 c4 hT hT0 e0 l1 l2 l3 hs
  obtain ⟨a, ha⟩ : ∃ a, a = y * 2 ^ s := ⟨_, rfl⟩
  obtain ⟨b, hb⟩ : ∃ b, b = hi * 2 ^ s := ⟨_, rfl⟩
  obtain ⟨c, hc⟩ : ∃ c, c = lo / 2 ^ (64 - s) := ⟨_, rfl⟩
  obtain ⟨d, hd⟩ : ∃ d, d = lo * 2 ^ s := ⟨_, rfl⟩
  obtain ⟨z, hzz⟩ : ∃ z, z = d % 18446744073709551616 := ⟨_, rfl⟩
  rw [← ha] at hY1 hY2 hH
  rw [← hb] at hH hV hor
  rw [← hc] at hL hLo hor
  rw [← hd] at hLo hz hV
  rw [← hzz] at hLo hz
  rw [← ha, ← hb, ← hc, ← hd]
  refine ⟨a, a / 4294967296, a % 4294967296, b + c, z, z / 4294967296, z % 4294967296, ⟨ha, by omega, by omega, by omega, by omega, by omega, by omega, by omega, by rw [hV, hLo]; omega, by omega⟩, ?_, ?_, ?_, ?_, ?_, ?_, ?_⟩
  · exact IntWalk.u64_in _ (by omega)
  · omega
  · rw [and_low32 _ (by omega) (by omega)]; omega
  · rw [IntWalk.u64_in _ (by omega), u64_or_nat _ _ (by omega) (by omega), hor]
  · rw [IntKind.wrap_u64]; omega
  · omega
  · rw [and_low32 _ (by omega) (by omega)]; omega
theorem step_wrap {q y0 : Nat} (h1 : q ≤ 4294967297) (h2 : y0 < 4294967296) : IntKind.u64.wrap ((q : Int) * y0) = ((q * y0 : Nat) : Int) := by
  have : q * y0 ≤ 4294967297 * 4294967295 := Nat.mul_le_mul h1 (by omega)
  rw [← Int.natCast_mul]; exact IntWalk.u64_in _ (by omega)
theorem start_wrap {U y1 : Nat} (h1 : 1 ≤ y1) (hU : U ≤ 18446744073709551615) : ∃ q r p : Nat, q = U / y1 ∧ r = U - U / y1 * y1 ∧ r < y1 ∧
    IntKind.u64.wrap ((U : Int).tdiv y1) = (q : Int) ∧ IntKind.u64.wrap ((U : Int) / y1) = (q : Int) ∧ IntKind.u64.wrap ((q : Int) * y1) = (p : Int) ∧ IntKind.u64.wrap ((U : Int) - p) = (r : Int) := by
  have hd := Nat.div_add_mod U y1
  have hm := Nat.mod_lt U (show 0 < y1 by omega)
  rw [Nat.mul_comm] at hd
  have hl : U / y1 ≤ U := Nat.div_le_self _ _
  refine ⟨U / y1, U - U / y1 * y1, U / y1 * y1, rfl, rfl, by omega, ?_, ?_, ?_, ?_⟩
  · have e : (U : Int).tdiv y1 = ((U / y1 : Nat) : Int) := by rw [Int.tdiv_eq_ediv_of_nonneg (by omega)]; simp
    rw [e]; generalize U / y1 = q at *; exact IntWalk.u64_in _ (by omega)
  · have e : (U : Int) / y1 = ((U / y1 : Nat) : Int) := by simp
    rw [e]; generalize U / y1 = q at *; exact IntWalk.u64_in _ (by omega)
  · rw [← Int.natCast_mul]; generalize U / y1 * y1 = q at *; exact IntWalk.u64_in _ (by omega)
  · generalize U / y1 * y1 = q at *
    have e : (U : Int) - q = ((U - q : Nat) : Int) := by omega
    rw [e]; exact IntWalk.u64_in _ (by omega)
theorem rest_wrap {U u1 Q Y R : Nat} (h : U * 4294967296 + u1 = Q * Y + R) (hR : R ≤ 18446744073709551615) : ∃ A A2 A3 : Nat,
    IntKind.u64.wrap ((U : Int) * 4294967296) = (A : Int) ∧ IntKind.u64.wrap ((A : Int) + u1) = (A2 : Int) ∧ IntKind.u64.wrap ((Q : Int) * Y) = (A3 : Int) ∧ IntKind.u64.wrap ((A2 : Int) - A3) = (R : Int) := by
  refine ⟨(U * 4294967296) % 18446744073709551616, ((U * 4294967296) % 18446744073709551616 + u1) % 18446744073709551616, (Q * Y) % 18446744073709551616, ?_, ?_, ?_, ?_⟩
  · rw [IntKind.wrap_u64]; omega
  · rw [IntKind.wrap_u64]; omega
  · rw [IntKind.wrap_u64, ← Int.natCast_mul]; omega
  · rw [IntKind.wrap_u64]; generalize Q * Y = P at *; omega
theorem end_div {hi lo y s Y y1 y0 U z u1 u0 Q R : Nat} (hN : Nums hi lo y s Y y1 y0 U z u1 u0) (hy : 0 < y) (hQ : Q = (U * 4294967296 + u1) / (y1 * 4294967296 + y0)) (hR : R = (U * 4294967296 + u1) % (y1 * 4294967296 + y0)) (q0 : Nat)
    (h0 : q0 = (R * 4294967296 + u0) / (y1 * 4294967296 + y0)) : Q * 4294967296 + q0 = (hi * 18446744073709551616 + lo) / y ∧ (R * 4294967296 + u0 - q0 * Y) / 2 ^ s = (hi * 18446744073709551616 + lo) % y := by
  rw [← hN.n2] at *
  have hs : 0 < 2 ^ s := Nat.pow_pos (by decide)
  have hY : 0 < Y := by rw [hN.n1]; exact Nat.mul_pos hy hs
  obtain ⟨t1, t2⟩ := two_steps (B := 4294967296) (y := Y) (U := U) (u1 := u1) (u0 := u0) hY (by omega) hN.n8
  rw [← hN.n9, ← hQ, ← hR, ← h0] at t1
  rw [← hN.n9, ← hR] at t2
  constructor
  · rw [← t1, hN.n1, Nat.mul_div_mul_right _ _ hs]
  · have hd := Nat.div_add_mod (R * 4294967296 + u0) Y
    rw [← h0, ← t2, Nat.mul_comm Y] at hd
    have : R * 4294967296 + u0 - q0 * Y = (hi * 18446744073709551616 + lo) * 2 ^ s % Y := by omega
    rw [this, hN.n1, Nat.mul_mod_mul_right, Nat.mul_div_cancel _ hs]
set_option maxRecDepth 100000 in
set_option maxHeartbeats 2000000 in
theorem div64_pos (hi lo y : Nat) (h0 : 0 < hi) (hh : hi < y) (hy : y ≤ 18446744073709551615) (hlo : lo ≤ 18446744073709551615) (w : World) :
    Calls Tryz.prog 199 #[.int .u64 hi, .int .u64 lo, .int .u64 y] w fun e w' => e = .returned (.tuple #[.int .u64 (((hi * 18446744073709551616 + lo) / y : Nat) : Int), .int .u64 (((hi * 18446744073709551616 + lo) % y : Nat) : Int)]) ∧ ∃ n, w' = w.drewN n := by
  have h1 : (1 : Int) ≤ (y : Int) := by omega
  have h2 : ((y : Int) == 0) = false := beq_eq_false_iff_ne.2 (by omega)
  have h3 : ((hi : Int) == 0) = false := beq_eq_false_iff_ne.2 (by omega)
  have h4 : ¬ (y : Int) ≤ (hi : Int) := by omega
  obtain ⟨s, hs, hs63⟩ : ∃ s, Lib.bitLen y + s = 64 ∧ s ≤ 63 := by
    have := Lib.bitLen_le y 64 (by omega) (by omega)
    have h1 : 1 ≤ Lib.bitLen y := (Lib.bitLenAux_bounds 64 y (by omega) (by omega)).1
    exact ⟨64 - Lib.bitLen y, by omega, by omega⟩
  have cl := lz_any y s hs hy
  obtain ⟨Y, y1, y0, U, z, u1, u0, hN, r1, r2, r3, r4, r5, r6, r7⟩ := nums_of h0 hh hy hlo hs hs63
  have hs := Lib.hid hs
  have b1 : y1 ≤ 4294967295 := by have := hN.n5; omega
  have b2 : y0 ≤ 4294967295 := by have := hN.n3; omega
  have b3 : u1 ≤ 4294967295 := by have := hN.n7; omega
  have b4 : u0 ≤ 4294967295 := by have := hN.n8; omega
  have b5 : 1 ≤ y1 := by have := hN.n4; omega
  have b6 : ¬ y1 = 0 := by omega
  have b7 : U ≤ 18446744073709551615 := by have := hN.n10; have := hN.n2; omega
  obtain ⟨q, r, p, eq, er, hr, d0, d1, d2, d3⟩ := start_wrap b5 b7
  replace eq := Lib.hid eq
  replace er := Lib.hid er
  go_enter Tryz.func199, Tryz.ntmps199
  go_upto_block 0 with (first | (go_at_call 180; refine (cl _).mono ?_; rintro e w' ⟨rfl, rfl⟩))
  clear r1 r2 r3 r4 r5 r6 r7 hs cl h2 h3 h4 d0 d1 d2 d3
  replace hN := Lib.hid hN
  go_cut [15] (fun s15 wx => s15 = .int .u64 (((U * 4294967296 + u1) / (y1 * 4294967296 + y0) : Nat) : Int) ∧ wx = w)
  case first =>
    have hN := hN.out
    have i0 := inv_start (B := 4294967296) (y1 := y1) (y0 := y0) (u32 := U) (u1 := u1) (by omega) (by omega) (by omega)
    replace eq := eq.out
    replace er := er.out
    rw [← eq] at er i0
    rw [← er] at i0
    replace hN := Lib.hid hN
    clear eq er
    go_wp2_with fail
    go_loop [15, 16] (fun a b => ∃ q r : Nat, a = .int .u64 q ∧ b = .int .u64 r ∧ Inv 4294967296 y1 y0 U u1 q r ∧ r < 4294967296) (fun a _ => (intOf a).toNat)
    case atStart => exact ⟨q, r, rfl, rfl, i0, by omega⟩
    case round =>
      clear i0 hr
      obtain ⟨q, r, rfl, rfl, hi, hr⟩ := hrel
      have hn := hN.out
      have hu : U < y1 * 4294967296 + y0 := by have := hn.n10; have := hn.n2; omega
      have hq := qh_le hi hn.n4 hn.n3 (by omega) hu
      have sw := step_wrap hq hn.n3
      obtain ⟨m, hm⟩ : ∃ m, m = q * y0 := ⟨_, rfl⟩
      rw [← hm] at sw
      by_cases ht : 4294967296 ≤ q ∨ 4294967296 * r + u1 < m
      · obtain ⟨n0, n1⟩ := inv_next hi hu (by omega) (by rw [← hm]; exact ht)
        have n0' : (1 : Int) ≤ q := by omega
        have q' : (q : Int) ≤ 4294967297 := by omega
        have r' : (r : Int) ≤ 4294967295 := by omega
        have e1 : ((q : Int) - 1) = ((q - 1 : Nat) : Int) := by omega
        have hbr : (4294967296 : Int) ≤ (r : Int) + y1 ∨ ¬ (4294967296 : Int) ≤ (r : Int) + y1 := by omega
        have ht : (4294967296 : Int) ≤ q ∨ (¬ (4294967296 : Int) ≤ q ∧ (4294967296 : Int) * r + u1 < m) := by omega
        clear hm hq hr n0
        replace n1 := Lib.hid n1; replace hi := Lib.hid hi; replace e1 := Lib.hid e1; replace hu := Lib.hid hu
        have fin : (4294967296 : Int) ≤ (r : Int) + y1 → Value.int .u64 ((q : Int) - 1) = .int .u64 (((U * 4294967296 + u1) / (y1 * 4294967296 + y0) : Nat) : Int) := fun h => by
          obtain ⟨k1, k2⟩ := inv_break n1.out (by omega) (by omega) hu.out (by omega)
          rw [e1.out, k2]
        have mea : q - 1 < q := by omega
        replace fin := Lib.hid fin
        rcases hbr with hbr | hbr <;> rcases ht with ht | ⟨ht', ht⟩
        · go_wp2
          go_meet
          exact ⟨fin.out hbr, rfl⟩
        · go_wp2
          go_meet
          exact ⟨fin.out hbr, rfl⟩
        · go_wp2
          go_round
          case rel => exact ⟨q - 1, r + y1, by rw [e1.out], by rw [Int.natCast_add], n1.out, by omega⟩
          case measure => simp [intOf]; omega
        · go_wp2
          go_round
          case rel => exact ⟨q - 1, r + y1, by rw [e1.out], by rw [Int.natCast_add], n1.out, by omega⟩
          case measure => simp [intOf]; omega
      · have he := inv_end hi (by omega) (by rw [← hm]; omega)
        have q' : (q : Int) ≤ 4294967297 := by omega
        have r' : (r : Int) ≤ 4294967295 := by omega
        have ht1 : ¬ (4294967296 : Int) ≤ q := by omega
        have ht2 : ¬ (4294967296 : Int) * r + u1 < m := by omega
        clear hm hq hr ht
        replace hi := Lib.hid hi; replace hu := Lib.hid hu; replace he := Lib.hid he
        go_wp2
        go_meet
        exact ⟨by rw [← he.out], rfl⟩
  case rest =>
    obtain ⟨rfl, rfl⟩ := hcut
    have hn := hN.out
    have hu : U < y1 * 4294967296 + y0 := by have := hn.n10; have := hn.n2; omega
    obtain ⟨Q, hQ⟩ : ∃ Q, Q = (U * 4294967296 + u1) / (y1 * 4294967296 + y0) := ⟨_, rfl⟩
    obtain ⟨R, hR⟩ : ∃ R, R = (U * 4294967296 + u1) % (y1 * 4294967296 + y0) := ⟨_, rfl⟩
    have hQR := Nat.div_add_mod (U * 4294967296 + u1) (y1 * 4294967296 + y0)
    have hRl := Nat.mod_lt (U * 4294967296 + u1) (show 0 < y1 * 4294967296 + y0 by omega)
    have hQl := quo_lt hu (show u1 < 4294967296 by omega)
    rw [← hQ, ← hR] at hQR
    rw [← hR] at hRl
    rw [← hQ] at hQl ⊢
    rw [← hn.n2] at hQR hRl
    have c1 : (Q : Int) ≤ 4294967295 := by omega
    have hR63 : R ≤ 18446744073709551615 := by have := hn.n5; have := hn.n3; have := hn.n2; omega
    obtain ⟨A, A2, A3, g1, g2, g3, g4⟩ := rest_wrap (U := U) (u1 := u1) (Q := Q) (Y := Y) (R := R) (by rw [← hQR, Nat.mul_comm]) hR63
    clear eq er hr
    obtain ⟨q, r, p, eq, er, hr, d0, d1, d2, d3⟩ := start_wrap (U := R) b5 hR63
    have hu : R < y1 * 4294967296 + y0 := by rw [← hn.n2]; exact hRl
    have i0 := inv_start (B := 4294967296) (y1 := y1) (y0 := y0) (u32 := R) (u1 := u0) (by omega) (by omega) (by omega)
    rw [← eq] at er i0
    rw [← er] at i0
    have hQ0 := quo_lt hu (show u0 < 4294967296 by omega)
    obtain ⟨Q0, hQ0e⟩ : ∃ Q0, Q0 = (R * 4294967296 + u0) / (y1 * 4294967296 + y0) := ⟨_, rfl⟩
    obtain ⟨f1, f2⟩ := end_div hn (by omega) hQ hR Q0 hQ0e
    replace hQ := Lib.hid hQ; replace hR := Lib.hid hR; replace hQR := Lib.hid hQR; replace hRl := Lib.hid hRl; replace hn := Lib.hid hn; replace hu := Lib.hid hu
    replace eq := Lib.hid eq; replace er := Lib.hid er; replace hR63 := Lib.hid hR63; replace hQ0 := Lib.hid hQ0; replace hQ0e := Lib.hid hQ0e; replace f1 := Lib.hid f1; replace f2 := Lib.hid f2; replace i0 := Lib.hid i0; replace hr := Lib.hid hr
    clear hQl
    go_upto_block 2 with fail
    clear g1 g2 g3 g4 d0 d1 d2 d3
    go_cut [18] (fun s18 wx => s18 = .int .u64 (Q0 : Int) ∧ wx = wc)
    case first =>
      go_wp2_with fail
      go_loop [18, 16] (fun a b => ∃ q r : Nat, a = .int .u64 q ∧ b = .int .u64 r ∧ Inv 4294967296 y1 y0 R u0 q r ∧ r < 4294967296) (fun a _ => (intOf a).toNat)
      case atStart => exact ⟨q, r, rfl, rfl, i0.out, by have := hr.out; omega⟩
      case round =>
        clear i0 hr eq er
        obtain ⟨q, r, rfl, rfl, hi, hr⟩ := hrel
        replace hu := hu.out
        have hq := qh_le hi hn.out.n4 hn.out.n3 (by omega) hu
        have sw := step_wrap hq hn.out.n3
        obtain ⟨m, hm⟩ : ∃ m, m = q * y0 := ⟨_, rfl⟩
        rw [← hm] at sw
        by_cases ht : 4294967296 ≤ q ∨ 4294967296 * r + u0 < m
        · obtain ⟨n0, n1⟩ := inv_next hi hu (by omega) (by rw [← hm]; exact ht)
          have n0' : (1 : Int) ≤ q := by omega
          have q' : (q : Int) ≤ 4294967297 := by omega
          have r' : (r : Int) ≤ 4294967295 := by omega
          have e1 : ((q : Int) - 1) = ((q - 1 : Nat) : Int) := by omega
          have hbr : (4294967296 : Int) ≤ (r : Int) + y1 ∨ ¬ (4294967296 : Int) ≤ (r : Int) + y1 := by omega
          have ht : (4294967296 : Int) ≤ q ∨ (¬ (4294967296 : Int) ≤ q ∧ (4294967296 : Int) * r + u0 < m) := by omega
          clear hm hq hr n0
          replace n1 := Lib.hid n1; replace hi := Lib.hid hi; replace e1 := Lib.hid e1; replace hu := Lib.hid hu
          have fin : (4294967296 : Int) ≤ (r : Int) + y1 → Value.int .u64 ((q : Int) - 1) = .int .u64 (Q0 : Int) := fun h => by
            obtain ⟨k1, k2⟩ := inv_break n1.out (by omega) (by omega) hu.out (by omega)
            rw [e1.out, hQ0e.out, k2]
          have mea : q - 1 < q := by omega
          replace fin := Lib.hid fin
          rcases hbr with hbr | hbr <;> rcases ht with ht | ⟨ht', ht⟩
          · go_wp2
            go_meet
            exact ⟨fin.out hbr, rfl⟩
          · go_wp2
            go_meet
            exact ⟨fin.out hbr, rfl⟩
          · go_wp2
            go_round
            case rel => exact ⟨q - 1, r + y1, by rw [e1.out], by rw [Int.natCast_add], n1.out, by omega⟩
            case measure => simp [intOf]; omega
          · go_wp2
            go_round
            case rel => exact ⟨q - 1, r + y1, by rw [e1.out], by rw [Int.natCast_add], n1.out, by omega⟩
            case measure => simp [intOf]; omega
        · have he := inv_end hi (by omega) (by rw [← hm]; omega)
          have q' : (q : Int) ≤ 4294967297 := by omega
          have r' : (r : Int) ≤ 4294967295 := by omega
          have ht1 : ¬ (4294967296 : Int) ≤ q := by omega
          have ht2 : ¬ (4294967296 : Int) * r + u0 < m := by omega
          clear hm hq hr ht
          replace hi := Lib.hid hi; replace hu := Lib.hid hu; replace he := Lib.hid he
          go_wp2
          go_meet
          exact ⟨by rw [hQ0e.out, ← he.out], rfl⟩
    case rest =>
      obtain ⟨rfl, rfl⟩ := hcut
      have c2 : (Q0 : Int) ≤ 4294967295 := by have := hQ0.out; have := hQ0e.out; omega
      have hd := Nat.div_add_mod (R * 4294967296 + u0) (y1 * 4294967296 + y0)
      have hm := Nat.mod_lt (R * 4294967296 + u0) (show 0 < y1 * 4294967296 + y0 by omega)
      obtain ⟨A, A2, A3, g1, g2, g3, g4⟩ := rest_wrap (U := R) (u1 := u0) (Q := Q0) (Y := Y) (R := (R * 4294967296 + u0) % (y1 * 4294967296 + y0)) (by rw [hQ0e.out, hn.out.n2]; exact (Nat.div_add_mod' _ _).symm) (by have := hn.out.n5; have := hn.out.n3; omega)
      have f3 : R * 4294967296 + u0 - Q0 * Y = (R * 4294967296 + u0) % (y1 * 4294967296 + y0) := by
        rw [← hQ0e.out, ← hn.out.n2, Nat.mul_comm] at hd
        rw [← hn.out.n2]; omega
      obtain ⟨R2, hR2⟩ : ∃ R2, R2 = (R * 4294967296 + u0) % (y1 * 4294967296 + y0) := ⟨_, rfl⟩
      rw [← hR2] at g4 f3
      clear hd hm hR2
      replace f3 := Lib.hid f3
      go_wp2
      go_ret2
      refine ⟨?_, 0, rfl⟩
      rw [← f1.out, ← f2.out, f3.out]
      simp
end Go.Proofs.YtpiegngjpnpohaaGreat.Div

namespace Go.Proofs.YtpiegngjpnpohaaGreat.WdP
open Go.RowKit Go.Proofs.YtpiegngjpnpohaaGreat.DivM Go.Proofs.YtpiegngjpnpohaaGreat.Div
set_option linter.unusedVariables false
def hiM (a b : Nat) : Nat := a * b / 18446744073709551616
def loM (a b : Nat) : Nat := a * b % 18446744073709551616
def divE (hi lo by' : Nat) : Int := if by' = 0 then 1 else if by' ≤ hi then 2 else 0
def divQ (hi lo by' : Nat) : Nat := if hi < by' then (hi * 18446744073709551616 + lo) / by' else 0
def divR (hi lo by' : Nat) : Nat := if hi < by' then (hi * 18446744073709551616 + lo) % by' else 0
theorem mul_any (a b : Nat) (ha : a ≤ 18446744073709551615) (hb : b ≤ 18446744073709551615) (w : World) :
    Calls Tryz.prog 172 #[.int .u64 a, .int .u64 b] w fun e w' => e = .returned (.tuple #[.int .u64 (hiM a b : Nat), .int .u64 (loM a b : Nat)]) ∧ ∃ n, w' = w.drewN n := by
  have c := Tryz.bits_Mul64 a b (by omega) (by omega)
  clear ha hb
  go_enter Tryz.func172, Tryz.ntmps172
  go_wp2_with (first | (go_at_call 198; refine (c _).mono ?_; rintro e w' ⟨rfl, rfl⟩))
  go_ret2
  exact ⟨rfl, 0, rfl⟩
theorem div64_any (hi lo y : Nat) (hh : hi < y) (hy : y ≤ 18446744073709551615) (hlo : lo ≤ 18446744073709551615) (w : World) :
    Calls Tryz.prog 199 #[.int .u64 hi, .int .u64 lo, .int .u64 y] w fun e w' => e = .returned (.tuple #[.int .u64 (divQ hi lo y : Nat), .int .u64 (divR hi lo y : Nat)]) ∧ ∃ n, w' = w.drewN n := by
  rw [divQ, if_pos hh, divR, if_pos hh]
  rcases Nat.eq_zero_or_pos hi with rfl | h0
  · have := div64_zero lo y (by omega) hy hlo w
    rw [Nat.zero_mul, Nat.zero_add]; exact this
  · exact div64_pos hi lo y h0 hh hy hlo w
theorem ret_u2e {a b a' b' : Nat} {e e' : Int} (h : a = a') (h' : b = b') (h'' : e = e') : Ending.returned (.tuple #[.int .u64 (a : Int), .int .u64 (b : Int), .int .i64 e]) = .returned (.tuple #[.int .u64 (a' : Int), .int .u64 (b' : Int), .int .i64 e']) := by rw [h, h', h'']
theorem div_any (hi lo y : Nat) (hhi : hi ≤ 18446744073709551615) (hy : y ≤ 18446744073709551615) (hlo : lo ≤ 18446744073709551615) (w : World) :
    Calls Tryz.prog 173 #[.int .u64 hi, .int .u64 lo, .int .u64 y] w fun e w' => e = .returned (.tuple #[.int .u64 (divQ hi lo y : Nat), .int .u64 (divR hi lo y : Nat), .int .i64 (divE hi lo y)]) ∧ ∃ n, w' = w.drewN n := by
  by_cases h0 : y = 0
  · subst h0
    clear hhi hy hlo
    go_enter Tryz.func173, Tryz.ntmps173
    go_wp2
    go_ret3
    exact ⟨ret_u2e (a := 0) (b := 0) (e := 1) (by simp [divQ]) (by simp [divR]) (by simp [divE]), 0, rfl⟩
  · by_cases h1 : y ≤ hi
    · have e1 : ((y : Int) == 0) = false := beq_eq_false_iff_ne.2 (by omega)
      have e2 : (y : Int) ≤ (hi : Int) := by omega
      clear hhi hy hlo
      go_enter Tryz.func173, Tryz.ntmps173
      go_wp2
      go_ret3
      exact ⟨ret_u2e (a := 0) (b := 0) (e := 2) (by rw [divQ, if_neg (by omega)]) (by rw [divR, if_neg (by omega)]) (by simp [divE, h0, h1]), 0, rfl⟩
    · have e1 : ((y : Int) == 0) = false := beq_eq_false_iff_ne.2 (by omega)
      have e2 : ¬ (y : Int) ≤ (hi : Int) := by omega
      have c := div64_any hi lo y (by omega) hy hlo
      clear hhi hy hlo
      go_enter Tryz.func173, Tryz.ntmps173
      go_wp2_with (first | (go_at_call 199; refine (c _).mono ?_; rintro e w' ⟨rfl, n, rfl⟩))
      go_ret3
      exact ⟨ret_u2e (e := 0) rfl rfl (by simp [divE, h0, h1]), _, rfl⟩
end Go.Proofs.YtpiegngjpnpohaaGreat.WdP

namespace Go.Proofs.YtpiegngjpnpohaaGreat.WdP
open Go.RowKit Go.Proofs.YtpiegngjpnpohaaGreat.DivM Go.Proofs.YtpiegngjpnpohaaGreat.Div
set_option linter.unusedVariables false
theorem bit_step' {T y b q r : Nat} (hy : 0 < y) (hb : b ≤ 1) (hd : y * q + r = T) (hm : r < y) :
    (y ≤ 2 * r + b → (2 * T + b) % y = 2 * r + b - y ∧ (2 * T + b) / y = 2 * q + 1) ∧ (2 * r + b < y → (2 * T + b) % y = 2 * r + b ∧ (2 * T + b) / y = 2 * q) := by
  constructor
  · intro h
    have e : 2 * T + b = y * (2 * q + 1) + (2 * r + b - y) := by
      rw [Nat.mul_add, Nat.mul_one, Nat.mul_left_comm]; omega
    rw [e, Nat.mul_add_mod, Nat.mul_add_div hy, Nat.mod_eq_of_lt (by omega), Nat.div_eq_of_lt (by omega)]
    exact ⟨rfl, by omega⟩
  · intro h
    have e : 2 * T + b = y * (2 * q) + (2 * r + b) := by
      rw [Nat.mul_left_comm]; omega
    rw [e, Nat.mul_add_mod, Nat.mul_add_div hy, Nat.mod_eq_of_lt (by omega), Nat.div_eq_of_lt (by omega)]
    exact ⟨rfl, by omega⟩
theorem half_step (V m : Nat) : V / 2 ^ m = 2 * (V / 2 ^ (m + 1)) + V / 2 ^ m % 2 := by
  rw [Nat.pow_succ, ← Nat.div_div_eq_div_mul]; omega
theorem bit_of {hi lo m : Nat} (hm : m < 64) : (hi * 18446744073709551616 + lo) / 2 ^ m % 2 = lo / 2 ^ m % 2 := by
  have e : hi * 18446744073709551616 = 2 ^ m * (hi * 2 ^ (63 - m) * 2) := by
    have : 18446744073709551616 = 2 ^ m * 2 ^ (63 - m) * 2 := by
      rw [← Nat.pow_add, show m + (63 - m) = 63 by omega]
    rw [this]; simp only [Nat.mul_left_comm, Nat.mul_comm]
  rw [e, Nat.mul_add_div (Nat.pow_pos (by decide))]; omega
theorem and_one {x : Nat} (h : x ≤ 18446744073709551615) : bits BinOp.and IntKind.u64 (x : Int) 1 = ((x % 2 : Nat) : Int) := by
  have : bits BinOp.and IntKind.u64 (x : Int) ((1 : Nat) : Int) = ((x &&& 1 : Nat) : Int) := u64_and_nat x 1 (by omega) (by omega)
  rw [Nat.and_one_is_mod] at this; exact this
theorem rest_bit {r b : Nat} (hr : r ≤ 18446744073709551615) (hb : b ≤ 1) : bits BinOp.or IntKind.u64 (IntKind.u64.wrap ((r : Int) * 2)) (b : Int) = (((2 * r + b) % 18446744073709551616 : Nat) : Int) := by
  have e : IntKind.u64.wrap ((r : Int) * 2) = ((2 ^ 1 * (r % 9223372036854775808) : Nat) : Int) := by rw [IntKind.wrap_u64]; omega
  rw [e, u64_or_nat _ _ (by omega) (by omega), ← Nat.two_pow_add_eq_or_of_lt (by omega)]; omega
theorem q_fits {hi lo y m : Nat} (hh : hi < y) (hlo : lo ≤ 18446744073709551615) (hm : 1 ≤ m) : (hi * 18446744073709551616 + lo) / 2 ^ m / y ≤ 9223372036854775807 := by
  have h1 : (hi * 18446744073709551616 + lo) / 2 ^ m / y < 9223372036854775808 := by
    rw [Nat.div_lt_iff_lt_mul (by omega), Nat.div_lt_iff_lt_mul (Nat.pow_pos (by decide))]
    have h2 : 2 ≤ 2 ^ m := Nat.pow_le_pow_right (n := 2) (by decide) hm
    have h3 : 9223372036854775808 * y * 2 ≤ 9223372036854775808 * y * 2 ^ m := Nat.mul_le_mul_left _ h2
    omega
  omega
theorem rdiv_bad (hi lo y : Nat) (h : y ≤ hi) (w : World) :
    Calls Tryz.prog 177 #[.int .u64 hi, .int .u64 lo, .int .u64 y] w fun e w' => e = .returned (.tuple #[.int .u64 (divQ hi lo y : Nat), .int .u64 (divR hi lo y : Nat), .int .i64 (divE hi lo y)]) ∧ ∃ n, w' = w.drewN n := by
  by_cases h0 : y = 0
  · subst h0
    go_enter Tryz.func177, Tryz.ntmps177
    go_wp2
    go_ret3
    exact ⟨ret_u2e (a := 0) (b := 0) (e := 1) (by simp [divQ]) (by simp [divR]) (by simp [divE]), 0, rfl⟩
  · have e1 : ((y : Int) == 0) = false := beq_eq_false_iff_ne.2 (by omega)
    have e2 : (y : Int) ≤ (hi : Int) := by omega
    go_enter Tryz.func177, Tryz.ntmps177
    go_wp2
    go_ret3
    exact ⟨ret_u2e (a := 0) (b := 0) (e := 2) (by rw [divQ, if_neg (by omega)]) (by rw [divR, if_neg (by omega)]) (by simp [divE, h0, h]), 0, rfl⟩
structure St (hi lo y m r q : Nat) : Prop where
  r : r = (hi * 18446744073709551616 + lo) / 2 ^ m % y
  q : q = (hi * 18446744073709551616 + lo) / 2 ^ m / y
theorem St.start {hi lo y : Nat} (hh : hi < y) (hlo : lo ≤ 18446744073709551615) : St hi lo y 64 hi 0 := by
  have : (hi * 18446744073709551616 + lo) / 2 ^ 64 = hi := by omega
  exact ⟨by rw [this, Nat.mod_eq_of_lt hh], by rw [this, Nat.div_eq_of_lt hh]⟩
theorem St.step {hi lo y k r q b : Nat} (h : St hi lo y (k + 1) r q) (hh : hi < y) (hlo : lo ≤ 18446744073709551615) (hk : k < 64) (hb : b = lo / 2 ^ k % 2) :
    r < y ∧ q ≤ 9223372036854775807 ∧ (y ≤ 2 * r + b → St hi lo y k (2 * r + b - y) (2 * q + 1)) ∧ (2 * r + b < y → St hi lo y k (2 * r + b) (2 * q)) := by
  obtain ⟨hr, hq⟩ := h
  obtain ⟨V, hV⟩ : ∃ V, V = hi * 18446744073709551616 + lo := ⟨_, rfl⟩
  have hs := half_step V k
  have hbit := bit_of (hi := hi) (lo := lo) hk
  have hfit := q_fits (m := k + 1) hh hlo (by omega)
  rw [← hV] at hr hq hbit hfit
  rw [hbit, ← hb] at hs
  rw [← hq] at hfit
  obtain ⟨T, hT⟩ : ∃ T, T = V / 2 ^ (k + 1) := ⟨_, rfl⟩
  rw [← hT] at hr hq hs
  have hd := Nat.div_add_mod T y
  have hm := Nat.mod_lt T (show 0 < y by omega)
  rw [← hq, ← hr] at hd
  rw [← hr] at hm
  obtain ⟨t1, t2⟩ := bit_step' (T := T) (b := b) (show 0 < y by omega) (by omega) hd hm
  refine ⟨hm, hfit, fun h => ?_, fun h => ?_⟩
  · obtain ⟨a, c⟩ := t1 h
    exact ⟨by rw [← hV, hs, a], by rw [← hV, hs, c]⟩
  · obtain ⟨a, c⟩ := t2 h
    exact ⟨by rw [← hV, hs, a], by rw [← hV, hs, c]⟩
theorem top_bit {r : Nat} (hr : r ≤ 18446744073709551615) : ((r : Int) / 9223372036854775808 == 1) = decide (9223372036854775808 ≤ r) := by
  by_cases h : 9223372036854775808 ≤ r
  · rw [decide_eq_true h]; exact beq_iff_eq.2 (by omega)
  · rw [decide_eq_false h]; exact beq_eq_false_iff_ne.2 (by omega)
set_option maxRecDepth 100000 in
set_option maxHeartbeats 1000000 in
theorem rdiv_ok (hi lo y : Nat) (hh : hi < y) (hy : y ≤ 18446744073709551615) (hlo : lo ≤ 18446744073709551615) (w : World) :
    Calls Tryz.prog 177 #[.int .u64 hi, .int .u64 lo, .int .u64 y] w fun e w' => e = .returned (.tuple #[.int .u64 (divQ hi lo y : Nat), .int .u64 (divR hi lo y : Nat), .int .i64 (divE hi lo y)]) ∧ ∃ n, w' = w.drewN n := by
  have e1 : ((y : Int) == 0) = false := beq_eq_false_iff_ne.2 (by omega)
  have e2 : ¬ (y : Int) ≤ (hi : Int) := by omega
  have y1 : (1 : Int) ≤ (y : Int) := by omega
  have y2 : (y : Int) ≤ 18446744073709551615 := by omega
  have l2 : (lo : Int) ≤ 18446744073709551615 := by omega
  have st := St.start hh hlo
  have hy := Lib.hid hy
  have hlo' := Lib.hid hlo
  have hh' := Lib.hid hh
  replace st := Lib.hid st
  go_enter Tryz.func177, Tryz.ntmps177
  go_wp2_with fail
  clear e1 e2
  go_loop [9, 10, 11] (fun r q i => ∃ m rn qn : Nat, m ≤ 64 ∧ r = .int .u64 rn ∧ q = .int .u64 qn ∧ i = .int .i64 ((m : Int) - 1) ∧ St hi lo y m rn qn) (fun _ _ i => (intOf i + 1).toNat)
  case atStart => exact ⟨64, hi, 0, by omega, rfl, rfl, rfl, st.out⟩
  case round =>
    clear st
    obtain ⟨m, r, q, hm, rfl, rfl, rfl, hst⟩ := hrel
    rcases Nat.eq_zero_or_pos m with rfl | hpos
    · obtain ⟨s1, s2⟩ := hst
      have t1 : r = divR hi lo y := by rw [divR, if_pos hh, s1, Nat.pow_zero, Nat.div_one]
      have t2 : q = divQ hi lo y := by rw [divQ, if_pos hh, s2, Nat.pow_zero, Nat.div_one]
      clear s1 s2
      replace t1 := Lib.hid t1; replace t2 := Lib.hid t2
      go_wp2
      go_ret3
      exact ⟨ret_u2e (e := 0) t2.out t1.out (by rw [divE, if_neg (by omega), if_neg (by omega)]), 0, rfl⟩
    · obtain ⟨k, rfl⟩ : ∃ k, m = k + 1 := ⟨m - 1, by omega⟩
      obtain ⟨b, hb⟩ : ∃ b, b = lo / 2 ^ k % 2 := ⟨_, rfl⟩
      obtain ⟨g1, g2, g3, g4⟩ := hst.step hh hlo (by omega) hb
      have ei : ((k + 1 : Nat) : Int) - 1 = (k : Int) := by omega
      have hk63 : (k : Int) ≤ 63 := by omega
      have rr : r ≤ 18446744073709551615 := by omega
      have ab : bits BinOp.and IntKind.u64 ((lo : Int) / 2 ^ k) 1 = (b : Int) := by
        have e : (lo : Int) / 2 ^ k = ((lo / 2 ^ k : Nat) : Int) := by simp
        have := Nat.div_le_self lo (2 ^ k)
        rw [e, and_one (by omega), hb]
      have ob := rest_bit (r := r) (b := b) rr (by omega)
      obtain ⟨x, hx⟩ : ∃ x, x = (2 * r + b) % 18446744073709551616 := ⟨_, rfl⟩
      rw [← hx] at ob
      have tb := top_bit rr
      have q2 : (q : Int) ≤ 9223372036854775807 := by omega
      have fl : 9223372036854775808 ≤ r → IntKind.u64.wrap ((x : Int) - y) = ((2 * r + b - y : Nat) : Int) := fun h => by rw [IntKind.wrap_u64]; omega
      have fs : ¬ 9223372036854775808 ≤ r → y ≤ x → IntKind.u64.wrap ((x : Int) - y) = ((2 * r + b - y : Nat) : Int) := fun h h' => by rw [IntKind.wrap_u64]; omega
      have c1 : 9223372036854775808 ≤ r → y ≤ 2 * r + b := fun h => by omega
      have c2 : ¬ 9223372036854775808 ≤ r → x = 2 * r + b := fun h => by omega
      rw [ei]
      clear ei hx hb hm hpos rr
      replace g3 := Lib.hid g3; replace g4 := Lib.hid g4; replace hst := Lib.hid hst
      by_cases ht : 9223372036854775808 ≤ r
      · replace fl := fl ht
        replace c1 := c1 ht
        rw [decide_eq_true ht] at tb
        clear fs c2 ht
        replace c1 := Lib.hid c1
        obtain ⟨r', hr'⟩ : ∃ r', r' = 2 * r + b - y := ⟨_, rfl⟩
        rw [← hr'] at fl
        replace hr' := Lib.hid hr'
        clear g1 g2
        go_wp2
        go_round
        case rel => exact ⟨k, r', 2 * q + 1, by omega, rfl, by go_num, rfl, by rw [hr'.out]; exact g3.out c1.out⟩
        case measure => simp [intOf]
      · replace c2 := c2 ht
        rw [decide_eq_false ht] at tb
        by_cases hyx : y ≤ x
        · replace fs := fs ht hyx
          obtain ⟨r', hr'⟩ : ∃ r', r' = 2 * r + b - y := ⟨_, rfl⟩
          rw [← hr'] at fs
          have hyx' : (y : Int) ≤ (x : Int) := by omega
          clear c1 fl ht hyx g1 g2
          replace hr' := Lib.hid hr'; replace c2 := Lib.hid c2
          go_wp2
          go_round
          case rel => exact ⟨k, r', 2 * q + 1, by omega, rfl, by go_num, rfl, by rw [hr'.out]; exact g3.out (by have := c2.out; omega)⟩
          case measure => simp [intOf]
        · have hyx' : ¬ (y : Int) ≤ (x : Int) := by omega
          clear c1 fl fs ht hyx g1 g2
          replace c2 := Lib.hid c2
          go_wp2
          go_round
          case rel => exact ⟨k, x, 2 * q, by omega, rfl, by go_num, rfl, by rw [c2.out]; exact g4.out (by have := c2.out; omega)⟩
          case measure => simp [intOf]
theorem rdiv_any (hi lo y : Nat) (hhi : hi ≤ 18446744073709551615) (hy : y ≤ 18446744073709551615) (hlo : lo ≤ 18446744073709551615) (w : World) :
    Calls Tryz.prog 177 #[.int .u64 hi, .int .u64 lo, .int .u64 y] w fun e w' => e = .returned (.tuple #[.int .u64 (divQ hi lo y : Nat), .int .u64 (divR hi lo y : Nat), .int .i64 (divE hi lo y)]) ∧ ∃ n, w' = w.drewN n := by
  rcases Nat.lt_or_ge hi y with h | h
  · exact rdiv_ok hi lo y h hy hlo w
  · exact rdiv_bad hi lo y h w
theorem mul_nums {a b : Nat} (ha : a ≤ 18446744073709551615) (hb : b ≤ 18446744073709551615) :
    ∃ a1 a0 b1 b0 p00 p10 p01 p11 lw one om two : Nat,
      (a : Int) / 4294967296 = (a1 : Int) ∧ bits BinOp.and IntKind.u64 (a : Int) 4294967295 = (a0 : Int) ∧ (b : Int) / 4294967296 = (b1 : Int) ∧ bits BinOp.and IntKind.u64 (b : Int) 4294967295 = (b0 : Int) ∧
      IntKind.u64.wrap ((a0 : Int) * b0) = (p00 : Int) ∧ IntKind.u64.wrap ((a1 : Int) * b0) = (p10 : Int) ∧ IntKind.u64.wrap ((a0 : Int) * b1) = (p01 : Int) ∧ IntKind.u64.wrap ((a1 : Int) * b1) = (p11 : Int) ∧
      (p00 : Int) / 4294967296 = (lw : Int) ∧ IntKind.u64.wrap ((p10 : Int) + lw) = (one : Int) ∧ bits BinOp.and IntKind.u64 (one : Int) 4294967295 = (om : Int) ∧ IntKind.u64.wrap ((p01 : Int) + om) = (two : Int) ∧
      IntKind.u64.wrap (IntKind.u64.wrap ((p11 : Int) + (one : Int) / 4294967296) + (two : Int) / 4294967296) = ((hiM a b : Nat) : Int) ∧
      IntKind.u64.wrap (IntKind.u64.wrap ((two : Int) * 4294967296) + bits BinOp.and IntKind.u64 (p00 : Int) 4294967295) = ((loM a b : Nat) : Int) := by
  obtain ⟨a1, h1⟩ : ∃ x, x = a / 4294967296 := ⟨_, rfl⟩
  obtain ⟨a0, h2⟩ : ∃ x, x = a % 4294967296 := ⟨_, rfl⟩
  obtain ⟨b1, h3⟩ : ∃ x, x = b / 4294967296 := ⟨_, rfl⟩
  obtain ⟨b0, h4⟩ : ∃ x, x = b % 4294967296 := ⟨_, rfl⟩
  have l1 : a1 ≤ 4294967295 := by omega
  have l2 : a0 ≤ 4294967295 := by omega
  have l3 : b1 ≤ 4294967295 := by omega
  have l4 : b0 ≤ 4294967295 := by omega
  have m1 : a0 * b0 ≤ 4294967295 * 4294967295 := Nat.mul_le_mul l2 l4
  have m2 : a1 * b0 ≤ 4294967295 * 4294967295 := Nat.mul_le_mul l1 l4
  have m3 : a0 * b1 ≤ 4294967295 * 4294967295 := Nat.mul_le_mul l2 l3
  have m4 : a1 * b1 ≤ 4294967295 * 4294967295 := Nat.mul_le_mul l1 l3
  have ea : a = a1 * 4294967296 + a0 := by omega
  have eb : b = b1 * 4294967296 + b0 := by omega
  have hab : a * b = a1 * b1 * 18446744073709551616 + (a1 * b0 + a0 * b1) * 4294967296 + a0 * b0 := by
    rw [ea, eb]
    have : (a1 * 4294967296 + a0) * (b1 * 4294967296 + b0) = a1 * b1 * (4294967296 * 4294967296) + (a1 * b0 + a0 * b1) * 4294967296 + a0 * b0 := by
      simp only [Nat.add_mul, Nat.mul_add, Nat.mul_assoc, Nat.mul_comm, Nat.mul_left_comm, Nat.add_assoc, Nat.add_left_comm, Nat.add_comm]
    rw [this]
  obtain ⟨p00, q1⟩ : ∃ x, x = a0 * b0 := ⟨_, rfl⟩
  obtain ⟨p10, q2⟩ : ∃ x, x = a1 * b0 := ⟨_, rfl⟩
  obtain ⟨p01, q3⟩ : ∃ x, x = a0 * b1 := ⟨_, rfl⟩
  obtain ⟨p11, q4⟩ : ∃ x, x = a1 * b1 := ⟨_, rfl⟩
  rw [← q1, ← q2, ← q3, ← q4] at hab
  rw [← q1] at m1
  rw [← q2] at m2
  rw [← q3] at m3
  rw [← q4] at m4
  refine ⟨a1, a0, b1, b0, p00, p10, p01, p11, p00 / 4294967296, p10 + p00 / 4294967296, (p10 + p00 / 4294967296) % 4294967296, p01 + (p10 + p00 / 4294967296) % 4294967296, by omega, ?_, by omega, ?_, ?_, ?_, ?_, ?_, by omega, ?_, ?_, ?_, ?_, ?_⟩
  · rw [and_low32 _ (by omega) (by omega)]; omega
  · rw [and_low32 _ (by omega) (by omega)]; omega
  · rw [← Int.natCast_mul, ← q1]; exact IntWalk.u64_in _ (by omega)
  · rw [← Int.natCast_mul, ← q2]; exact IntWalk.u64_in _ (by omega)
  · rw [← Int.natCast_mul, ← q3]; exact IntWalk.u64_in _ (by omega)
  · rw [← Int.natCast_mul, ← q4]; exact IntWalk.u64_in _ (by omega)
  · rw [IntWalk.u64_in _ (by omega)]; omega
  · rw [and_low32 _ (by omega) (by omega)]; omega
  · rw [IntWalk.u64_in _ (by omega)]; omega
  · rw [hiM, hab, IntKind.wrap_u64, IntKind.wrap_u64]; omega
  · rw [loM, hab, and_low32 _ (by omega) (by omega), IntKind.wrap_u64, IntKind.wrap_u64]; omega
set_option maxRecDepth 100000 in
theorem rmul_any (a b : Nat) (ha : a ≤ 18446744073709551615) (hb : b ≤ 18446744073709551615) (w : World) :
    Calls Tryz.prog 176 #[.int .u64 a, .int .u64 b] w fun e w' => e = .returned (.tuple #[.int .u64 (hiM a b : Nat), .int .u64 (loM a b : Nat)]) ∧ ∃ n, w' = w.drewN n := by
  obtain ⟨a1, a0, b1, b0, p00, p10, p01, p11, lw, one, om, two, r1, r2, r3, r4, r5, r6, r7, r8, r9, r10, r11, r12, r13, r14⟩ := mul_nums ha hb
  clear ha hb
  replace r13 := Lib.hid r13; replace r14 := Lib.hid r14
  go_enter Tryz.func176, Tryz.ntmps176
  go_wp2
  go_ret2
  refine ⟨?_, 0, rfl⟩
  rw [← r13.out, ← r14.out]
  rfl
end Go.Proofs.YtpiegngjpnpohaaGreat.WdP
