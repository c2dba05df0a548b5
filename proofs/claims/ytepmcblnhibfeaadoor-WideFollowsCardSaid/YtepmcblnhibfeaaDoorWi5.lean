/- package wide's Print: the numeral of any number of 128 bits. -/
import Derived.Test.YtepmcblnhibfeaaDoorWi4
import Derived.Test.YtepmcblnhibfeaaDoorWdP
import Derived.Lib.SmallJoins
import Derived.Lib.ItoaLen
namespace Go.Proofs.YtepmcblnhibfeaaDoor.Wi
open Go.RowKit Go.Sort Go.Lib
set_option linter.unusedVariables false

def padR : Nat → Nat → List UInt8
  | 0, _ => []
  | k + 1, v => padR k (v / 10) ++ [UInt8.ofNat (48 + v % 10)]

theorem dec_big {u : Nat} (h : ¬ u < 10) : decDigits u = decDigits (u / 10) ++ [UInt8.ofNat (48 + u % 10)] := by rw [decDigits, dif_neg h]

theorem dec_join : ∀ (k q r : Nat), 1 ≤ q → r < 10 ^ k → decDigits (q * 10 ^ k + r) = decDigits q ++ padR k r
  | 0, q, r, hq, hr => by
    have : r = 0 := by simpa using hr
    subst this; simp [padR]
  | k + 1, q, r, hq, hr => by
    have hp : 0 < 10 ^ k := Nat.pow_pos (by decide)
    have hx : 1 ≤ q * 10 ^ k := Nat.mul_pos hq hp
    rw [Nat.pow_succ] at hr ⊢
    rw [← Nat.mul_assoc]
    rw [dec_big (by omega), padR, show (q * 10 ^ k * 10 + r) / 10 = q * 10 ^ k + r / 10 by omega, show (q * 10 ^ k * 10 + r) % 10 = r % 10 by omega, dec_join k q (r / 10) hq (by omega), List.append_assoc]

theorem rep_comm (l : List UInt8) : ∀ n, repeatL l (n + 1) = repeatL l n ++ l
  | 0 => by simp [repeatL]
  | n + 1 => by
    show l ++ repeatL l (n + 1) = (l ++ repeatL l n) ++ l
    rw [rep_comm l n, List.append_assoc]

theorem pad_rep : ∀ (k r : Nat), r < 10 ^ (k + 1) → padR (k + 1) r = repeatL [48] (k + 1 - (decDigits r).length) ++ decDigits r
  | 0, r, hr => by
    have h : r < 10 := by simpa using hr
    rw [padR, padR, decDigits_one h, Nat.mod_eq_of_lt h]; simp [repeatL]
  | k + 1, r, hr => by
    rw [Nat.pow_succ] at hr
    rw [padR]
    by_cases h : r < 10
    · rw [show r / 10 = 0 by omega, pad_rep k 0 (Nat.pow_pos (by decide)), decDigits_one h, Nat.mod_eq_of_lt h]
      have e0 : decDigits 0 = [48] := decDigits_one (by decide)
      rw [e0]
      simp only [List.length_cons, List.length_nil]
      rw [show k + 1 + 1 - (0 + 1) = k + 1 by omega, rep_comm, show k + 1 - (0 + 1) = k by omega]
    · rw [pad_rep k (r / 10) (by omega), dec_big h, List.length_append, List.append_assoc, List.length_singleton]
      congr 2; omega

theorem dec_19 {q r : Nat} (hq : 1 ≤ q) (hr : r < 10000000000000000000) : decDigits (q * 10000000000000000000 + r) = decDigits q ++ (repeatL [48] (19 - (decDigits r).length) ++ decDigits r) := by
  have h := dec_join 19 q r hq (by simpa using hr)
  rw [pad_rep 18 r (by simpa using hr)] at h
  simpa using h

theorem ndig_le : ∀ (k u : Nat), 1 ≤ k → u < 10 ^ k → nDigits u ≤ k
  | 0, u, h, _ => by omega
  | k + 1, u, _, hu => by
    by_cases h : u < 10
    · rw [nDigits_small h]; omega
    · rw [nDigits_big h]
      rcases Nat.eq_zero_or_pos k with rfl | hk
      · exact absurd (by simpa using hu) h
      · rw [Nat.pow_succ] at hu
        have := ndig_le k (u / 10) hk (by omega)
        omega

/-- The powers of ten lie as the program's text lays them. -/
def Tab (w : World) : Prop := Lib.TabIs Tryd.prog w "internal/strconv.uint64pow10" .u64 Lib.pow10Tab
theorem Tab.stays {w w' : World} (h : Tab w) (hb : Below w.heap.size w w') : Tab w' := by
  obtain ⟨g, hg⟩ := Option.isSome_iff_exists.1 (show (Tryd.prog.globalNamed "internal/strconv.uint64pow10").isSome = true by kernel_rfl)
  exact Go.Joins.tab_stays hg h hb (Nat.le_refl _)

def sgn (x : Int) : List UInt8 := if x < 0 then [45] else []

theorem cat4 (a b c d : List UInt8) : Ending.returned (.string ((⟨a.toArray⟩ : ByteArray) ++ ⟨b.toArray⟩ ++ ⟨c.toArray⟩ ++ ⟨d.toArray⟩)) = .returned (.string ⟨(a ++ (b ++ (c ++ d))).toArray⟩) := by
  rw [ByteArray.mk_append_mk, ByteArray.mk_append_mk, ByteArray.mk_append_mk]; simp only [List.append_assoc]
theorem cat3 (a b c : List UInt8) : Ending.returned (.string ((⟨a.toArray⟩ : ByteArray) ++ ⟨b.toArray⟩ ++ ⟨c.toArray⟩)) = .returned (.string ⟨(a ++ (b ++ c)).toArray⟩) := by
  rw [ByteArray.mk_append_mk, ByteArray.mk_append_mk]; simp only [List.append_assoc]

theorem print_walk (x y : Int) (hi lo : Nat) (hh : hi ≤ 9223372036854775808) (hl : lo ≤ 18446744073709551615) (w : World) (htab : Tab w)
    (c : ∀ w, Calls Tryd.prog 40 #[.agg #[.int .i64 x, .int .u64 y]] w fun e w' => e = .returned (.tuple #[.int .u64 (hi : Int), .int .u64 (lo : Int)]) ∧ Below w.heap.size w w') :
    Calls Tryd.prog 27 #[.agg #[.int .i64 x, .int .u64 y]] w fun e w' => e = .returned (.string ⟨(sgn x ++ decDigits (hi * 18446744073709551616 + lo)).toArray⟩) ∧ Below w.heap.size w w' := by
  by_cases h : hi = 0
  · subst h
    have d0 : ((0 : Nat) : Int) = 0 := rfl
    have cf := fun w (h : Tab w) => sfmt_any lo (by omega) w h
    have hlen := nDigits_le20 lo (by omega)
    rw [← decDigits_length] at hlen
    clear hh hl
    rw [d0] at c
    rw [Nat.zero_mul, Nat.zero_add]
    by_cases hx : x < 0
    · rw [sgn, if_pos hx]
      go_enter Tryd.func27, Tryd.ntmps27
      go_wp2_with fail
      refine (c _).mono ?_
      rintro e w1 ⟨rfl, b1⟩
      obtain ⟨k1, k2, k3, k4⟩ := kept2 b1 (g := w.heap.size) (.int .i64 x) (.int .u64 y) (by go_size) (by go_cell) (by go_cell) (by go_cell) (by go_cell)
      have bw := joined (w := w) (by go_grown) b1
      go_wp2_with fail
      refine (cf _ (htab.stays bw)).mono ?_
      rintro e w2 ⟨rfl, b2⟩
      have bw := joined bw b2
      go_wp2
      go_ret
      exact ⟨rfl, bw⟩
    · rw [sgn, if_neg hx]
      go_enter Tryd.func27, Tryd.ntmps27
      go_wp2_with fail
      refine (c _).mono ?_
      rintro e w1 ⟨rfl, b1⟩
      obtain ⟨k1, k2, k3, k4⟩ := kept2 b1 (g := w.heap.size) (.int .i64 x) (.int .u64 y) (by go_size) (by go_cell) (by go_cell) (by go_cell) (by go_cell)
      have bw := joined (w := w) (by go_grown) b1
      go_wp2_with fail
      refine (cf _ (htab.stays bw)).mono ?_
      rintro e w2 ⟨rfl, b2⟩
      have bw := joined bw b2
      go_wp2
      go_ret
      exact ⟨rfl, bw⟩
  · have hq : hi < 10000000000000000000 := by omega
    have hN : hi * 18446744073709551616 + lo = (hi * 18446744073709551616 + lo) / 10000000000000000000 * 10000000000000000000 + (hi * 18446744073709551616 + lo) % 10000000000000000000 := by omega
    obtain ⟨q, hqe⟩ : ∃ q, q = (hi * 18446744073709551616 + lo) / 10000000000000000000 := ⟨_, rfl⟩
    obtain ⟨r, hre⟩ : ∃ r, r = (hi * 18446744073709551616 + lo) % 10000000000000000000 := ⟨_, rfl⟩
    rw [← hqe, ← hre] at hN
    have hq1 : 1 ≤ q := by omega
    have hq2 : q ≤ 18446744073709551615 := by omega
    have hr2 : r < 10000000000000000000 := by omega
    have cd := fun w => WdP.div64_any hi lo 10000000000000000000 hq (by omega) hl w
    have e1 : WdP.divQ hi lo 10000000000000000000 = q := by rw [WdP.divQ, if_pos hq, hqe]
    have e2 : WdP.divR hi lo 10000000000000000000 = r := by rw [WdP.divR, if_pos hq, hre]
    rw [e1, e2] at cd
    have hT := dec_19 hq1 hr2
    rw [hN, hT]
    have cq := fun w (h : Tab w) => sfmt_any q (by omega) w h
    have cr := fun w (h : Tab w) => sfmt_any r (by omega) w h
    have hlq := nDigits_le20 q (by omega)
    have hlr : nDigits r ≤ 19 := ndig_le 19 r (by decide) (by simpa using hr2)
    rw [← decDigits_length] at hlq hlr
    have cp := fun w => Tryd.strings_Repeat ⟨#[48]⟩ (19 - (decDigits r).length) w (by omega) (by have : ByteArray.size ⟨#[48]⟩ = 1 := rfl; rw [this]; omega)
    have t1 : ((hi : Int) == 0) = false := beq_eq_false_iff_ne.2 (by omega)
    have t2 : ((q : Int) == 0) = false := beq_eq_false_iff_ne.2 (by omega)
    have ec : ((19 - (decDigits r).length : Nat) : Int) = 19 - ((decDigits r).length : Int) := by omega
    rw [ec] at cp
    have hlp : (repeatL [48] (19 - (decDigits r).length)).length ≤ 19 := by rw [repeatL_length]; simp
    clear ec
    clear hh hl h hq hN hqe hre hq1 hq2 hr2 e1 e2 hT
    have cast : ((10000000000000000000 : Nat) : Int) = 10000000000000000000 := rfl
    rw [cast] at cd; clear cast
    by_cases hx : x < 0
    · rw [sgn, if_pos hx]
      go_enter Tryd.func27, Tryd.ntmps27
      go_wp2_with fail
      refine (c _).mono ?_
      rintro e w1 ⟨rfl, b1⟩
      obtain ⟨k1, k2, k3, k4⟩ := kept2 b1 (g := w.heap.size) (.int .i64 x) (.int .u64 y) (by go_size) (by go_cell) (by go_cell) (by go_cell) (by go_cell)
      have bw := joined (w := w) (by go_grown) b1
      go_wp2_with fail
      refine (cd _).mono ?_
      rintro e w2 ⟨rfl, n, rfl⟩
      have bw := below_drewN bw n
      go_wp2_with fail
      refine (cr _ (htab.stays bw)).mono ?_
      rintro e w3 ⟨rfl, b2⟩
      have bw := joined bw b2
      go_wp2_with fail
      refine (cq _ (htab.stays bw)).mono ?_
      rintro e w4 ⟨rfl, b3⟩
      have bw := joined bw b3
      go_wp2_with fail
      refine (cp _).mono ?_
      rintro e w5 ⟨rfl, b4⟩
      have bw := joined bw b4
      go_wp2
      go_ret
      exact ⟨cat4 [45] _ _ _, bw⟩
    · rw [sgn, if_neg hx]
      go_enter Tryd.func27, Tryd.ntmps27
      go_wp2_with fail
      refine (c _).mono ?_
      rintro e w1 ⟨rfl, b1⟩
      obtain ⟨k1, k2, k3, k4⟩ := kept2 b1 (g := w.heap.size) (.int .i64 x) (.int .u64 y) (by go_size) (by go_cell) (by go_cell) (by go_cell) (by go_cell)
      have bw := joined (w := w) (by go_grown) b1
      go_wp2_with fail
      refine (cd _).mono ?_
      rintro e w2 ⟨rfl, n, rfl⟩
      have bw := below_drewN bw n
      go_wp2_with fail
      refine (cr _ (htab.stays bw)).mono ?_
      rintro e w3 ⟨rfl, b2⟩
      have bw := joined bw b2
      go_wp2_with fail
      refine (cq _ (htab.stays bw)).mono ?_
      rintro e w4 ⟨rfl, b3⟩
      have bw := joined bw b3
      go_wp2_with fail
      refine (cp _).mono ?_
      rintro e w5 ⟨rfl, b4⟩
      have bw := joined bw b4
      go_wp2
      go_ret
      exact ⟨cat3 _ _ _, bw⟩

theorem abs_parts {a : Int} (ha : In a) : ∃ hi lo : Nat, hU (absI a) = (hi : Int) ∧ loI (absI a) = (lo : Int) ∧ hi ≤ 9223372036854775808 ∧ lo ≤ 18446744073709551615 ∧ hi * 18446744073709551616 + lo = (absI a).toNat := by
  obtain ⟨m, hm⟩ : ∃ m : Nat, absI a = m ∧ m ≤ 170141183460469231731687303715884105728 := by
    unfold In at ha; unfold absI; refine ⟨a.natAbs, ?_, by omega⟩; split <;> omega
  refine ⟨m / 18446744073709551616, m % 18446744073709551616, ?_, ?_, by omega, by omega, ?_⟩
  · rw [hm.1]; unfold hU; omega
  · rw [hm.1]; unfold loI; omega
  · rw [hm.1]; omega

theorem print_any {a : Int} (ha : In a) (w : World) (htab : Tab w) :
    Calls Tryd.prog 27 #[I128 a] w fun e w' => e = .returned (.string ⟨(itoa a).toArray⟩) ∧ Below w.heap.size w w' := by
  obtain ⟨hi, lo, e1, e2, h1, h2, e3⟩ := abs_parts ha
  have c := fun w => size_any ha w
  rw [e1, e2] at c
  have h := print_walk (hiI a) (loI a) hi lo h1 h2 w htab c
  have e : sgn (hiI a) ++ decDigits (hi * 18446744073709551616 + lo) = itoa a := by
    rw [e3]
    obtain ⟨hn, hp⟩ := hi_neg ha
    unfold itoa absI sgn
    by_cases g : a < 0
    · rw [if_pos (hn g), if_pos g, if_pos g, show (-a).toNat = a.natAbs by omega]; rfl
    · rw [if_neg (hp g), if_neg g, if_neg g]; rfl
  rw [e] at h
  exact h

end Go.Proofs.YtepmcblnhibfeaaDoor.Wi
