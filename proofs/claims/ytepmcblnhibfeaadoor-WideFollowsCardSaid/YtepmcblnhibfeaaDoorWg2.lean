/- The order of floats, as WideFollows asks of it. -/
import Derived.Test.YtepmcblnhibfeaaDoorWf5
namespace Go.Proofs.YtepmcblnhibfeaaDoor.Wf
open Go.RowKit Ieee Go.Proofs.YtepmcblnhibfeaaDoor.Wi
set_option linter.unusedVariables false

theorem word_eq (neg : Bool) (r : Nat) : double.word neg r = if neg then 9223372036854775808 + r else r := by unfold Format.word; rw [sign_double]

theorem fw_word (a : Int) : fw a = double.word (decide (a < 0)) (rung a.natAbs) := by
  rw [word_eq]; unfold fw
  by_cases h : a < 0
  · rw [if_pos h, decide_eq_true h]; rfl
  · rw [if_neg h, decide_eq_false h]; rfl

/-- The word with the other sign. -/
def ng (a : Int) : Nat := double.word (!decide (a < 0)) (rung a.natAbs)

theorem in_lt {a : Int} (h : In a) : a.natAbs < 2 ^ 128 := by unfold In at h; omega

theorem ng_run {a : Int} (h : In a) (w : World) : (Op.unary .neg (.float .f64 (fw a))).run Tryd.prog w = .ok (.float .f64 (ng a)) w := by
  have hr := rung_lt (in_lt h)
  by_cases g : a < 0
  · have e1 : fw a = 9223372036854775808 + rung a.natAbs := by rw [fw, if_pos g]
    have e2 : ng a = rung a.natAbs := by rw [ng, word_eq, decide_eq_true g]; rfl
    rw [e1, e2]
    have e : Op.negFloat .f64 (9223372036854775808 + rung a.natAbs) = rung a.natAbs := by
      show (9223372036854775808 + rung a.natAbs) ^^^ 2 ^ 63 = _
      generalize rung a.natAbs = r at *
      have h1 : 2 ^ 63 + r = 2 ^ 63 ||| r := by
        have := Nat.two_pow_add_eq_or_of_lt (i := 63) (b := r) (by omega) 1
        simpa using this
      rw [show (9223372036854775808 : Nat) = 2 ^ 63 from rfl, h1]
      apply Nat.eq_of_testBit_eq
      intro i
      rw [Nat.testBit_xor, Nat.testBit_or, Nat.testBit_two_pow]
      by_cases hi : 63 = i
      · subst hi; rw [Nat.testBit_lt_two_pow (by omega)]; rfl
      · simp [hi]
    simp [Op.unary, e]
  · have e1 : fw a = rung a.natAbs := by rw [fw, if_neg g]
    have e2 : ng a = 9223372036854775808 + rung a.natAbs := by rw [ng, word_eq, decide_eq_false g]; rfl
    rw [e1, e2]
    exact neg_run _ (by omega) w

theorem order_fw {a b : Int} (ha : In a) (hb : In b) : FloatKind.f64.format.order (fw a) (fw b) = some (compare (sg (decide (a < 0)) (rung a.natAbs)) (sg (decide (b < 0)) (rung b.natAbs))) := by
  rw [fw_word, fw_word]
  exact order_words _ _ (rung_lt (in_lt ha)) (rung_lt (in_lt hb))

theorem sg_mono {a b : Int} (h : a ≤ b) : sg (decide (a < 0)) (rung a.natAbs) ≤ sg (decide (b < 0)) (rung b.natAbs) := by
  by_cases ga : a < 0 <;> by_cases gb : b < 0
  · have := rung_mono (a := b.natAbs) (b := a.natAbs) (by omega)
    simp [sg, ga, gb]; omega
  · simp [sg, ga, gb] <;> omega
  · omega
  · have := rung_mono (a := a.natAbs) (b := b.natAbs) (by omega)
    simp [sg, ga, gb]; omega

theorem cmp_int (x y : Int) : compare x y = if x < y then Ordering.lt else if x = y then Ordering.eq else Ordering.gt := rfl

theorem not_gt {a b : Int} (ha : In a) (hb : In b) (h : a ≤ b) : (FloatKind.f64.format.order (fw a) (fw b) == some Ordering.gt) = false := by
  rw [order_fw ha hb, cmp_int]
  have := sg_mono h
  split
  · rfl
  · rw [if_pos (by omega)]; rfl
theorem not_lt {a b : Int} (ha : In a) (hb : In b) (h : b ≤ a) : (FloatKind.f64.format.order (fw a) (fw b) == some Ordering.lt) = false := by
  rw [order_fw ha hb, cmp_int]
  have := sg_mono h
  rw [if_neg (by omega)]
  split <;> rfl
theorem is_eq {a b : Int} (ha : In a) (hb : In b) (h : a = b) : (FloatKind.f64.format.order (fw a) (fw b) != some Ordering.eq) = false := by
  subst h
  rw [order_fw ha hb, cmp_int, if_neg (by omega), if_pos rfl]; rfl

theorem neg_eq {b : Int} (hb : In b) (hn : In (-b)) : (FloatKind.f64.format.order (fw (-b)) (ng b) != some Ordering.eq) = false := by
  have e : FloatKind.f64.format.order (fw (-b)) (ng b) = some (compare (sg (decide (-b < 0)) (rung (-b).natAbs)) (sg (!decide (b < 0)) (rung b.natAbs))) := by
    rw [fw_word, ng]
    exact order_words _ _ (rung_lt (in_lt hn)) (rung_lt (in_lt hb))
  have e2 : sg (decide (-b < 0)) (rung (-b).natAbs) = sg (!decide (b < 0)) (rung b.natAbs) := by
    rw [Int.natAbs_neg]
    rcases Int.lt_trichotomy b 0 with h | h | h
    · have h1 : ¬ -b < 0 := by omega
      rw [decide_eq_false h1, decide_eq_true h]; rfl
    · subst h; decide
    · have h1 : -b < 0 := by omega
      have h2 : ¬ b < 0 := by omega
      rw [decide_eq_true h1, decide_eq_false h2]; rfl
  rw [e, e2, cmp_int, if_neg (by omega), if_pos rfl]; rfl

/-- The least number is its own negative; the float is not. -/
theorem neg_least : (FloatKind.f64.format.order (fw (-170141183460469231731687303715884105728)) (ng (-170141183460469231731687303715884105728)) != some Ordering.eq) = true := by
  have hin : In (-170141183460469231731687303715884105728) := by unfold In; omega
  have e : FloatKind.f64.format.order (fw (-170141183460469231731687303715884105728)) (ng (-170141183460469231731687303715884105728)) = some (compare (sg true (rung (-170141183460469231731687303715884105728 : Int).natAbs)) (sg false (rung (-170141183460469231731687303715884105728 : Int).natAbs))) := by
    rw [fw_word, ng]
    exact order_words _ _ (rung_lt (in_lt hin)) (rung_lt (in_lt hin))
  have hp : 0 < rung (-170141183460469231731687303715884105728 : Int).natAbs := by
    rw [rung, if_neg (by decide)]
    omega
  rw [e, cmp_int]
  simp only [sg, if_true, Bool.false_eq_true, if_false]
  rw [if_pos (by omega)]; rfl

end Go.Proofs.YtepmcblnhibfeaaDoor.Wf
