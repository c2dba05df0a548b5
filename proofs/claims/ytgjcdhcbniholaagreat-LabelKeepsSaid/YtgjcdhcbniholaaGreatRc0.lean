/- The document's order, behind, text. -/
import Derived.Test.YtgjcdhcbniholaaGreatLc0
import Derived.Test.YtgjcdhcbniholaaGreatUw
import Derived.Test.YtgjcdhcbniholaaGreatLaB
namespace Go.Proofs.YtgjcdhcbniholaaGreat.Rc
open Go.RowKit Go.Proofs.YtgjcdhcbniholaaGreat.La
set_option linter.unusedVariables false

theorem cmp_neg : ∀ a b : List UInt8, Lib.compareBytes b a = - Lib.compareBytes a b
  | [], [] => rfl
  | [], _ :: _ => rfl
  | _ :: _, [] => rfl
  | a :: x, b :: y => by
    rw [Lib.compareBytes, Lib.compareBytes]
    by_cases h1 : a < b
    · have h2 : ¬ b < a := fun h => by have := UInt8.lt_iff_toNat_lt.1 h; have := UInt8.lt_iff_toNat_lt.1 h1; omega
      simp [h1, h2]
    · by_cases h2 : b < a
      · simp [h1, h2]
      · simp only [h1, h2, if_false]; exact cmp_neg x y
theorem less_iff : ∀ a b : List UInt8, Op.bytesLess a b = decide (Lib.compareBytes a b = -1)
  | [], [] => rfl
  | [], _ :: _ => rfl
  | _ :: _, [] => rfl
  | a :: x, b :: y => by
    rw [Op.bytesLess, Lib.compareBytes]
    by_cases h1 : a < b
    · simp [h1]
    · by_cases h2 : b < a
      · have h3 : ¬ a = b := fun e => by subst e; exact h1 h2
        simp [h1, h2, h3]
      · have h3 : a = b := UInt8.toNat_inj.1 (by
          have a1 : ¬ a.toNat < b.toNat := fun h => h1 (UInt8.lt_iff_toNat_lt.2 h)
          have a2 : ¬ b.toNat < a.toNat := fun h => h2 (UInt8.lt_iff_toNat_lt.2 h)
          omega)
        subst h3
        simp [less_iff x y]
theorem blt_iff (a b : ByteArray) : blt a b = decide (cB a b = -1) := by
  unfold blt cB
  rw [ByteArray.toList_eq, ByteArray.toList_eq]
  exact less_iff _ _
theorem cB_neg (a b : ByteArray) : cB b a = - cB a b := cmp_neg _ _
/-- How two texts stand, out of what is less. -/
theorem cB_if (a b : ByteArray) : cB a b = if blt a b = true then -1 else if blt b a = true then 1 else 0 := by
  rw [blt_iff, blt_iff, cB_neg a b]
  have := cB_ord.range a b
  rcases this with h | h | h <;> simp [h]
theorem tl_ne {x y : ByteArray} (h : x ≠ y) : (x.toList == y.toList) = false := by
  have hne : x.toList ≠ y.toList := fun e => h (by
    rw [ByteArray.toList_eq, ByteArray.toList_eq] at e
    exact ByteArray.ext (Array.toList_inj.1 e))
  simp [hne]
theorem cB_zero (a b : ByteArray) : cB a b = 0 ↔ a = b := cB_ord.eq a b

set_option maxRecDepth 100000 in
theorem order_any (a b : ByteArray) (w : World) :
    Calls Tryz.prog 41 #[.string a, .string b] w fun e w' => e = .returned (.int .i64 (cB a b)) ∧ w' = w := by
  rw [cB_if]
  unfold blt
  by_cases h1 : Op.bytesLess a.toList b.toList = true
  · rw [if_pos h1]
    go_enter Tryz.func41, Tryz.ntmps41
    go_wp2
    go_ret
    exact ⟨rfl, rfl⟩
  · rw [if_neg h1]
    have h1 : Op.bytesLess a.toList b.toList = false := by simpa using h1
    by_cases h2 : Op.bytesLess b.toList a.toList = true
    · rw [if_pos h2]
      go_enter Tryz.func41, Tryz.ntmps41
      go_wp2
      go_ret
      exact ⟨rfl, rfl⟩
    · rw [if_neg h2]
      have h2 : Op.bytesLess b.toList a.toList = false := by simpa using h2
      go_enter Tryz.func41, Tryz.ntmps41
      go_wp2
      go_ret
      exact ⟨rfl, rfl⟩

/-- What is wrong with a name behind another one. -/
def behB (a name : ByteArray) : Int := if blt a name = true then 0 else if a = name then 10 else 15
theorem behE_last (l : List Lab) (x : Lab) (h : l.getLast? = some x) (name : ByteArray) : behE l name = behB x.1 name := by
  unfold behE
  rw [h]
  rfl
set_option maxRecDepth 100000 in
theorem rbehind_any (a b : ByteArray) (w : World) :
    Calls Tryz.prog 40 #[.string a, .string b] w fun e w' => e = .returned (.int .i64 (behB a b)) ∧ w' = w := by
  unfold behB
  by_cases h1 : a = b
  · subst h1
    have hf : blt a a = false := by rw [blt_iff, (cB_zero a a).2 rfl]; rfl
    rw [hf, if_neg (by decide), if_pos rfl]
    clear hf
    go_enter Tryz.func40, Tryz.ntmps40
    go_wp2
    go_ret
    exact ⟨rfl, rfl⟩
  · have t1 := tl_ne h1
    have hz : cB a b ≠ 0 := fun e => h1 ((cB_zero a b).1 e)
    have hr := cB_ord.range a b
    have hsw : blt a b = !blt b a := by
      rw [blt_iff, blt_iff, cB_neg a b]
      rcases hr with h | h | h
      · simp [h]
      · exact absurd h hz
      · simp [h]
    rw [hsw, if_neg h1]
    unfold blt
    clear hz hr hsw
    by_cases h2 : Op.bytesLess b.toList a.toList = true
    · rw [h2, if_neg (by decide)]
      clear h1
      go_enter Tryz.func40, Tryz.ntmps40
      go_wp2
      go_ret
      exact ⟨rfl, rfl⟩
    · have h2 : Op.bytesLess b.toList a.toList = false := by simpa using h2
      rw [h2, if_pos (by decide)]
      clear h1
      go_enter Tryz.func40, Tryz.ntmps40
      go_wp2
      go_ret
      exact ⟨rfl, rfl⟩

set_option maxRecDepth 100000 in
theorem rtext_any (s : ByteArray) (hs : s.size ≤ 9223372036854775807) (w : World) :
    Calls Tryz.prog 38 #[.string s] w fun e w' => e = .returned (.int .i64 (valE s)) ∧ w' = w := by
  unfold valE
  by_cases h1 : 1024 < s.size
  · rw [if_pos h1]
    have t1 : (1024 : Int) < (s.size : Int) := by omega
    clear h1
    go_enter Tryz.func38, Tryz.ntmps38
    go_wp2
    go_ret
    exact ⟨rfl, rfl⟩
  · rw [if_neg h1]
    have t1 : ¬ (1024 : Int) < (s.size : Int) := by omega
    have c := Ut.utf_any s (by omega)
    clear h1 hs
    cases hu : utfB s with
    | true =>
      rw [hu] at c
      rw [if_pos rfl]
      replace c := Lib.hid c
      go_enter Tryz.func38, Tryz.ntmps38
      go_wp2_with fail
      refine (c.out _).mono ?_
      rintro e w' ⟨rfl, hw⟩
      rw [hw]; clear hw w'
      go_wp2
      go_ret
      exact ⟨rfl, rfl⟩
    | false =>
      rw [hu] at c
      rw [if_neg (by decide)]
      replace c := Lib.hid c
      go_enter Tryz.func38, Tryz.ntmps38
      go_wp2_with fail
      refine (c.out _).mono ?_
      rintro e w' ⟨rfl, hw⟩
      rw [hw]; clear hw w'
      go_wp2
      go_ret
      exact ⟨rfl, rfl⟩
end Go.Proofs.YtgjcdhcbniholaaGreat.Rc
