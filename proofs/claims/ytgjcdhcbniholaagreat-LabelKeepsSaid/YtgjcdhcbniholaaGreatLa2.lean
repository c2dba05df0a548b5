/- Names: the document's plain, ends, Name, LabelName. -/
import Derived.Test.YtgjcdhcbniholaaGreatLa1
namespace Go.Proofs.YtgjcdhcbniholaaGreat.La
open Go.RowKit
set_option linter.unusedVariables false

def digB (b : UInt8) : Bool := decide (48 ≤ (b.toNat : Int) ∧ (b.toNat : Int) ≤ 57)
/-- 1 to 64 bytes, no digit first. -/
def firstL : List UInt8 → Bool
  | [] => false
  | b :: r => decide (r.length + 1 ≤ 64) && !digB b
/-- .. of a row. -/
def nmL (colon : Bool) (l : List UInt8) : Bool := firstL l && l.all (isR colon)

def sBucket : List UInt8 := [95, 98, 117, 99, 107, 101, 116]
def sSum : List UInt8 := [95, 115, 117, 109]
def sCount : List UInt8 := [95, 99, 111, 117, 110, 116]
def sLe : List UInt8 := [108, 101]
def sQuantile : List UInt8 := [113, 117, 97, 110, 116, 105, 108, 101]
def sUnder : List UInt8 := [95, 95]

/-- A family's name. -/
def nameL (l : List UInt8) : Bool := nmL true l && (!Lib.hasSuffix l sBucket && (!Lib.hasSuffix l sSum && !Lib.hasSuffix l sCount))
/-- A label's name. -/
def lnameL (l : List UInt8) : Bool := nmL false l && (!(l == sLe) && (!(l == sQuantile) && !Lib.hasPrefix l sUnder))

theorem row_all (colon : Bool) (l : List UInt8) : ((rowL colon l).length = l.length) ↔ l.all (isR colon) = true := by
  induction l with
  | nil => simp [rowL]
  | cons a r ih =>
    by_cases ha : isR colon a = true
    · have e : rowL colon (a :: r) = a :: rowL colon r := by simp [rowL, ha]
      rw [e]; simp [ha]; simpa using ih
    · have e : rowL colon (a :: r) = [] := by simp [rowL, ha]
      rw [e]; simp [ha]

theorem first_data (s : ByteArray) (h : 0 < s.size) : firstL s.data.toList = (decide (s.size ≤ 64) && !digB s[0]) := by
  have h1 := len_data s
  have h2 := get_data s h
  cases hl : s.data.toList with
  | nil => rw [hl] at h1; simp at h1; omega
  | cons b r =>
    rw [hl] at h1 h2
    simp at h1 h2
    rw [firstL, h1, h2]

theorem first_nil (s : ByteArray) (h : s.size = 0) : firstL s.data.toList = false := by
  have h1 := len_data s
  have : s.data.toList = [] := List.eq_nil_of_length_eq_zero (by omega)
  rw [this]; rfl

theorem plain_any (s : ByteArray) (colon : Bool) (hs : s.size ≤ 9223372036854775807) (w : World) :
    Calls Tryz.prog 53 #[.string s, .bool colon] w fun e w' => e = .returned (.bool (nmL colon s.data.toList)) ∧ w' = w := by
  by_cases h0 : s.size = 0
  · have e : nmL colon s.data.toList = false := by rw [nmL, first_nil s h0]; rfl
    replace e := Lib.hid e
    go_enter Tryz.func53, Tryz.ntmps53
    go_wp2
    go_ret
    exact ⟨ret_bool e.out.symm, rfl⟩
  · have hp : 0 < s.size := by omega
    have hf := first_data s hp
    by_cases h1 : 64 < s.size
    · have e : nmL colon s.data.toList = false := by rw [nmL, hf, decide_eq_false (by omega)]; rfl
      have t1 : ¬ (s.size : Int) ≤ 64 := by omega
      replace e := Lib.hid e
      clear hf h0
      go_enter Tryz.func53, Tryz.ntmps53
      go_wp2
      go_ret
      exact ⟨ret_bool e.out.symm, rfl⟩
    · have t0 : (1 : Int) ≤ (s.size : Int) := by omega
      have t1 : (s.size : Int) ≤ 64 := by omega
      have c := row_any s 0 colon hs (Nat.zero_le _)
      rw [List.drop_zero] at c
      have hra := row_all colon s.data.toList
      rw [len_data] at hra
      rw [decide_eq_true (show s.size ≤ 64 by omega), Bool.true_and] at hf
      obtain ⟨R, hR⟩ : ∃ R, R = (rowL colon s.data.toList).length := ⟨_, rfl⟩
      rw [← hR] at c hra
      have e0 : ((0 : Nat) : Int) = 0 := rfl
      rw [e0] at c
      by_cases hq : R = s.size
      · have e : nmL colon s.data.toList = !digB s[0] := by rw [nmL, hf, hra.1 hq, Bool.and_true]
        have e2 : ((R : Int) == (s.size : Int)) = true := beq_iff_eq.2 (by omega)
        replace e := Lib.hid e
        clear hf h0 hra hR hq h1
        go_enter Tryz.func53, Tryz.ntmps53
        go_wp2_with fail
        refine (c _).mono ?_
        rintro e w' ⟨rfl, rfl⟩
        go_wp2
        all_goals
          go_ret
          refine ⟨ret_bool ?_, rfl⟩
          rw [e.out]
          unfold digB
          first | rfl | (rw [Bool.eq_iff_iff]; simp; omega)
      · have e : nmL colon s.data.toList = false := by
          rw [nmL]
          have : s.data.toList.all (isR colon) = false := by
            cases hh : s.data.toList.all (isR colon) with
            | false => rfl
            | true => exact absurd (hra.2 hh) hq
          rw [this, Bool.and_false]
        have e2 : ((R : Int) == (s.size : Int)) = false := beq_eq_false_iff_ne.2 (by omega)
        replace e := Lib.hid e
        clear hf h0 hra hR hq h1
        go_enter Tryz.func53, Tryz.ntmps53
        go_wp2_with fail
        refine (c _).mono ?_
        rintro e w' ⟨rfl, rfl⟩
        go_wp2
        go_ret
        exact ⟨ret_bool e.out.symm, rfl⟩

end Go.Proofs.YtgjcdhcbniholaaGreat.La
