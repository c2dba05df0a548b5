/- Names: what a row of letters is; the document's row, plain, ends, Name, LabelName. -/
import Derived.Test.YtgjcdhcbniholaaGreatLa0
namespace Go.Proofs.YtgjcdhcbniholaaGreat.La
open Go.RowKit
set_option linter.unusedVariables false

/-- A byte of a row. -/
def isR (colon : Bool) (b : UInt8) : Bool := isLB b || (colon && b == 58)
/-- The longest row from the front on. -/
def rowL (colon : Bool) (l : List UInt8) : List UInt8 := l.takeWhile (isR colon)

theorem rowL_len (colon : Bool) (l : List UInt8) : (rowL colon l).length ≤ l.length := (List.takeWhile_sublist _).length_le

theorem rowL_split (colon : Bool) (l : List UInt8) : (rowL colon l) ++ l.dropWhile (isR colon) = l := List.takeWhile_append_dropWhile

/-- The k-th byte is of the row just as long as the row goes on. -/
theorem rowL_step (colon : Bool) (l : List UInt8) {k : Nat} (h : k ≤ (rowL colon l).length) :
    (k < (rowL colon l).length ↔ ∃ b, l[k]? = some b ∧ isR colon b = true) := by
  induction l generalizing k with
  | nil => simp [rowL]
  | cons a r ih =>
    by_cases ha : isR colon a = true
    · have e : rowL colon (a :: r) = a :: rowL colon r := by simp [rowL, ha]
      rw [e] at h ⊢
      cases k with
      | zero => simp [ha]
      | succ k => simp only [List.length_cons, List.getElem?_cons_succ] at h ⊢; rw [← ih (k := k) (by omega)]; omega
    · have e : rowL colon (a :: r) = [] := by simp [rowL, ha]
      rw [e] at h ⊢
      obtain rfl : k = 0 := by simpa using h
      simp [ha]

theorem get_data (s : ByteArray) {j : Nat} (h : j < s.size) : s.data.toList[j]? = some s[j] := by
  rw [List.getElem?_eq_getElem (by simpa using h), Array.getElem_toList]; rfl
theorem len_data (s : ByteArray) : s.data.toList.length = s.size := Array.length_toList

theorem is58 (b : UInt8) : ((b.toNat : Int) == 58) = (b == 58) := by
  rw [Bool.eq_iff_iff, beq_iff_eq, beq_iff_eq]
  constructor
  · intro h; exact UInt8.toNat_inj.1 (by have : (58 : UInt8).toNat = 58 := rfl; omega)
  · rintro rfl; rfl

set_option maxHeartbeats 1000000 in
theorem row_any (s : ByteArray) (at_ : Nat) (colon : Bool) (hs : s.size ≤ 9223372036854775807) (hat : at_ ≤ s.size) (w : World) :
    Calls Tryz.prog 25 #[.string s, .int .i64 at_, .bool colon] w fun e w' => e = .returned (.int .i64 ((rowL colon (s.data.toList.drop at_)).length : Nat)) ∧ w' = w := by
  obtain ⟨R, hR⟩ : ∃ R, R = (rowL colon (s.data.toList.drop at_)).length := ⟨_, rfl⟩
  have hRl : at_ + R ≤ s.size := by
    have := rowL_len colon (s.data.toList.drop at_)
    rw [List.length_drop, len_data] at this; omega
  have hst : ∀ k, k ≤ R → (k < R ↔ ∃ b, s.data.toList[at_ + k]? = some b ∧ isR colon b = true) := by
    intro k hk
    have := rowL_step colon (s.data.toList.drop at_) (k := k) (by omega)
    rw [← hR, List.getElem?_drop] at this; exact this
  rw [← hR]
  clear hR
  replace hst := Lib.hid hst
  go_enter Tryz.func25, Tryz.ntmps25
  go_wp2
  go_loopw [7] (fun n wr => ∃ k : Nat, k ≤ R ∧ n = .int .i64 k ∧ w = wr) (fun n _ => R - (RowKit.intOf n).toNat)
  case atStart => exact ⟨0, Nat.zero_le _, rfl, rfl⟩
  case round =>
    obtain ⟨k, hk, rfl, rfl⟩ := hrel
    obtain ⟨i, hi⟩ : ∃ i, i = at_ + k := ⟨_, rfl⟩
    have hik : (at_ : Int) + (k : Int) = (i : Int) := by omega
    have hs' := hst.out k hk
    rw [← hi] at hs'
    by_cases hlt : i < s.size
    · rw [get_data s hlt] at hs'
      have hs2 : k < R ↔ isR colon s[i] = true := by simpa using hs'
      have cl := rletter_any (s[i].toNat : Int)
      have e58 := is58 s[i]
      have hcase : (isL (s[i].toNat : Int) = true ∧ k < R) ∨ (isL (s[i].toNat : Int) = false ∧ colon = true ∧ (s[i] == 58) = true ∧ k < R) ∨ (isL (s[i].toNat : Int) = false ∧ colon = true ∧ (s[i] == 58) = false ∧ k = R) ∨ (isL (s[i].toNat : Int) = false ∧ colon = false ∧ k = R) := by
        unfold isR isLB at hs2
        revert hs2
        cases isL (s[i].toNat : Int) <;> cases colon <;> cases (s[i] == 58) <;> simp <;> omega
      clear hs' hs2
      rcases hcase with ⟨h1, h2⟩ | ⟨h1, rfl, h3, h2⟩ | ⟨h1, rfl, h3, h2⟩ | ⟨h1, rfl, h2⟩
      · rw [h1] at cl
        replace hi := Lib.hid hi
        clear e58
        go_wp2_with fail
        refine (cl _).mono ?_
        rintro e w' ⟨rfl, rfl⟩
        go_wp2
        exact ⟨⟨k + 1, by omega, by go_num, trivial⟩, by simp [RowKit.intOf]; omega⟩
      · rw [h1] at cl
        rw [h3] at e58
        replace hi := Lib.hid hi
        go_wp2_with fail
        refine (cl _).mono ?_
        rintro e w' ⟨rfl, rfl⟩
        go_wp2
        exact ⟨⟨k + 1, by omega, by go_num, trivial⟩, by simp [RowKit.intOf]; omega⟩
      · rw [h1] at cl
        rw [h3] at e58
        replace hi := Lib.hid hi
        subst h2
        go_wp2_with fail
        refine (cl _).mono ?_
        rintro e w' ⟨rfl, rfl⟩
        go_wp2
        go_ret
        exact ⟨rfl, rfl⟩
      · rw [h1] at cl
        replace hi := Lib.hid hi
        subst h2
        clear e58
        go_wp2_with fail
        refine (cl _).mono ?_
        rintro e w' ⟨rfl, rfl⟩
        go_wp2
        go_ret
        exact ⟨rfl, rfl⟩
    · obtain rfl : k = R := by omega
      replace hi := Lib.hid hi
      clear hs'
      go_wp2
      go_ret
      exact ⟨rfl, rfl⟩

end Go.Proofs.YtgjcdhcbniholaaGreat.La
