/- Names: the document's ends, Name, LabelName; the program's first, Name, LabelName. -/
import Derived.Test.YtgjcdhcbniholaaGreatLa2
import Derived.Lib.IndexBytes
namespace Go.Proofs.YtgjcdhcbniholaaGreat.La
open Go.RowKit
set_option linter.unusedVariables false

theorem suffix_drop (l p : List UInt8) (h : p.length ≤ l.length) : (l.drop (l.length - p.length) == p) = Lib.hasSuffix l p := by
  unfold Lib.hasSuffix
  rw [Bool.eq_iff_iff, beq_iff_eq, List.isSuffixOf_iff_suffix]
  constructor
  · intro e; rw [← e]; exact List.drop_suffix _ _
  · rintro ⟨t, rfl⟩
    rw [List.length_append, Nat.add_sub_cancel, List.drop_left]

theorem prefix_take (l p : List UInt8) (h : p.length ≤ l.length) : (l.take p.length == p) = Lib.hasPrefix l p := by
  unfold Lib.hasPrefix
  rw [Bool.eq_iff_iff, beq_iff_eq, List.isPrefixOf_iff_prefix]
  constructor
  · intro e; rw [← e]; exact List.take_prefix _ _
  · rintro ⟨t, rfl⟩
    rw [List.take_left]

theorem ends_any (s p : ByteArray) (hs : s.size ≤ 9223372036854775807) (hp : p.size ≤ 9223372036854775807) (w : World) :
    Calls Tryz.prog 54 #[.string s, .string p] w fun e w' => e = .returned (.bool (Lib.hasSuffix s.data.toList p.data.toList)) ∧ w' = w := by
  by_cases h : p.size ≤ s.size
  · have e : ((s.extract (s.size - p.size) s.size).toList == p.toList) = Lib.hasSuffix s.data.toList p.data.toList := by
      rw [ByteArray.toList_eq, ByteArray.toList_eq, Lib.extract_to_end, ← suffix_drop _ _ (by rw [len_data, len_data]; exact h), len_data, len_data]
    replace e := Lib.hid e
    go_enter Tryz.func54, Tryz.ntmps54
    go_wp2
    go_ret
    exact ⟨ret_bool e.out, rfl⟩
  · have e : Lib.hasSuffix s.data.toList p.data.toList = false := by
      cases hh : Lib.hasSuffix s.data.toList p.data.toList with
      | false => rfl
      | true =>
        unfold Lib.hasSuffix at hh
        have := (List.isSuffixOf_iff_suffix.1 hh).length_le
        rw [len_data, len_data] at this; omega
    replace e := Lib.hid e
    go_enter Tryz.func54, Tryz.ntmps54
    go_wp2
    go_ret
    exact ⟨ret_bool e.out.symm, rfl⟩

theorem rname_any (s : ByteArray) (hs : s.size ≤ 9223372036854775807) (w : World) :
    Calls Tryz.prog 26 #[.string s] w fun e w' => e = .returned (.bool (nameL s.data.toList)) ∧ w' = w := by
  have c0 := plain_any s true hs
  have c1 := ends_any s ⟨#[95, 98, 117, 99, 107, 101, 116]⟩ hs (by decide)
  have e1 : Lib.hasSuffix s.data.toList (ByteArray.mk #[95, 98, 117, 99, 107, 101, 116]).data.toList = Lib.hasSuffix s.data.toList sBucket := rfl
  rw [e1] at c1
  have c2 := ends_any s ⟨#[95, 115, 117, 109]⟩ hs (by decide)
  have e2 : Lib.hasSuffix s.data.toList (ByteArray.mk #[95, 115, 117, 109]).data.toList = Lib.hasSuffix s.data.toList sSum := rfl
  rw [e2] at c2
  have c3 := ends_any s ⟨#[95, 99, 111, 117, 110, 116]⟩ hs (by decide)
  have e3 : Lib.hasSuffix s.data.toList (ByteArray.mk #[95, 99, 111, 117, 110, 116]).data.toList = Lib.hasSuffix s.data.toList sCount := rfl
  rw [e3] at c3
  clear e1 e2 e3
  unfold nameL
  generalize nmL true s.data.toList = b0 at *
  generalize Lib.hasSuffix s.data.toList sBucket = b1 at *
  generalize Lib.hasSuffix s.data.toList sSum = b2 at *
  generalize Lib.hasSuffix s.data.toList sCount = b3 at *
  cases b0
  · go_enter Tryz.func26, Tryz.ntmps26
    go_wp2_with fail
    refine (c0 _).mono ?_
    rintro e w' ⟨rfl, rfl⟩
    go_wp2
    go_ret
    exact ⟨ret_bool (by simp), rfl⟩
  · cases b1
    · cases b2
      · cases b3
        · go_enter Tryz.func26, Tryz.ntmps26
          go_wp2_with fail
          refine (c0 _).mono ?_
          rintro e w' ⟨rfl, rfl⟩
          go_wp2_with fail
          refine (c1 _).mono ?_
          rintro e w' ⟨rfl, rfl⟩
          go_wp2_with fail
          refine (c2 _).mono ?_
          rintro e w' ⟨rfl, rfl⟩
          go_wp2_with fail
          refine (c3 _).mono ?_
          rintro e w' ⟨rfl, rfl⟩
          go_wp2
          go_ret
          exact ⟨ret_bool (by simp), rfl⟩
        · go_enter Tryz.func26, Tryz.ntmps26
          go_wp2_with fail
          refine (c0 _).mono ?_
          rintro e w' ⟨rfl, rfl⟩
          go_wp2_with fail
          refine (c1 _).mono ?_
          rintro e w' ⟨rfl, rfl⟩
          go_wp2_with fail
          refine (c2 _).mono ?_
          rintro e w' ⟨rfl, rfl⟩
          go_wp2_with fail
          refine (c3 _).mono ?_
          rintro e w' ⟨rfl, rfl⟩
          go_wp2
          go_ret
          exact ⟨ret_bool (by simp), rfl⟩
      · go_enter Tryz.func26, Tryz.ntmps26
        go_wp2_with fail
        refine (c0 _).mono ?_
        rintro e w' ⟨rfl, rfl⟩
        go_wp2_with fail
        refine (c1 _).mono ?_
        rintro e w' ⟨rfl, rfl⟩
        go_wp2_with fail
        refine (c2 _).mono ?_
        rintro e w' ⟨rfl, rfl⟩
        go_wp2
        go_ret
        exact ⟨ret_bool (by simp), rfl⟩
    · go_enter Tryz.func26, Tryz.ntmps26
      go_wp2_with fail
      refine (c0 _).mono ?_
      rintro e w' ⟨rfl, rfl⟩
      go_wp2_with fail
      refine (c1 _).mono ?_
      rintro e w' ⟨rfl, rfl⟩
      go_wp2
      go_ret
      exact ⟨ret_bool (by simp), rfl⟩

end Go.Proofs.YtgjcdhcbniholaaGreat.La
