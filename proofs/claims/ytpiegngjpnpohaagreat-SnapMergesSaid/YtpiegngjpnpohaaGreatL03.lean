/- Lemmas for the laws of this seat, laid together of La3, La4, La5, La6, Sl, La9, LaB. -/
import Derived.Test.YtpiegngjpnpohaaGreatL02
import Derived.Lib.IndexBytes
import Derived.Laws.RangeAny
import Derived.Deep.OwnRows
import Derived.OwnWalk
import Derived.Laws.AppendOwn
import Derived.Deep.Draws
import Derived.WalkKit
import Derived.WalkSmall
import Derived.Maps.AppendAt
import Derived.Deep.AppendLies
import Derived.RangeFuncBox
import Derived.StillTailTactics
import Derived.Deep.RegionHeld3

namespace Go.Proofs.YtpiegngjpnpohaaGreat.La
open Go.RowKit
set_option linter.unusedVariables false
theorem suffix_drop (l p : List UInt8) (h : p.length ≤ l.length) : (l.drop (l.length - p.length) == p) = Lib.hasSuffix l p := by
  unfold Lib.hasSuffix
  rw [Bool.eq_iff_iff, beq_iff_eq, List.isSuffixOf_iff_suffix]
  constructor
  · intro e; rw [← e]; exact List.drop_suffix _ _
  · rintro ⟨t, rfl⟩
    rw [List.length_append, Nat.add_sub_cancel, List.drop_left]
theorem prefix_take (l p : List UInt8) (h : p.length ≤ l.length) : (l.take p.length == p) = Lib.hasPrefix l p := by
  unfold Lib.hasPrefix
  rw [Bool.eq_iff_iff, beq_iff_eq, List.isPrefixOf_iff_prefix]
  constructor
  · intro e; rw [← e]; exact List.take_prefix _ _
  · rintro ⟨t, rfl⟩
    rw [List.take_left]
theorem ends_any (s p : ByteArray) (hs : s.size ≤ 9223372036854775807) (hp : p.size ≤ 9223372036854775807) (w : World) :
    Calls Tryz.prog 153 #[.string s, .string p] w fun e w' => e = .returned (.bool (Lib.hasSuffix s.data.toList p.data.toList)) ∧ w' = w := by
  by_cases h : p.size ≤ s.size
  · have e : ((s.extract (s.size - p.size) s.size).toList == p.toList) = Lib.hasSuffix s.data.toList p.data.toList := by
      rw [ByteArray.toList_eq, ByteArray.toList_eq, Lib.extract_to_end, ← suffix_drop _ _ (by rw [len_data, len_data]; exact h), len_data, len_data]
    replace e := Lib.hid e
    go_enter Tryz.func153, Tryz.ntmps153
    go_wp2
    go_ret
    exact ⟨ret_bool e.out, rfl⟩
  · have e : Lib.hasSuffix s.data.toList p.data.toList = false := by
      cases hh : Lib.hasSuffix s.data.toList p.data.toList with
      | false => rfl
      | true =>
        unfold Lib.hasSuffix at hh
        have := (List.isSuffixOf_iff_suffix.1 hh).length_le
        rw [len_data, len_data] at this; omega
    replace e := Lib.hid e
    go_enter Tryz.func153, Tryz.ntmps153
    go_wp2
    go_ret
    exact ⟨ret_bool e.out.symm, rfl⟩
theorem rname_any (s : ByteArray) (hs : s.size ≤ 9223372036854775807) (w : World) :
    Calls Tryz.prog 96 #[.string s] w fun e w' => e = .returned (.bool (nameL s.data.toList)) ∧ w' = w := by
  have c0 := plain_any s true hs
  have c1 := ends_any s ⟨#[95, 98, 117, 99, 107, 101, 116]⟩ hs (by decide)
  have e1 : Lib.hasSuffix s.data.toList (ByteArray.mk #[95, 98, 117, 99, 107, 101, 116]).data.toList = Lib.hasSuffix s.data.toList sBucket := rfl
  rw [e1] at c1
  have c2 := ends_any s ⟨#[95, 115, 117, 109]⟩ hs (by decide)
  have e2 : Lib.hasSuffix s.data.toList (ByteArray.mk #[95, 115, 117, 109]).data.toList = Lib.hasSuffix s.data.toList sSum := rfl
  rw [e2] at c2
  have c3 := ends_any s ⟨#[95, 99, 111, 117, 110, 116]⟩ hs (by decide)
  have e3 : Lib.hasSuffix s.data.toList (ByteArray.mk #[95, 99, 111, 117, 110, 116]).data.toList = Lib.hasSuffix s.data.toList sCount := rfl
  rw [e3] at c3
  clear e1 e2 e3
  unfold nameL
  generalize nmL true s.data.toList = b0 at *
  generalize Lib.hasSuffix s.data.toList sBucket = b1 at *
  generalize Lib.hasSuffix s.data.toList sSum = b2 at *
  generalize Lib.hasSuffix s.data.toList sCount = b3 at *
  cases b0
  · go_enter Tryz.func96, Tryz.ntmps96
    go_wp2_with fail
    refine (c0 _).mono ?_
    rintro e w' ⟨rfl, rfl⟩
    go_wp2
    go_ret
    exact ⟨ret_bool (by simp), rfl⟩
  · cases b1
    · cases b2
      · cases b3
        · go_enter Tryz.func96, Tryz.ntmps96
          go_wp2_with fail
          refine (c0 _).mono ?_
          rintro e w' ⟨rfl, rfl⟩
          go_wp2_with fail
          refine (c1 _).mono ?_
          rintro e w' ⟨rfl, rfl⟩
          go_wp2_with fail
          refine (c2 _).mono ?_
          rintro e w' ⟨rfl, rfl⟩
          go_wp2_with fail
          refine (c3 _).mono ?_
          rintro e w' ⟨rfl, rfl⟩
          go_wp2
          go_ret
          exact ⟨ret_bool (by simp), rfl⟩
        · go_enter Tryz.func96, Tryz.ntmps96
          go_wp2_with fail
          refine (c0 _).mono ?_
          rintro e w' ⟨rfl, rfl⟩
          go_wp2_with fail
          refine (c1 _).mono ?_
          rintro e w' ⟨rfl, rfl⟩
          go_wp2_with fail
          refine (c2 _).mono ?_
          rintro e w' ⟨rfl, rfl⟩
          go_wp2_with fail
          refine (c3 _).mono ?_
          rintro e w' ⟨rfl, rfl⟩
          go_wp2
          go_ret
          exact ⟨ret_bool (by simp), rfl⟩
      · go_enter Tryz.func96, Tryz.ntmps96
        go_wp2_with fail
        refine (c0 _).mono ?_
        rintro e w' ⟨rfl, rfl⟩
        go_wp2_with fail
        refine (c1 _).mono ?_
        rintro e w' ⟨rfl, rfl⟩
        go_wp2_with fail
        refine (c2 _).mono ?_
        rintro e w' ⟨rfl, rfl⟩
        go_wp2
        go_ret
        exact ⟨ret_bool (by simp), rfl⟩
    · go_enter Tryz.func96, Tryz.ntmps96
      go_wp2_with fail
      refine (c0 _).mono ?_
      rintro e w' ⟨rfl, rfl⟩
      go_wp2_with fail
      refine (c1 _).mono ?_
      rintro e w' ⟨rfl, rfl⟩
      go_wp2
      go_ret
      exact ⟨ret_bool (by simp), rfl⟩
end Go.Proofs.YtpiegngjpnpohaaGreat.La

namespace Go.Proofs.YtpiegngjpnpohaaGreat.La
open Go.RowKit
set_option linter.unusedVariables false
theorem rlname_any (s : ByteArray) (hs : s.size ≤ 9223372036854775807) (w : World) :
    Calls Tryz.prog 98 #[.string s] w fun e w' => e = .returned (.bool (lnameL s.data.toList)) ∧ w' = w := by
  have c0 := plain_any s false hs
  have e1 : (s.toList == [108, 101]) = (s.data.toList == sLe) := by rw [ByteArray.toList_eq]; rfl
  have e2 : (s.toList == [113, 117, 97, 110, 116, 105, 108, 101]) = (s.data.toList == sQuantile) := by rw [ByteArray.toList_eq]; rfl
  have e3 : 2 ≤ s.size → ((s.extract 0 2).toList == [95, 95]) = Lib.hasPrefix s.data.toList sUnder := by
    intro h
    rw [ByteArray.toList_eq, Lib.extract_data, List.drop_zero, ← prefix_take _ _ (by rw [len_data]; exact h)]; rfl
  have e4 : ¬ 2 ≤ s.size → Lib.hasPrefix s.data.toList sUnder = false := by
    intro h
    cases hh : Lib.hasPrefix s.data.toList sUnder with
    | false => rfl
    | true =>
      unfold Lib.hasPrefix at hh
      have := (List.isPrefixOf_iff_prefix.1 hh).length_le
      rw [len_data] at this
      exact absurd this h
  unfold lnameL
  generalize nmL false s.data.toList = b0 at *
  generalize (s.data.toList == sLe) = b1 at *
  generalize (s.data.toList == sQuantile) = b2 at *
  generalize Lib.hasPrefix s.data.toList sUnder = b3 at *
  replace e3 := Lib.hid e3
  replace e4 := Lib.hid e4
  cases b0
  · clear e1 e2 e3 e4
    go_enter Tryz.func98, Tryz.ntmps98
    go_wp2_with fail
    refine (c0 _).mono ?_
    rintro e w' ⟨rfl, hw⟩
    rw [hw]
    clear hw w'
    go_wp2
    go_ret
    exact ⟨ret_bool (by simp), rfl⟩
  · cases b1
    · cases b2
      · by_cases h2 : 2 ≤ s.size
        · have h3 := e3.out h2
          have h4 : (2 : Int) ≤ (s.size : Int) := by omega
          clear e3 e4
          cases b3
          · go_enter Tryz.func98, Tryz.ntmps98
            go_wp2_with fail
            refine (c0 _).mono ?_
            rintro e w' ⟨rfl, hw⟩
            rw [hw]
            clear hw w'
            go_wp2
            go_ret
            exact ⟨ret_bool (by simp), rfl⟩
          · go_enter Tryz.func98, Tryz.ntmps98
            go_wp2_with fail
            refine (c0 _).mono ?_
            rintro e w' ⟨rfl, hw⟩
            rw [hw]
            clear hw w'
            go_wp2
            go_ret
            exact ⟨ret_bool (by simp), rfl⟩
        · have h3 := e4.out h2
          subst h3
          have h4 : ¬ (2 : Int) ≤ (s.size : Int) := by omega
          clear e3 e4
          go_enter Tryz.func98, Tryz.ntmps98
          go_wp2_with fail
          refine (c0 _).mono ?_
          rintro e w' ⟨rfl, hw⟩
          rw [hw]
          clear hw w'
          go_wp2
          go_ret
          exact ⟨ret_bool (by simp), rfl⟩
      · clear e3 e4
        go_enter Tryz.func98, Tryz.ntmps98
        go_wp2_with fail
        refine (c0 _).mono ?_
        rintro e w' ⟨rfl, hw⟩
        rw [hw]
        clear hw w'
        go_wp2
        go_ret
        exact ⟨ret_bool (by simp), rfl⟩
    · clear e2 e3 e4
      go_enter Tryz.func98, Tryz.ntmps98
      go_wp2_with fail
      refine (c0 _).mono ?_
      rintro e w' ⟨rfl, hw⟩
      rw [hw]
      clear hw w'
      go_wp2
      go_ret
      exact ⟨ret_bool (by simp), rfl⟩
theorem first_any (s : ByteArray) (hs : s.size ≤ 9223372036854775807) (w : World) :
    Calls Tryz.prog 137 #[.string s] w fun e w' => e = .returned (.bool (firstL s.data.toList)) ∧ w' = w := by
  by_cases h0 : s.size = 0
  · have e := first_nil s h0
    replace e := Lib.hid e
    go_enter Tryz.func137, Tryz.ntmps137
    go_wp2
    go_ret
    exact ⟨ret_bool e.out.symm, rfl⟩
  · have hp : 0 < s.size := by omega
    have e := first_data s hp
    have t0 : (1 : Int) ≤ (s.size : Int) := by omega
    clear h0
    by_cases h1 : s.size ≤ 64
    · have t1 : (s.size : Int) ≤ 64 := by omega
      rw [decide_eq_true h1, Bool.true_and] at e
      clear h1
      replace e := Lib.hid e
      go_enter Tryz.func137, Tryz.ntmps137
      go_wp2
      all_goals
        go_ret
        refine ⟨ret_bool ?_, rfl⟩
        rw [e.out]
        unfold digB
        first | rfl | (rw [Bool.eq_iff_iff]; simp; done) | (rw [Bool.eq_iff_iff]; simp; omega)
    · have t1 : ¬ (s.size : Int) ≤ 64 := by omega
      rw [decide_eq_false h1, Bool.false_and] at e
      clear h1
      replace e := Lib.hid e
      go_enter Tryz.func137, Tryz.ntmps137
      go_wp2
      go_ret
      exact ⟨ret_bool e.out.symm, rfl⟩
theorem all_step (p : UInt8 → Bool) (s : ByteArray) {k : Nat} (h : k < s.size) : (s.data.toList.take (k + 1)).all p = ((s.data.toList.take k).all p && p s[k]) := by
  have h1 := get_data s h
  rw [List.getElem?_eq_getElem (by rw [len_data]; exact h)] at h1
  rw [List.take_succ_eq_append_getElem (by rw [len_data]; exact h), List.all_append, Option.some.inj h1]; simp
theorem all_cut (p : UInt8 → Bool) (s : ByteArray) {k : Nat} (h : k < s.size) (hf : p s[k] = false) : s.data.toList.all p = false := by
  rw [← List.take_append_drop (k + 1) s.data.toList, List.all_append, all_step p s h, hf, Bool.and_false, Bool.false_and]
theorem all_end (p : UInt8 → Bool) (s : ByteArray) : (s.data.toList.take s.size).all p = s.data.toList.all p := by
  rw [List.take_of_length_le (by rw [len_data]; exact Nat.le_refl _)]
set_option maxHeartbeats 1000000 in
theorem name_any (s : ByteArray) (hs : s.size ≤ 9223372036854775807) (w : World) :
    Calls Tryz.prog 84 #[.string s] w fun e w' => e = .returned (.bool (nameL s.data.toList)) ∧ w' = w := by
  have c0 := first_any s hs
  unfold nameL nmL
  have c1 := Tryz.strings_HasSuffix s ⟨#[95, 98, 117, 99, 107, 101, 116]⟩
  have e1 : Lib.hasSuffix s.data.toList (ByteArray.mk #[95, 98, 117, 99, 107, 101, 116]).data.toList = Lib.hasSuffix s.data.toList sBucket := rfl
  rw [e1] at c1
  replace c1 := fun w => c1 w hs
  clear e1
  generalize Lib.hasSuffix s.data.toList sBucket = b1 at *
  have c2 := Tryz.strings_HasSuffix s ⟨#[95, 115, 117, 109]⟩
  have e2 : Lib.hasSuffix s.data.toList (ByteArray.mk #[95, 115, 117, 109]).data.toList = Lib.hasSuffix s.data.toList sSum := rfl
  rw [e2] at c2
  replace c2 := fun w => c2 w hs
  clear e2
  generalize Lib.hasSuffix s.data.toList sSum = b2 at *
  have c3 := Tryz.strings_HasSuffix s ⟨#[95, 99, 111, 117, 110, 116]⟩
  have e3 : Lib.hasSuffix s.data.toList (ByteArray.mk #[95, 99, 111, 117, 110, 116]).data.toList = Lib.hasSuffix s.data.toList sCount := rfl
  rw [e3] at c3
  replace c3 := fun w => c3 w hs
  clear e3
  generalize Lib.hasSuffix s.data.toList sCount = b3 at *
  obtain ⟨b0, hb0⟩ : ∃ b, b = firstL s.data.toList := ⟨_, rfl⟩
  rw [← hb0] at c0 ⊢
  clear hb0
  cases b0
  · go_enter Tryz.func84, Tryz.ntmps84
    go_wp2_with fail
    refine (c0 _).mono ?_
    rintro e w' ⟨rfl, hw⟩
    rw [hw]
    clear hw w'
    go_wp2
    go_ret
    exact ⟨ret_bool (by simp), rfl⟩
  · cases b1
    · cases b2
      · cases b3
        · go_enter Tryz.func84, Tryz.ntmps84
          go_wp2_with fail
          refine (c0 _).mono ?_
          rintro e w' ⟨rfl, hw⟩
          rw [hw]
          clear hw w'
          go_wp2_with fail
          refine (c1 _).mono ?_
          rintro e w' ⟨rfl, hw⟩
          rw [hw]
          clear hw w'
          go_wp2_with fail
          refine (c2 _).mono ?_
          rintro e w' ⟨rfl, hw⟩
          rw [hw]
          clear hw w'
          go_wp2_with fail
          refine (c3 _).mono ?_
          rintro e w' ⟨rfl, hw⟩
          rw [hw]
          clear hw w'
          go_wp2_with fail
          go_loopw [21] (fun i wr => ∃ k : Nat, k ≤ s.size ∧ i = .int .i64 k ∧ Hid ((s.data.toList.take k).all (isR true) = true) ∧ w = wr) (fun i _ => s.size - (RowKit.intOf i).toNat)
          case atStart => exact ⟨0, Nat.zero_le _, rfl, by show (s.data.toList.take 0).all _ = true; simp, rfl⟩
          case round =>
            obtain ⟨k, hk, rfl, hall, rfl⟩ := hrel
            by_cases hlt : k < s.size
            · have hn := all_step (isR true) s hlt
              rw [hall.out, Bool.true_and] at hn
              have hf := all_cut (isR true) s hlt
              have cl := letter_any (s[k].toNat : Int)
              have e58 := is58 s[k]
              unfold isR isLB at hn hf
              replace hn := Lib.hid hn
              replace hf := Lib.hid hf
              replace hall := Lib.hid hall
              have hcase : (isL (s[k].toNat : Int) = true) ∨ (isL (s[k].toNat : Int) = false ∧ (s[k] == 58) = true) ∨ (isL (s[k].toNat : Int) = false ∧ (s[k] == 58) = false) := by
                cases isL (s[k].toNat : Int) <;> cases (s[k] == 58) <;> simp
              rcases hcase with h1 | ⟨h1, h2⟩ | ⟨h1, h2⟩
              · have hgo : (s.data.toList.take (k + 1)).all (isR true) = true := by unfold isR isLB; rw [hn.out, h1]; simp
                rw [h1] at cl
                replace hgo := Lib.hid hgo
                clear e58
                go_wp2_with fail
                refine (cl _).mono ?_
                rintro e w' ⟨rfl, rfl⟩
                go_wp2
                exact ⟨⟨k + 1, by omega, by go_num, hgo.out, trivial⟩, by simp [RowKit.intOf]; omega⟩
              · have hgo : (s.data.toList.take (k + 1)).all (isR true) = true := by unfold isR isLB; rw [hn.out, h1, h2]; rfl
                rw [h1] at cl
                rw [h2] at e58
                have e58' : ((s[k].toNat : Int) != 58) = false := by rw [bne, e58]; rfl
                replace hgo := Lib.hid hgo
                go_wp2_with fail
                refine (cl _).mono ?_
                rintro e w' ⟨rfl, rfl⟩
                go_wp2
                exact ⟨⟨k + 1, by omega, by go_num, hgo.out, trivial⟩, by simp [RowKit.intOf]; omega⟩
              · have hno : s.data.toList.all (isR true) = false := hf.out (by rw [h1, h2]; rfl)
                rw [h1] at cl
                rw [h2] at e58
                have e58' : ((s[k].toNat : Int) != 58) = true := by rw [bne, e58]; rfl
                replace hno := Lib.hid hno
                go_wp2_with fail
                refine (cl _).mono ?_
                rintro e w' ⟨rfl, rfl⟩
                go_wp2
                go_ret
                exact ⟨ret_bool (by rw [hno.out]; simp), rfl⟩
            · obtain rfl : k = s.size := by omega
              have hyes : s.data.toList.all (isR true) = true := by rw [← all_end]; exact hall.out
              replace hyes := Lib.hid hyes
              go_wp2
              go_ret
              exact ⟨ret_bool (by rw [hyes.out]; simp), rfl⟩
        · go_enter Tryz.func84, Tryz.ntmps84
          go_wp2_with fail
          refine (c0 _).mono ?_
          rintro e w' ⟨rfl, hw⟩
          rw [hw]
          clear hw w'
          go_wp2_with fail
          refine (c1 _).mono ?_
          rintro e w' ⟨rfl, hw⟩
          rw [hw]
          clear hw w'
          go_wp2_with fail
          refine (c2 _).mono ?_
          rintro e w' ⟨rfl, hw⟩
          rw [hw]
          clear hw w'
          go_wp2_with fail
          refine (c3 _).mono ?_
          rintro e w' ⟨rfl, hw⟩
          rw [hw]
          clear hw w'
          go_wp2
          go_ret
          exact ⟨ret_bool (by simp), rfl⟩
      · go_enter Tryz.func84, Tryz.ntmps84
        go_wp2_with fail
        refine (c0 _).mono ?_
        rintro e w' ⟨rfl, hw⟩
        rw [hw]
        clear hw w'
        go_wp2_with fail
        refine (c1 _).mono ?_
        rintro e w' ⟨rfl, hw⟩
        rw [hw]
        clear hw w'
        go_wp2_with fail
        refine (c2 _).mono ?_
        rintro e w' ⟨rfl, hw⟩
        rw [hw]
        clear hw w'
        go_wp2
        go_ret
        exact ⟨ret_bool (by simp), rfl⟩
    · go_enter Tryz.func84, Tryz.ntmps84
      go_wp2_with fail
      refine (c0 _).mono ?_
      rintro e w' ⟨rfl, hw⟩
      rw [hw]
      clear hw w'
      go_wp2_with fail
      refine (c1 _).mono ?_
      rintro e w' ⟨rfl, hw⟩
      rw [hw]
      clear hw w'
      go_wp2
      go_ret
      exact ⟨ret_bool (by simp), rfl⟩
set_option maxHeartbeats 1000000 in
theorem lname_any (s : ByteArray) (hs : s.size ≤ 9223372036854775807) (w : World) :
    Calls Tryz.prog 86 #[.string s] w fun e w' => e = .returned (.bool (lnameL s.data.toList)) ∧ w' = w := by
  have c0 := first_any s hs
  unfold lnameL nmL
  have e1 : (s.toList == [108, 101]) = (s.data.toList == sLe) := by rw [ByteArray.toList_eq]; rfl
  have e2 : (s.toList == [113, 117, 97, 110, 116, 105, 108, 101]) = (s.data.toList == sQuantile) := by rw [ByteArray.toList_eq]; rfl
  have c3 := Tryz.strings_HasPrefix s ⟨#[95, 95]⟩
  have e3 : Lib.hasPrefix s.data.toList (ByteArray.mk #[95, 95]).data.toList = Lib.hasPrefix s.data.toList sUnder := rfl
  rw [e3] at c3
  clear e3
  generalize (s.data.toList == sLe) = b1 at *
  generalize (s.data.toList == sQuantile) = b2 at *
  generalize Lib.hasPrefix s.data.toList sUnder = b3 at *
  obtain ⟨b0, hb0⟩ : ∃ b, b = firstL s.data.toList := ⟨_, rfl⟩
  rw [← hb0] at c0 ⊢
  clear hb0
  cases b0
  · go_enter Tryz.func86, Tryz.ntmps86
    go_wp2_with fail
    refine (c0 _).mono ?_
    rintro e w' ⟨rfl, hw⟩
    rw [hw]
    clear hw w'
    go_wp2
    go_ret
    exact ⟨ret_bool (by simp), rfl⟩
  · cases b1
    · cases b2
      · cases b3
        · go_enter Tryz.func86, Tryz.ntmps86
          go_wp2_with fail
          refine (c0 _).mono ?_
          rintro e w' ⟨rfl, hw⟩
          rw [hw]
          clear hw w'
          go_wp2_with fail
          refine (c3 _).mono ?_
          rintro e w' ⟨rfl, hw⟩
          rw [hw]
          clear hw w'
          go_wp2_with fail
          go_loopw [21] (fun i wr => ∃ k : Nat, k ≤ s.size ∧ i = .int .i64 k ∧ Hid ((s.data.toList.take k).all (isR false) = true) ∧ w = wr) (fun i _ => s.size - (RowKit.intOf i).toNat)
          case atStart => exact ⟨0, Nat.zero_le _, rfl, by show (s.data.toList.take 0).all _ = true; simp, rfl⟩
          case round =>
            obtain ⟨k, hk, rfl, hall, rfl⟩ := hrel
            by_cases hlt : k < s.size
            · have hn := all_step (isR false) s hlt
              rw [hall.out, Bool.true_and] at hn
              have hf := all_cut (isR false) s hlt
              have cl := letter_any (s[k].toNat : Int)
              have e58 := is58 s[k]
              unfold isR isLB at hn hf
              replace hn := Lib.hid hn
              replace hf := Lib.hid hf
              replace hall := Lib.hid hall
              clear e58
              by_cases h1 : isL (s[k].toNat : Int) = true
              · have hgo : (s.data.toList.take (k + 1)).all (isR false) = true := by unfold isR isLB; rw [hn.out, h1]; simp
                rw [h1] at cl
                replace hgo := Lib.hid hgo
                go_wp2_with fail
                refine (cl _).mono ?_
                rintro e w' ⟨rfl, rfl⟩
                go_wp2
                exact ⟨⟨k + 1, by omega, by go_num, hgo.out, trivial⟩, by simp [RowKit.intOf]; omega⟩
              · have h1 : isL (s[k].toNat : Int) = false := by simpa using h1
                have hno : s.data.toList.all (isR false) = false := hf.out (by rw [h1]; rfl)
                rw [h1] at cl
                replace hno := Lib.hid hno
                go_wp2_with fail
                refine (cl _).mono ?_
                rintro e w' ⟨rfl, rfl⟩
                go_wp2
                go_ret
                exact ⟨ret_bool (by rw [hno.out]; simp), rfl⟩
            · obtain rfl : k = s.size := by omega
              have hyes : s.data.toList.all (isR false) = true := by rw [← all_end]; exact hall.out
              replace hyes := Lib.hid hyes
              go_wp2
              go_ret
              exact ⟨ret_bool (by rw [hyes.out]; simp), rfl⟩
        · go_enter Tryz.func86, Tryz.ntmps86
          go_wp2_with fail
          refine (c0 _).mono ?_
          rintro e w' ⟨rfl, hw⟩
          rw [hw]
          clear hw w'
          go_wp2_with fail
          refine (c3 _).mono ?_
          rintro e w' ⟨rfl, hw⟩
          rw [hw]
          clear hw w'
          go_wp2
          go_ret
          exact ⟨ret_bool (by simp), rfl⟩
      · go_enter Tryz.func86, Tryz.ntmps86
        go_wp2_with fail
        refine (c0 _).mono ?_
        rintro e w' ⟨rfl, hw⟩
        rw [hw]
        clear hw w'
        go_wp2
        go_ret
        exact ⟨ret_bool (by simp), rfl⟩
    · go_enter Tryz.func86, Tryz.ntmps86
      go_wp2_with fail
      refine (c0 _).mono ?_
      rintro e w' ⟨rfl, hw⟩
      rw [hw]
      clear hw w'
      go_wp2
      go_ret
      exact ⟨ret_bool (by simp), rfl⟩
end Go.Proofs.YtpiegngjpnpohaaGreat.La

namespace Go.Proofs.YtpiegngjpnpohaaGreat.La
open Go.RowKit
set_option linter.unusedVariables false
def badAt (s : ByteArray) (pos : Nat) : Bool := (Utf8.decode s pos).1 == 65533 && !Lib.hasPrefix (s.data.toList.drop pos) [239, 191, 189]
def utfF (s : ByteArray) : Nat → Nat → Bool
  | 0, _ => true
  | b + 1, pos => if pos < s.size then !badAt s pos && utfF s b (pos + (Utf8.decode s pos).2) else true
def utfB (s : ByteArray) : Bool := utfF s s.size 0
theorem width_pos (s : ByteArray) (pos : Nat) (h : pos < s.size) : 1 ≤ (Utf8.decode s pos).2 := by
  by_cases ha : (s[pos]'h).toNat < 128
  · rw [decode_ascii s pos h ha]
    exact Nat.le_refl _
  · exact (decode_high s pos h (by omega)).2
theorem rune_i (s : ByteArray) (pos : Nat) : (((Utf8.decode s pos).1 : Int) == 65533) = ((Utf8.decode s pos).1 == 65533) := by
  rw [Bool.eq_iff_iff, beq_iff_eq, beq_iff_eq]; omega
set_option maxRecDepth 100000 in
theorem right_any (s : ByteArray) (hs : s.size ≤ 9223372036854775807) (w : World) :
    Calls Tryz.prog 140 #[.string s] w fun e w' => e = .returned (.bool (utfB s)) ∧ ∃ pos, w' = w.iter s pos := by
  go_enter Tryz.func140, Tryz.ntmps140
  go_wp2
  go_loopw [2] (fun n w' => ∃ (pos b : Nat), w' = w.iter s pos ∧ n = .bool false ∧ Hid (utfF s b pos = utfB s) ∧ s.size ≤ pos + b) (fun _ w' => s.size - w'.iterPos w.heap.size)
  case atStart => exact ⟨0, s.size, rfl, rfl, rfl, by omega⟩
  case round =>
    obtain ⟨pos, b, rfl, rfl, hc, hb⟩ := hrel
    by_cases hp : pos < s.size
    · have hnx : ∀ ty, (Instr.next (.pointer (some ⟨w.heap.size, 0, none⟩)) true ty).run Tryz.prog (w.iter s pos) = _ := fun ty => run_next_any w s pos ty hp
      have hwd := width_pos s pos hp
      obtain ⟨b', rfl⟩ : ∃ b', b = b' + 1 := ⟨b - 1, by omega⟩
      have hstep : utfB s = (!badAt s pos && utfF s b' (pos + (Utf8.decode s pos).2)) := by rw [← hc.out, utfF, if_pos hp]
      have hri := rune_i s pos
      unfold badAt at hstep
      have cp := fun w => Tryz.strings_HasPrefix (s.extract pos s.size) ⟨#[239, 191, 189]⟩ w
      have ep : Lib.hasPrefix (s.extract pos s.size).data.toList (ByteArray.mk #[239, 191, 189]).data.toList = Lib.hasPrefix (s.data.toList.drop pos) [239, 191, 189] := by
        rw [Lib.extract_to_end]
      rw [ep] at cp
      clear ep hc
      generalize ((Utf8.decode s pos).1 == 65533) = q1 at *
      generalize Lib.hasPrefix (s.data.toList.drop pos) [239, 191, 189] = q2 at *
      replace hstep := Lib.hid hstep
      cases q1
      · go_wp2
        exact ⟨⟨pos + (Utf8.decode s pos).2, b', rfl, rfl, by show utfF s b' _ = utfB s; rw [hstep.out]; simp, by omega⟩, by simp; omega⟩
      · cases q2
        · go_wp2_with fail
          refine (cp _).mono ?_
          rintro e w' ⟨rfl, rfl⟩
          go_wp2
          go_ret
          exact ⟨ret_bool (by rw [hstep.out]; simp), _, rfl⟩
        · go_wp2_with fail
          refine (cp _).mono ?_
          rintro e w' ⟨rfl, rfl⟩
          go_wp2
          exact ⟨⟨pos + (Utf8.decode s pos).2, b', rfl, rfl, by show utfF s b' _ = utfB s; rw [hstep.out]; simp, by omega⟩, by simp; omega⟩
    · have hnx : ∀ ty, (Instr.next (.pointer (some ⟨w.heap.size, 0, none⟩)) true ty).run Tryz.prog (w.iter s pos) = _ := fun ty => run_next_end w s pos ty hp
      have hend : utfB s = true := by
        rw [← hc.out]
        cases b with
        | zero => rfl
        | succ b => rw [utfF, if_neg hp]
      replace hend := Lib.hid hend
      clear hc
      go_wp2
      go_ret
      exact ⟨ret_bool hend.out.symm, _, rfl⟩
end Go.Proofs.YtpiegngjpnpohaaGreat.La

namespace Go.Proofs.YtpiegngjpnpohaaGreat.La
open Go.RowKit
set_option linter.unusedVariables false
theorem only_setCell {a w : World} {g : Nat} (h : a.grownBy w (some g)) {p : Addr} (hp : p.block = g ∨ a.heap.size ≤ p.block) (u : Value) : a.grownBy (w.setCell p u) (some g) :=
  ⟨h.os, h.tape, h.output, by simpa [World.setCell] using h.size, fun i hi hne => (Below.heap_setCell w p u i (by
    rintro rfl
    rcases hp with hp | hp
    · exact hne (by rw [hp])
    · omega)).trans (h.block i hi hne)⟩
theorem only_set {a w : World} {g : Nat} (h : a.grownBy w (some g)) (o : Nat) (u : Value) : a.grownBy (w.setCell ⟨g, o, none⟩ u) (some g) := only_setCell (p := ⟨g, o, none⟩) h (Or.inl rfl) u
theorem only_refl (a : World) (row : Option Nat) : a.grownBy a row := World.grownBy.refl a row
structure Rdr (w : World) (g : Nat) (s : ByteArray) (p er bad : Int) : Prop where
  lt : g < w.heap.size
  c0 : w.cell? ⟨g, 0, none⟩ = some (.string s)
  c1 : w.cell? ⟨g, 1, none⟩ = some (.int .i64 p)
  c2 : w.cell? ⟨g, 2, none⟩ = some (.int .i64 er)
  c3 : w.cell? ⟨g, 3, none⟩ = some (.int .i64 bad)
  f1 : w.frozen? ⟨g, 1, none⟩ = false
  f2 : w.frozen? ⟨g, 2, none⟩ = false
  f3 : w.frozen? ⟨g, 3, none⟩ = false
theorem Rdr.stays {w w' : World} {g : Nat} {s : ByteArray} {p er bad : Int} (h : Rdr w g s p er bad) (l : Below w.heap.size w w') : Rdr w' g s p er bad :=
  ⟨Nat.lt_of_lt_of_le h.lt l.size, (l.cell h.lt).trans h.c0, (l.cell h.lt).trans h.c1, (l.cell h.lt).trans h.c2, (l.cell h.lt).trans h.c3, (l.frozen h.lt).trans h.f1, (l.frozen h.lt).trans h.f2, (l.frozen h.lt).trans h.f3⟩
theorem Rdr.drewN {w : World} {g : Nat} {s : ByteArray} {p er bad : Int} (h : Rdr w g s p er bad) (n : Nat) : Rdr (w.drewN n) g s p er bad := h.stays (below_drewN (Below.refl _ _) n)
theorem Rdr.set1 {w : World} {g : Nat} {s : ByteArray} {p er bad : Int} (h : Rdr w g s p er bad) (q : Int) : Rdr (w.setCell ⟨g, 1, none⟩ (.int .i64 q)) g s q er bad := by
  obtain ⟨a, b0, b1, b2, b3, b4, b5, b6⟩ := h
  exact ⟨by simpa using a, by go_cell, by go_cell, by go_cell, by go_cell, by go_cell, by go_cell, by go_cell⟩
end Go.Proofs.YtpiegngjpnpohaaGreat.La

namespace Go.Proofs.YtpiegngjpnpohaaGreat.Sl
open Go.RowKit
set_option linter.unusedVariables false
structure Rd (w : World) (B s : Nat) (A : Option Addr) (xs : List Value) (n : Nat) : Prop where
  len : xs.length = n * s
  cells : 0 < n → ∃ b off, A = some ⟨b, off, none⟩ ∧ b < B ∧ ∀ j u, xs[j]? = some u → w.cell? ⟨b, off + j, none⟩ = some u
section
variable {w w' : World} {B B' s n : Nat} {A : Option Addr} {xs : List Value}
theorem Rd.nil (w : World) (B s : Nat) (A : Option Addr) : Rd w B s A [] 0 := ⟨by simp, fun h => absurd h (by omega)⟩
theorem Rd.below (h : Rd w B s A xs n) (hb : Below B w w') : Rd w' B s A xs n :=
  ⟨h.len, fun hn => by
    obtain ⟨b, off, e, hB, hc⟩ := h.cells hn
    exact ⟨b, off, e, hB, fun j u hu => (hb.cell (p := ⟨b, off + j, none⟩) hB).trans (hc j u hu)⟩⟩
theorem Rd.mono (h : Rd w B s A xs n) (hB : B ≤ B') : Rd w B' s A xs n :=
  ⟨h.len, fun hn => by
    obtain ⟨b, off, e, h1, hc⟩ := h.cells hn
    exact ⟨b, off, e, by omega, hc⟩⟩
theorem Rd.kept (h : Rd w B s A xs n) {row : Option Nat} (hg : w.grownBy w' row) (hB : B ≤ w.heap.size) (hr : ∀ k, row = some k → B ≤ k) : Rd w' B s A xs n :=
  h.below ((Below.refl B w).grown hg hB hr)
theorem Rd.take (h : Rd w B s A xs n) {k : Nat} (hk : k ≤ n) : Rd w B s A (xs.take (k * s)) k :=
  ⟨by rw [List.length_take, h.len]; have := Nat.mul_le_mul_right s hk; omega, fun hn => by
    obtain ⟨b, off, e, h1, hc⟩ := h.cells (by omega)
    exact ⟨b, off, e, h1, fun j u hu => hc j u (by
      rw [List.getElem?_take] at hu
      by_cases hj : j < k * s
      · rw [if_pos hj] at hu; exact hu
      · rw [if_neg hj] at hu; cases hu)⟩⟩
def cutA (A : Option Addr) (k cap s : Nat) : Option Addr := if cap = k then A else A.map (·.add (k * s))
theorem Rd.cut (h : Rd w B s A xs n) {k cap : Nat} (hk : k ≤ n) (hc : n ≤ cap) : Rd w B s (cutA A k cap s) (xs.drop (k * s)) (n - k) :=
  ⟨by rw [List.length_drop, h.len, Nat.sub_mul], fun hn => by
    obtain ⟨b, off, rfl, h1, hcell⟩ := h.cells (by omega)
    unfold cutA
    rw [if_neg (by omega)]
    refine ⟨b, off + k * s, ?_, h1, fun j u hu => ?_⟩
    · simp only [Option.map_some, Addr.add]
      by_cases hz : k * s = 0
      · rw [if_pos hz, hz, Nat.add_zero]
      · rw [if_neg hz]
    · rw [List.getElem?_drop] at hu
      have := hcell _ _ hu
      rwa [show off + k * s + j = off + (k * s + j) by omega]⟩
theorem Rd.of_own {base : Nat} {e : TypeId} {c : Nat} (h : w.ownsRow base e s (.slice A n c) n xs) (hB : ∀ g, A = some g → g.block < B) : Rd w B s A xs n := by
  refine ⟨h.1, fun hn => ?_⟩
  rcases h.2 with ⟨hv, h0⟩ | ⟨g, cap, cur, hv, hb, hh, _, _, _, ht⟩
  · omega
  · injection hv with h1 h2 h3
    refine ⟨g, 0, h1, hB _ h1, fun j u hu => ?_⟩
    have := h.cells (g := g) (by rw [h1]; rfl) j u hu
    rw [Nat.zero_add]
    simp only [Addr.add] at this
    by_cases hj : j = 0
    · subst hj; simpa using this
    · simpa [hj] using this
end
theorem Rd.new (w : World) (cs : List Value) (t : TypeId) (s n : Nat) (h : cs.length = n * s) : Rd (w.alloc (.cells cs.toArray t)) (w.heap.size + 1) s (some ⟨w.heap.size, 0, none⟩) cs n :=
  ⟨h, fun _ => ⟨w.heap.size, 0, rfl, Nat.lt_succ_self _, fun j u hu => by
    have e : (w.alloc (.cells cs.toArray t)).heap[w.heap.size]? = some (.cells cs.toArray t (0, 0)) := heap_alloc_new w _
    simp only [World.cell?, e, Nat.zero_add]
    simpa using hu⟩⟩
theorem own_form {w : World} {base n s : Nat} {e : TypeId} {v : Value} {xs : List Value} (h : w.ownsRow base e s v n xs) : ∃ A c, v = .slice A n c ∧ n ≤ c ∧ c ≤ maxLen ∧ (∀ g, A = some g → base ≤ g.block ∧ g.block < w.heap.size ∧ g = ⟨g.block, 0, none⟩) := by
  rcases h.2 with ⟨rfl, rfl⟩ | ⟨g, cap, cur, rfl, hb, hh, h1, h2, _⟩
  · exact ⟨none, 0, rfl, by omega, by simp [maxLen], fun g hg => by cases hg⟩
  · exact ⟨_, cap, rfl, h1, h2, fun g' hg => by cases hg; exact ⟨hb, (Array.getElem?_eq_some_iff.1 hh).1, rfl⟩⟩
theorem own_base {w : World} {base base' n s : Nat} {e : TypeId} {v : Value} {xs : List Value} (h : w.ownsRow base e s v n xs) (hb : base' ≤ base) : w.ownsRow base' e s v n xs := by
  refine ⟨h.1, ?_⟩
  rcases h.2 with h' | ⟨g, cap, cur, h1, h2, h3⟩
  · exact .inl h'
  · exact .inr ⟨g, cap, cur, h1, by omega, h3⟩
theorem own_below {w w' : World} {base n s B : Nat} {e : TypeId} {v : Value} {xs : List Value} (h : w.ownsRow base e s v n xs) (hb : Below B w w') (hB : ∀ g, v.ownBlock = some g → g < B) : w'.ownsRow base e s v n xs := by
  refine ⟨h.1, ?_⟩
  rcases h.2 with h' | ⟨g, cap, cur, h1, h2, h3, h4⟩
  · exact .inl h'
  · exact .inr ⟨g, cap, cur, h1, h2, by rw [hb.block g (hB g (by rw [h1]; rfl))]; exact h3, h4⟩
theorem own_lt {w : World} {base n s : Nat} {e : TypeId} {v : Value} {xs : List Value} (h : w.ownsRow base e s v n xs) : ∀ k, v.ownBlock = some k → base ≤ k ∧ k < w.heap.size := h.lt
theorem own_later {w w' : World} {base n s : Nat} {e : TypeId} {v : Value} {xs : List Value} (h : w.ownsRow base e s v n xs) (hb : Below w.heap.size w w') : w'.ownsRow base e s v n xs :=
  own_below h hb fun g hg => (h.lt g hg).2
section
variable {P : Program}
theorem run_sizeOf {e : TypeId} {i : TypeInfo} (hi : P.info? e = some i) (W : World) : (sizeOf e).run P W = .ok i.size W := by simp [sizeOf, typeInfo, hi]
theorem run_cut (t e : TypeId) (ht : P.underlying t = some (.slice e)) {i : TypeInfo} {s : Nat} (hi : P.info? e = some i) (hs : i.size = s) (A : Option Addr) (n cap k : Nat) (hk : k ≤ n) (x : Int) (hx : x = (k : Int)) (W : World) :
    (Instr.slice t (.slice A n cap) (some (.int .i64 x)) none none).run P W = .ok (.slice (cutA A k cap s) (n - k) (cap - k)) W := by
  have he : P.elem t = e := by simp [Program.elem, ht]
  have ht' : P.underlying t = some (.slice (P.elem t)) := by rw [he]; exact ht
  subst hx
  rw [run_slice_l W t A n cap ht' .i64 (k : Int) (by omega) (by omega), he, run_sizeOf hi, hs]
  simp [Result.andThen, sliced, cutA]
theorem run_head (t e : TypeId) (ht : P.underlying t = some (.slice e)) {i : TypeInfo} {s : Nat} (hi : P.info? e = some i) (hs : i.size = s) (A : Option Addr) (n cap k : Nat) (hk : k ≤ cap) (x : Int) (hx : x = (k : Int)) (W : World) :
    (Instr.slice t (.slice A n cap) none (some (.int .i64 x)) none).run P W = .ok (.slice A k cap) W := by
  have he : P.elem t = e := by simp [Program.elem, ht]
  have ht' : P.underlying t = some (.slice (P.elem t)) := by rw [he]; exact ht
  subst hx
  rw [run_slice_h W t A n cap ht' .i64 (k : Int) (by omega) (by omega), he, run_sizeOf hi, hs]
  cases A <;> simp [Result.andThen, sliced, Addr.add]
theorem run_append_nothing {w : World} (base : Nat) (t ty e : TypeId) {i : TypeInfo} (s : Nat) (ht : P.underlying t = some (.slice e)) (hi : P.info? e = some i)
    {v : Value} {n : Nat} {xs : List Value} (h : w.ownsRow base e s v n xs) (c : Nat) : (Builtin.append_ #[t, t] ty #[v, .slice none 0 c]).run P w = .ok v w := by
  rcases h.2 with ⟨rfl, rfl⟩ | ⟨g, cap, cur, rfl, _, _, hc, _⟩
  · simp [Builtin.append_, run_underlying ht, sizeOf, typeInfo, hi, Builtin.lenOf, Builtin.firstCells]
  · simp [Builtin.append_, run_underlying ht, sizeOf, typeInfo, hi, Builtin.lenOf, Builtin.firstCells, hc, storeCells]
theorem run_append_rd {w : World} (base : Nat) (t ty e : TypeId) {i : TypeInfo} {z : Value} {s bytes : Nat} (ht : P.underlying t = some (.slice e)) (hi : P.info? e = some i) (hz : i.zero = some z)
    (hs : i.size = s) (hby : i.bytes = bytes) (hzs : z.cells.size = s) (hsz : 0 < s) {v : Value} {n : Nat} {xs : List Value} (h : w.ownsRow base e s v n xs)
    {B : Nat} {A : Option Addr} {m : Nat} (c : Nat) {ys : List Value} (hr : Rd w B s A ys m) (h1 : ∀ u ∈ ys, u.oneCell' = true) (h63 : n + m ≤ maxLen) (hb : (n + m) * bytes ≤ 140737488355328) (hbase : base ≤ w.heap.size) :
    ∃ v' w', (Builtin.append_ #[t, t] ty #[v, .slice A m c]).run P w = .ok v' w' ∧ w'.ownsRow base e s v' (n + m) (xs ++ ys) ∧ w.grownBy w' v.ownBlock ∧ (v'.ownBlock = v.ownBlock ∨ v'.ownBlock = some w.heap.size) := by
  cases A with
  | none =>
    have hm : m = 0 := by
      rcases Nat.eq_zero_or_pos m with h0 | h0
      · exact h0
      · obtain ⟨b, off, e, _⟩ := hr.cells h0; cases e
    subst hm
    obtain rfl : ys = [] := List.eq_nil_of_length_eq_zero (by simpa using hr.len)
    exact ⟨v, w, run_append_nothing base t ty e s ht hi h c, by simpa using h, World.grownBy.refl w _, .inl rfl⟩
  | some ad =>
    have hc : ∀ j u, ys[j]? = some u → w.cell? (ad.add j) = some u := by
      intro j u hu
      rcases Nat.eq_zero_or_pos m with h0 | h0
      · subst h0
        obtain rfl : ys = [] := List.eq_nil_of_length_eq_zero (by simpa using hr.len)
        simp at hu
      · obtain ⟨b, off, e, _, hcc⟩ := hr.cells h0
        cases e
        have := hcc j u hu
        simp only [Addr.add]
        by_cases hj : j = 0
        · subst hj; simpa using this
        · simpa [hj] using this
    obtain ⟨v', w', x1, x2, x3, _, x5⟩ := run_append_own_at (P := P) w base t ty e i z s bytes ht hi hz hs hby hzs hsz v n xs h ad m c ys hr.len hc h1 h63 hb hbase
    exact ⟨v', w', x1, x2, x3, x5⟩
theorem wpList_append_rd {w : World} {ops : Array Oper} {rest : List Oper} {o : Oper} {a : Act} {Q : Exit → Act → World → Prop} (hgd : o.guard = none) (x y : Operand) (t : TypeId)
    (ho : o.op = .call { callee := .builtin .append, args := #[x, y], argTypes := #[t, t] })
    (base : Nat) (e : TypeId) {i : TypeInfo} {z : Value} {s bytes : Nat} (ht : P.underlying t = some (.slice e)) (hi : P.info? e = some i) (hz : i.zero = some z)
    (hs : i.size = s) (hby : i.bytes = bytes) (hzs : z.cells.size = s) (hsz : 0 < s) {v : Value} {n : Nat} {xs : List Value} (hx : a.eval x = v) (h : w.ownsRow base e s v n xs)
    {B : Nat} {A : Option Addr} {m c : Nat} {ys : List Value} (hy : a.eval y = .slice A m c) (hr : Rd w B s A ys m) (h1 : ∀ u ∈ ys, u.oneCell' = true) (h63 : n + m ≤ maxLen) (hb : (n + m) * bytes ≤ 140737488355328) (hbase : base ≤ w.heap.size)
    (hk : ∀ A' c' w', w'.ownsRow base e s (.slice A' (n + m) c') (n + m) (xs ++ ys) → Below base w w' → w.heap.size ≤ w'.heap.size → wpList P ops Q rest (a.put o.dst (.slice A' (n + m) c')) w') : wpList P ops Q (o :: rest) a w := by
  refine wpList_plain hgd fun _ hK => ?_
  obtain ⟨v', w', x1, x2, x3, x4⟩ := run_append_rd base t o.type e ht hi hz hs hby hzs hsz h c hr h1 h63 hb hbase
  obtain ⟨A', c', rfl, _⟩ := own_form x2
  unfold Oper.wp execOp
  simp only [ho, resolve, invoke, builtin, Sem.run_bind, Sem.run_pure, Result.andThen_ok, List.map_toArray, List.map_cons, List.map_nil, hx, hy, x1]
  exact hK _ _ (hk A' c' w' x2 ((Below.refl base w).grown x3 hbase fun k hk => (h.lt k hk).1) x3.size)
end
end Go.Proofs.YtpiegngjpnpohaaGreat.Sl

namespace Go.Proofs.YtpiegngjpnpohaaGreat.La
open Go.RowKit Go.Proofs.YtpiegngjpnpohaaGreat.Sl
set_option linter.unusedVariables false
def valE (s : ByteArray) : Int := if 1024 < s.size then 4 else if utfB s = true then 0 else 11
theorem iter_below (w : World) (s : ByteArray) (pos : Nat) : Below w.heap.size w (w.iter s pos) := (Below.refl _ w).alloc (Nat.le_refl _) _
theorem value_any (s : ByteArray) (hs : s.size ≤ 9223372036854775807) (w : World) :
    Calls Tryz.prog 85 #[.string s] w fun e w' => e = .returned (.int .i64 (valE s)) ∧ Below w.heap.size w w' := by
  by_cases h1 : 1024 < s.size
  · have e : valE s = 4 := by rw [valE, if_pos h1]
    have h2 : (1024 : Int) < (s.size : Int) := by omega
    rw [e]; clear e h1
    go_enter Tryz.func85, Tryz.ntmps85
    go_wp2
    go_ret
    exact ⟨rfl, Below.refl _ _⟩
  · have h2 : ¬ (1024 : Int) < (s.size : Int) := by omega
    have c := right_any s hs
    by_cases h3 : utfB s = true
    · have e : valE s = 0 := by rw [valE, if_neg h1, if_pos h3]
      rw [h3] at c
      rw [e]; clear e h1 h3
      go_enter Tryz.func85, Tryz.ntmps85
      go_wp2_with fail
      refine (c _).mono ?_
      rintro e w' ⟨rfl, pos, rfl⟩
      go_wp2
      go_ret
      exact ⟨rfl, iter_below w s pos⟩
    · have e : valE s = 11 := by rw [valE, if_neg h1, if_neg h3]
      have h3 : utfB s = false := by simpa using h3
      rw [h3] at c
      rw [e]; clear e h1 h3
      go_enter Tryz.func85, Tryz.ntmps85
      go_wp2_with fail
      refine (c _).mono ?_
      rintro e w' ⟨rfl, pos, rfl⟩
      go_wp2
      go_ret
      exact ⟨rfl, iter_below w s pos⟩
def bc (l : List UInt8) : List Value := l.map fun b => .int .u8 (b.toNat : Int)
theorem own_only {w w' : World} {base n s g : Nat} {e : TypeId} {v : Value} {xs : List Value} (h : w.ownsRow base e s v n xs) (k : w.grownBy w' (some g)) (hg : g < base) : w'.ownsRow base e s v n xs := by
  refine ⟨h.1, ?_⟩
  rcases h.2 with h' | ⟨b, cap, cur, h1, h2, h3, h4⟩
  · exact .inl h'
  · exact .inr ⟨b, cap, cur, h1, h2, by rw [k.block b (Array.getElem?_eq_some_iff.1 h3).1 (by simp; omega)]; exact h3, h4⟩
end Go.Proofs.YtpiegngjpnpohaaGreat.La

namespace Go.Proofs.YtpiegngjpnpohaaGreat.La
open Go.RowKit Go.Proofs.YtpiegngjpnpohaaGreat.Sl
set_option linter.unusedVariables false
abbrev Lab := ByteArray × ByteArray
def labV (x : Lab) : List Value := [.string x.1, .string x.2]
def labs (l : List Lab) : List Value := l.flatMap labV
theorem labs_len (l : List Lab) : (labs l).length = l.length * 2 := by
  induction l with
  | nil => rfl
  | cons x l ih => simp [labs, labV] at *; omega
theorem labs_get : ∀ (l : List Lab) (i : Nat) (h : i < l.length), (labs l)[i * 2]? = some (.string l[i].1) ∧ (labs l)[i * 2 + 1]? = some (.string l[i].2) := by
  intro l
  induction l with
  | nil => intro i h; simp at h
  | cons x l ih =>
    intro i h
    cases i with
    | zero => exact ⟨rfl, rfl⟩
    | succ i =>
      have h' : i < l.length := by simpa using h
      have := ih i h'
      rw [show (i + 1) * 2 = i * 2 + 2 by omega, show i * 2 + 2 + 1 = i * 2 + 1 + 2 by omega]
      exact this
def blt (a b : ByteArray) : Bool := Op.bytesLess a.toList b.toList
def behE (l : List Lab) (name : ByteArray) : Int :=
  match l.getLast? with
  | none => 0
  | some x => if blt x.1 name = true then 0 else if x.1 = name then 10 else 15
theorem behind_any {w : World} {B c : Nat} {A : Option Addr} {l : List Lab} (name : ByteArray) (h : Rd w B 2 A (labs l) l.length) (hl : l.length ≤ 1000000) :
    Calls Tryz.prog 87 #[.slice A l.length c, .string name] w fun e w' => e = .returned (.int .i64 (behE l name)) ∧ w' = w := by
  rcases Nat.eq_zero_or_pos l.length with h0 | h0
  · have e : behE l name = 0 := by rw [List.eq_nil_of_length_eq_zero h0]; rfl
    rw [e, h0]
    clear h hl e
    go_enter Tryz.func87, Tryz.ntmps87
    go_wp2
    go_ret
    exact ⟨rfl, rfl⟩
  · obtain ⟨b, off, rfl, hb, hc⟩ := h.cells h0
    obtain ⟨m, hm⟩ : ∃ m, l.length = m + 1 := ⟨l.length - 1, by omega⟩
    have hml : m < l.length := by omega
    have hx := hc _ _ (labs_get l m hml).1
    have hlast : l.getLast? = some l[m] := by rw [List.getLast?_eq_getElem?, hm]; simp
    obtain ⟨n, hn⟩ : ∃ n, n = l.length := ⟨_, rfl⟩
    obtain ⟨x, hxx⟩ : ∃ x, x = l[m].1 := ⟨_, rfl⟩
    have hsub : (n : Int) - 1 = (m : Int) := by omega
    have hn0 : ((n : Int) == 0) = false := by simp; omega
    have hmn : (m : Int) < (n : Int) := by omega
    have hm0 : (0 : Int) ≤ (m : Int) := by omega
    have hmw : wrap64 (m : Int) = (m : Int) := by unfold wrap64; omega
    have hadd : ∀ k, (⟨b, off, none⟩ : Addr).add k = ⟨b, off + k, none⟩ := fun k => WideShapes.add_plain b off k
    rw [← hn]
    unfold behE
    rw [hlast]
    simp only []
    rw [← hxx]
    rw [← hxx] at hx
    clear hc h hl hlast hxx hn h0
    by_cases t1 : blt x name = true
    · rw [if_pos t1]
      unfold blt at t1
      go_enter Tryz.func87, Tryz.ntmps87
      go_wp2
      go_ret
      exact ⟨rfl, rfl⟩
    · rw [if_neg t1]
      have t1 : Op.bytesLess x.toList name.toList = false := by simpa [blt] using t1
      by_cases t2 : x = name
      · rw [if_pos t2]
        subst t2
        have t2 : (x.toList == x.toList) = true := by simp
        go_enter Tryz.func87, Tryz.ntmps87
        go_wp2
        go_ret
        exact ⟨rfl, rfl⟩
      · rw [if_neg t2]
        have t2 : (x.toList == name.toList) = false := by
          rw [beq_eq_false_iff_ne]; intro e; apply t2
          rw [ByteArray.toList_eq, ByteArray.toList_eq] at e
          exact ByteArray.ext (Array.toList_inj.1 e)
        go_enter Tryz.func87, Tryz.ntmps87
        go_wp2
        go_ret
        exact ⟨rfl, rfl⟩
end Go.Proofs.YtpiegngjpnpohaaGreat.La
