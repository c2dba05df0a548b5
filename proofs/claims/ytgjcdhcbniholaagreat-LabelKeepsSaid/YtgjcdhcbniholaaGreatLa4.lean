/- Names: the document's LabelName; the program's first, Name, LabelName. -/
import Derived.Test.YtgjcdhcbniholaaGreatLa3
namespace Go.Proofs.YtgjcdhcbniholaaGreat.La
open Go.RowKit
set_option linter.unusedVariables false

theorem rlname_any (s : ByteArray) (hs : s.size ≤ 9223372036854775807) (w : World) :
    Calls Tryz.prog 39 #[.string s] w fun e w' => e = .returned (.bool (lnameL s.data.toList)) ∧ w' = w := by
  have c0 := plain_any s false hs
  have e1 : (s.toList == [108, 101]) = (s.data.toList == sLe) := by rw [ByteArray.toList_eq]; rfl
  have e2 : (s.toList == [113, 117, 97, 110, 116, 105, 108, 101]) = (s.data.toList == sQuantile) := by rw [ByteArray.toList_eq]; rfl
  have e3 : 2 ≤ s.size → ((s.extract 0 2).toList == [95, 95]) = Lib.hasPrefix s.data.toList sUnder := by
    intro h
    rw [ByteArray.toList_eq, Lib.extract_data, List.drop_zero, ← prefix_take _ _ (by rw [len_data]; exact h)]; rfl
  have e4 : ¬ 2 ≤ s.size → Lib.hasPrefix s.data.toList sUnder = false := by
    intro h
    cases hh : Lib.hasPrefix s.data.toList sUnder with
    | false => rfl
    | true =>
      unfold Lib.hasPrefix at hh
      have := (List.isPrefixOf_iff_prefix.1 hh).length_le
      rw [len_data] at this
      exact absurd this h
  unfold lnameL
  generalize nmL false s.data.toList = b0 at *
  generalize (s.data.toList == sLe) = b1 at *
  generalize (s.data.toList == sQuantile) = b2 at *
  generalize Lib.hasPrefix s.data.toList sUnder = b3 at *
  replace e3 := Lib.hid e3
  replace e4 := Lib.hid e4
  cases b0
  · clear e1 e2 e3 e4
    go_enter Tryz.func39, Tryz.ntmps39
    go_wp2_with fail
    refine (c0 _).mono ?_
    rintro e w' ⟨rfl, hw⟩
    rw [hw]
    clear hw w'
    go_wp2
    go_ret
    exact ⟨ret_bool (by simp), rfl⟩
  · cases b1
    · cases b2
      · by_cases h2 : 2 ≤ s.size
        · have h3 := e3.out h2
          have h4 : (2 : Int) ≤ (s.size : Int) := by omega
          clear e3 e4
          cases b3
          · go_enter Tryz.func39, Tryz.ntmps39
            go_wp2_with fail
            refine (c0 _).mono ?_
            rintro e w' ⟨rfl, hw⟩
            rw [hw]
            clear hw w'
            go_wp2
            go_ret
            exact ⟨ret_bool (by simp), rfl⟩
          · go_enter Tryz.func39, Tryz.ntmps39
            go_wp2_with fail
            refine (c0 _).mono ?_
            rintro e w' ⟨rfl, hw⟩
            rw [hw]
            clear hw w'
            go_wp2
            go_ret
            exact ⟨ret_bool (by simp), rfl⟩
        · have h3 := e4.out h2
          subst h3
          have h4 : ¬ (2 : Int) ≤ (s.size : Int) := by omega
          clear e3 e4
          go_enter Tryz.func39, Tryz.ntmps39
          go_wp2_with fail
          refine (c0 _).mono ?_
          rintro e w' ⟨rfl, hw⟩
          rw [hw]
          clear hw w'
          go_wp2
          go_ret
          exact ⟨ret_bool (by simp), rfl⟩
      · clear e3 e4
        go_enter Tryz.func39, Tryz.ntmps39
        go_wp2_with fail
        refine (c0 _).mono ?_
        rintro e w' ⟨rfl, hw⟩
        rw [hw]
        clear hw w'
        go_wp2
        go_ret
        exact ⟨ret_bool (by simp), rfl⟩
    · clear e2 e3 e4
      go_enter Tryz.func39, Tryz.ntmps39
      go_wp2_with fail
      refine (c0 _).mono ?_
      rintro e w' ⟨rfl, hw⟩
      rw [hw]
      clear hw w'
      go_wp2
      go_ret
      exact ⟨ret_bool (by simp), rfl⟩

theorem first_any (s : ByteArray) (hs : s.size ≤ 9223372036854775807) (w : World) :
    Calls Tryz.prog 44 #[.string s] w fun e w' => e = .returned (.bool (firstL s.data.toList)) ∧ w' = w := by
  by_cases h0 : s.size = 0
  · have e := first_nil s h0
    replace e := Lib.hid e
    go_enter Tryz.func44, Tryz.ntmps44
    go_wp2
    go_ret
    exact ⟨ret_bool e.out.symm, rfl⟩
  · have hp : 0 < s.size := by omega
    have e := first_data s hp
    have t0 : (1 : Int) ≤ (s.size : Int) := by omega
    clear h0
    by_cases h1 : s.size ≤ 64
    · have t1 : (s.size : Int) ≤ 64 := by omega
      rw [decide_eq_true h1, Bool.true_and] at e
      clear h1
      replace e := Lib.hid e
      go_enter Tryz.func44, Tryz.ntmps44
      go_wp2
      all_goals
        go_ret
        refine ⟨ret_bool ?_, rfl⟩
        rw [e.out]
        unfold digB
        first | rfl | (rw [Bool.eq_iff_iff]; simp; done) | (rw [Bool.eq_iff_iff]; simp; omega)
    · have t1 : ¬ (s.size : Int) ≤ 64 := by omega
      rw [decide_eq_false h1, Bool.false_and] at e
      clear h1
      replace e := Lib.hid e
      go_enter Tryz.func44, Tryz.ntmps44
      go_wp2
      go_ret
      exact ⟨ret_bool e.out.symm, rfl⟩

theorem all_step (p : UInt8 → Bool) (s : ByteArray) {k : Nat} (h : k < s.size) : (s.data.toList.take (k + 1)).all p = ((s.data.toList.take k).all p && p s[k]) := by
  have h1 := get_data s h
  rw [List.getElem?_eq_getElem (by rw [len_data]; exact h)] at h1
  rw [List.take_succ_eq_append_getElem (by rw [len_data]; exact h), List.all_append, Option.some.inj h1]; simp

theorem all_cut (p : UInt8 → Bool) (s : ByteArray) {k : Nat} (h : k < s.size) (hf : p s[k] = false) : s.data.toList.all p = false := by
  rw [← List.take_append_drop (k + 1) s.data.toList, List.all_append, all_step p s h, hf, Bool.and_false, Bool.false_and]

theorem all_end (p : UInt8 → Bool) (s : ByteArray) : (s.data.toList.take s.size).all p = s.data.toList.all p := by
  rw [List.take_of_length_le (by rw [len_data]; exact Nat.le_refl _)]

set_option maxHeartbeats 1000000 in
theorem name_any (s : ByteArray) (hs : s.size ≤ 9223372036854775807) (w : World) :
    Calls Tryz.prog 22 #[.string s] w fun e w' => e = .returned (.bool (nameL s.data.toList)) ∧ w' = w := by
  have c0 := first_any s hs
  unfold nameL nmL
  have c1 := Tryz.strings_HasSuffix s ⟨#[95, 98, 117, 99, 107, 101, 116]⟩
  have e1 : Lib.hasSuffix s.data.toList (ByteArray.mk #[95, 98, 117, 99, 107, 101, 116]).data.toList = Lib.hasSuffix s.data.toList sBucket := rfl
  rw [e1] at c1
  replace c1 := fun w => c1 w hs
  clear e1
  generalize Lib.hasSuffix s.data.toList sBucket = b1 at *
  have c2 := Tryz.strings_HasSuffix s ⟨#[95, 115, 117, 109]⟩
  have e2 : Lib.hasSuffix s.data.toList (ByteArray.mk #[95, 115, 117, 109]).data.toList = Lib.hasSuffix s.data.toList sSum := rfl
  rw [e2] at c2
  replace c2 := fun w => c2 w hs
  clear e2
  generalize Lib.hasSuffix s.data.toList sSum = b2 at *
  have c3 := Tryz.strings_HasSuffix s ⟨#[95, 99, 111, 117, 110, 116]⟩
  have e3 : Lib.hasSuffix s.data.toList (ByteArray.mk #[95, 99, 111, 117, 110, 116]).data.toList = Lib.hasSuffix s.data.toList sCount := rfl
  rw [e3] at c3
  replace c3 := fun w => c3 w hs
  clear e3
  generalize Lib.hasSuffix s.data.toList sCount = b3 at *
  obtain ⟨b0, hb0⟩ : ∃ b, b = firstL s.data.toList := ⟨_, rfl⟩
  rw [← hb0] at c0 ⊢
  clear hb0
  cases b0
  · go_enter Tryz.func22, Tryz.ntmps22
    go_wp2_with fail
    refine (c0 _).mono ?_
    rintro e w' ⟨rfl, hw⟩
    rw [hw]
    clear hw w'
    go_wp2
    go_ret
    exact ⟨ret_bool (by simp), rfl⟩
  · cases b1
    · cases b2
      · cases b3
        · go_enter Tryz.func22, Tryz.ntmps22
          go_wp2_with fail
          refine (c0 _).mono ?_
          rintro e w' ⟨rfl, hw⟩
          rw [hw]
          clear hw w'
          go_wp2_with fail
          refine (c1 _).mono ?_
          rintro e w' ⟨rfl, hw⟩
          rw [hw]
          clear hw w'
          go_wp2_with fail
          refine (c2 _).mono ?_
          rintro e w' ⟨rfl, hw⟩
          rw [hw]
          clear hw w'
          go_wp2_with fail
          refine (c3 _).mono ?_
          rintro e w' ⟨rfl, hw⟩
          rw [hw]
          clear hw w'
          go_wp2_with fail
          go_loopw [21] (fun i wr => ∃ k : Nat, k ≤ s.size ∧ i = .int .i64 k ∧ Hid ((s.data.toList.take k).all (isR true) = true) ∧ w = wr) (fun i _ => s.size - (RowKit.intOf i).toNat)
          case atStart => exact ⟨0, Nat.zero_le _, rfl, by show (s.data.toList.take 0).all _ = true; simp, rfl⟩
          case round =>
            obtain ⟨k, hk, rfl, hall, rfl⟩ := hrel
            by_cases hlt : k < s.size
            · have hn := all_step (isR true) s hlt
              rw [hall.out, Bool.true_and] at hn
              have hf := all_cut (isR true) s hlt
              have cl := letter_any (s[k].toNat : Int)
              have e58 := is58 s[k]
              unfold isR isLB at hn hf
              replace hn := Lib.hid hn
              replace hf := Lib.hid hf
              replace hall := Lib.hid hall
              have hcase : (isL (s[k].toNat : Int) = true) ∨ (isL (s[k].toNat : Int) = false ∧ (s[k] == 58) = true) ∨ (isL (s[k].toNat : Int) = false ∧ (s[k] == 58) = false) := by
                cases isL (s[k].toNat : Int) <;> cases (s[k] == 58) <;> simp
              rcases hcase with h1 | ⟨h1, h2⟩ | ⟨h1, h2⟩
              · have hgo : (s.data.toList.take (k + 1)).all (isR true) = true := by unfold isR isLB; rw [hn.out, h1]; simp
                rw [h1] at cl
                replace hgo := Lib.hid hgo
                clear e58
                go_wp2_with fail
                refine (cl _).mono ?_
                rintro e w' ⟨rfl, rfl⟩
                go_wp2
                exact ⟨⟨k + 1, by omega, by go_num, hgo.out, trivial⟩, by simp [RowKit.intOf]; omega⟩
              · have hgo : (s.data.toList.take (k + 1)).all (isR true) = true := by unfold isR isLB; rw [hn.out, h1, h2]; rfl
                rw [h1] at cl
                rw [h2] at e58
                have e58' : ((s[k].toNat : Int) != 58) = false := by rw [bne, e58]; rfl
                replace hgo := Lib.hid hgo
                go_wp2_with fail
                refine (cl _).mono ?_
                rintro e w' ⟨rfl, rfl⟩
                go_wp2
                exact ⟨⟨k + 1, by omega, by go_num, hgo.out, trivial⟩, by simp [RowKit.intOf]; omega⟩
              · have hno : s.data.toList.all (isR true) = false := hf.out (by rw [h1, h2]; rfl)
                rw [h1] at cl
                rw [h2] at e58
                have e58' : ((s[k].toNat : Int) != 58) = true := by rw [bne, e58]; rfl
                replace hno := Lib.hid hno
                go_wp2_with fail
                refine (cl _).mono ?_
                rintro e w' ⟨rfl, rfl⟩
                go_wp2
                go_ret
                exact ⟨ret_bool (by rw [hno.out]; simp), rfl⟩
            · obtain rfl : k = s.size := by omega
              have hyes : s.data.toList.all (isR true) = true := by rw [← all_end]; exact hall.out
              replace hyes := Lib.hid hyes
              go_wp2
              go_ret
              exact ⟨ret_bool (by rw [hyes.out]; simp), rfl⟩
        · go_enter Tryz.func22, Tryz.ntmps22
          go_wp2_with fail
          refine (c0 _).mono ?_
          rintro e w' ⟨rfl, hw⟩
          rw [hw]
          clear hw w'
          go_wp2_with fail
          refine (c1 _).mono ?_
          rintro e w' ⟨rfl, hw⟩
          rw [hw]
          clear hw w'
          go_wp2_with fail
          refine (c2 _).mono ?_
          rintro e w' ⟨rfl, hw⟩
          rw [hw]
          clear hw w'
          go_wp2_with fail
          refine (c3 _).mono ?_
          rintro e w' ⟨rfl, hw⟩
          rw [hw]
          clear hw w'
          go_wp2
          go_ret
          exact ⟨ret_bool (by simp), rfl⟩
      · go_enter Tryz.func22, Tryz.ntmps22
        go_wp2_with fail
        refine (c0 _).mono ?_
        rintro e w' ⟨rfl, hw⟩
        rw [hw]
        clear hw w'
        go_wp2_with fail
        refine (c1 _).mono ?_
        rintro e w' ⟨rfl, hw⟩
        rw [hw]
        clear hw w'
        go_wp2_with fail
        refine (c2 _).mono ?_
        rintro e w' ⟨rfl, hw⟩
        rw [hw]
        clear hw w'
        go_wp2
        go_ret
        exact ⟨ret_bool (by simp), rfl⟩
    · go_enter Tryz.func22, Tryz.ntmps22
      go_wp2_with fail
      refine (c0 _).mono ?_
      rintro e w' ⟨rfl, hw⟩
      rw [hw]
      clear hw w'
      go_wp2_with fail
      refine (c1 _).mono ?_
      rintro e w' ⟨rfl, hw⟩
      rw [hw]
      clear hw w'
      go_wp2
      go_ret
      exact ⟨ret_bool (by simp), rfl⟩

set_option maxHeartbeats 1000000 in
theorem lname_any (s : ByteArray) (hs : s.size ≤ 9223372036854775807) (w : World) :
    Calls Tryz.prog 23 #[.string s] w fun e w' => e = .returned (.bool (lnameL s.data.toList)) ∧ w' = w := by
  have c0 := first_any s hs
  unfold lnameL nmL
  have e1 : (s.toList == [108, 101]) = (s.data.toList == sLe) := by rw [ByteArray.toList_eq]; rfl
  have e2 : (s.toList == [113, 117, 97, 110, 116, 105, 108, 101]) = (s.data.toList == sQuantile) := by rw [ByteArray.toList_eq]; rfl
  have c3 := Tryz.strings_HasPrefix s ⟨#[95, 95]⟩
  have e3 : Lib.hasPrefix s.data.toList (ByteArray.mk #[95, 95]).data.toList = Lib.hasPrefix s.data.toList sUnder := rfl
  rw [e3] at c3
  clear e3
  generalize (s.data.toList == sLe) = b1 at *
  generalize (s.data.toList == sQuantile) = b2 at *
  generalize Lib.hasPrefix s.data.toList sUnder = b3 at *
  obtain ⟨b0, hb0⟩ : ∃ b, b = firstL s.data.toList := ⟨_, rfl⟩
  rw [← hb0] at c0 ⊢
  clear hb0
  cases b0
  · go_enter Tryz.func23, Tryz.ntmps23
    go_wp2_with fail
    refine (c0 _).mono ?_
    rintro e w' ⟨rfl, hw⟩
    rw [hw]
    clear hw w'
    go_wp2
    go_ret
    exact ⟨ret_bool (by simp), rfl⟩
  · cases b1
    · cases b2
      · cases b3
        · go_enter Tryz.func23, Tryz.ntmps23
          go_wp2_with fail
          refine (c0 _).mono ?_
          rintro e w' ⟨rfl, hw⟩
          rw [hw]
          clear hw w'
          go_wp2_with fail
          refine (c3 _).mono ?_
          rintro e w' ⟨rfl, hw⟩
          rw [hw]
          clear hw w'
          go_wp2_with fail
          go_loopw [21] (fun i wr => ∃ k : Nat, k ≤ s.size ∧ i = .int .i64 k ∧ Hid ((s.data.toList.take k).all (isR false) = true) ∧ w = wr) (fun i _ => s.size - (RowKit.intOf i).toNat)
          case atStart => exact ⟨0, Nat.zero_le _, rfl, by show (s.data.toList.take 0).all _ = true; simp, rfl⟩
          case round =>
            obtain ⟨k, hk, rfl, hall, rfl⟩ := hrel
            by_cases hlt : k < s.size
            · have hn := all_step (isR false) s hlt
              rw [hall.out, Bool.true_and] at hn
              have hf := all_cut (isR false) s hlt
              have cl := letter_any (s[k].toNat : Int)
              have e58 := is58 s[k]
              unfold isR isLB at hn hf
              replace hn := Lib.hid hn
              replace hf := Lib.hid hf
              replace hall := Lib.hid hall
              clear e58
              by_cases h1 : isL (s[k].toNat : Int) = true
              · have hgo : (s.data.toList.take (k + 1)).all (isR false) = true := by unfold isR isLB; rw [hn.out, h1]; simp
                rw [h1] at cl
                replace hgo := Lib.hid hgo
                go_wp2_with fail
                refine (cl _).mono ?_
                rintro e w' ⟨rfl, rfl⟩
                go_wp2
                exact ⟨⟨k + 1, by omega, by go_num, hgo.out, trivial⟩, by simp [RowKit.intOf]; omega⟩
              · have h1 : isL (s[k].toNat : Int) = false := by simpa using h1
                have hno : s.data.toList.all (isR false) = false := hf.out (by rw [h1]; rfl)
                rw [h1] at cl
                replace hno := Lib.hid hno
                go_wp2_with fail
                refine (cl _).mono ?_
                rintro e w' ⟨rfl, rfl⟩
                go_wp2
                go_ret
                exact ⟨ret_bool (by rw [hno.out]; simp), rfl⟩
            · obtain rfl : k = s.size := by omega
              have hyes : s.data.toList.all (isR false) = true := by rw [← all_end]; exact hall.out
              replace hyes := Lib.hid hyes
              go_wp2
              go_ret
              exact ⟨ret_bool (by rw [hyes.out]; simp), rfl⟩
        · go_enter Tryz.func23, Tryz.ntmps23
          go_wp2_with fail
          refine (c0 _).mono ?_
          rintro e w' ⟨rfl, hw⟩
          rw [hw]
          clear hw w'
          go_wp2_with fail
          refine (c3 _).mono ?_
          rintro e w' ⟨rfl, hw⟩
          rw [hw]
          clear hw w'
          go_wp2
          go_ret
          exact ⟨ret_bool (by simp), rfl⟩
      · go_enter Tryz.func23, Tryz.ntmps23
        go_wp2_with fail
        refine (c0 _).mono ?_
        rintro e w' ⟨rfl, hw⟩
        rw [hw]
        clear hw w'
        go_wp2
        go_ret
        exact ⟨ret_bool (by simp), rfl⟩
    · go_enter Tryz.func23, Tryz.ntmps23
      go_wp2_with fail
      refine (c0 _).mono ?_
      rintro e w' ⟨rfl, hw⟩
      rw [hw]
      clear hw w'
      go_wp2
      go_ret
      exact ⟨ret_bool (by simp), rfl⟩

end Go.Proofs.YtgjcdhcbniholaaGreat.La
