/- Values: right UTF-8, as the program looks at it. -/
import Derived.Test.YtgjcdhcbniholaaGreatLa4
import Derived.Laws.RangeAny
namespace Go.Proofs.YtgjcdhcbniholaaGreat.La
open Go.RowKit
set_option linter.unusedVariables false

/-- No rune can be read at a place. -/
def badAt (s : ByteArray) (pos : Nat) : Bool := (Utf8.decode s pos).1 == 65533 && !Lib.hasPrefix (s.data.toList.drop pos) [239, 191, 189]
def utfF (s : ByteArray) : Nat → Nat → Bool
  | 0, _ => true
  | b + 1, pos => if pos < s.size then !badAt s pos && utfF s b (pos + (Utf8.decode s pos).2) else true
/-- Right UTF-8. -/
def utfB (s : ByteArray) : Bool := utfF s s.size 0

theorem width_pos (s : ByteArray) (pos : Nat) (h : pos < s.size) : 1 ≤ (Utf8.decode s pos).2 := by
  by_cases ha : (s[pos]'h).toNat < 128
  · rw [decode_ascii s pos h ha]
    exact Nat.le_refl _
  · exact (decode_high s pos h (by omega)).2

theorem rune_i (s : ByteArray) (pos : Nat) : (((Utf8.decode s pos).1 : Int) == 65533) = ((Utf8.decode s pos).1 == 65533) := by
  rw [Bool.eq_iff_iff, beq_iff_eq, beq_iff_eq]; omega

set_option maxRecDepth 100000 in
theorem right_any (s : ByteArray) (hs : s.size ≤ 9223372036854775807) (w : World) :
    Calls Tryz.prog 56 #[.string s] w fun e w' => e = .returned (.bool (utfB s)) ∧ ∃ pos, w' = w.iter s pos := by
  go_enter Tryz.func56, Tryz.ntmps56
  go_wp2
  go_loopw [2] (fun n w' => ∃ (pos b : Nat), w' = w.iter s pos ∧ n = .bool false ∧ Hid (utfF s b pos = utfB s) ∧ s.size ≤ pos + b) (fun _ w' => s.size - w'.iterPos w.heap.size)
  case atStart => exact ⟨0, s.size, rfl, rfl, rfl, by omega⟩
  case round =>
    obtain ⟨pos, b, rfl, rfl, hc, hb⟩ := hrel
    by_cases hp : pos < s.size
    · have hnx : ∀ ty, (Instr.next (.pointer (some ⟨w.heap.size, 0, none⟩)) true ty).run Tryz.prog (w.iter s pos) = _ := fun ty => run_next_any w s pos ty hp
      have hwd := width_pos s pos hp
      obtain ⟨b', rfl⟩ : ∃ b', b = b' + 1 := ⟨b - 1, by omega⟩
      have hstep : utfB s = (!badAt s pos && utfF s b' (pos + (Utf8.decode s pos).2)) := by rw [← hc.out, utfF, if_pos hp]
      have hri := rune_i s pos
      unfold badAt at hstep
      have cp := fun w => Tryz.strings_HasPrefix (s.extract pos s.size) ⟨#[239, 191, 189]⟩ w
      have ep : Lib.hasPrefix (s.extract pos s.size).data.toList (ByteArray.mk #[239, 191, 189]).data.toList = Lib.hasPrefix (s.data.toList.drop pos) [239, 191, 189] := by
        rw [Lib.extract_to_end]
      rw [ep] at cp
      clear ep hc
      generalize ((Utf8.decode s pos).1 == 65533) = q1 at *
      generalize Lib.hasPrefix (s.data.toList.drop pos) [239, 191, 189] = q2 at *
      replace hstep := Lib.hid hstep
      cases q1
      · go_wp2
        exact ⟨⟨pos + (Utf8.decode s pos).2, b', rfl, rfl, by show utfF s b' _ = utfB s; rw [hstep.out]; simp, by omega⟩, by simp; omega⟩
      · cases q2
        · go_wp2_with fail
          refine (cp _).mono ?_
          rintro e w' ⟨rfl, rfl⟩
          go_wp2
          go_ret
          exact ⟨ret_bool (by rw [hstep.out]; simp), _, rfl⟩
        · go_wp2_with fail
          refine (cp _).mono ?_
          rintro e w' ⟨rfl, rfl⟩
          go_wp2
          exact ⟨⟨pos + (Utf8.decode s pos).2, b', rfl, rfl, by show utfF s b' _ = utfB s; rw [hstep.out]; simp, by omega⟩, by simp; omega⟩
    · have hnx : ∀ ty, (Instr.next (.pointer (some ⟨w.heap.size, 0, none⟩)) true ty).run Tryz.prog (w.iter s pos) = _ := fun ty => run_next_end w s pos ty hp
      have hend : utfB s = true := by
        rw [← hc.out]
        cases b with
        | zero => rfl
        | succ b => rw [utfF, if_neg hp]
      replace hend := Lib.hid hend
      clear hc
      go_wp2
      go_ret
      exact ⟨ret_bool hend.out.symm, _, rfl⟩

end Go.Proofs.YtgjcdhcbniholaaGreat.La
