/- awake. -/
import Derived.Test.YtgjcdhcbniholaaGreatLaF
namespace Go.Proofs.YtgjcdhcbniholaaGreat.La
open Go.RowKit Go.Proofs.YtgjcdhcbniholaaGreat.Sl
set_option linter.unusedVariables false

def tA : ByteArray := ⟨#[97, 123, 120, 61, 34, 49, 34, 125]⟩
def tB : ByteArray := ⟨#[97, 123, 125]⟩
def tC : ByteArray := ⟨#[97, 92, 110]⟩

theorem serA : serR tA = .ok ⟨#[97]⟩ [(⟨#[120]⟩, ⟨#[49]⟩)] := by kernel_rfl
theorem serB : serR tB = .bad 9 2 := by kernel_rfl
theorem unhC : unhR tC = some [97, 10] := by kernel_rfl
theorem nm1 : nameL [97, 58, 98] = true := by kernel_rfl
theorem nm2 : nameL [97, 95, 115, 117, 109] = false := by kernel_rfl
theorem nm3 : lnameL [120] = true := by kernel_rfl

theorem print_nil (s : ByteArray) (A : Option Addr) (c : Nat) (w : World) :
    Calls Tryz.prog 12 #[.string s, .slice A 0 c] w fun e w' => e = .returned (.string s) ∧ w' = w := by
  go_enter Tryz.func12, Tryz.ntmps12
  go_wp2
  go_ret
  exact ⟨rfl, rfl⟩

set_option maxRecDepth 100000 in
set_option maxHeartbeats 4000000 in
theorem awake_any (w : World) : Calls Tryz.prog 7 #[] w fun e w' => e = .returned (.bool true) ∧ Below w.heap.size w w' := by
  have c1 := parse_any tA (by decide)
  have c2 := parse_any tB (by decide)
  have c3 := unhelp_any tC (by decide)
  have c4 := name_any ⟨#[97, 58, 98]⟩ (by decide)
  have c5 := name_any ⟨#[97, 95, 115, 117, 109]⟩ (by decide)
  have c6 := lname_any ⟨#[120]⟩ (by decide)
  have c7 := print_nil ⟨#[97]⟩ none 0
  rw [serA] at c1
  rw [serB] at c2
  rw [unhC] at c3
  rw [show (⟨#[97, 58, 98]⟩ : ByteArray).data.toList = [97, 58, 98] from rfl, nm1] at c4
  rw [show (⟨#[97, 95, 115, 117, 109]⟩ : ByteArray).data.toList = [97, 95, 115, 117, 109] from rfl, nm2] at c5
  rw [show (⟨#[120]⟩ : ByteArray).data.toList = [120] from rfl, nm3] at c6
  replace c1 := Lib.hid c1
  replace c2 := Lib.hid c2
  replace c3 := Lib.hid c3
  replace c4 := Lib.hid c4
  replace c5 := Lib.hid c5
  replace c6 := Lib.hid c6
  replace c7 := Lib.hid c7
  go_enter Tryz.func7, Tryz.ntmps7
  go_wp2_with fail
  refine (c1.out w).mono ?_
  rintro e w1 ⟨A, c, rfl, ho, h1⟩
  go_wp2_with fail
  refine (c2.out w1).mono ?_
  rintro e w2 ⟨rfl, h2⟩
  go_wp2_with fail
  refine (c3.out w2).mono ?_
  rintro e w3 ⟨rfl, h3⟩
  have h23 := h2.trans (h3.mono h2.size)
  have ho3 := own_later ho h23
  obtain ⟨g, cap, hA, hg1, hg2⟩ := ho3.form (by decide)
  obtain ⟨rfl, rfl⟩ : A = some ⟨g, 0, none⟩ ∧ c = cap := by cases hA; exact ⟨rfl, rfl⟩
  have hcell : w3.cell? ⟨g, 1, none⟩ = some (.string ⟨#[49]⟩) := ho3.cellAt 1 (by decide)
  unfold unhE
  have e1 : (⟨#[97]⟩ : ByteArray).toList = [97] := by rw [ByteArray.toList_eq]
  have e2 : (⟨#[49]⟩ : ByteArray).toList = [49] := by rw [ByteArray.toList_eq]
  have e3 : (⟨#[97, 10]⟩ : ByteArray).toList = [97, 10] := by rw [ByteArray.toList_eq]
  clear ho ho3 hA h23
  go_wp2_with fail
  refine (c4.out w3).mono ?_
  rintro e w' ⟨rfl, hw⟩
  rw [hw]; clear hw w'
  go_wp2_with fail
  refine (c5.out w3).mono ?_
  rintro e w' ⟨rfl, hw⟩
  rw [hw]; clear hw w'
  go_wp2_with fail
  refine (c6.out w3).mono ?_
  rintro e w' ⟨rfl, hw⟩
  rw [hw]; clear hw w'
  go_wp2_with fail
  refine (c7.out w3).mono ?_
  rintro e w' ⟨rfl, hw⟩
  rw [hw]; clear hw w'
  go_wp2
  go_ret
  exact ⟨rfl, h1.trans ((h2.mono h1.size).trans (h3.mono (Nat.le_trans h1.size h2.size)))⟩

end Go.Proofs.YtgjcdhcbniholaaGreat.La
