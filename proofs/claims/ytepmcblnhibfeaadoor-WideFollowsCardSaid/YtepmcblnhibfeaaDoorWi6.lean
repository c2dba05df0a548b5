/- package wide's Parse. -/
import Derived.Test.YtepmcblnhibfeaaDoorWi5
import Derived.Laws.ResultCell
namespace Go.Proofs.YtepmcblnhibfeaaDoor.Wi
open Go.RowKit Go.Sort Go.Lib
set_option linter.unusedVariables false

/-- The number of a row of digits. -/
def valN : List UInt8 → Nat := List.foldl (fun v b => 10 * v + (b.toNat - 48)) 0
def isDig (b : UInt8) : Prop := 48 ≤ b.toNat ∧ b.toNat ≤ 57

theorem valN_snoc (l : List UInt8) (b : UInt8) : valN (l ++ [b]) = 10 * valN l + (b.toNat - 48) := by simp [valN]

/-- What both readers answer: the number whose text it is, or an error. -/
def Ans (l : List UInt8) (v er : Int) : Prop := (In v ∧ itoa v = l ∧ er = 0) ∨ (v = 0 ∧ er = 5 ∧ ∀ a, In a → itoa a ≠ l)

theorem dig_facts (d : Nat) (h : d < 10) : isDig (UInt8.ofNat (48 + d)) ∧ (UInt8.ofNat (48 + d)).toNat - 48 = d := by
  have e : (UInt8.ofNat (48 + d)).toNat = 48 + d := by rw [UInt8.toNat_ofNat']; omega
  unfold isDig; rw [e]; omega

theorem dec_val (u : Nat) : valN (decDigits u) = u ∧ ∀ b ∈ decDigits u, isDig b := by
  induction u using Nat.strongRecOn with
  | _ u ih =>
    by_cases h : u < 10
    · rw [decDigits_one h]
      obtain ⟨h1, h2⟩ := dig_facts u h
      refine ⟨?_, fun b hb => ?_⟩
      · have := valN_snoc [] (UInt8.ofNat (48 + u)); rw [List.nil_append, h2] at this; rw [this]; simp [valN]
      · rw [List.mem_singleton.1 hb]; exact h1
    · rw [dec_big h]
      obtain ⟨h1, h2⟩ := dig_facts (u % 10) (by omega)
      obtain ⟨i1, i2⟩ := ih (u / 10) (by omega)
      refine ⟨?_, fun b hb => ?_⟩
      · rw [valN_snoc, i1, h2]; omega
      · rcases List.mem_append.1 hb with hb | hb
        · exact i2 b hb
        · rw [List.mem_singleton.1 hb]; exact h1

/-- The parts of a text: is there a '-', and what lies behind it. -/
theorem itoa_parts (a : Int) : hasPrefix (itoa a) [45] = decide (a < 0) ∧ trimPrefix (itoa a) [45] = decDigits a.natAbs := by
  by_cases h : a < 0
  · have e : itoa a = 45 :: decDigits a.natAbs := by rw [itoa, if_pos h]
    have p : hasPrefix (itoa a) [45] = true := by rw [e]; simp [hasPrefix]
    refine ⟨by rw [p]; simp [h], ?_⟩
    rw [trimPrefix, if_pos p, e]; rfl
  · have e : itoa a = decDigits a.natAbs := by rw [itoa, if_neg h, show a.toNat = a.natAbs by omega]
    have p : hasPrefix (itoa a) [45] = false := by
      rw [e]
      cases hd : decDigits a.natAbs with
      | nil => rfl
      | cons b r =>
        have hb := (dec_val a.natAbs).2 b (by rw [hd]; exact List.mem_cons_self ..)
        have hne : (45 == b) = false := by
          rw [beq_eq_false_iff_ne]; intro h; rw [← h] at hb; unfold isDig at hb; revert hb; decide
        unfold hasPrefix
        rw [List.isPrefixOf_cons_cons, hne, Bool.false_and]
    refine ⟨by rw [p]; simp [h], ?_⟩
    rw [trimPrefix, p, e]; rfl

theorem no_long {l : List UInt8} (h : 39 < (trimPrefix l [45]).length) {a : Int} (ha : In a) : itoa a ≠ l := by
  intro e
  rw [← e, (itoa_parts a).2, decDigits_length] at h
  have := ndig_le 39 a.natAbs (by decide) (by unfold In at ha; omega)
  omega

theorem no_dig {l : List UInt8} {b : UInt8} (hb : b ∈ trimPrefix l [45]) (h : ¬ isDig b) {a : Int} : itoa a ≠ l := by
  intro e
  rw [← e, (itoa_parts a).2] at hb
  exact h ((dec_val _).2 b hb)

def red (n : Int) : Int := hiI n * 18446744073709551616 + loI n
theorem red_in (n : Int) : In (red n) := by unfold red hiI loI In; omega
theorem red_val (n : Int) : I128 (red n) = I128 n := by
  have e1 : hiI (red n) = hiI n := by unfold red hiI loI; omega
  have e2 : loI (red n) = loI n := by unfold red hiI loI; omega
  unfold I128; rw [e1, e2]
theorem red_of {a : Int} (h : In a) : red a = a := by unfold red; rw [h.hi]; unfold loI; omega

/-- What the loop has read, with its sign. -/
def sval (l : List UInt8) : Int := if hasPrefix l [45] = true then -((valN (trimPrefix l [45]) : Nat) : Int) else ((valN (trimPrefix l [45]) : Nat) : Int)

theorem sval_itoa (a : Int) : sval (itoa a) = a := by
  obtain ⟨h1, h2⟩ := itoa_parts a
  unfold sval
  rw [h1, h2, (dec_val _).1]
  by_cases h : a < 0
  · rw [if_pos (by simpa using h)]; omega
  · rw [if_neg (by simpa using h)]; omega

theorem no_other {l : List UInt8} (h : itoa (red (sval l)) ≠ l) {a : Int} (ha : In a) : itoa a ≠ l := by
  intro e
  apply h
  rw [← e, sval_itoa, red_of ha]

theorem itoa_inj {a b : Int} (h : itoa a = itoa b) : a = b := by rw [← sval_itoa a, h, sval_itoa]

theorem Ans.same {l : List UInt8} {v er v' er' : Int} (h : Ans l v er) (h' : Ans l v' er') : v = v' ∧ er = er' := by
  rcases h with ⟨h1, h2, h3⟩ | ⟨h1, h2, h3⟩ <;> rcases h' with ⟨k1, k2, k3⟩ | ⟨k1, k2, k3⟩
  · exact ⟨itoa_inj (h2.trans k2.symm), h3.trans k3.symm⟩
  · exact absurd h2 (k3 _ h1)
  · exact absurd k2 (h3 _ k1)
  · exact ⟨h1.trans k1.symm, h2.trans k2.symm⟩

end Go.Proofs.YtepmcblnhibfeaaDoor.Wi
