/- Labels in memory; behind. -/
import Derived.Test.YtgjcdhcbniholaaGreatLaA
namespace Go.Proofs.YtgjcdhcbniholaaGreat.La
open Go.RowKit Go.Proofs.YtgjcdhcbniholaaGreat.Sl
set_option linter.unusedVariables false

abbrev Lab := ByteArray × ByteArray
def labV (x : Lab) : List Value := [.string x.1, .string x.2]
def labs (l : List Lab) : List Value := l.flatMap labV
theorem labs_len (l : List Lab) : (labs l).length = l.length * 2 := by
  induction l with
  | nil => rfl
  | cons x l ih => simp [labs, labV] at *; omega
theorem labs_snoc (l : List Lab) (x : Lab) : labs (l ++ [x]) = labs l ++ labV x := by simp [labs]
theorem labs_get : ∀ (l : List Lab) (i : Nat) (h : i < l.length), (labs l)[i * 2]? = some (.string l[i].1) ∧ (labs l)[i * 2 + 1]? = some (.string l[i].2) := by
  intro l
  induction l with
  | nil => intro i h; simp at h
  | cons x l ih =>
    intro i h
    cases i with
    | zero => exact ⟨rfl, rfl⟩
    | succ i =>
      have h' : i < l.length := by simpa using h
      have := ih i h'
      rw [show (i + 1) * 2 = i * 2 + 2 by omega, show i * 2 + 2 + 1 = i * 2 + 1 + 2 by omega]
      exact this

/-- Does the one stand before the other? -/
def blt (a b : ByteArray) : Bool := Op.bytesLess a.toList b.toList

def behE (l : List Lab) (name : ByteArray) : Int :=
  match l.getLast? with
  | none => 0
  | some x => if blt x.1 name = true then 0 else if x.1 = name then 10 else 15

/-- What behind says. -/
theorem behind_any {w : World} {B c : Nat} {A : Option Addr} {l : List Lab} (name : ByteArray) (h : Rd w B 2 A (labs l) l.length) (hl : l.length ≤ 1000000) :
    Calls Tryz.prog 29 #[.slice A l.length c, .string name] w fun e w' => e = .returned (.int .i64 (behE l name)) ∧ w' = w := by
  rcases Nat.eq_zero_or_pos l.length with h0 | h0
  · have e : behE l name = 0 := by rw [List.eq_nil_of_length_eq_zero h0]; rfl
    rw [e, h0]
    clear h hl e
    go_enter Tryz.func29, Tryz.ntmps29
    go_wp2
    go_ret
    exact ⟨rfl, rfl⟩
  · obtain ⟨b, off, rfl, hb, hc⟩ := h.cells h0
    obtain ⟨m, hm⟩ : ∃ m, l.length = m + 1 := ⟨l.length - 1, by omega⟩
    have hml : m < l.length := by omega
    have hx := hc _ _ (labs_get l m hml).1
    have hlast : l.getLast? = some l[m] := by rw [List.getLast?_eq_getElem?, hm]; simp
    obtain ⟨n, hn⟩ : ∃ n, n = l.length := ⟨_, rfl⟩
    obtain ⟨x, hxx⟩ : ∃ x, x = l[m].1 := ⟨_, rfl⟩
    have hsub : (n : Int) - 1 = (m : Int) := by omega
    have hn0 : ((n : Int) == 0) = false := by simp; omega
    have hmn : (m : Int) < (n : Int) := by omega
    have hm0 : (0 : Int) ≤ (m : Int) := by omega
    have hmw : wrap64 (m : Int) = (m : Int) := by unfold wrap64; omega
    have hadd : ∀ k, (⟨b, off, none⟩ : Addr).add k = ⟨b, off + k, none⟩ := fun k => WideShapes.add_plain b off k
    rw [← hn]
    unfold behE
    rw [hlast]
    simp only []
    rw [← hxx]
    rw [← hxx] at hx
    clear hc h hl hlast hxx hn h0
    by_cases t1 : blt x name = true
    · rw [if_pos t1]
      unfold blt at t1
      go_enter Tryz.func29, Tryz.ntmps29
      go_wp2
      go_ret
      exact ⟨rfl, rfl⟩
    · rw [if_neg t1]
      have t1 : Op.bytesLess x.toList name.toList = false := by simpa [blt] using t1
      by_cases t2 : x = name
      · rw [if_pos t2]
        subst t2
        have t2 : (x.toList == x.toList) = true := by simp
        go_enter Tryz.func29, Tryz.ntmps29
        go_wp2
        go_ret
        exact ⟨rfl, rfl⟩
      · rw [if_neg t2]
        have t2 : (x.toList == name.toList) = false := by
          rw [beq_eq_false_iff_ne]; intro e; apply t2
          rw [ByteArray.toList_eq, ByteArray.toList_eq] at e
          exact ByteArray.ext (Array.toList_inj.1 e)
        go_enter Tryz.func29, Tryz.ntmps29
        go_wp2
        go_ret
        exact ⟨rfl, rfl⟩
end Go.Proofs.YtgjcdhcbniholaaGreat.La
