/- Counts in memory: a slice that reads as a list of counts. -/
import Derived.Test.YtonacegkhkncmaaChecked
import Derived.WalkKit
import Derived.BigQuiet
import Derived.Deep.QuietTactic
import Derived.RegionTactic
import Derived.ChangeAlike
import Derived.Outline
import Derived.Lib.Hide
import Derived.LoopTactic
import Derived.IntWalk
namespace Go.Proofs.Ytonacegkhkncmaa.Rk
open Go.RowKit
set_option linter.unusedVariables false

/-- One count: its numbers fit their kinds. -/
def okC (c : Int × Int) : Prop := -9223372036854775808 ≤ c.1 ∧ c.1 ≤ 9223372036854775807 ∧ 0 ≤ c.2 ∧ c.2 ≤ 18446744073709551615

/-- The slice that begins at A reads as l; its array lies below block B. -/
structure Cs (w : World) (B : Nat) (A : Option Addr) (l : List (Int × Int)) : Prop where
  len : l.length ≤ maxLen
  ok : ∀ c ∈ l, okC c
  cells : 0 < l.length → ∃ b off, A = some ⟨b, off, none⟩ ∧ b < B ∧ ∀ i c, l[i]? = some c → w.cell? ⟨b, off + i * 2, none⟩ = some (.int .i64 c.1) ∧ w.cell? ⟨b, off + i * 2 + 1, none⟩ = some (.int .u64 c.2)

theorem Cs.below {w w' : World} {B : Nat} {A : Option Addr} {l : List (Int × Int)} (h : Cs w B A l) (hb : Below B w w') : Cs w' B A l :=
  ⟨h.len, h.ok, fun hl => by
    obtain ⟨b, off, e, hB, hc⟩ := h.cells hl
    refine ⟨b, off, e, hB, fun i c hi => ?_⟩
    obtain ⟨h1, h2⟩ := hc i c hi
    exact ⟨(hb.cell (p := ⟨b, off + i * 2, none⟩) hB).trans h1, (hb.cell (p := ⟨b, off + i * 2 + 1, none⟩) hB).trans h2⟩⟩

def totF (n : Int) (l : List (Int × Int)) : Int := l.foldl (fun n c => IntKind.u64.wrap (n + c.2)) n

theorem take_snoc {α : Type} {l : List α} {k : Nat} (h : k < l.length) : l.take (k + 1) = l.take k ++ [l[k]] := by
  rw [List.take_succ_eq_append_getElem h]
theorem totF_snoc (n : Int) {l : List (Int × Int)} {k : Nat} (h : k < l.length) : totF n (l.take (k + 1)) = IntKind.u64.wrap (totF n (l.take k) + l[k].2) := by
  rw [take_snoc h, totF, List.foldl_append]; rfl

theorem total_any (w : World) (B : Nat) (A : Option Addr) (l : List (Int × Int)) (cap : Nat) (h : Cs w B A l) (hB : B ≤ w.heap.size) :
    Calls Try.prog 33 #[.slice A l.length cap] w fun e w' => e = .returned (.int .u64 (totF 0 l)) ∧ Below w.heap.size w w' := by
  have hl := h.len
  unfold maxLen at hl
  go_enter Try.func33, Try.ntmps33
  go_wp2
  go_loopw [3, 8] (fun n i wr => ∃ k : Nat, k ≤ l.length ∧ i = .int .i64 k ∧ n = .int .u64 (totF 0 (l.take k)) ∧ Below w.heap.size w wr) (fun _ i _ => l.length - (intOf i).toNat)
  case atStart => exact ⟨0, Nat.zero_le _, rfl, rfl, Below.refl _ _⟩
  case round =>
    obtain ⟨k, hk, rfl, rfl, hb⟩ := hrel
    by_cases hlt : k < l.length
    · obtain ⟨b, off, rfl, hbB, hc⟩ := (h.below (hb.mono hB)).cells (by omega)
      obtain ⟨h1, h2⟩ := hc k l[k] (List.getElem?_eq_getElem hlt)
      have hs := totF_snoc 0 hlt
      clear hc
      replace hs := Lib.hid hs
      go_wp2
      exact ⟨⟨k + 1, by omega, by go_num, by rw [hs.out], hb.alloc hb.size _⟩, by simp [intOf]; omega⟩
    · go_wp2
      go_ret
      exact ⟨by rw [List.take_of_length_le (by omega)]; rfl, hb⟩
end Go.Proofs.Ytonacegkhkncmaa.Rk
