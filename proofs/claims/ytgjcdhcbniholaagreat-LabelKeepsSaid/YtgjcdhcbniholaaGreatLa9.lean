/- The reader: values; what the text of one is. -/
import Derived.Test.YtgjcdhcbniholaaGreatLa8
import Derived.Test.YtgjcdhcbniholaaGreatSl
import Derived.StillTailTactics
namespace Go.Proofs.YtgjcdhcbniholaaGreat.La
open Go.RowKit Go.Proofs.YtgjcdhcbniholaaGreat.Sl
set_option linter.unusedVariables false

/-- What is wrong with a value. -/
def valE (s : ByteArray) : Int := if 1024 < s.size then 4 else if utfB s = true then 0 else 11

theorem iter_below (w : World) (s : ByteArray) (pos : Nat) : Below w.heap.size w (w.iter s pos) := (Below.refl _ w).alloc (Nat.le_refl _) _

theorem value_any (s : ByteArray) (hs : s.size ≤ 9223372036854775807) (w : World) :
    Calls Tryz.prog 28 #[.string s] w fun e w' => e = .returned (.int .i64 (valE s)) ∧ Below w.heap.size w w' := by
  by_cases h1 : 1024 < s.size
  · have e : valE s = 4 := by rw [valE, if_pos h1]
    have h2 : (1024 : Int) < (s.size : Int) := by omega
    rw [e]; clear e h1
    go_enter Tryz.func28, Tryz.ntmps28
    go_wp2
    go_ret
    exact ⟨rfl, Below.refl _ _⟩
  · have h2 : ¬ (1024 : Int) < (s.size : Int) := by omega
    have c := right_any s hs
    by_cases h3 : utfB s = true
    · have e : valE s = 0 := by rw [valE, if_neg h1, if_pos h3]
      rw [h3] at c
      rw [e]; clear e h1 h3
      go_enter Tryz.func28, Tryz.ntmps28
      go_wp2_with fail
      refine (c _).mono ?_
      rintro e w' ⟨rfl, pos, rfl⟩
      go_wp2
      go_ret
      exact ⟨rfl, iter_below w s pos⟩
    · have e : valE s = 11 := by rw [valE, if_neg h1, if_neg h3]
      have h3 : utfB s = false := by simpa using h3
      rw [h3] at c
      rw [e]; clear e h1 h3
      go_enter Tryz.func28, Tryz.ntmps28
      go_wp2_with fail
      refine (c _).mono ?_
      rintro e w' ⟨rfl, pos, rfl⟩
      go_wp2
      go_ret
      exact ⟨rfl, iter_below w s pos⟩

inductive TRes where
  | ok (bytes : List UInt8) (next : Nat)
  | bad (er : Int) (at_ : Nat)

/-- A value from a place on, up to behind its closing quote. -/
def textF (s : ByteArray) (frm : Nat) : Nat → Nat → List UInt8 → TRes
  | 0, i, _ => .bad 5 i
  | f + 1, i, acc =>
    if h : i < s.size then
      if s[i] = 10 then .bad 5 i
      else if s[i] = 34 then (if valE ⟨acc.toArray⟩ = 0 then .ok acc (i + 1) else .bad (valE ⟨acc.toArray⟩) frm)
      else if s[i] = 92 then (match (if h2 : i + 1 < s.size then escL s[i + 1] else none) with
        | some c => textF s frm f (i + 2) (acc ++ [c])
        | none => .bad 5 i)
      else textF s frm f (i + 1) (acc ++ [s[i]])
    else .bad 5 i
def textR (s : ByteArray) (frm : Nat) : TRes := textF s frm (s.size + 1) frm []

/-! Bytes as cells. -/
theorem infoU8 : (Tryz.prog.info? 5).map (fun i => (i.zero, i.size, i.bytes)) = some (some (.int .u8 0), 1, 1) := by kernel_rfl
def bc (l : List UInt8) : List Value := l.map fun b => .int .u8 (b.toNat : Int)
theorem bc_len (l : List UInt8) : (bc l).length = l.length := by simp [bc]
theorem bc_snoc (l : List UInt8) (b : UInt8) : bc (l ++ [b]) = bc l ++ [.int .u8 (b.toNat : Int)] := by simp [bc]
theorem one1 (x : Int) : ∀ u ∈ [Value.int .u8 x], u.oneCell' = true := by
  intro u hu; rw [List.mem_singleton.1 hu]; rfl

/-- The bytes of a slice of the call's own, as a string. -/
theorem conv_own {w : World} {B : Nat} {A : Option Addr} {os : List UInt8} {c : Nat} (ho : w.ownsRow B 5 1 (.slice A os.length c) os.length (bc os)) :
    (convert 62 9 (.slice A os.length c)).run Tryz.prog w = .ok (.string ⟨os.toArray⟩) w := by
  rcases ho.2 with ⟨h1, h2⟩ | ⟨g, cap', cur, h1, h2⟩
  · have h0 : os = [] := List.eq_nil_of_length_eq_zero h2
    subst h0
    cases h1
    rw [List.length_nil, run_convert_bytes_string _ _ _ _ none 0 0 Tryz.underlying62 Tryz.underlying5 Tryz.underlying9]
    rfl
  · cases h1
    exact run_convert_bytes_back (P := Tryz.prog) w 62 9 5 ⟨g, 0, none⟩ c os Tryz.underlying62 Tryz.underlying5 Tryz.underlying9 (fun j hj => by
      rw [WideShapes.add_plain, Nat.zero_add, ho.cellAt j (by omega)]
      simp [bc, hj])

theorem own_only {w w' : World} {base n s g : Nat} {e : TypeId} {v : Value} {xs : List Value} (h : w.ownsRow base e s v n xs) (k : w.grownBy w' (some g)) (hg : g < base) : w'.ownsRow base e s v n xs := by
  refine ⟨h.1, ?_⟩
  rcases h.2 with h' | ⟨b, cap, cur, h1, h2, h3, h4⟩
  · exact .inl h'
  · exact .inr ⟨b, cap, cur, h1, h2, by rw [k.block b (Array.getElem?_eq_some_iff.1 h3).1 (by simp; omega)]; exact h3, h4⟩

theorem only_below {a b c : World} {row : Option Nat} (h : a.grownBy b row) (k : Below a.heap.size b c) (hs : b.heap.size ≤ c.heap.size) : a.grownBy c row :=
  ⟨k.os.trans h.os, k.tape.trans h.tape, k.output.trans h.output, Nat.le_trans h.size hs, fun i hi hne => (k.block i hi).trans (h.block i hi hne)⟩

theorem Rdr.staysB {w w' : World} {B g : Nat} {s : ByteArray} {p er bad : Int} (h : Rdr w g s p er bad) (l : Below B w w') (hg : g < B) (hs : w.heap.size ≤ w'.heap.size) : Rdr w' g s p er bad :=
  ⟨Nat.lt_of_lt_of_le h.lt hs, (l.cell hg).trans h.c0, (l.cell hg).trans h.c1, (l.cell hg).trans h.c2, (l.cell hg).trans h.c3, (l.frozen hg).trans h.f1, (l.frozen hg).trans h.f2, (l.frozen hg).trans h.f3⟩

end Go.Proofs.YtgjcdhcbniholaaGreat.La
