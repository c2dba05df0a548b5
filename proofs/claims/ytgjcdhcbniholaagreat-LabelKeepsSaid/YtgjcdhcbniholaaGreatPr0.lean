/- Print: what is printed, plain; the state of its loop. -/
import Derived.Test.YtgjcdhcbniholaaGreatRp6
import Derived.Test.YtgjcdhcbniholaaGreatBe
namespace Go.Proofs.YtgjcdhcbniholaaGreat.Pr
open Go.RowKit Go.Proofs.YtgjcdhcbniholaaGreat.La Go.Proofs.YtgjcdhcbniholaaGreat.Rp Go.Proofs.YtgjcdhcbniholaaGreat.Bd Go.Proofs.YtgjcdhcbniholaaGreat.Sl
set_option linter.unusedVariables false

def labT (x : Lab) : List UInt8 := x.1.data.toList ++ ([61, 34] ++ (escL pP x.2.data.toList ++ [34]))
def prN (nm : ByteArray) (l : List Lab) : Nat → List UInt8
  | 0 => nm.data.toList
  | i + 1 => prN nm l i ++ ((if i = 0 then 123 else 44) :: labT (l.getD i (⟨#[]⟩, ⟨#[]⟩)))
def prT (nm : ByteArray) (l : List Lab) : List UInt8 := if l = [] then nm.data.toList else prN nm l l.length ++ [125]
def prS (nm : ByteArray) (l : List Lab) : ByteArray := ⟨(prT nm l).toArray⟩

/-- The bytes that 'beyond' reckons. -/
def tot (nm : ByteArray) (l : List Lab) : Nat → Nat
  | 0 => nm.size
  | i + 1 => tot nm l i + (8 + (l.getD i (⟨#[]⟩, ⟨#[]⟩)).1.size + (l.getD i (⟨#[]⟩, ⟨#[]⟩)).2.size)
theorem tot_mono (nm : ByteArray) (l : List Lab) {i j : Nat} (h : i ≤ j) : tot nm l i ≤ tot nm l j := by
  induction j with
  | zero => obtain rfl : i = 0 := by omega
            exact Nat.le_refl _
  | succ j ih =>
    by_cases e : i = j + 1
    · subst e; exact Nat.le_refl _
    · have := ih (by omega)
      show _ ≤ tot nm l j + _
      omega
theorem labT_len (x : Lab) : (labT x).length ≤ x.1.size + 2 * x.2.size + 3 := by
  unfold labT
  have h1 := escL_len pP x.2.data.toList
  have h2 := hits_le pP x.2.data.toList
  simp at *
  omega
theorem prN_len (nm : ByteArray) (l : List Lab) (i : Nat) : (prN nm l i).length ≤ 2 * tot nm l i := by
  induction i with
  | zero => unfold prN tot; simp; omega
  | succ i ih =>
    unfold prN tot
    have := labT_len (l.getD i (⟨#[]⟩, ⟨#[]⟩))
    rw [List.length_append, List.length_cons]
    omega

/-- The state of the printing loop. -/
structure PS (w0 w : World) (R b : Nat) (bs : List UInt8) : Prop where
  ib : IsB b b (Lib.byteCells bs) w
  rep : Rep w R (b + 1) pP
  rb : R < b
  r0 : w0.heap.size ≤ R
  bel : Below w0.heap.size w0 w
  lt : b < w.heap.size

/-- The blocks that are kept by all steps of the loop. -/
def Keeps (b R : Nat) (w w' : World) : Prop := w.heap.size ≤ w'.heap.size ∧ ∀ k, k < w.heap.size → k ≠ b → k ≠ R → NotRow w k → w'.heap[k]? = w.heap[k]?
theorem Keeps.foot {b R : Nat} {w w' : World} (h : Foot b w w') : Keeps b R w w' := ⟨h.size, fun k h1 h2 _ h3 => h.keep k h1 h2 h3⟩
theorem Keeps.only {b R : Nat} {w w' : World} (h : w.grownBy w' (some R)) : Keeps b R w w' := ⟨h.size, fun k h1 _ h3 _ => h.block k h1 (by simpa using h3)⟩

/-- A label's own variable. -/
def LabAt (w : World) (N : Nat) (x : Lab) : Prop := w.heap[N]? = some (.cells #[.string x.1, .string x.2] 45 (0, 0))
theorem LabAt.keep {w w' : World} {N b R : Nat} {x : Lab} (h : LabAt w N x) (k : Keeps b R w w') (hb : N ≠ b) (hR : N ≠ R) : LabAt w' N x :=
  (k.2 N (lt_of_heap h) hb hR (fun cur e => by have := h.symm.trans e; simp at this)).trans h
theorem LabAt.c0 {w : World} {N : Nat} {x : Lab} (h : LabAt w N x) : w.cell? ⟨N, 0, none⟩ = some (.string x.1) := by rw [cell_of_row _ _ _ _ _ _ h]; rfl
theorem LabAt.c1 {w : World} {N : Nat} {x : Lab} (h : LabAt w N x) : w.cell? ⟨N, 1, none⟩ = some (.string x.2) := by rw [cell_of_row _ _ _ _ _ _ h]; rfl

theorem PS.wrote {w0 w w' : World} {R b : Nat} {bs bs' : List UInt8} {cs : List Value} (h : PS w0 w R b bs) (hcs : cs = Lib.byteCells bs') (h1 : Bat b b cs w') (h2 : Below b w w') (h3 : Foot b w w') : PS w0 w' R b bs' := by
  subst hcs
  exact ⟨.inr h1, h.rep.keepU h3.size (fun k hk hl hn => h3.keep k hl (by have := h.rb; omega) hn), h.rb, h.r0, h.bel.trans (h2.mono (by have := h.rb; have := h.r0; omega)), Nat.lt_of_lt_of_le h.lt h3.size⟩

theorem isB_only {w w' : World} {b R : Nat} {bs : List Value} (h : IsB b b bs w) (hg : w.grownBy w' (some R)) (hR : R < b) (hl : b < w.heap.size) : IsB b b bs w' := by
  have key : ∀ p, Lib.BuilderAt 64 5 b b p bs w → Lib.BuilderAt 64 5 b b p bs w' := by
    rintro p ⟨h1, v, h2, h3, h4⟩
    refine ⟨h1, v, (hg.block b hl (by simp; omega)).trans h2, ?_, h4⟩
    exact own_only h3 hg hR
  rcases h with h | h
  · exact .inl (key _ h)
  · exact .inr (key _ h)

theorem byteCells_one (bs : List UInt8) (c : UInt8) : Lib.byteCells bs ++ [.int .u8 (c.toNat : Int)] = Lib.byteCells (bs ++ [c]) := (cells_snoc bs c).symm
theorem byteCells_str (bs : List UInt8) (s : ByteArray) : Lib.byteCells bs ++ Lib.strCells s = Lib.byteCells (bs ++ s.data.toList) := by
  simp [Lib.byteCells, Lib.strCells]

/-- A byte is written. -/
theorem ps_byte {w0 w : World} {R b : Nat} {bs : List UInt8} (h : PS w0 w R b bs) (c : UInt8) (hlen : bs.length + 1 ≤ 140737488355328) :
    Calls Tryz.prog 32 #[.pointer (some ⟨b, 0, none⟩), .int .u8 (c.toNat : Int)] w fun e w' => e = .returned .nilIface ∧ PS w0 w' R b (bs ++ [c]) ∧ Keeps b R w w' := by
  refine (writeByteK b b _ (c.toNat : Int) w h.ib (by rw [Lib.byteCells_length]; exact hlen) (Nat.le_of_lt h.lt)).mono ?_
  rintro e w' ⟨rfl, h1, h2, h3⟩
  exact ⟨rfl, h.wrote (byteCells_one bs c) h1 h2 h3, Keeps.foot h3⟩
/-- A text is written. -/
theorem ps_str {w0 w : World} {R b : Nat} {bs : List UInt8} (h : PS w0 w R b bs) (s : ByteArray) (hlen : bs.length + s.size ≤ 140737488355328) :
    Calls Tryz.prog 31 #[.pointer (some ⟨b, 0, none⟩), .string s] w fun e w' => e = .returned (.tuple #[.int .i64 s.size, .nilIface]) ∧ PS w0 w' R b (bs ++ s.data.toList) ∧ Keeps b R w w' := by
  refine (writeStringK b b _ s w h.ib (by rw [Lib.byteCells_length]; exact hlen) (Nat.le_of_lt h.lt)).mono ?_
  rintro e w' ⟨rfl, h1, h2, h3⟩
  exact ⟨rfl, h.wrote (byteCells_str bs s) h1 h2 h3, Keeps.foot h3⟩
/-- A value is escaped. -/
theorem ps_rep {w0 w : World} {R b : Nat} {bs : List UInt8} (h : PS w0 w R b bs) (s : ByteArray) (hs : s.size ≤ 70368744177664) :
    Calls Tryz.prog 33 #[.pointer (some ⟨R, 0, none⟩), .string s] w fun e w' => e = .returned (.string (escS pP s)) ∧ PS w0 w' R b bs ∧ Keeps b R w w' := by
  refine (replace_any R (b + 1) pP s w h.rep h.lt (by decide) (by decide) (by decide) (hits_two pP s hs)).mono ?_
  rintro e w' ⟨rfl, h1, h2⟩
  exact ⟨rfl, ⟨isB_only h.ib h2 h.rb h.lt, h1, h.rb, h.r0, h.bel.grown h2 (by have := h.r0; have := h.rb; have := h.lt; omega) (fun k hk => by simp at hk; have := h.r0; omega), Nat.lt_of_lt_of_le h.lt h2.size⟩, Keeps.only h2⟩
end Go.Proofs.YtgjcdhcbniholaaGreat.Pr
