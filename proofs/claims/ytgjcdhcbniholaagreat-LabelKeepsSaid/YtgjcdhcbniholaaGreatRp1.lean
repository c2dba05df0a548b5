/- strings.Replacer: the table of a byteStringReplacer, plain. -/
import Derived.Test.YtgjcdhcbniholaaGreatRp0
import Derived.Lib.ConvBytes
import Derived.Lib.BufferMore
namespace Go.Proofs.YtgjcdhcbniholaaGreat.Rp
open Go.RowKit
set_option linter.unusedVariables false

/-- A byte, and the second byte of the two by which it is written (the first is a backslash). -/
abbrev Pr := UInt8 × UInt8
def one (b : UInt8) : ByteArray := ⟨#[b]⟩
def two (c : UInt8) : ByteArray := ⟨#[92, c]⟩
def esc (ps : List Pr) (b : UInt8) : List UInt8 := match ps.lookup b with
  | some c => [92, c]
  | none => [b]
def escL (ps : List Pr) (l : List UInt8) : List UInt8 := l.flatMap (esc ps)

/-- Block k is no plain row of bytes. -/
def NotRow (w : World) (k : Nat) : Prop := ∀ cur, w.heap[k]? ≠ some (.cells cur 5 (0, 0))

/-- The table at work. -/
structure TabB (w : World) (base g : Nat) (tv : Value) (ps : List Pr) : Prop where
  row : ∃ cur : Array Value, w.heap[g]? = some (.cells cur 124 (0, 0)) ∧ cur.size = 257
  hit : ∀ b c, ps.lookup b = some c → ∃ k cap, w.cell? ⟨g, b.toNat, none⟩ = some (.slice (some ⟨k, 0, none⟩) 2 cap) ∧ g < k ∧ k < w.heap.size ∧ tv.ownBlock ≠ some k ∧ w.cell? ⟨k, 0, none⟩ = some (.int .u8 92) ∧ w.cell? ⟨k, 1, none⟩ = some (.int .u8 (c.toNat : Int)) ∧ NotRow w k
  miss : ∀ b, ps.lookup b = none → w.cell? ⟨g, b.toNat, none⟩ = some (.slice none 0 0)
  to : w.cell? ⟨g, 256, none⟩ = some tv
  own : w.ownsRow base 9 1 tv ps.length (ps.reverse.map fun p => .string (one p.1))
  ne : tv.ownBlock ≠ some g
  le : base ≤ g

theorem TabB.lt {w : World} {base g : Nat} {tv : Value} {ps : List Pr} (h : TabB w base g tv ps) : g < w.heap.size := World.block_lt_of_cell? w ⟨g, 256, none⟩ h.to

theorem bytesCell (w : World) (e : TypeId) (s : ByteArray) (j : Nat) (b : UInt8) (hj : s.data.toList[j]? = some b) : (Lib.bytesWorld w e s).cell? ⟨w.heap.size, j, none⟩ = some (.int .u8 (b.toNat : Int)) := by
  have hlt : j < s.size := by
    have := (List.getElem?_eq_some_iff.1 hj).1
    simpa using this
  rw [Lib.bytesWorld_cell w e s j hlt, List.getD_eq_getElem?_getD, hj]
  rfl

theorem bytes_below (w : World) (e : TypeId) (s : ByteArray) : Below w.heap.size w (Lib.bytesWorld w e s) :=
  ⟨rfl, rfl, rfl, by rw [Lib.bytesWorld_size]; omega, fun k hk => Lib.bytesWorld_at_old w e s k hk⟩

/-- A pair more. -/
theorem TabB.add {w w2 w1 : World} {base g : Nat} {tv tv' : Value} {ps : List Pr} (h : TabB w base g tv ps) (p : Pr) (hp : ps.lookup p.1 = none)
    (hb2 : Below w.heap.size w w2) (hg1 : w2.grownBy w1 tv.ownBlock) (own1 : w1.ownsRow base 9 1 tv' (ps.length + 1) ((ps.reverse.map fun p => .string (one p.1)) ++ [.string (one p.1)]))
    (hat : tv.ownBlock = tv'.ownBlock ∨ ∃ q, tv'.ownBlock = some q ∧ w.heap.size ≤ q) (s : ByteArray) (hs : s = two p.2) (cap : Nat) :
    TabB ((Lib.bytesWorld (w1.setCell ⟨g, 256, none⟩ tv') 5 s).setCell ⟨g, p.1.toNat, none⟩ (.slice (some ⟨w1.heap.size, 0, none⟩) 2 cap)) base g tv' (p :: ps) := by
  subst hs
  have hgl := h.lt
  obtain ⟨cur, hr, hz⟩ := h.row
  have hne' : tv'.ownBlock ≠ some g := by
    rcases hat with e | ⟨q, e, hq⟩
    · rw [← e]; exact h.ne
    · rw [e]; intro k; simp at k; omega
  have hs2 := hb2.size
  have hsz := hg1.size
  have hr1 : w1.heap[g]? = some (.cells cur 124 (0, 0)) := (hg1.block g (by omega) (fun e => h.ne e.symm)).trans ((hb2.block g hgl).trans hr)
  have hc1 : ∀ o, w1.cell? ⟨g, o, none⟩ = w.cell? ⟨g, o, none⟩ := fun o => World.cell?_of_block (hr1.trans hr.symm)
  have hfar : ∀ k o, k < w.heap.size → k ≠ g → tv.ownBlock ≠ some k → ∀ u, (((Lib.bytesWorld (w1.setCell ⟨g, 256, none⟩ tv') 5 (two p.2)).setCell ⟨g, p.1.toNat, none⟩ u).cell? ⟨k, o, none⟩) = w.cell? ⟨k, o, none⟩ := by
    intro k o hk hkg hkt u
    rw [World.cell?_setCell_other _ _ _ _ (by intro e; simp at e; try omega), Lib.bytesWorld_old _ _ _ _ (by simp; try omega), World.cell?_setCell_other _ _ _ _ (by intro e; simp at e; try omega)]
    exact (World.cell?_of_block (hg1.block k (by omega) (fun e => hkt e.symm))).trans (World.cell?_of_block (hb2.block k hk))
  have hold : ∀ o, o ≠ 256 → (Lib.bytesWorld (w1.setCell ⟨g, 256, none⟩ tv') 5 (two p.2)).cell? ⟨g, o, none⟩ = w.cell? ⟨g, o, none⟩ := by
    intro o ho
    rw [Lib.bytesWorld_old _ _ _ _ (by simp; try omega), World.cell?_setCell_other _ _ _ _ (by intro e; simp at e; try (first | exact ho e | exact ho e.symm))]
    exact hc1 o
  have h256 : (Lib.bytesWorld (w1.setCell ⟨g, 256, none⟩ tv') 5 (two p.2)).cell? ⟨g, 256, none⟩ = some tv' := by
    rw [Lib.bytesWorld_old _ _ _ _ (by simp; try omega)]
    exact World.cell?_setCell_same _ _ _ ((hc1 256).trans h.to)
  have hlt : ∀ b : UInt8, b.toNat ≠ 256 := fun b => by have := b.toNat_lt; omega
  have hnew : ∃ v, (Lib.bytesWorld (w1.setCell ⟨g, 256, none⟩ tv') 5 (two p.2)).cell? ⟨g, p.1.toNat, none⟩ = some v := ⟨_, (hold _ (hlt _)).trans (h.miss _ hp)⟩
  have hrow := Lib.heap_setCell_same (i := p.1.toNat) ((Lib.bytesWorld_at_old (w1.setCell ⟨g, 256, none⟩ tv') 5 (two p.2) g (by simp; omega)).trans (Lib.heap_setCell_same (i := 256) hr1 tv')) (.slice (some ⟨w1.heap.size, 0, none⟩) 2 cap)
  refine ⟨⟨_, hrow, by simp [hz]⟩, ?_, ?_, ?_, ?_, hne', h.le⟩
  · intro b c hbc
    rw [List.lookup_cons] at hbc
    by_cases e : b = p.1
    · subst e
      rw [show (p.1 == p.1) = true by simp] at hbc
      obtain rfl : p.2 = c := by simpa using hbc
      refine ⟨w1.heap.size, cap, World.cell?_setCell_same _ _ _ hnew.choose_spec, by omega, by simp [Lib.bytesWorld_size], ?_, ?_, ?_, ?_⟩
      · intro k
        have := own1.lt _ k
        omega
      · rw [World.cell?_setCell_other _ _ _ _ (by intro e; simp at e; try omega)]
        have := bytesCell (w1.setCell ⟨g, 256, none⟩ tv') 5 (two p.2) 0 92 rfl
        simpa using this
      · rw [World.cell?_setCell_other _ _ _ _ (by intro e; simp at e; try omega)]
        have := bytesCell (w1.setCell ⟨g, 256, none⟩ tv') 5 (two p.2) 1 p.2 rfl
        simpa using this
      · intro cur' hcur
        rw [Below.heap_setCell _ _ _ _ (by simp; omega)] at hcur
        have hn := Lib.bytesWorld_at_new (w1.setCell ⟨g, 256, none⟩ tv') 5 (two p.2)
        rw [show (w1.setCell ⟨g, 256, none⟩ tv').heap.size = w1.heap.size by simp] at hn
        rw [hn] at hcur
        simp at hcur
    · rw [show (b == p.1) = false by simpa using e] at hbc
      obtain ⟨k, cap', c1, c2, c3, c4, c5, c6, c7⟩ := h.hit b c hbc
      refine ⟨k, cap', ?_, c2, by simp [Lib.bytesWorld_size]; omega, ?_, ?_, ?_, ?_⟩
      · rw [World.cell?_setCell_other _ _ _ _ (by intro k; simp at k; exact e (UInt8.toNat_inj.1 k.symm))]
        exact (hold _ (hlt _)).trans c1
      · rcases hat with e | ⟨q, e, hq⟩
        · rw [← e]; exact c4
        · rw [e]; intro k; simp at k; omega
      · rw [hfar k 0 c3 (by omega) c4]; exact c5
      · rw [hfar k 1 c3 (by omega) c4]; exact c6
      · intro cur' hcur
        rw [Below.heap_setCell _ _ _ _ (by simp; omega), Lib.bytesWorld_at_old _ _ _ _ (by simp; omega), Below.heap_setCell _ _ _ _ (by simp; omega), hg1.block k (by omega) (fun e => c4 e.symm), hb2.block k c3] at hcur
        exact c7 cur' hcur
  · intro b hb
    rw [List.lookup_cons] at hb
    by_cases e : b = p.1
    · subst e
      simp at hb
    · rw [show (b == p.1) = false by simpa using e] at hb
      rw [World.cell?_setCell_other _ _ _ _ (by intro k; simp at k; exact e (UInt8.toNat_inj.1 k.symm))]
      exact (hold _ (hlt _)).trans (h.miss b hb)
  · rw [World.cell?_setCell_other _ _ _ _ (by intro k; simp at k; exact hlt _ k)]
    exact h256
  · have o1 := ownsRow_setCell_other own1 (a := ⟨g, 256, none⟩) hne' tv'
    have o2 := La.own_belowW o1 (bytes_below _ 5 (two p.2))
    have o3 := ownsRow_setCell_other o2 (a := ⟨g, p.1.toNat, none⟩) hne' (.slice (some ⟨w1.heap.size, 0, none⟩) 2 cap)
    simpa using o3

theorem frozen_of_block {w : World} {g o : Nat} {cur : Array Value} {t : TypeId} (h : w.heap[g]? = some (.cells cur t (0, 0))) : w.frozen? ⟨g, o, none⟩ = false := by
  simp [World.frozen?, h]

/-- What the walk asks where a pair more is laid. -/
theorem TabB.facts {w w2 w1 : World} {base g : Nat} {tv : Value} {ps : List Pr} (h : TabB w base g tv ps) (b : UInt8) (hp : ps.lookup b = none)
    (hb2 : Below w.heap.size w w2) (hg1 : w2.grownBy w1 tv.ownBlock) (v' : Value) (s : ByteArray) :
    w1.frozen? ⟨g, 256, none⟩ = false ∧ w1.cell? ⟨g, 256, none⟩ = some tv ∧ (Lib.bytesWorld (w1.setCell ⟨g, 256, none⟩ v') 5 s).frozen? ⟨g, b.toNat, none⟩ = false ∧
      (Lib.bytesWorld (w1.setCell ⟨g, 256, none⟩ v') 5 s).cell? ⟨g, b.toNat, none⟩ = some (.slice none 0 0) := by
  have hgl := h.lt
  obtain ⟨cur, hr, hz⟩ := h.row
  have hs2 := hb2.size
  have hsz := hg1.size
  have hr1 : w1.heap[g]? = some (.cells cur 124 (0, 0)) := (hg1.block g (by omega) (fun e => h.ne e.symm)).trans ((hb2.block g hgl).trans hr)
  have hc1 : ∀ o, w1.cell? ⟨g, o, none⟩ = w.cell? ⟨g, o, none⟩ := fun o => World.cell?_of_block (hr1.trans hr.symm)
  have hlt := b.toNat_lt
  have hrow := (Lib.bytesWorld_at_old (w1.setCell ⟨g, 256, none⟩ v') 5 s g (by simp; omega)).trans (Lib.heap_setCell_same (i := 256) hr1 v')
  refine ⟨frozen_of_block hr1, (hc1 256).trans h.to, frozen_of_block hrow, ?_⟩
  rw [Lib.bytesWorld_old _ _ _ _ (by simp; try omega), World.cell?_setCell_other _ _ _ _ (by intro e; simp at e; try omega)]
  exact (hc1 _).trans (h.miss b hp)
end Go.Proofs.YtgjcdhcbniholaaGreat.Rp
