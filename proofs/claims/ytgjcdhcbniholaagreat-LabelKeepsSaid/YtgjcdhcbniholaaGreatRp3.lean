/- strings.Replacer: what its bytes come to, plain; the table when it is done. -/
import Derived.Test.YtgjcdhcbniholaaGreatRp2
import Derived.Lib.Bytealg
import Derived.Laws.CopyOwn
namespace Go.Proofs.YtgjcdhcbniholaaGreat.Rp
open Go.RowKit
set_option linter.unusedVariables false

def hits (ps : List Pr) (l : List UInt8) : Nat := l.countP fun b => (ps.lookup b).isSome
def cntA (ps : List Pr) (l : List UInt8) (j : Nat) : Nat := ((ps.reverse.take j).map fun p => Lib.countByte l p.1).sum

theorem esc_len (ps : List Pr) (b : UInt8) : (esc ps b).length = 1 + (if (ps.lookup b).isSome then 1 else 0) := by
  unfold esc
  cases ps.lookup b <;> rfl
theorem escL_len (ps : List Pr) (l : List UInt8) : (escL ps l).length = l.length + hits ps l := by
  induction l with
  | nil => rfl
  | cons b l ih =>
    unfold escL hits at *
    rw [List.flatMap_cons, List.length_append, ih, esc_len, List.countP_cons, List.length_cons]
    omega
theorem hits_le (ps : List Pr) (l : List UInt8) : hits ps l ≤ l.length := List.countP_le_length
theorem escL_none (ps : List Pr) (l : List UInt8) (h : hits ps l = 0) : escL ps l = l := by
  induction l with
  | nil => rfl
  | cons b l ih =>
    unfold hits at h
    rw [List.countP_cons] at h
    have h1 : (ps.lookup b).isSome = false := by
      cases e : (ps.lookup b).isSome
      · rfl
      · rw [e] at h; simp at h
    have h2 : hits ps l = 0 := by unfold hits; rw [h1] at h; simpa using h
    have h3 : ps.lookup b = none := by simpa using h1
    show (b :: l).flatMap (esc ps) = _
    rw [List.flatMap_cons]
    have := ih h2
    unfold escL at this
    rw [this]
    simp [esc, h3]
theorem hits_cons (p : Pr) (ps : List Pr) (l : List UInt8) (h : ps.lookup p.1 = none) : hits (p :: ps) l = Lib.countByte l p.1 + hits ps l := by
  unfold hits Lib.countByte
  induction l with
  | nil => rfl
  | cons b l ih =>
    rw [List.countP_cons, ih, List.countP_cons, List.count_cons, List.lookup_cons]
    by_cases e : b = p.1
    · subst e
      simp [h]; omega
    · have e1 : (b == p.1) = false := by simpa using e
      rw [e1]; simp only [Bool.false_eq_true, if_false]; omega
theorem hits_sum : ∀ (ps : List Pr) (l : List UInt8), (ps.map (·.1)).Nodup → (ps.map fun p => Lib.countByte l p.1).sum = hits ps l
  | [], l, _ => by simp [hits]
  | p :: ps, l, h => by
    have h0 : ps.lookup p.1 = none := by simpa using ps_none (j := 0) (ps := p :: ps) h rfl
    rw [hits_cons p ps l h0, List.map_cons, List.sum_cons, hits_sum ps l (by simp at h; exact h.2)]
theorem cntA_all (ps : List Pr) (l : List UInt8) (h : (ps.map (·.1)).Nodup) : cntA ps l ps.length = hits ps l := by
  unfold cntA
  rw [List.take_of_length_le (by simp), List.map_reverse, List.sum_reverse, hits_sum ps l h]
theorem sum_take (l : List Nat) (j : Nat) : (l.take j).sum ≤ l.sum := by
  conv => rhs; rw [← List.take_append_drop j l, List.sum_append]
  omega
theorem cntA_le (ps : List Pr) (l : List UInt8) (h : (ps.map (·.1)).Nodup) (j : Nat) : cntA ps l j ≤ hits ps l := by
  rw [← cntA_all ps l h]
  unfold cntA
  rw [List.take_of_length_le (i := ps.length) (by simp), List.map_take]
  exact sum_take _ _
theorem look_of_mem : ∀ (ps : List Pr) (p : Pr), p ∈ ps → ∃ c, ps.lookup p.1 = some c
  | [], p, h => by simp at h
  | r :: ps, p, h => by
    rw [List.lookup_cons]
    by_cases e : p.1 = r.1
    · rw [show (p.1 == r.1) = true by simpa using e]; exact ⟨_, rfl⟩
    · rw [show (p.1 == r.1) = false by simpa using e]
      rcases List.mem_cons.1 h with h | h
      · subst h; exact absurd rfl e
      · exact look_of_mem ps p h
theorem cntA_step (ps : List Pr) (l : List UInt8) (j : Nat) (p : Pr) (h : ps.reverse[j]? = some p) : cntA ps l (j + 1) = cntA ps l j + Lib.countByte l p.1 := by
  unfold cntA
  rw [List.take_add_one, h]
  simp
theorem hits_step (ps : List Pr) (s : ByteArray) (i : Nat) (h : i < s.size) : hits ps (s.data.toList.take (i + 1)) = hits ps (s.data.toList.take i) + (if (ps.lookup s[i]).isSome then 1 else 0) := by
  unfold hits
  rw [List.take_add_one, La.get_data s h]
  simp [List.countP_append, List.countP_cons]
theorem escL_step (ps : List Pr) (s : ByteArray) (i : Nat) (h : i < s.size) : escL ps (s.data.toList.take (i + 1)) = escL ps (s.data.toList.take i) ++ esc ps s[i] := by
  unfold escL
  rw [List.take_add_one, La.get_data s h]
  simp
theorem hits_mono (ps : List Pr) (l : List UInt8) (i : Nat) : hits ps (l.take i) ≤ hits ps l := List.Sublist.countP_le (List.take_sublist _ _)

theorem made_one (v : Value) (hv : v.cells = #[v]) (n : Nat) : madeCells v.cells n = (List.replicate n v).toArray := by
  rw [hv]
  apply Array.ext
  · simp [size_madeCells]
  · intro i h1 h2
    simp [madeCells, Nat.mod_one]
theorem escL_take (ps : List Pr) (l : List UInt8) (i : Nat) : (escL ps (l.take i)).length ≤ (escL ps l).length := by
  conv => rhs; rw [← List.take_append_drop i l]
  unfold escL
  rw [List.flatMap_append, List.length_append]
  omega

/-- The row that is being filled. -/
def rowAt (E : List UInt8) (T : Nat) : List Value := La.bc E ++ List.replicate (T - E.length) (.int .u8 0)
theorem rowAt_len (E : List UInt8) (T : Nat) (h : E.length ≤ T) : (rowAt E T).length = T := by simp [rowAt, La.bc_len]; omega
theorem rowAt_get (E : List UInt8) (T j : Nat) (h : E.length ≤ j) (hj : j < T) : (rowAt E T)[j]? = some (.int .u8 0) := by
  unfold rowAt
  rw [List.getElem?_append_right (by rw [La.bc_len]; omega), List.getElem?_replicate, La.bc_len, if_pos (by omega)]
theorem rowAt_set (E : List UInt8) (T : Nat) (b : UInt8) (h : E.length < T) : (rowAt E T).set E.length (.int .u8 (b.toNat : Int)) = rowAt (E ++ [b]) T := by
  unfold rowAt
  obtain ⟨k, rfl⟩ : ∃ k, T = E.length + (k + 1) := ⟨T - E.length - 1, by omega⟩
  rw [show E.length + (k + 1) - E.length = k + 1 by omega, List.length_append, List.length_singleton, show E.length + (k + 1) - (E.length + 1) = k by omega, La.bc_snoc]
  rw [List.set_append_right _ _ (by rw [La.bc_len]; omega), La.bc_len, Nat.sub_self, List.replicate_succ, List.set_cons_zero, List.append_assoc]
  rfl
theorem rowAt_splice (E : List UInt8) (T : Nat) (b c : UInt8) (h : E.length + 2 ≤ T) : splice (rowAt E T) E.length [.int .u8 (b.toNat : Int), .int .u8 (c.toNat : Int)] = rowAt (E ++ [b, c]) T := by
  unfold rowAt splice
  obtain ⟨k, rfl⟩ : ∃ k, T = E.length + (k + 2) := ⟨T - E.length - 2, by omega⟩
  rw [show E.length + (k + 2) - E.length = k + 2 by omega, List.length_append, show E.length + (k + 2) - (E.length + [b, c].length) = k by simp; omega]
  rw [List.take_append_of_le_length (by rw [La.bc_len]; omega), List.take_of_length_le (by rw [La.bc_len]; omega), List.drop_append, List.drop_of_length_le (by rw [La.bc_len]; omega), La.bc_len]
  simp [La.bc]

/-- The table when it is done; all its blocks stand from B on. -/
structure Tab (w : World) (B g : Nat) (ps : List Pr) : Prop where
  hit : ∀ b c, ps.lookup b = some c → ∃ k cap, w.cell? ⟨g, b.toNat, none⟩ = some (.slice (some ⟨k, 0, none⟩) 2 cap) ∧ B ≤ k ∧ k < w.heap.size ∧ w.cell? ⟨k, 0, none⟩ = some (.int .u8 92) ∧ w.cell? ⟨k, 1, none⟩ = some (.int .u8 (c.toNat : Int)) ∧ NotRow w k
  miss : ∀ b, ps.lookup b = none → w.cell? ⟨g, b.toNat, none⟩ = some (.slice none 0 0)
  to : ∃ k cap, w.cell? ⟨g, 256, none⟩ = some (.slice (some ⟨k, 0, none⟩) ps.length cap) ∧ B ≤ k ∧ k < w.heap.size ∧ (∀ j p, ps.reverse[j]? = some p → w.cell? ⟨k, j, none⟩ = some (.string (one p.1))) ∧ NotRow w k
  le : B ≤ g
  lt : g < w.heap.size
  nr : NotRow w g

theorem Tab.keepU {w w' : World} {B g : Nat} {ps : List Pr} (h : Tab w B g ps) (hs : w.heap.size ≤ w'.heap.size) (hk : ∀ k, B ≤ k → k < w.heap.size → NotRow w k → w'.heap[k]? = w.heap[k]?) : Tab w' B g ps := by
  have hc : ∀ k o, B ≤ k → k < w.heap.size → NotRow w k → w'.cell? ⟨k, o, none⟩ = w.cell? ⟨k, o, none⟩ := fun k o h1 h2 h3 => World.cell?_of_block (hk k h1 h2 h3)
  have hn : ∀ k, B ≤ k → k < w.heap.size → NotRow w k → NotRow w' k := fun k h1 h2 h3 cur e => h3 cur ((hk k h1 h2 h3).symm.trans e)
  refine ⟨fun b c e => ?_, fun b e => (hc g _ h.le h.lt h.nr).trans (h.miss b e), ?_, h.le, Nat.lt_of_lt_of_le h.lt hs, hn g h.le h.lt h.nr⟩
  · obtain ⟨k, cap, h1, h2, h3, h4, h5, h6⟩ := h.hit b c e
    exact ⟨k, cap, (hc g _ h.le h.lt h.nr).trans h1, h2, by omega, (hc k _ h2 h3 h6).trans h4, (hc k _ h2 h3 h6).trans h5, hn k h2 h3 h6⟩
  · obtain ⟨k, cap, h1, h2, h3, h4, h5⟩ := h.to
    exact ⟨k, cap, (hc g _ h.le h.lt h.nr).trans h1, h2, by omega, fun j p e => (hc k _ h2 h3 h5).trans (h4 j p e), hn k h2 h3 h5⟩
theorem Tab.keep {w w' : World} {B g : Nat} {ps : List Pr} (h : Tab w B g ps) (hs : w.heap.size ≤ w'.heap.size) (hk : ∀ k, B ≤ k → k < w.heap.size → w'.heap[k]? = w.heap[k]?) : Tab w' B g ps := h.keepU hs fun k h1 h2 _ => hk k h1 h2
theorem Tab.below {w w' : World} {B g : Nat} {ps : List Pr} (h : Tab w B g ps) (k : Below w.heap.size w w') : Tab w' B g ps := h.keep k.size fun _ _ h2 => k.block _ h2
theorem Tab.only {w w' : World} {B g R : Nat} {ps : List Pr} (h : Tab w B g ps) (k : w.grownBy w' (some R)) (hR : R < B) : Tab w' B g ps := h.keep k.size fun q h1 h2 => k.block q h2 (by intro e; simp at e; omega)
theorem Tab.weaken {w : World} {B B' g : Nat} {ps : List Pr} (h : Tab w B g ps) (hB : B' ≤ B) : Tab w B' g ps := by
  have hle := h.le
  refine ⟨fun b c e => ?_, h.miss, ?_, by omega, h.lt, h.nr⟩
  · obtain ⟨k, cap, h1, h2, h3, h4, h5, h6⟩ := h.hit b c e
    exact ⟨k, cap, h1, by omega, h3, h4, h5, h6⟩
  · obtain ⟨k, cap, h1, h2, h3, h4, h5⟩ := h.to
    exact ⟨k, cap, h1, by omega, h3, h4, h5⟩

theorem TabB.done {w : World} {base g : Nat} {tv : Value} {ps : List Pr} (h : TabB w base g tv ps) (hps : 0 < ps.length) : Tab w base g ps := by
  have hle := h.le
  refine ⟨fun b c e => ?_, h.miss, ?_, h.le, h.lt, ?_⟩
  · obtain ⟨k, cap, h1, h2, h3, _, h5, h6, h7⟩ := h.hit b c e
    exact ⟨k, cap, h1, by omega, h3, h5, h6, h7⟩
  · obtain ⟨k, cap, e, h1, h2⟩ := h.own.form hps
    have ho := h.own
    have ht := h.to
    rw [e] at ho ht
    refine ⟨k, cap, ht, h1, h2, fun j p hj => ?_, ?_⟩
    · have hjl : j < ps.length := by
        have := (List.getElem?_eq_some_iff.1 hj).1
        simpa using this
      have := ho.cellAt j (by omega)
      rw [this, List.getElem?_map, hj]
      rfl
    · rcases ho.2 with ⟨h', _⟩ | ⟨g', cap', cur, h', _, hg, _⟩
      · simp at h'
      · simp at h'
        obtain ⟨rfl, _⟩ := h'
        intro cur' e'
        rw [hg] at e'
        simp at e'
  · obtain ⟨cur, hr, _⟩ := h.row
    intro cur' e'
    rw [hr] at e'
    simp at e'
end Go.Proofs.YtgjcdhcbniholaaGreat.Rp
