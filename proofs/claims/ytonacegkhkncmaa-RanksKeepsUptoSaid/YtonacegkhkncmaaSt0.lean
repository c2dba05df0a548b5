/- Stable sorting as Go's library does it, plain: exchanges, rotation, merging in place, blocks. -/
import Derived.Sort.LotA
namespace Go.Proofs.Ytonacegkhkncmaa.St
open Go.Sort
set_option linter.unusedVariables false
set_option linter.unusedSectionVars false
set_option linter.unusedSimpArgs false

abbrev Cnt := Int × Int
/-- Rising by index. -/
def Srt (l : List Cnt) : Prop := l.Pairwise fun x y => x.1 ≤ y.1

/-! Exchanges. -/
section
variable {α : Type} [Inhabited α]
theorem swp_list {X Y Z : List α} {x y : α} {i j : Nat} (hi : i = X.length) (hj : j = X.length + 1 + Y.length) :
    swp (X ++ x :: (Y ++ y :: Z)).toArray i j = (X ++ y :: (Y ++ x :: Z)).toArray := by
  subst hi hj
  apply Array.ext'
  unfold swp
  have e1 : (X ++ x :: (Y ++ y :: Z)).toArray[X.length]! = x := by simp
  have e2 : (X ++ x :: (Y ++ y :: Z)).toArray[X.length + 1 + Y.length]! = y := by
    simp [List.getElem?_append, show ¬ X.length + 1 + Y.length < X.length by omega, show X.length + 1 + Y.length - X.length = Y.length + 1 by omega]
  rw [e1, e2]
  simp [List.set_append, show ¬ X.length + 1 + Y.length < X.length by omega, show X.length + 1 + Y.length - X.length = Y.length + 1 by omega]
theorem swp_list' {X Y Z : List α} {x y : α} {i j : Nat} (hi : i = X.length) (hj : j = X.length + 1 + Y.length) :
    swp (X ++ x :: (Y ++ y :: Z)).toArray j i = (X ++ y :: (Y ++ x :: Z)).toArray := by
  subst hi hj
  apply Array.ext'
  unfold swp
  have e1 : (X ++ x :: (Y ++ y :: Z)).toArray[X.length]! = x := by simp
  have e2 : (X ++ x :: (Y ++ y :: Z)).toArray[X.length + 1 + Y.length]! = y := by
    simp [List.getElem?_append, show ¬ X.length + 1 + Y.length < X.length by omega, show X.length + 1 + Y.length - X.length = Y.length + 1 by omega]
  rw [e1, e2]
  simp [List.set_append, show ¬ X.length + 1 + Y.length < X.length by omega, show X.length + 1 + Y.length - X.length = Y.length + 1 by omega]

/-- What stands at a place within a middle part. -/
theorem at_mid {X U Y : List α} {k i : Nat} (hk : k = X.length + i) (hi : i < U.length) : (X ++ (U ++ Y)).toArray[k]! = U[i]! := by
  subst hk
  have h : X.length + i < (X ++ (U ++ Y)).length := by simp; omega
  have e : (X ++ (U ++ Y)).toArray[X.length + i]! = (X ++ (U ++ Y))[X.length + i] := by
    rw [getElem!_pos _ _ (by simpa using h)]; simp
  rw [e, List.getElem_append_right (by omega), List.getElem_append_left (by omega), getElem!_pos U i hi]
  congr 1; omega

/-- An element that wanders up. -/
theorem up_step {X V Y : List α} {u : α} {k i j : Nat} (hk : k < V.length) (hi : i = X.length + k) (hj : j = X.length + k + 1) :
    swp (X ++ (V.take k ++ u :: V.drop k) ++ Y).toArray i j = (X ++ (V.take (k + 1) ++ u :: V.drop (k + 1)) ++ Y).toArray := by
  have hl : (V.take k).length = k := by rw [List.length_take]; omega
  have := swp_list (X := X ++ V.take k) (Y := []) (Z := V.drop (k + 1) ++ Y) (x := u) (y := V[k]) (i := i) (j := j) (by simp [hl]; omega) (by simp [hl]; omega)
  have e1 : X ++ (V.take k ++ u :: V.drop k) ++ Y = (X ++ V.take k) ++ u :: ([] ++ V[k] :: (V.drop (k + 1) ++ Y)) := by
    rw [List.drop_eq_getElem_cons hk]; simp only [List.append_assoc, List.cons_append, List.nil_append]
  have e2 : X ++ (V.take (k + 1) ++ u :: V.drop (k + 1)) ++ Y = (X ++ V.take k) ++ V[k] :: ([] ++ u :: (V.drop (k + 1) ++ Y)) := by
    rw [List.take_succ_eq_append_getElem hk]; simp only [List.append_assoc, List.cons_append, List.nil_append]
  rw [e1, e2]
  exact this
/-- An element that wanders down. -/
theorem down_step {X V Y : List α} {u : α} {k i j : Nat} (hk : k < V.length) (hi : i = X.length + k + 1) (hj : j = X.length + k) :
    swp (X ++ (V.take (k + 1) ++ u :: V.drop (k + 1)) ++ Y).toArray i j = (X ++ (V.take k ++ u :: V.drop k) ++ Y).toArray := by
  have hl : (V.take k).length = k := by rw [List.length_take]; omega
  have := swp_list' (X := X ++ V.take k) (Y := []) (Z := V.drop (k + 1) ++ Y) (x := V[k]) (y := u) (i := j) (j := i) (by simp [hl]; omega) (by simp [hl]; omega)
  have e1 : X ++ (V.take k ++ u :: V.drop k) ++ Y = (X ++ V.take k) ++ u :: ([] ++ V[k] :: (V.drop (k + 1) ++ Y)) := by
    rw [List.drop_eq_getElem_cons hk]; simp only [List.append_assoc, List.cons_append, List.nil_append]
  have e2 : X ++ (V.take (k + 1) ++ u :: V.drop (k + 1)) ++ Y = (X ++ V.take k) ++ V[k] :: ([] ++ u :: (V.drop (k + 1) ++ Y)) := by
    rw [List.take_succ_eq_append_getElem hk]; simp only [List.append_assoc, List.cons_append, List.nil_append]
  rw [e1, e2]
  exact this
/-- Two parts of one length exchanged, k of them so far. -/
def swpd (X U Y V Z : List α) (k : Nat) : List α := X ++ (V.take k ++ U.drop k) ++ Y ++ (U.take k ++ V.drop k) ++ Z
theorem swpd_zero (X U Y V Z : List α) : swpd X U Y V Z 0 = X ++ U ++ Y ++ V ++ Z := by simp [swpd]
theorem swpd_done {X U Y V Z : List α} {n : Nat} (hu : U.length = n) (hv : V.length = n) : swpd X U Y V Z n = X ++ V ++ Y ++ U ++ Z := by
  unfold swpd
  rw [List.take_of_length_le (by omega), List.drop_of_length_le (by omega), List.take_of_length_le (by omega), List.drop_of_length_le (by omega)]
  simp
theorem swpd_step {X U Y V Z : List α} {n k i j : Nat} (hu : U.length = n) (hv : V.length = n) (hk : k < n) (hi : i = X.length + k) (hj : j = X.length + n + Y.length + k) :
    swp (swpd X U Y V Z k).toArray i j = (swpd X U Y V Z (k + 1)).toArray := by
  have hl : (V.take k).length = k := by rw [List.length_take]; omega
  have hl2 : (U.take k).length = k := by rw [List.length_take]; omega
  have hl3 : (U.drop (k + 1)).length = n - (k + 1) := by rw [List.length_drop]; omega
  have := swp_list (X := X ++ V.take k) (Y := U.drop (k + 1) ++ Y ++ U.take k) (Z := V.drop (k + 1) ++ Z) (x := U[k]) (y := V[k]) (i := i) (j := j) (by simp [hl]; omega) (by simp [hl, hl2, hl3]; omega)
  have e1 : swpd X U Y V Z k = (X ++ V.take k) ++ U[k] :: ((U.drop (k + 1) ++ Y ++ U.take k) ++ V[k] :: (V.drop (k + 1) ++ Z)) := by
    unfold swpd
    rw [List.drop_eq_getElem_cons (l := U) (by omega), List.drop_eq_getElem_cons (l := V) (by omega)]; simp only [List.append_assoc, List.cons_append, List.nil_append]
  have e2 : swpd X U Y V Z (k + 1) = (X ++ V.take k) ++ V[k] :: ((U.drop (k + 1) ++ Y ++ U.take k) ++ U[k] :: (V.drop (k + 1) ++ Z)) := by
    unfold swpd
    rw [List.take_succ_eq_append_getElem (l := U) (by omega), List.take_succ_eq_append_getElem (l := V) (by omega)]; simp only [List.append_assoc, List.cons_append, List.nil_append]
  rw [e1, e2]
  exact this
theorem swpd_len {X U Y V Z : List α} {n : Nat} (hu : U.length = n) (hv : V.length = n) (k : Nat) : (swpd X U Y V Z k).length = X.length + n + Y.length + n + Z.length := by
  unfold swpd
  simp only [List.length_append, List.length_take, List.length_drop, hu, hv]
  omega
end

/-! Order. -/
theorem Srt.parts {a b : List Cnt} (ha : Srt a) (hb : Srt b) (h : ∀ x ∈ a, ∀ y ∈ b, x.1 ≤ y.1) : Srt (a ++ b) := List.pairwise_append.2 ⟨ha, hb, h⟩
theorem Srt.take {l : List Cnt} (h : Srt l) (k : Nat) : Srt (l.take k) := List.Pairwise.sublist (List.take_sublist _ _) h
theorem Srt.drop {l : List Cnt} (h : Srt l) (k : Nat) : Srt (l.drop k) := List.Pairwise.sublist (List.drop_sublist _ _) h
theorem Srt.le {l : List Cnt} (h : Srt l) {i j : Nat} (hij : i ≤ j) (hj : j < l.length) : (l[i]!).1 ≤ (l[j]!).1 := by
  rw [getElem!_pos l i (by omega), getElem!_pos l j hj]
  rcases Nat.lt_or_eq_of_le hij with h1 | rfl
  · exact List.pairwise_iff_getElem.1 h i j (by omega) hj h1
  · exact Int.le_refl _
theorem mem_take_get {l : List Cnt} {k : Nat} {x : Cnt} (h : x ∈ l.take k) : ∃ i, i < k ∧ i < l.length ∧ x = l[i]! := by
  obtain ⟨i, hi, e⟩ := List.mem_take_iff_getElem.1 h
  exact ⟨i, by omega, by omega, by rw [getElem!_pos l i (by omega)]; exact e.symm⟩
theorem mem_drop_get {l : List Cnt} {k : Nat} {x : Cnt} (h : x ∈ l.drop k) : ∃ i, k ≤ i ∧ i < l.length ∧ x = l[i]! := by
  obtain ⟨i, hi, e⟩ := List.mem_iff_getElem.1 h
  rw [List.getElem_drop] at e
  rw [List.length_drop] at hi
  exact ⟨k + i, by omega, by omega, by rw [getElem!_pos l (k + i) (by omega)]; exact e.symm⟩
/-- One laid in among sorted ones. -/
theorem Srt.insert {V : List Cnt} {u : Cnt} {p : Nat} (h : Srt V) (h1 : ∀ i, i < p → i < V.length → (V[i]!).1 ≤ u.1) (h2 : ∀ i, p ≤ i → i < V.length → u.1 ≤ (V[i]!).1) : Srt (V.take p ++ u :: V.drop p) := by
  refine List.pairwise_append.2 ⟨h.take p, List.pairwise_cons.2 ⟨fun y hy => ?_, h.drop p⟩, fun x hx y hy => ?_⟩
  · obtain ⟨i, a, b, rfl⟩ := mem_drop_get hy
    exact h2 i a b
  · obtain ⟨i, a, b, rfl⟩ := mem_take_get hx
    rcases List.mem_cons.1 hy with rfl | hy
    · exact h1 i a b
    · obtain ⟨j, c, d, rfl⟩ := mem_drop_get hy
      exact h.le (by omega) d
theorem insert_perm (V : List Cnt) (u : Cnt) (p : Nat) : (V.take p ++ u :: V.drop p).Perm (u :: V) := by
  refine List.perm_middle.trans ?_
  rw [List.take_append_drop]
theorem rot_perm {a b c d : List Cnt} : ((a ++ c) ++ (b ++ d)).Perm ((a ++ b) ++ (c ++ d)) := by
  simp only [List.append_assoc]
  refine List.Perm.append_left a ?_
  rw [← List.append_assoc, ← List.append_assoc]
  exact List.Perm.append_right d List.perm_append_comm

/-- Where two sorted lists are cut so that the first halves stand below the second ones: what the search by halves finds. -/
theorem cut_ok {U V : List Cnt} {h s s0 r0 : Nat} (hU : Srt U) (hV : Srt V) (hs : s ≤ U.length) (hsh : s ≤ h) (hv : h - s ≤ V.length)
    (hc : (h < U.length ∧ s0 + V.length = h ∧ r0 = h) ∨ (U.length ≤ h ∧ s0 = 0 ∧ r0 = U.length)) (h0 : s0 ≤ s) (hr : s ≤ r0)
    (h1 : s0 < s → (U[s - 1]!).1 ≤ (V[h - s]!).1) (h2 : s < r0 → (V[h - 1 - s]!).1 < (U[s]!).1) :
    ∀ x ∈ U.take s ++ V.take (h - s), ∀ y ∈ U.drop s ++ V.drop (h - s), x.1 ≤ y.1 := by
  intro x hx y hy
  rcases List.mem_append.1 hx with hx | hx <;> rcases List.mem_append.1 hy with hy | hy <;>
    first | obtain ⟨i, a1, a2, rfl⟩ := mem_take_get hx <;> obtain ⟨j, b1, b2, rfl⟩ := mem_drop_get hy
  · exact hU.le (by omega) b2
  · have e : s0 < s := by omega
    have l1 := hU.le (i := i) (j := s - 1) (by omega) (by omega)
    have l2 := hV.le (i := h - s) (j := j) b1 b2
    have := h1 e
    omega
  · have e : s < r0 := by omega
    have l1 := hV.le (i := i) (j := h - 1 - s) (by omega) (by omega)
    have l2 := hU.le (i := s) (j := j) b1 b2
    have := h2 e
    omega
  · exact hV.le (by omega) b2

/-! Blocks. -/
def chunk (l : List Cnt) (a n : Nat) : List Cnt := (l.drop a).take n
/-- Every block of n, from 0 on, rises. -/
def BS (n : Nat) (l : List Cnt) : Prop := ∀ t, Srt (chunk l (t * n) n)
theorem chunk_len {l : List Cnt} {a n : Nat} (h : a + n ≤ l.length) : (chunk l a n).length = n := by simp [chunk]; omega
theorem chunk_split (l : List Cnt) (a n : Nat) : l = l.take a ++ (chunk l a n ++ l.drop (a + n)) := by
  unfold chunk
  rw [← List.drop_drop, List.take_append_drop, List.take_append_drop]
theorem Srt.all {l : List Cnt} {n : Nat} (h : BS n l) (hn : l.length ≤ n) : Srt l := by
  have := h 0
  simp only [chunk, Nat.zero_mul, List.drop_zero] at this
  rwa [List.take_of_length_le hn] at this
/-- A block that ends ahead of what has turned, or begins behind it. -/
theorem chunk_before {l W : List Cnt} {a n b m : Nat} (hW : W.length = n) (h : a + n ≤ l.length) (hb : b + m ≤ a) : chunk (l.take a ++ (W ++ l.drop (a + n))) b m = chunk l b m := by
  unfold chunk
  rw [List.drop_append_of_le_length (by rw [List.length_take]; omega), List.take_append_of_le_length (by rw [List.length_drop, List.length_take]; omega), List.drop_take, List.take_take]
  congr 1; omega
theorem chunk_behind {l W : List Cnt} {a n b m : Nat} (hW : W.length = n) (h : a + n ≤ l.length) (hb : a + n ≤ b) : chunk (l.take a ++ (W ++ l.drop (a + n))) b m = chunk l b m := by
  unfold chunk
  congr 1
  rw [List.drop_append, List.drop_append, hW, List.length_take, Nat.min_eq_left (by omega), List.drop_drop, List.drop_of_length_le (by rw [List.length_take]; omega), List.drop_of_length_le (by omega)]
  simp only [List.nil_append]
  congr 1; omega
theorem chunk_at {l W : List Cnt} {a n : Nat} (hW : W.length = n) (h : a ≤ l.length) : chunk (l.take a ++ (W ++ l.drop (a + n))) a n = W := by
  unfold chunk
  rw [List.drop_append_of_le_length (by rw [List.length_take]; omega), List.drop_of_length_le (by rw [List.length_take]; omega), List.nil_append, List.take_append_of_le_length (by omega), List.take_of_length_le (by omega)]
theorem chunk_two (l : List Cnt) (a n m : Nat) : chunk l a (n + m) = chunk l a n ++ chunk l (a + n) m := by
  unfold chunk
  rw [List.take_add, List.drop_drop]
theorem chunk_none {l : List Cnt} {a n : Nat} (h : l.length ≤ a) : chunk l a n = [] := by
  unfold chunk
  rw [List.drop_of_length_le h]; simp
theorem chunk_rest {l : List Cnt} {a n : Nat} (h : l.length ≤ a + n) : chunk l a n = chunk l a (l.length - a) := by
  unfold chunk
  rw [List.take_of_length_le (by rw [List.length_drop]; omega), List.take_of_length_le (by rw [List.length_drop]; omega)]
theorem Srt.nil : Srt [] := List.Pairwise.nil
theorem splice_perm {l W : List Cnt} {a n : Nat} (h : W.Perm (chunk l a n)) : (l.take a ++ (W ++ l.drop (a + n))).Perm l := by
  conv => rhs; rw [chunk_split l a n]
  exact List.Perm.append_left _ (List.Perm.append_right _ h)
theorem splice_len {l W : List Cnt} {a n : Nat} (h : W.Perm (chunk l a n)) : (l.take a ++ (W ++ l.drop (a + n))).length = l.length := (splice_perm h).length_eq
end Go.Proofs.Ytonacegkhkncmaa.St
