/- Lemmas for the laws of this seat, laid together of Rd2, St0, Mg0. -/
import Derived.Test.YtpiegngjpnpohaaGreatL08
import Derived.Laws.StructEq
import Derived.Sort.LotA

namespace Go.Proofs.YtpiegngjpnpohaaGreat.Rk
open Go.RowKit Go.Proofs.YtpiegngjpnpohaaGreat.Bk
set_option linter.unusedVariables false
theorem eqC (a b c d : Int) (w : World) : (Op.equalIn 10000 54 (.agg #[.int .i64 a, .int .u64 b]) (.agg #[.int .i64 c, .int .u64 d])).run Tryz.prog w = .ok (a == c && b == d) w := by
  have u3 := Tryz.underlying3
  have u39 := Tryz.underlying23
  have a3 := Tryz.isAgg3
  have a39 := Tryz.isAgg23
  have hS : Tryz.prog.underlying 54 = some (.struct (Tryz.prog.fieldsOf 54)) := by kernel_rfl
  have hp : Tryz.prog.stoodInHeld 54 = false := by kernel_rfl
  rw [show (10000 : Nat) = 9999 + 1 from rfl, run_equalIn_agg w 9999 54 _ _ hS hp]
  simp only [Program.fieldsOf, Tryz.underlying54]
  go_simp
  by_cases h1 : a = c <;> by_cases h2 : b = d <;> simp [h1, h2]
set_option maxHeartbeats 1000000 in
theorem same_any (w : World) (B : Nat) (A1 A2 : Option Addr) (a b : List (Int × Int)) (c1 c2 : Nat) (h1 : Cs w B A1 a) (h2 : Cs w B A2 b) (hB : B ≤ w.heap.size) :
    Calls Tryz.prog 63 #[.slice A1 a.length c1, .slice A2 b.length c2] w fun e w' => e = .returned (.bool (decide (a = b))) ∧ Below w.heap.size w w' := by
  have l1 := h1.len
  have l2 := h2.len
  unfold maxLen at l1 l2
  by_cases hl : a.length = b.length
  · have hl2 : (a.length != b.length) = false := by simp [hl]
    have hl3 : (a.length == b.length) = true := by simp [hl]
    have hl4 : ((a.length : Int) == (b.length : Int)) = true := by simp [hl]
    obtain ⟨n, hn⟩ : ∃ n, n = b.length := ⟨_, rfl⟩
    have hl5 := hl
    rw [← hn] at hl hl2 hl3 hl4 l2
    obtain ⟨res, hres⟩ : ∃ r, r = decide (a = b) := ⟨_, rfl⟩
    rw [hl] at hl2 hl3 hl4 l1 ⊢
    rw [← hres, ← hn]
    replace hres := Lib.hid hres
    replace hl := Lib.hid hl
    replace hl5 := Lib.hid hl5
    replace hn := Lib.hid hn
    go_enter Tryz.func63, Tryz.ntmps63
    go_wp2
    go_loopw [5] (fun i wr => ∃ k : Nat, k ≤ n ∧ i = .int .i64 k ∧ Hid (a.take k = b.take k) ∧ Below w.heap.size w wr) (fun i _ => n - (intOf i).toNat)
    case atStart => exact ⟨0, Nat.zero_le _, rfl, Lib.hid rfl, Below.refl _ _⟩
    case round =>
      obtain ⟨k, hk, rfl, he, hb⟩ := hrel
      by_cases hlt : k < n
      · have ka : k < a.length := by rw [hl.out]; exact hlt
        have kb : k < b.length := by rw [← hn.out]; exact hlt
        obtain ⟨b1, o1, rfl, hb1, q1⟩ := (h1.below (hb.mono hB)).cells (by omega)
        obtain ⟨b2, o2, rfl, hb2, q2⟩ := (h2.below (hb.mono hB)).cells (by omega)
        obtain ⟨x1, x2⟩ := q1 k a[k] (List.getElem?_eq_getElem ka)
        obtain ⟨y1, y2⟩ := q2 k b[k] (List.getElem?_eq_getElem kb)
        have hnx : a[k] = b[k] → Hid (a.take (k + 1) = b.take (k + 1)) := fun e => Lib.hid (by rw [take_snoc ka, take_snoc kb, he.out, e])
        have hdf : a[k] ≠ b[k] → res = false := fun e => by
          rw [hres.out, decide_eq_false_iff_not]
          intro h; subst h; exact e rfl
        clear q1 q2
        generalize a[k] = u at *
        generalize b[k] = v at *
        obtain ⟨u1, u2⟩ := u
        obtain ⟨v1, v2⟩ := v
        simp only [Prod.mk.injEq, ne_eq] at x1 x2 y1 y2 hnx hdf
        by_cases hu : u1 = v1 ∧ u2 = v2
        · obtain ⟨rfl, rfl⟩ := hu
          have nx := hnx ⟨rfl, rfl⟩
          clear hnx hdf
          go_wp2
          go_quiet (fail)
          go_wp2
          exact ⟨⟨k + 1, by omega, by go_num, nx, below_drewN hb _⟩, by simp [intOf]; omega⟩
        · have rs := hdf hu
          subst rs
          clear hnx hdf
          have hb2 : (u1 == v1 && u2 == v2) = false := by
            rw [Bool.and_eq_false_iff, beq_eq_false_iff_ne, beq_eq_false_iff_ne]
            by_cases e : u1 = v1
            · right; intro e2; exact hu ⟨e, e2⟩
            · exact .inl e
          have hq := eqC u1 u2 v1 v2
          rw [hb2] at hq
          replace hu := Lib.hid hu
          go_wp2
          go_quiet (fail)
          go_wp2
          go_ret
          exact ⟨rfl, below_drewN hb _⟩
      · have rs : res = true := by
          have := he.out
          rw [List.take_of_length_le (by rw [hl.out]; omega), List.take_of_length_le (by rw [← hn.out]; omega)] at this
          rw [hres.out, this]; simp
        subst rs
        go_wp2
        go_ret
        exact ⟨rfl, hb⟩
  · have hl2 : (a.length != b.length) = true := by simp [hl]
    have hl4 : ((a.length : Int) == (b.length : Int)) = false := beq_eq_false_iff_ne.2 (by omega)
    have hl3 : (a.length == b.length) = false := beq_eq_false_iff_ne.2 hl
    have hr : decide (a = b) = false := decide_eq_false fun h => hl (by rw [h])
    rw [hr]
    replace hl := Lib.hid hl
    replace hr := Lib.hid hr
    go_enter Tryz.func63, Tryz.ntmps63
    go_wp2
    go_ret
    exact ⟨rfl, Below.refl _ _⟩
end Go.Proofs.YtpiegngjpnpohaaGreat.Rk

namespace Go.Proofs.YtpiegngjpnpohaaGreat.St
open Go.Sort
set_option linter.unusedVariables false
set_option linter.unusedSectionVars false
set_option linter.unusedSimpArgs false
abbrev Cnt := Int × Int
def Srt (l : List Cnt) : Prop := l.Pairwise fun x y => x.1 ≤ y.1
section
variable {α : Type} [Inhabited α]
theorem swp_list {X Y Z : List α} {x y : α} {i j : Nat} (hi : i = X.length) (hj : j = X.length + 1 + Y.length) :
    swp (X ++ x :: (Y ++ y :: Z)).toArray i j = (X ++ y :: (Y ++ x :: Z)).toArray := by
  subst hi hj
  apply Array.ext'
  unfold swp
  have e1 : (X ++ x :: (Y ++ y :: Z)).toArray[X.length]! = x := by simp
  have e2 : (X ++ x :: (Y ++ y :: Z)).toArray[X.length + 1 + Y.length]! = y := by
    simp [List.getElem?_append, show ¬ X.length + 1 + Y.length < X.length by omega, show X.length + 1 + Y.length - X.length = Y.length + 1 by omega]
  rw [e1, e2]
  simp [List.set_append, show ¬ X.length + 1 + Y.length < X.length by omega, show X.length + 1 + Y.length - X.length = Y.length + 1 by omega]
theorem swp_list' {X Y Z : List α} {x y : α} {i j : Nat} (hi : i = X.length) (hj : j = X.length + 1 + Y.length) :
    swp (X ++ x :: (Y ++ y :: Z)).toArray j i = (X ++ y :: (Y ++ x :: Z)).toArray := by
  subst hi hj
  apply Array.ext'
  unfold swp
  have e1 : (X ++ x :: (Y ++ y :: Z)).toArray[X.length]! = x := by simp
  have e2 : (X ++ x :: (Y ++ y :: Z)).toArray[X.length + 1 + Y.length]! = y := by
    simp [List.getElem?_append, show ¬ X.length + 1 + Y.length < X.length by omega, show X.length + 1 + Y.length - X.length = Y.length + 1 by omega]
  rw [e1, e2]
  simp [List.set_append, show ¬ X.length + 1 + Y.length < X.length by omega, show X.length + 1 + Y.length - X.length = Y.length + 1 by omega]
theorem at_mid {X U Y : List α} {k i : Nat} (hk : k = X.length + i) (hi : i < U.length) : (X ++ (U ++ Y)).toArray[k]! = U[i]! := by
  subst hk
  have h : X.length + i < (X ++ (U ++ Y)).length := by simp; omega
  have e : (X ++ (U ++ Y)).toArray[X.length + i]! = (X ++ (U ++ Y))[X.length + i] := by
    rw [getElem!_pos _ _ (by simpa using h)]; simp
  rw [e, List.getElem_append_right (by omega), List.getElem_append_left (by omega), getElem!_pos U i hi]
  congr 1; omega
theorem up_step {X V Y : List α} {u : α} {k i j : Nat} (hk : k < V.length) (hi : i = X.length + k) (hj : j = X.length + k + 1) :
    swp (X ++ (V.take k ++ u :: V.drop k) ++ Y).toArray i j = (X ++ (V.take (k + 1) ++ u :: V.drop (k + 1)) ++ Y).toArray := by
  have hl : (V.take k).length = k := by rw [List.length_take]; omega
  have := swp_list (X := X ++ V.take k) (Y := []) (Z := V.drop (k + 1) ++ Y) (x := u) (y := V[k]) (i := i) (j := j) (by simp [hl]; omega) (by simp [hl]; omega)
  have e1 : X ++ (V.take k ++ u :: V.drop k) ++ Y = (X ++ V.take k) ++ u :: ([] ++ V[k] :: (V.drop (k + 1) ++ Y)) := by
    rw [List.drop_eq_getElem_cons hk]; simp only [List.append_assoc, List.cons_append, List.nil_append]
  have e2 : X ++ (V.take (k + 1) ++ u :: V.drop (k + 1)) ++ Y = (X ++ V.take k) ++ V[k] :: ([] ++ u :: (V.drop (k + 1) ++ Y)) := by
    rw [List.take_succ_eq_append_getElem hk]; simp only [List.append_assoc, List.cons_append, List.nil_append]
  rw [e1, e2]
  exact this
theorem down_step {X V Y : List α} {u : α} {k i j : Nat} (hk : k < V.length) (hi : i = X.length + k + 1) (hj : j = X.length + k) :
    swp (X ++ (V.take (k + 1) ++ u :: V.drop (k + 1)) ++ Y).toArray i j = (X ++ (V.take k ++ u :: V.drop k) ++ Y).toArray := by
  have hl : (V.take k).length = k := by rw [List.length_take]; omega
  have := swp_list' (X := X ++ V.take k) (Y := []) (Z := V.drop (k + 1) ++ Y) (x := V[k]) (y := u) (i := j) (j := i) (by simp [hl]; omega) (by simp [hl]; omega)
  have e1 : X ++ (V.take k ++ u :: V.drop k) ++ Y = (X ++ V.take k) ++ u :: ([] ++ V[k] :: (V.drop (k + 1) ++ Y)) := by
    rw [List.drop_eq_getElem_cons hk]; simp only [List.append_assoc, List.cons_append, List.nil_append]
  have e2 : X ++ (V.take (k + 1) ++ u :: V.drop (k + 1)) ++ Y = (X ++ V.take k) ++ V[k] :: ([] ++ u :: (V.drop (k + 1) ++ Y)) := by
    rw [List.take_succ_eq_append_getElem hk]; simp only [List.append_assoc, List.cons_append, List.nil_append]
  rw [e1, e2]
  exact this
def swpd (X U Y V Z : List α) (k : Nat) : List α := X ++ (V.take k ++ U.drop k) ++ Y ++ (U.take k ++ V.drop k) ++ Z
theorem swpd_zero (X U Y V Z : List α) : swpd X U Y V Z 0 = X ++ U ++ Y ++ V ++ Z := by simp [swpd]
theorem swpd_done {X U Y V Z : List α} {n : Nat} (hu : U.length = n) (hv : V.length = n) : swpd X U Y V Z n = X ++ V ++ Y ++ U ++ Z := by
  unfold swpd
  rw [List.take_of_length_le (by omega), List.drop_of_length_le (by omega), List.take_of_length_le (by omega), List.drop_of_length_le (by omega)]
  simp
theorem swpd_step {X U Y V Z : List α} {n k i j : Nat} (hu : U.length = n) (hv : V.length = n) (hk : k < n) (hi : i = X.length + k) (hj : j = X.length + n + Y.length + k) :
    swp (swpd X U Y V Z k).toArray i j = (swpd X U Y V Z (k + 1)).toArray := by
  have hl : (V.take k).length = k := by rw [List.length_take]; omega
  have hl2 : (U.take k).length = k := by rw [List.length_take]; omega
  have hl3 : (U.drop (k + 1)).length = n - (k + 1) := by rw [List.length_drop]; omega
  have := swp_list (X := X ++ V.take k) (Y := U.drop (k + 1) ++ Y ++ U.take k) (Z := V.drop (k + 1) ++ Z) (x := U[k]) (y := V[k]) (i := i) (j := j) (by simp [hl]; omega) (by simp [hl, hl2, hl3]; omega)
  have e1 : swpd X U Y V Z k = (X ++ V.take k) ++ U[k] :: ((U.drop (k + 1) ++ Y ++ U.take k) ++ V[k] :: (V.drop (k + 1) ++ Z)) := by
    unfold swpd
    rw [List.drop_eq_getElem_cons (l := U) (by omega), List.drop_eq_getElem_cons (l := V) (by omega)]; simp only [List.append_assoc, List.cons_append, List.nil_append]
  have e2 : swpd X U Y V Z (k + 1) = (X ++ V.take k) ++ V[k] :: ((U.drop (k + 1) ++ Y ++ U.take k) ++ U[k] :: (V.drop (k + 1) ++ Z)) := by
    unfold swpd
    rw [List.take_succ_eq_append_getElem (l := U) (by omega), List.take_succ_eq_append_getElem (l := V) (by omega)]; simp only [List.append_assoc, List.cons_append, List.nil_append]
  rw [e1, e2]
  exact this
theorem swpd_len {X U Y V Z : List α} {n : Nat} (hu : U.length = n) (hv : V.length = n) (k : Nat) : (swpd X U Y V Z k).length = X.length + n + Y.length + n + Z.length := by
  unfold swpd
  simp only [List.length_append, List.length_take, List.length_drop, hu, hv]
  omega
end
theorem Srt.parts {a b : List Cnt} (ha : Srt a) (hb : Srt b) (h : ∀ x ∈ a, ∀ y ∈ b, x.1 ≤ y.1) : Srt (a ++ b) := List.pairwise_append.2 ⟨ha, hb, h⟩
theorem Srt.take {l : List Cnt} (h : Srt l) (k : Nat) : Srt (l.take k) := List.Pairwise.sublist (List.take_sublist _ _) h
theorem Srt.drop {l : List Cnt} (h : Srt l) (k : Nat) : Srt (l.drop k) := List.Pairwise.sublist (List.drop_sublist _ _) h
theorem Srt.le {l : List Cnt} (h : Srt l) {i j : Nat} (hij : i ≤ j) (hj : j < l.length) : (l[i]!).1 ≤ (l[j]!).1 := by
  rw [getElem!_pos l i (by omega), getElem!_pos l j hj]
  rcases Nat.lt_or_eq_of_le hij with h1 | rfl
  · exact List.pairwise_iff_getElem.1 h i j (by omega) hj h1
  · exact Int.le_refl _
theorem mem_take_get {l : List Cnt} {k : Nat} {x : Cnt} (h : x ∈ l.take k) : ∃ i, i < k ∧ i < l.length ∧ x = l[i]! := by
  obtain ⟨i, hi, e⟩ := List.mem_take_iff_getElem.1 h
  exact ⟨i, by omega, by omega, by rw [getElem!_pos l i (by omega)]; exact e.symm⟩
theorem mem_drop_get {l : List Cnt} {k : Nat} {x : Cnt} (h : x ∈ l.drop k) : ∃ i, k ≤ i ∧ i < l.length ∧ x = l[i]! := by
  obtain ⟨i, hi, e⟩ := List.mem_iff_getElem.1 h
  rw [List.getElem_drop] at e
  rw [List.length_drop] at hi
  exact ⟨k + i, by omega, by omega, by rw [getElem!_pos l (k + i) (by omega)]; exact e.symm⟩
theorem Srt.insert {V : List Cnt} {u : Cnt} {p : Nat} (h : Srt V) (h1 : ∀ i, i < p → i < V.length → (V[i]!).1 ≤ u.1) (h2 : ∀ i, p ≤ i → i < V.length → u.1 ≤ (V[i]!).1) : Srt (V.take p ++ u :: V.drop p) := by
  refine List.pairwise_append.2 ⟨h.take p, List.pairwise_cons.2 ⟨fun y hy => ?_, h.drop p⟩, fun x hx y hy => ?_⟩
  · obtain ⟨i, a, b, rfl⟩ := mem_drop_get hy
    exact h2 i a b
  · obtain ⟨i, a, b, rfl⟩ := mem_take_get hx
    rcases List.mem_cons.1 hy with rfl | hy
    · exact h1 i a b
    · obtain ⟨j, c, d, rfl⟩ := mem_drop_get hy
      exact h.le (by omega) d
theorem insert_perm (V : List Cnt) (u : Cnt) (p : Nat) : (V.take p ++ u :: V.drop p).Perm (u :: V) := by
  refine List.perm_middle.trans ?_
  rw [List.take_append_drop]
theorem rot_perm {a b c d : List Cnt} : ((a ++ c) ++ (b ++ d)).Perm ((a ++ b) ++ (c ++ d)) := by
  simp only [List.append_assoc]
  refine List.Perm.append_left a ?_
  rw [← List.append_assoc, ← List.append_assoc]
  exact List.Perm.append_right d List.perm_append_comm
theorem cut_ok {U V : List Cnt} {h s s0 r0 : Nat} (hU : Srt U) (hV : Srt V) (hs : s ≤ U.length) (hsh : s ≤ h) (hv : h - s ≤ V.length)
    (hc : (h < U.length ∧ s0 + V.length = h ∧ r0 = h) ∨ (U.length ≤ h ∧ s0 = 0 ∧ r0 = U.length)) (h0 : s0 ≤ s) (hr : s ≤ r0)
    (h1 : s0 < s → (U[s - 1]!).1 ≤ (V[h - s]!).1) (h2 : s < r0 → (V[h - 1 - s]!).1 < (U[s]!).1) :
    ∀ x ∈ U.take s ++ V.take (h - s), ∀ y ∈ U.drop s ++ V.drop (h - s), x.1 ≤ y.1 := by
  intro x hx y hy
  rcases List.mem_append.1 hx with hx | hx <;> rcases List.mem_append.1 hy with hy | hy <;>
    first | obtain ⟨i, a1, a2, rfl⟩ := mem_take_get hx <;> obtain ⟨j, b1, b2, rfl⟩ := mem_drop_get hy
  · exact hU.le (by omega) b2
  · have e : s0 < s := by omega
    have l1 := hU.le (i := i) (j := s - 1) (by omega) (by omega)
    have l2 := hV.le (i := h - s) (j := j) b1 b2
    have := h1 e
    omega
  · have e : s < r0 := by omega
    have l1 := hV.le (i := i) (j := h - 1 - s) (by omega) (by omega)
    have l2 := hU.le (i := s) (j := j) b1 b2
    have := h2 e
    omega
  · exact hV.le (by omega) b2
def chunk (l : List Cnt) (a n : Nat) : List Cnt := (l.drop a).take n
def BS (n : Nat) (l : List Cnt) : Prop := ∀ t, Srt (chunk l (t * n) n)
theorem chunk_len {l : List Cnt} {a n : Nat} (h : a + n ≤ l.length) : (chunk l a n).length = n := by simp [chunk]; omega
theorem chunk_split (l : List Cnt) (a n : Nat) : l = l.take a ++ (chunk l a n ++ l.drop (a + n)) := by
  unfold chunk
  rw [← List.drop_drop, List.take_append_drop, List.take_append_drop]
theorem Srt.all {l : List Cnt} {n : Nat} (h : BS n l) (hn : l.length ≤ n) : Srt l := by
  have := h 0
  simp only [chunk, Nat.zero_mul, List.drop_zero] at this
  rwa [List.take_of_length_le hn] at this
theorem chunk_before {l W : List Cnt} {a n b m : Nat} (hW : W.length = n) (h : a + n ≤ l.length) (hb : b + m ≤ a) : chunk (l.take a ++ (W ++ l.drop (a + n))) b m = chunk l b m := by
  unfold chunk
  rw [List.drop_append_of_le_length (by rw [List.length_take]; omega), List.take_append_of_le_length (by rw [List.length_drop, List.length_take]; omega), List.drop_take, List.take_take]
  congr 1; omega
theorem chunk_behind {l W : List Cnt} {a n b m : Nat} (hW : W.length = n) (h : a + n ≤ l.length) (hb : a + n ≤ b) : chunk (l.take a ++ (W ++ l.drop (a + n))) b m = chunk l b m := by
  unfold chunk
  congr 1
  rw [List.drop_append, List.drop_append, hW, List.length_take, Nat.min_eq_left (by omega), List.drop_drop, List.drop_of_length_le (by rw [List.length_take]; omega), List.drop_of_length_le (by omega)]
  simp only [List.nil_append]
  congr 1; omega
theorem chunk_at {l W : List Cnt} {a n : Nat} (hW : W.length = n) (h : a ≤ l.length) : chunk (l.take a ++ (W ++ l.drop (a + n))) a n = W := by
  unfold chunk
  rw [List.drop_append_of_le_length (by rw [List.length_take]; omega), List.drop_of_length_le (by rw [List.length_take]; omega), List.nil_append, List.take_append_of_le_length (by omega), List.take_of_length_le (by omega)]
theorem chunk_two (l : List Cnt) (a n m : Nat) : chunk l a (n + m) = chunk l a n ++ chunk l (a + n) m := by
  unfold chunk
  rw [List.take_add, List.drop_drop]
theorem chunk_none {l : List Cnt} {a n : Nat} (h : l.length ≤ a) : chunk l a n = [] := by
  unfold chunk
  rw [List.drop_of_length_le h]; simp
theorem chunk_rest {l : List Cnt} {a n : Nat} (h : l.length ≤ a + n) : chunk l a n = chunk l a (l.length - a) := by
  unfold chunk
  rw [List.take_of_length_le (by rw [List.length_drop]; omega), List.take_of_length_le (by rw [List.length_drop]; omega)]
theorem Srt.nil : Srt [] := List.Pairwise.nil
theorem splice_perm {l W : List Cnt} {a n : Nat} (h : W.Perm (chunk l a n)) : (l.take a ++ (W ++ l.drop (a + n))).Perm l := by
  conv => rhs; rw [chunk_split l a n]
  exact List.Perm.append_left _ (List.Perm.append_right _ h)
theorem splice_len {l W : List Cnt} {a n : Nat} (h : W.Perm (chunk l a n)) : (l.take a ++ (W ++ l.drop (a + n))).length = l.length := (splice_perm h).length_eq
end Go.Proofs.YtpiegngjpnpohaaGreat.St

namespace Go.Proofs.YtpiegngjpnpohaaGreat.Mg
open Go.Proofs.YtpiegngjpnpohaaGreat.St
set_option linter.unusedVariables false
set_option linter.unusedSimpArgs false
def two64 : Int := 18446744073709551616
def stp (out : List Cnt) (c : Cnt) : List Cnt :=
  match out.getLast? with
  | some d => if d.1 = c.1 then out.dropLast ++ [(d.1, (d.2 + c.2) % two64)] else out ++ [c]
  | none => [c]
def clp (s : List Cnt) : List Cnt := s.foldl stp []
def nz (l : List Cnt) : List Cnt := l.filter fun c => decide (c.2 ≠ 0)
def Rise (l : List Cnt) : Prop := l.Pairwise fun x y => x.1 < y.1
def tW (q : Int → Bool) (l : List Cnt) : Int := ((l.filter fun c => q c.1).map (·.2)).sum
def okN (l : List Cnt) : Prop := ∀ c ∈ l, 0 ≤ c.2 ∧ c.2 < two64
theorem clp_snoc (s : List Cnt) (c : Cnt) : clp (s ++ [c]) = stp (clp s) c := by simp [clp]
theorem stp_nil (c : Cnt) : stp [] c = [c] := rfl
theorem stp_same (r : List Cnt) (j n m : Int) : stp (r ++ [(j, n)]) (j, m) = r ++ [(j, (n + m) % two64)] := by simp [stp]
theorem stp_other (r : List Cnt) (d c : Cnt) (h : d.1 ≠ c.1) : stp (r ++ [d]) c = r ++ [d, c] := by simp [stp, h]
theorem tW_append (q : Int → Bool) (a b : List Cnt) : tW q (a ++ b) = tW q a + tW q b := by simp [tW, List.filter_append]
theorem tW_cons (q : Int → Bool) (c : Cnt) (b : List Cnt) : tW q (c :: b) = (if q c.1 then c.2 else 0) + tW q b := by
  unfold tW
  rw [List.filter_cons]
  split <;> simp
theorem tW_nil (q : Int → Bool) : tW q [] = 0 := rfl
theorem tW_one (q : Int → Bool) (c : Cnt) : tW q [c] = if q c.1 then c.2 else 0 := by rw [tW_cons, tW_nil]; omega
theorem tW_perm (q : Int → Bool) {a b : List Cnt} (h : a.Perm b) : tW q a = tW q b := by
  induction h with
  | nil => rfl
  | cons x _ ih => rw [tW_cons, tW_cons, ih]
  | swap x y l => rw [tW_cons, tW_cons, tW_cons, tW_cons]; omega
  | trans _ _ i1 i2 => rw [i1, i2]
theorem tW_nonneg (q : Int → Bool) : ∀ {l : List Cnt}, okN l → 0 ≤ tW q l
  | [], _ => by simp [tW_nil]
  | c :: r, h => by
    have := tW_nonneg q (l := r) (fun x hx => h x (List.mem_cons_of_mem _ hx))
    have := (h c (List.mem_cons_self ..)).1
    rw [tW_cons]; split <;> omega
theorem tW_le (q : Int → Bool) : ∀ {l : List Cnt}, okN l → tW q l ≤ tW (fun _ => true) l
  | [], _ => by simp [tW_nil]
  | c :: r, h => by
    have := tW_le q (l := r) (fun x hx => h x (List.mem_cons_of_mem _ hx))
    have := (h c (List.mem_cons_self ..)).1
    rw [tW_cons, tW_cons]; simp only [if_true]; split <;> omega
theorem okN_stp {o : List Cnt} {c : Cnt} (ho : okN o) (hc : 0 ≤ c.2 ∧ c.2 < two64) : okN (stp o c) := by
  rcases List.eq_nil_or_concat o with rfl | ⟨r, d, rfl⟩
  · intro x hx; rw [stp_nil, List.mem_singleton] at hx; rw [hx]; exact hc
  · rw [List.concat_eq_append] at ho ⊢
    obtain ⟨dj, dn⟩ := d
    obtain ⟨cj, cn⟩ := c
    by_cases h : dj = cj
    · subst h
      rw [stp_same]
      intro x hx
      rcases List.mem_append.1 hx with hx | hx
      · exact ho x (List.mem_append_left _ hx)
      · rw [List.mem_singleton] at hx; subst hx; simp only [two64]; omega
    · rw [stp_other _ _ _ h]
      intro x hx
      simp only [List.mem_append, List.mem_cons, List.not_mem_nil, or_false] at hx
      rcases hx with hx | rfl | rfl
      · exact ho x (List.mem_append_left _ hx)
      · exact ho _ (by simp)
      · exact hc
theorem tW_stp (q : Int → Bool) (o : List Cnt) (c : Cnt) : tW q (stp o c) % two64 = (tW q o + if q c.1 then c.2 else 0) % two64 := by
  rcases List.eq_nil_or_concat o with rfl | ⟨r, d, rfl⟩
  · rw [stp_nil, tW_one, tW_nil, Int.zero_add]
  · rw [List.concat_eq_append]
    obtain ⟨dj, dn⟩ := d
    obtain ⟨cj, cn⟩ := c
    by_cases h : dj = cj
    · subst h
      rw [stp_same, tW_append, tW_append, tW_one, tW_one]
      simp only [two64]
      split <;> omega
    · rw [stp_other _ _ _ h, tW_append, tW_append, tW_cons, tW_one, tW_one]
      simp only [two64]; omega
theorem tW_stp_fit (q : Int → Bool) {o : List Cnt} {c : Cnt} (ho : okN o) (hc : 0 ≤ c.2) (h : tW (fun _ => true) o + c.2 < two64) : tW q (stp o c) = tW q o + if q c.1 then c.2 else 0 := by
  rcases List.eq_nil_or_concat o with rfl | ⟨r, d, rfl⟩
  · rw [stp_nil, tW_one, tW_nil, Int.zero_add]
  · rw [List.concat_eq_append] at ho h ⊢
    obtain ⟨dj, dn⟩ := d
    obtain ⟨cj, cn⟩ := c
    by_cases hj : dj = cj
    · subst hj
      have h1 := tW_nonneg (fun _ => true) (l := r) (fun x hx => ho x (List.mem_append_left _ hx))
      have h2 := (ho (dj, dn) (by simp)).1
      rw [tW_append, tW_one] at h
      rw [stp_same, tW_append, tW_append, tW_one, tW_one]
      simp only [two64, if_true] at h h2 hc ⊢
      split <;> omega
    · rw [stp_other _ _ _ hj, tW_append, tW_append, tW_cons, tW_one, tW_one]
      omega
theorem snoc_cases {p : List Cnt → Prop} (h0 : p []) (h1 : ∀ s c, p s → p (s ++ [c])) (l : List Cnt) : p l := by
  rw [← List.reverse_reverse l]
  induction l.reverse with
  | nil => exact h0
  | cons c r ih => rw [List.reverse_cons]; exact h1 _ _ ih
theorem okN_clp (s : List Cnt) : okN s → okN (clp s) := by
  refine snoc_cases (p := fun s => okN s → okN (clp s)) (fun _ x hx => absurd hx (by simp [clp])) (fun s c ih h => ?_) s
  rw [clp_snoc]
  exact okN_stp (ih fun x hx => h x (List.mem_append_left _ hx)) (h c (by simp))
theorem tW_clp (q : Int → Bool) (s : List Cnt) : tW q (clp s) % two64 = tW q s % two64 := by
  refine snoc_cases (p := fun s => tW q (clp s) % two64 = tW q s % two64) rfl (fun s c ih => ?_) s
  rw [clp_snoc, tW_stp, tW_append, tW_one]
  simp only [two64] at ih ⊢; omega
theorem tW_clp_fit (q : Int → Bool) (s : List Cnt) : okN s → tW (fun _ => true) s < two64 → tW q (clp s) = tW q s := by
  refine snoc_cases (p := fun s => okN s → tW (fun _ => true) s < two64 → ∀ q, tW q (clp s) = tW q s) (fun _ _ _ => rfl) (fun s c ih h hf q => ?_) s |> fun h a b => h a b q
  have hs : okN s := fun x hx => h x (List.mem_append_left _ hx)
  have hc := h c (by simp)
  rw [tW_append, tW_one] at hf
  simp only [if_true] at hf
  have i := ih hs (by omega)
  rw [clp_snoc, tW_stp_fit q (okN_clp s hs) hc.1 (by rw [i]; exact hf), i, tW_append, tW_one]
theorem tW_nz (q : Int → Bool) : ∀ l : List Cnt, tW q (nz l) = tW q l
  | [] => rfl
  | c :: r => by
    have ih := tW_nz q r
    by_cases h : c.2 = 0
    · have e : nz (c :: r) = nz r := by simp [nz, h]
      rw [e, ih, tW_cons, h]; simp
    · have e : nz (c :: r) = c :: nz r := by simp [nz, h]
      rw [e, tW_cons, tW_cons, ih]
theorem clp_rise (s : List Cnt) : Srt s → Rise (clp s) ∧ (∀ c ∈ clp s, ∃ d ∈ s, d.1 = c.1) ∧ ((clp s).getLast?.map (·.1) = s.getLast?.map (·.1)) := by
  refine snoc_cases (p := fun s => Srt s → Rise (clp s) ∧ (∀ c ∈ clp s, ∃ d ∈ s, d.1 = c.1) ∧ ((clp s).getLast?.map (·.1) = s.getLast?.map (·.1))) (fun _ => ⟨List.Pairwise.nil, fun c h => absurd h (by simp [clp]), rfl⟩) (fun s c ih h => ?_) s
  obtain ⟨h1, _, h2⟩ := List.pairwise_append.1 h
  obtain ⟨i1, i2, i3⟩ := ih h1
  rw [clp_snoc]
  generalize clp s = o at *
  rcases List.eq_nil_or_concat o with rfl | ⟨r, d, rfl⟩
  · rw [stp_nil]
    exact ⟨List.pairwise_singleton _ _, fun x hx => ⟨c, by simp, by rw [List.mem_singleton.1 hx]⟩, by simp⟩
  · rw [List.concat_eq_append] at *
    obtain ⟨dj, dn⟩ := d
    obtain ⟨cj, cn⟩ := c
    obtain ⟨e, he, hed⟩ := i2 (dj, dn) (by simp)
    have hle := h2 e he (cj, cn) (by simp)
    simp only at hed hle
    obtain ⟨r1, _, r2⟩ := List.pairwise_append.1 i1
    by_cases hj : dj = cj
    · subst hj
      rw [stp_same]
      refine ⟨List.pairwise_append.2 ⟨r1, List.pairwise_singleton _ _, fun x hx y hy => ?_⟩, fun x hx => ?_, by simp⟩
      · rw [List.mem_singleton.1 hy]; exact r2 x hx (dj, dn) (by simp)
      · rcases List.mem_append.1 hx with hx | hx
        · obtain ⟨f, hf, hfe⟩ := i2 x (List.mem_append_left _ hx)
          exact ⟨f, List.mem_append_left _ hf, hfe⟩
        · rw [List.mem_singleton.1 hx]; exact ⟨(dj, cn), by simp, rfl⟩
    · rw [stp_other _ _ _ hj]
      have e1 : r ++ [(dj, dn), (cj, cn)] = (r ++ [(dj, dn)]) ++ [(cj, cn)] := by simp
      rw [e1]
      refine ⟨List.pairwise_append.2 ⟨i1, List.pairwise_singleton _ _, fun x hx y hy => ?_⟩, fun x hx => ?_, by simp⟩
      · rw [List.mem_singleton.1 hy]
        have hd : dj < cj := by omega
        rcases List.mem_append.1 hx with hx | hx
        · exact Int.lt_trans (r2 x hx (dj, dn) (by simp)) hd
        · rw [List.mem_singleton.1 hx]; exact hd
      · rcases List.mem_append.1 hx with hx | hx
        · obtain ⟨f, hf, hfe⟩ := i2 x hx
          exact ⟨f, List.mem_append_left _ hf, hfe⟩
        · rw [List.mem_singleton.1 hx]; exact ⟨(cj, cn), by simp, rfl⟩
theorem Rise.filter {l : List Cnt} (h : Rise l) (q : Cnt → Bool) : Rise (l.filter q) := List.Pairwise.sublist List.filter_sublist h
theorem rise_ext : ∀ {a b : List Cnt}, Rise a → Rise b → (∀ x, x ∈ a ↔ x ∈ b) → a = b
  | [], [], _, _, _ => rfl
  | [], y :: b, _, _, h => absurd ((h y).2 (by simp)) (by simp)
  | x :: a, [], _, _, h => absurd ((h x).1 (by simp)) (by simp)
  | x :: a, y :: b, ha, hb, h => by
    obtain ⟨a1, a2⟩ := List.pairwise_cons.1 ha
    obtain ⟨b1, b2⟩ := List.pairwise_cons.1 hb
    have e : x = y := by
      rcases List.mem_cons.1 ((h x).1 (by simp)) with e | e
      · exact e
      · rcases List.mem_cons.1 ((h y).2 (by simp)) with f | f
        · exact f.symm
        · have := a1 y f; have := b1 x e; omega
    subst e
    rw [rise_ext a2 b2 fun z => ⟨fun hz => ?_, fun hz => ?_⟩]
    · rcases List.mem_cons.1 ((h z).1 (List.mem_cons_of_mem _ hz)) with e | e
      · have := a1 z hz; rw [e] at this; omega
      · exact e
    · rcases List.mem_cons.1 ((h z).2 (List.mem_cons_of_mem _ hz)) with e | e
      · have := b1 z hz; rw [e] at this; omega
      · exact e
theorem tW_none {i : Int} : ∀ {l : List Cnt}, (∀ c ∈ l, c.1 ≠ i) → tW (fun j => decide (j = i)) l = 0
  | [], _ => rfl
  | c :: r, h => by
    rw [tW_cons, tW_none (l := r) fun x hx => h x (List.mem_cons_of_mem _ hx)]
    simp [h c (List.mem_cons_self ..)]
theorem rise_mem {i v : Int} : ∀ {l : List Cnt}, Rise l → (i, v) ∈ l → tW (fun j => decide (j = i)) l = v
  | [], _, h => absurd h (by simp)
  | c :: r, hr, h => by
    obtain ⟨a1, a2⟩ := List.pairwise_cons.1 hr
    rw [tW_cons]
    rcases List.mem_cons.1 h with e | e
    · subst e
      rw [tW_none fun x hx => by have := a1 x hx; simp only at this; omega]; simp
    · have := a1 _ e
      simp only at this
      rw [rise_mem a2 e]
      simp [show ¬ c.1 = i by omega]
theorem rise_of_sum {i : Int} {l : List Cnt} (h : tW (fun j => decide (j = i)) l ≠ 0) : ∃ v, (i, v) ∈ l := by
  refine Classical.byContradiction fun hn => h (tW_none fun c hc e => hn ⟨c.2, ?_⟩)
  rw [← e]; exact hc
theorem mem_nz {l : List Cnt} {c : Cnt} : c ∈ nz l ↔ c ∈ l ∧ c.2 ≠ 0 := by simp [nz]
theorem mem_end {s : List Cnt} (hs : Srt s) (ho : okN s) (i v : Int) : (i, v) ∈ nz (clp s) ↔ v = tW (fun j => decide (j = i)) s % two64 ∧ v ≠ 0 := by
  have hr := (clp_rise s hs).1
  have hk := okN_clp s ho
  have hsum := tW_clp (fun j => decide (j = i)) s
  rw [mem_nz]
  constructor
  · rintro ⟨h1, h2⟩
    have h3 := rise_mem hr h1
    have h4 := hk _ h1
    simp only [two64] at *
    refine ⟨?_, h2⟩
    omega
  · rintro ⟨h1, h2⟩
    have h0 : tW (fun j => decide (j = i)) (clp s) ≠ 0 := by
      intro h; rw [h] at hsum; simp only [two64] at *; omega
    obtain ⟨v', hv⟩ := rise_of_sum h0
    have h3 := rise_mem hr hv
    have h4 := hk _ hv
    have : v' = v := by simp only [two64] at *; omega
    subst this
    exact ⟨hv, h2⟩
theorem end_ext {s t : List Cnt} (hs : Srt s) (ht : Srt t) (ho : okN s) (hp : s.Perm t) : nz (clp s) = nz (clp t) := by
  have ho' : okN t := fun c hc => ho c (hp.mem_iff.2 hc)
  refine rise_ext ((clp_rise s hs).1.filter _) ((clp_rise t ht).1.filter _) fun ⟨i, v⟩ => ?_
  rw [mem_end hs ho, mem_end ht ho', tW_perm _ hp]
theorem exists_srt : ∀ l : List Cnt, ∃ s, s.Perm l ∧ Srt s
  | [] => ⟨[], List.Perm.refl _, List.Pairwise.nil⟩
  | c :: r => by
    obtain ⟨s, h1, h2⟩ := exists_srt r
    refine ⟨s.filter (fun d => decide (d.1 ≤ c.1)) ++ c :: s.filter (fun d => !decide (d.1 ≤ c.1)), ?_, ?_⟩
    · refine List.perm_middle.trans (List.Perm.cons _ ?_)
      exact (List.filter_append_perm _ s).trans h1
    · refine List.pairwise_append.2 ⟨List.Pairwise.sublist List.filter_sublist h2, List.pairwise_cons.2 ⟨fun y hy => ?_, List.Pairwise.sublist List.filter_sublist h2⟩, fun x hx y hy => ?_⟩
      · have := (List.mem_filter.1 hy).2; simp at this; omega
      · have h3 := (List.mem_filter.1 hx).2; simp at h3
        rcases List.mem_cons.1 hy with rfl | hy
        · exact h3
        · have := (List.mem_filter.1 hy).2; simp at this; omega
noncomputable def mrg (l : List Cnt) : List Cnt := nz (clp (exists_srt l).choose)
theorem mrg_of {l s : List Cnt} (hs : Srt s) (hp : s.Perm l) (ho : okN l) : nz (clp s) = mrg l := by
  obtain ⟨h1, h2⟩ := (exists_srt l).choose_spec
  exact end_ext hs h2 (fun c hc => ho c (hp.mem_iff.1 hc)) (hp.trans h1.symm)
theorem mrg_perm {a b : List Cnt} (hp : a.Perm b) (ho : okN a) : mrg a = mrg b := by
  obtain ⟨s, h1, h2⟩ := exists_srt a
  rw [← mrg_of h2 h1 ho, ← mrg_of h2 (h1.trans hp) fun c hc => ho c (hp.mem_iff.2 hc)]
theorem mrg_facts (l : List Cnt) (ho : okN l) : Rise (mrg l) ∧ (∀ c ∈ mrg l, (∃ d ∈ l, d.1 = c.1) ∧ 0 < c.2 ∧ c.2 < two64) ∧ (mrg l).length ≤ l.length ∧ (∀ q, tW q (mrg l) % two64 = tW q l % two64) ∧ (tW (fun _ => true) l < two64 → ∀ q, tW q (mrg l) = tW q l) := by
  obtain ⟨s, h1, h2⟩ := exists_srt l
  have ho' : okN s := fun c hc => ho c (h1.mem_iff.1 hc)
  rw [← mrg_of h2 h1 ho]
  obtain ⟨r1, r2, _⟩ := clp_rise s h2
  refine ⟨r1.filter _, fun c hc => ?_, ?_, fun q => ?_, fun hf q => ?_⟩
  · obtain ⟨c1, c2⟩ := mem_nz.1 hc
    obtain ⟨d, d1, d2⟩ := r2 c c1
    have := okN_clp s ho' c c1
    exact ⟨⟨d, h1.mem_iff.1 d1, d2⟩, by omega, this.2⟩
  · refine Nat.le_trans (List.length_filter_le _ _) ?_
    rw [← h1.length_eq]
    refine snoc_cases (p := fun s => (clp s).length ≤ s.length) (Nat.le_refl _) (fun s c ih => ?_) s
    rw [clp_snoc]
    rcases List.eq_nil_or_concat (clp s) with e | ⟨r, d, e⟩
    · rw [e, stp_nil]; simp
    · rw [List.concat_eq_append] at e
      rw [e] at ih ⊢
      unfold stp
      rw [List.getLast?_concat]
      simp only
      split <;> simp at ih ⊢ <;> omega
  · rw [tW_nz, tW_clp, tW_perm q h1]
  · rw [tW_nz, tW_clp_fit q s ho' (by rw [tW_perm _ h1]; exact hf), tW_perm q h1]
theorem clp_self (l : List Cnt) : Rise l → clp l = l := by
  refine snoc_cases (p := fun l => Rise l → clp l = l) (fun _ => rfl) (fun s c ih h => ?_) l
  obtain ⟨h1, _, h2⟩ := List.pairwise_append.1 h
  rw [clp_snoc, ih h1]
  rcases List.eq_nil_or_concat s with rfl | ⟨r, d, rfl⟩
  · rfl
  · rw [List.concat_eq_append] at *
    have := h2 d (by simp) c (by simp)
    rw [stp_other _ _ _ (by omega)]; simp
theorem mrg_self {l : List Cnt} (hr : Rise l) (hn : ∀ c ∈ l, c.2 ≠ 0) (ho : okN l) : mrg l = l := by
  rw [← mrg_of (s := l) (hr.imp fun h => Int.le_of_lt h) (List.Perm.refl _) ho, clp_self l hr]
  unfold nz
  rw [List.filter_eq_self]
  intro c hc; simpa using hn c hc
end Go.Proofs.YtpiegngjpnpohaaGreat.Mg
