/- LabelKeeps: rows beside rows; the walk. -/
import Derived.Test.YtgjcdhcbniholaaGreatRq
import Derived.Laws.OwnMore
import Derived.Test.YtgjcdhcbniholaaGreatLk
import Derived.Test.YtgjcdhcbniholaaGreatBy
import Derived.Test.YtgjcdhcbniholaaGreatRqP
import Derived.Laws.MakeOwn
/- Appending: onto what one has, or into a new array; rows beside rows. -/
namespace Go.Proofs.YtgjcdhcbniholaaGreat.Kp
open Go.RowKit Go.Proofs.YtgjcdhcbniholaaGreat.La Go.Proofs.YtgjcdhcbniholaaGreat.Sl
set_option linter.unusedVariables false

section
variable {P : Program} (w : World)

/-- append, told exactly: in its own array with the same room and nothing else touched, or in a new one and nothing at all touched. -/
theorem run_append_two (t ty : TypeId) (base : Nat) (e : TypeId) (i : TypeInfo) (z : Value) (size bytes : Nat) (ht : P.underlying t = some (.slice e)) (hi : P.info? e = some i) (hz : i.zero = some z)
    (hsize : i.size = size) (hby : i.bytes = bytes) (hzs : z.cells.size = size) (hsz : 0 < size)
    (v : Value) (n : Nat) (xs : List Value) (hown : w.ownsRow base e size v n xs)
    (a : Addr) (m c : Nat) (news : List Value) (hl : news.length = m * size) (hnews : ∀ j u, news[j]? = some u → w.cell? (a.add j) = some u) (h1 : ∀ u ∈ news, u.oneCell' = true)
    (hm : 0 < m) (h63 : n + m ≤ maxLen) (hbytes : (n + m) * bytes ≤ 140737488355328) (hbase : base ≤ w.heap.size) :
    ∃ g cap w', (Builtin.append_ #[t, t] ty #[v, .slice (some a) m c]).run P w = .ok (.slice (some ⟨g, 0, none⟩) (n + m) cap) w' ∧
      w'.ownsRow base e size (.slice (some ⟨g, 0, none⟩) (n + m) cap) (n + m) (xs ++ news) ∧ ((v = .slice (some ⟨g, 0, none⟩) n cap ∧ w.grownBy w' (some g)) ∨ (g = w.heap.size ∧ w.grownBy w' none)) := by
  subst hsize
  subst hby
  have hsmall : n + m ≤ 9223372036854775807 := by simp only [maxLen] at h63; omega
  have hlen : (xs ++ news).length = (n + m) * i.size := by rw [List.length_append, hown.1, hl, Nat.add_mul]
  have grown : ∀ (old : Nat), old < n + m → ∀ (row : Option Nat),
      (w.drew.alloc (.cells (xs.toArray ++ news.toArray ++ Builtin.zeroCells z.cells (grownCap w (n + m) old e - (n + m))) e)).ownsRow base e i.size
        (.slice (some ⟨w.heap.size, 0, none⟩) (n + m) (grownCap w (n + m) old e)) (n + m) (xs ++ news) ∧
      w.grownBy (w.drew.alloc (.cells (xs.toArray ++ news.toArray ++ Builtin.zeroCells z.cells (grownCap w (n + m) old e - (n + m))) e)) row := by
    intro old ho row
    have hge := grownCap_ge w (n + m) old e
    have hcm : grownCap w (n + m) old e ≤ maxLen := grownCap_le_maxLen w (n + m) old e h63
    refine ⟨⟨hlen, .inr ⟨w.heap.size, _, _, rfl, hbase, heap_alloc_new w.drew _, hge, hcm, ?_, ?_⟩⟩, ⟨rfl, rfl, rfl, by simp, fun k hk _ => heap_alloc_old w.drew _ hk⟩⟩
    · simp only [Array.size_append, List.size_toArray, size_zeroCells, hzs, hown.1, hl, ← Nat.add_mul]
      congr 1
      omega
    · simp only [Array.toList_append, List.append_assoc]
      rw [← List.append_assoc, ← hlen]
      exact List.take_left
  rcases hown.2 with ⟨rfl, rfl⟩ | ⟨g, cap, cur, rfl, hbg, hg, hnc, hcm, hcs, htake⟩
  · have hx : xs = [] := List.eq_nil_of_length_eq_zero (by simpa using hown.1)
    subst hx
    have hr := run_append_nil (P := P) w t ty e i z ht hi hz a m c news hl hnews (by omega) (by omega) (by have hb := hbytes; simp only [Nat.zero_add] at hb; omega)
    have hgr := grown 0 (by omega) none
    simp only [Nat.zero_add, List.nil_append, Array.empty_append] at hgr ⊢
    exact ⟨_, _, _, hr, hgr.1, .inr ⟨rfl, hgr.2⟩⟩
  · by_cases hroom : n + m ≤ cap
    · have hfit : n * i.size + news.length ≤ cur.size := by rw [hl, hcs, ← Nat.add_mul]; exact Nat.mul_le_mul_right _ hroom
      have hr := run_append_room (P := P) w t ty e i ht hi g n cap cur hg a m c news hl hnews h1 hroom hfit
      refine ⟨_, _, _, hr, ⟨hlen, .inr ⟨g, cap, _, rfl, hbg, setRow_heap w g cur _ e _ hg, hroom, hcm, ?_, ?_⟩⟩, .inl ⟨rfl, rfl, rfl, rfl, by simp, fun k _ hk => setRow_other w g k _ (fun e => hk (by simp [e]))⟩⟩
      · simp only [List.size_toArray, List.length_append, List.length_take, List.length_drop, Array.length_toList]
        omega
      · rw [htake, ← hlen]
        exact List.take_left
    · have holds : ∀ j u, xs[j]? = some u → w.cell? ((⟨g, 0, none⟩ : Addr).add j) = some u := hown.cells (g := g) rfl
      have hr := run_append_grow (P := P) w t ty e i z ht hi hz ⟨g, 0, none⟩ n cap xs hown.1 holds a m c news hl hnews (by omega) (by omega) (growslice_fits (by omega) hbytes)
      have hgr := grown cap (by omega) none
      exact ⟨_, _, _, hr, hgr.1, .inr ⟨rfl, hgr.2⟩⟩

theorem wpList_append_two {ops : Array Oper} {rest : List Oper} {o : Oper} {a : Act} {Q : Exit → Act → World → Prop} (hgd : o.guard = none) (s x : Operand) (t : TypeId)
    (ho : o.op = .call { callee := .builtin .append, args := #[s, x], argTypes := #[t, t] })
    (base : Nat) (e : TypeId) (i : TypeInfo) (z : Value) (size bytes : Nat) (ht : P.underlying t = some (.slice e)) (hi : P.info? e = some i) (hz : i.zero = some z)
    (hsize : i.size = size) (hby : i.bytes = bytes) (hzs : z.cells.size = size) (hsz : 0 < size)
    (v : Value) (n : Nat) (xs : List Value) (hs : a.eval s = v) (hown : w.ownsRow base e size v n xs)
    (ad : Addr) (m c : Nat) (news : List Value) (hx : a.eval x = .slice (some ad) m c) (hl : news.length = m * size) (hnews : ∀ j u, news[j]? = some u → w.cell? (ad.add j) = some u) (h1 : ∀ u ∈ news, u.oneCell' = true)
    (hm : 0 < m) (h63 : n + m ≤ maxLen) (hbytes : (n + m) * bytes ≤ 140737488355328) (hbase : base ≤ w.heap.size) (H : Nat) (hH : w.heap.size = H)
    (h : ∀ g cap w', w'.ownsRow base e size (.slice (some ⟨g, 0, none⟩) (n + m) cap) (n + m) (xs ++ news) → ((v = .slice (some ⟨g, 0, none⟩) n cap ∧ w.grownBy w' (some g)) ∨ (g = H ∧ w.grownBy w' none)) → wpList P ops Q rest (a.put o.dst (.slice (some ⟨g, 0, none⟩) (n + m) cap)) w') : wpList P ops Q (o :: rest) a w :=
  wpList_plain hgd fun _ hK => by
    subst hH
    obtain ⟨g, cap, w', hr, h2, h3⟩ := run_append_two (P := P) w t o.type base e i z size bytes ht hi hz hsize hby hzs hsz v n xs hown ad m c news hl hnews h1 hm h63 hbytes hbase
    unfold Oper.wp execOp
    simp only [ho, resolve, invoke, builtin, Sem.run_bind, Sem.run_pure, Result.andThen_ok, List.map_toArray, List.map_cons, List.map_nil, hs, hx, hr]
    exact hK _ _ (h g cap w' h2 h3)
end

/-! Rows beside rows. -/
section
variable {w w' : World} {base base' n n' s s' : Nat} {e e' : TypeId} {v v' : Value} {xs xs' : List Value}
/-- Rows of unlike elements lie in unlike arrays. -/
theorem own_apart (h : w.ownsRow base e s v n xs) (h' : w.ownsRow base' e' s' v' n' xs') (he : e ≠ e') {g : Nat} (hg : v'.ownBlock = some g) : v.ownBlock ≠ some g := by
  intro hv
  rcases h.2 with ⟨rfl, _⟩ | ⟨b, cap, cur, rfl, _, hb, _⟩
  · cases hv
  · rcases h'.2 with ⟨rfl, _⟩ | ⟨b', cap', cur', rfl, _, hb', _⟩
    · cases hg
    · simp only [Value.ownBlock, Option.some.injEq] at hv hg
      subst hv
      rw [← hg, hb'] at hb
      simp only [Option.some.injEq, Obj.cells.injEq] at hb
      exact he hb.2.1.symm
/-- The head of a row. -/
theorem own_head {A : Option Addr} {c : Nat} (h : w.ownsRow base e s (.slice A n c) n xs) {k : Nat} (hk : k ≤ n) (hA : A ≠ none) : w.ownsRow base e s (.slice A k c) k (xs.take (k * s)) := by
  have hkn := Nat.mul_le_mul_right s hk
  refine ⟨by rw [List.length_take, h.1]; omega, ?_⟩
  rcases h.2 with ⟨h0, _⟩ | ⟨b, cap, cur, hv, h1, h2, h3, h4, h5, h6⟩
  · injection h0 with h0; exact absurd h0 hA
  · injection hv with e1 e2 e3
    subst e1 e3
    refine .inr ⟨b, c, cur, rfl, h1, h2, by omega, h4, h5, ?_⟩
    rw [← h6, List.take_take]
    congr 1
    omega
/-- The shorter of two rows in one array, when the longer has turned. -/
theorem own_under {g c c2 L : Nat} {ys ys' : List Value} (h : w.ownsRow base e s (.slice (some ⟨g, 0, none⟩) n c) n xs) (h2 : w.ownsRow base e s (.slice (some ⟨g, 0, none⟩) L c2) L ys) (hs : 0 < s)
    (k : w'.ownsRow base e s (.slice (some ⟨g, 0, none⟩) n' c) n' (xs ++ ys')) (hL : L ≤ n) (hn : n ≤ n') : w'.ownsRow base e s (.slice (some ⟨g, 0, none⟩) L c2) L ys := by
  have a1 := own_head k (k := L) (by omega) (by simp)
  have hlen := h.1
  have hLn := Nat.mul_le_mul_right s hL
  rw [List.take_append_of_le_length (by omega)] at a1
  rcases h.2 with ⟨h0, _⟩ | ⟨b, cap, cur, hv, _, hb, _, _, h5, h6⟩
  · cases h0
  rcases h2.2 with ⟨h0, _⟩ | ⟨b', cap', cur', hv', _, hb', _, _, h5', h6'⟩
  · cases h0
  simp only [Value.slice.injEq, Option.some.injEq, Addr.mk.injEq, and_true, true_and] at hv hv'
  obtain ⟨rfl, rfl⟩ := hv
  obtain ⟨rfl, rfl⟩ := hv'
  rw [hb] at hb'
  simp only [Option.some.injEq, Obj.cells.injEq, and_true] at hb'
  subst hb'
  obtain rfl : c = c2 := Nat.eq_of_mul_eq_mul_right hs (h5.symm.trans h5')
  have : xs.take (L * s) = ys := by
    rw [← h6, ← h6', List.take_take]
    congr 1
    omega
  rw [← this]
  exact a1
end
end Go.Proofs.YtgjcdhcbniholaaGreat.Kp

/- Lists of labels that the law has been told, and writes over. -/
namespace Go.Proofs.YtgjcdhcbniholaaGreat.Kp
open Go.RowKit Go.Proofs.YtgjcdhcbniholaaGreat.La Go.Proofs.YtgjcdhcbniholaaGreat.Sl
set_option linter.unusedVariables false

def slV (L : Nat) (p : Option Addr × Nat) : Value := .slice p.1 L p.2
/-- Each list has a row of its own, of L labels; the first K j names of the j-th are nm j. -/
def TS (nm : Nat → ByteArray) (w : World) (B L : Nat) (vs : List (Option Addr × Nat)) (K : Nat → Nat) : Prop :=
  ∀ (j : Nat) (p : Option Addr × Nat), vs[j]? = some p → ∃ cur : List Lab, cur.length = L ∧ (∀ k, k < K j → ∀ h : k < cur.length, cur[k].1 = nm j) ∧ w.ownsRow B 45 2 (slV L p) L (labs cur)
/-- No two lie in one array. -/
def Apart (vs : List (Option Addr × Nat)) : Prop :=
  ∀ (i j : Nat) (p q : Option Addr × Nat) (a b : Addr), vs[i]? = some p → vs[j]? = some q → i ≠ j → p.1 = some a → q.1 = some b → a.block ≠ b.block

section
variable {nm : Nat → ByteArray} {w w' : World} {B L : Nat} {vs : List (Option Addr × Nat)} {K K' : Nat → Nat}

theorem TS.kept (h : TS nm w B L vs K) {row : Option Nat} (hg : w.grownBy w' row) (hr : ∀ (j : Nat) (p : Option Addr × Nat) (a : Addr), vs[j]? = some p → p.1 = some a → some a.block ≠ row) : TS nm w' B L vs K := by
  intro j p hp
  obtain ⟨cur, h1, h2, h3⟩ := h j p hp
  refine ⟨cur, h1, h2, h3.kept hg ?_⟩
  obtain ⟨A, c⟩ := p
  cases A with
  | none => exact .inl rfl
  | some a => exact .inr (hr j _ a hp rfl)
theorem TS.below (h : TS nm w B L vs K) (hb : Below w.heap.size w w') : TS nm w' B L vs K := by
  intro j p hp
  obtain ⟨cur, h1, h2, h3⟩ := h j p hp
  exact ⟨cur, h1, h2, own_later h3 hb⟩
theorem TS.lt (h : TS nm w B L vs K) {j : Nat} {p : Option Addr × Nat} {a : Addr} (hp : vs[j]? = some p) (ha : p.1 = some a) : a.block < w.heap.size := by
  obtain ⟨cur, h1, h2, h3⟩ := h j p hp
  refine (own_lt h3 a.block ?_).2
  unfold slV
  rw [ha]
  rfl
theorem TS.less (h : TS nm w B L vs K) (hk : ∀ j, K' j ≤ K j) : TS nm w B L vs K' := by
  intro j p hp
  obtain ⟨cur, h1, h2, h3⟩ := h j p hp
  exact ⟨cur, h1, fun k hk' => h2 k (by have := hk j; omega), h3⟩
theorem TS.nil (w : World) : TS nm w B L [] K := by intro j p hp; simp at hp
theorem Apart.nil : Apart [] := by unfold Apart; intro i j p q a b hp; simp at hp
theorem TS.snoc (h : TS nm w B L vs fun _ => 0) {p : Option Addr × Nat} {ls : List Lab} (hl : ls.length = L) (ho : w.ownsRow B 45 2 (slV L p) L (labs ls)) : TS nm w B L (vs ++ [p]) fun _ => 0 := by
  intro j q hq
  by_cases hj : j < vs.length
  · rw [List.getElem?_append_left hj] at hq
    exact h j q hq
  · rw [List.getElem?_append_right (by omega)] at hq
    by_cases h0 : j - vs.length = 0
    · rw [h0] at hq
      simp at hq
      subst hq
      exact ⟨ls, hl, fun k hk => absurd hk (Nat.not_lt_zero k), ho⟩
    · rw [List.getElem?_eq_none (by simp; omega)] at hq; cases hq
theorem Apart.snoc (h : Apart vs) (H : Nat) (hlt : ∀ (j : Nat) (p : Option Addr × Nat) (a : Addr), vs[j]? = some p → p.1 = some a → a.block < H) {p : Option Addr × Nat} (hp : ∀ a, p.1 = some a → H ≤ a.block) : Apart (vs ++ [p]) := by
  intro i j q r a b hq hr hij ha hb
  have key : ∀ j q, (vs ++ [p])[j]? = some q → (j < vs.length ∧ vs[j]? = some q) ∨ (j = vs.length ∧ q = p) := by
    intro j q hq
    by_cases hj : j < vs.length
    · rw [List.getElem?_append_left hj] at hq
      exact .inl ⟨hj, hq⟩
    · rw [List.getElem?_append_right (by omega)] at hq
      by_cases h0 : j - vs.length = 0
      · rw [h0] at hq
        simp at hq
        exact .inr ⟨by omega, hq.symm⟩
      · rw [List.getElem?_eq_none (by simp; omega)] at hq; cases hq
  rcases key i q hq with ⟨i1, i2⟩ | ⟨i1, rfl⟩
  · rcases key j r hr with ⟨j1, j2⟩ | ⟨j1, rfl⟩
    · exact h i j q r a b i2 j2 hij ha hb
    · have := hlt i q a i2 ha
      have := hp b hb
      omega
  · rcases key j r hr with ⟨j1, j2⟩ | ⟨j1, rfl⟩
    · have := hlt j r b j2 hb
      have := hp a ha
      omega
    · omega

theorem labs_set : ∀ (l : List Lab) (k : Nat) (m : Lab), ((labs l).set (k * 2) (.string m.1)).set (k * 2 + 1) (.string m.2) = labs (l.set k m)
  | [], k, m => by simp [labs]
  | x :: l, 0, m => rfl
  | x :: l, k + 1, m => by
    show ((Value.string x.1 :: Value.string x.2 :: labs l).set ((k + 1) * 2) _).set ((k + 1) * 2 + 1) _ = Value.string x.1 :: Value.string x.2 :: labs (l.set k m)
    rw [show (k + 1) * 2 = k * 2 + 1 + 1 by omega]
    simp only [List.set_cons_succ]
    rw [labs_set l k m]

/-- A list that has a label has an array. -/
theorem TS.form (h : TS nm w B L vs K) {j : Nat} {p : Option Addr × Nat} (hp : vs[j]? = some p) (hL : 0 < L) : ∃ g c, p = (some ⟨g, 0, none⟩, c) ∧ g < w.heap.size := by
  obtain ⟨cur, h1, h2, h3⟩ := h j p hp
  obtain ⟨g, cap, e, _, hg⟩ := h3.form hL
  obtain ⟨A, c⟩ := p
  unfold slV at e
  injection e with e1 e2 e3
  exact ⟨g, c, by simp only at e1; rw [e1], hg⟩
/-- The cells of a list. -/
theorem TS.cells (h : TS nm w B L vs K) {j g c : Nat} (hp : vs[j]? = some (some ⟨g, 0, none⟩, c)) {k : Nat} (hk : k < L) : ∃ x : Lab, (k < K j → x.1 = nm j) ∧ w.cell? ⟨g, k * 2, none⟩ = some (.string x.1) ∧ w.cell? ⟨g, k * 2 + 1, none⟩ = some (.string x.2) ∧
    w.frozen? ⟨g, k * 2, none⟩ = false ∧ w.frozen? ⟨g, k * 2 + 1, none⟩ = false := by
  obtain ⟨cur, h1, h2, h3⟩ := h j _ hp
  have hl : k < cur.length := by omega
  obtain ⟨c0, c1⟩ := labs_get cur k hl
  exact ⟨cur[k], fun hK => h2 k hK hl, by rw [h3.cellAt _ (by omega)]; exact c0, by rw [h3.cellAt _ (by omega)]; exact c1, h3.frozenAt _, h3.frozenAt _⟩
/-- A label written over. -/
theorem TS.store (h : TS nm w B L vs K) (ha : Apart vs) {i g c : Nat} (hp : vs[i]? = some (some ⟨g, 0, none⟩, c)) {k : Nat} (hk : k < L) (hK : K i = k) (m : ByteArray) :
    TS nm ((w.setCell ⟨g, k * 2, none⟩ (.string (nm i))).setCell ⟨g, k * 2 + 1, none⟩ (.string m)) B L vs (fun j => if j = i then k + 1 else K j) ∧
    w.grownBy ((w.setCell ⟨g, k * 2, none⟩ (.string (nm i))).setCell ⟨g, k * 2 + 1, none⟩ (.string m)) (some g) := by
  obtain ⟨cur, h1, h2, h3⟩ := h i _ hp
  have s1 := h3.stored (k * 2) (.string (nm i))
  have s2 := s1.1.stored (k * 2 + 1) (.string m)
  have hg : w.grownBy ((w.setCell ⟨g, k * 2, none⟩ (.string (nm i))).setCell ⟨g, k * 2 + 1, none⟩ (.string m)) (some g) := only_trans s1.2 s2.2
  refine ⟨?_, hg⟩
  intro j p hj
  by_cases hji : j = i
  · subst hji
    rw [hp] at hj
    cases hj
    refine ⟨cur.set k (nm j, m), by simp [h1], fun k' hk' hlt => ?_, ?_⟩
    · simp only [if_true] at hk'
      rw [List.getElem_set]
      split
      · rfl
      · exact h2 k' (by omega) (by simpa using hlt)
    · have := s2.1
      rw [labs_set cur k (nm j, m)] at this
      exact this
  · obtain ⟨cur', e1, e2, e3⟩ := h j p hj
    refine ⟨cur', e1, fun k' hk' => e2 k' (by simp only [if_neg hji] at hk'; exact hk'), e3.kept hg ?_⟩
    obtain ⟨A, c'⟩ := p
    cases A with
    | none => exact .inl rfl
    | some a =>
      refine .inr ?_
      intro e
      have e' : a.block = g := by simpa [slV, Value.ownBlock] using e
      exact ha j i _ _ a ⟨g, 0, none⟩ hj hp hji rfl rfl e'
/-- Labels appended within an array: what the lists there have stays. -/
theorem TS.onto (h : TS nm w B L vs K) {g n n' cap : Nat} {xs ys : List Value} {B' : Nat} (hB : B' ≤ B) (ho : w.ownsRow B' 45 2 (.slice (some ⟨g, 0, none⟩) n cap) n xs) (ho' : w'.ownsRow B' 45 2 (.slice (some ⟨g, 0, none⟩) n' cap) n' (xs ++ ys))
    (hg : w.grownBy w' (some g)) (hL : L ≤ n) (hn : n ≤ n') : TS nm w' B L vs K := by
  intro j p hj
  obtain ⟨cur, h1, h2, h3⟩ := h j p hj
  refine ⟨cur, h1, h2, ?_⟩
  by_cases hb : (slV L p).ownBlock = some g
  · have hf : ∃ c, slV L p = .slice (some ⟨g, 0, none⟩) L c := by
      rcases h3.2 with ⟨e, _⟩ | ⟨b, cap', cur', e, _⟩
      · rw [e] at hb; cases hb
      · rw [e] at hb
        simp only [Value.ownBlock, Option.some.injEq] at hb
        subst hb
        exact ⟨cap', e⟩
    obtain ⟨c, e⟩ := hf
    rw [e] at h3 ⊢
    have k1 := own_under ho (own_base h3 hB) (by omega) ho' hL hn
    refine ⟨k1.1, ?_⟩
    rcases k1.2 with h' | ⟨b, cap', cur', e1, e2, e3⟩
    · exact .inl h'
    · refine .inr ⟨b, cap', cur', e1, ?_, e3⟩
      have := (own_lt h3 g rfl).1
      injection e1 with e1
      injection e1 with e1
      injection e1 with e1
      omega
  · exact h3.kept hg (.inr hb)
end
end Go.Proofs.YtgjcdhcbniholaaGreat.Kp

/- LabelKeeps: the walk. -/
namespace Go.Proofs.YtgjcdhcbniholaaGreat.Kp
open Go.RowKit Go.Proofs.YtgjcdhcbniholaaGreat.La Go.Proofs.YtgjcdhcbniholaaGreat.Sl Go.Proofs.YtgjcdhcbniholaaGreat.Ck Go.Proofs.YtgjcdhcbniholaaGreat.Rc Go.Proofs.YtgjcdhcbniholaaGreat.Rt Go.Proofs.YtgjcdhcbniholaaGreat.Rv Go.Proofs.YtgjcdhcbniholaaGreat.Pr
set_option linter.unusedVariables false

theorem make_labs (n : Nat) (hn : n ≤ 100000000) : ∃ M : Array Value, M.size = (n + 2) * 2 ∧
    ∀ w : World, (Instr.makeSlice 24 (.int .i64 0) (.int .i64 ((n : Int) + 2))).run Tryz.prog w = .ok (.slice (some ⟨w.heap.size, 0, none⟩) 0 (n + 2)) (w.alloc (.cells M 45)) := by
  obtain ⟨i0, hi0, hz0, hz1, hz2⟩ := info_parts info41
  have e : ((n : Int) + 2).toNat = n + 2 := by omega
  refine ⟨madeCells (Value.agg #[.string ⟨#[]⟩, .string ⟨#[]⟩]).cells (((n : Int) + 2).toNat * i0.size), by rw [size_madeCells, hz1, e], fun w => ?_⟩
  have := run_make (P := Tryz.prog) w 24 45 i0 _ Tryz.underlying24 hi0 hz0 .i64 .i64 0 ((n : Int) + 2) (Int.le_refl _) (by omega) (by rw [hz2]; omega) (by omega)
  rw [this, e]
  rfl

theorem own_cap {w : World} {base n s c : Nat} {e : TypeId} {A : Option Addr} {xs : List Value} (h : w.ownsRow base e s (.slice A n c) n xs) : n ≤ c ∧ c ≤ 9223372036854775807 := by
  rcases h.2 with ⟨e, h0⟩ | ⟨b, cap, cur, e, _, _, h3, h4, _⟩
  · injection e with e1 e2 e3
    omega
  · injection e with e1 e2 e3
    unfold maxLen at h4
    omega

def lsOf (r : SRes) : List Lab := match r with
  | .ok _ l => l
  | .bad _ _ => []

theorem parse_one (s : ByteArray) (hs : s.size ≤ 140737488351232) (w : World) :
    Calls Tryz.prog 8 #[.string s] w fun e w' => ∃ nm A c x q, e = .returned (.tuple #[.string nm, .slice A (lsOf (serR s)).length c, .int .i64 x, .int .i64 q]) ∧ w'.ownsRow w.heap.size 45 2 (.slice A (lsOf (serR s)).length c) (lsOf (serR s)).length (labs (lsOf (serR s))) ∧ Below w.heap.size w w' := by
  refine (parse_any s (by omega) w).mono ?_
  intro e w' h
  cases hr : serR s with
  | ok nm l =>
    rw [hr] at h
    obtain ⟨A, c, h1, h2, h3⟩ := h
    exact ⟨nm, A, c, 0, 0, h1, h2, h3⟩
  | bad x q =>
    rw [hr] at h
    obtain ⟨h1, h2⟩ := h
    exact ⟨_, none, 0, x, _, h1, World.ownsRow_nil _ _ _ _, h2⟩
theorem rparse_one (s : ByteArray) (hs : s.size ≤ 140737488351232) (w : World) :
    Calls Tryz.prog 9 #[.string s] w fun e w' => ∃ nm A c x q, e = .returned (.tuple #[.string nm, .slice A (lsOf (serR s)).length c, .agg #[.int .i64 x, .int .i64 q]]) ∧ w'.ownsRow w.heap.size 45 2 (.slice A (lsOf (serR s)).length c) (lsOf (serR s)).length (labs (lsOf (serR s))) ∧ Below w.heap.size w w' := by
  refine (rparse_any s hs w).mono ?_
  intro e w' h
  cases hr : serR s with
  | ok nm l =>
    rw [hr] at h
    obtain ⟨A, c, h1, h2, h3⟩ := h
    exact ⟨nm, A, c, 0, 0, h1, h2, h3⟩
  | bad x q =>
    rw [hr] at h
    obtain ⟨h1, h2⟩ := h
    exact ⟨_, none, 0, x, _, h1, World.ownsRow_nil _ _ _ _, h2⟩
theorem lsOf_len (s : ByteArray) : (lsOf (serR s)).length ≤ 17 := by
  cases hr : serR s with
  | ok nm l => exact serR_len hr
  | bad x q => exact Nat.zero_le _
theorem info24 : (Tryz.prog.info? 24).map (fun i => (i.zero, i.size, i.bytes)) = some (some (.slice none 0 0), 1, 24) := by kernel_rfl
theorem ts_apart {nm : Nat → ByteArray} {w : World} {B B' L n s : Nat} {vs : List (Option Addr × Nat)} {K : Nat → Nat} {e : TypeId} {v : Value} {xs : List Value} (h : TS nm w B L vs K) (ho : w.ownsRow B' e s v n xs) (he : 45 ≠ e) :
    ∀ (j : Nat) (p : Option Addr × Nat) (a : Addr), vs[j]? = some p → p.1 = some a → some a.block ≠ v.ownBlock := by
  intro j p a hp ha hb
  obtain ⟨cur, h1, h2, h3⟩ := h j p hp
  refine own_apart h3 ho he (g := a.block) hb.symm ?_
  unfold slV
  rw [ha]
  rfl
/-- The letter of the i-th. -/
def nmF (i : Nat) : ByteArray := Utf8.encode (65 + (i : Int))

theorem nm_one (i : Nat) : ∀ u ∈ [Value.string (nmF i), Value.string ⟨#[]⟩], u.oneCell' = true := by
  intro u hu
  rcases List.mem_cons.1 hu with e | e
  · rw [e]; rfl
  · rw [List.mem_singleton.1 e]; rfl
theorem nm_news (i : Nat) (w : World) : ∀ j u, [Value.string (nmF i), Value.string ⟨#[]⟩][j]? = some u → (w.alloc (.cells #[.string (nmF i), .string ⟨#[]⟩] 45)).cell? ((⟨w.heap.size, 0, none⟩ : Addr).add j) = some u :=
  World.news_of_block (cs := #[.string (nmF i), .string ⟨#[]⟩]) (heap_alloc_new _ _)

set_option maxRecDepth 100000 in
set_option maxHeartbeats 8000000 in
theorem keeps_any (d : DD) (s : ByteArray) (w : World) (hd : Arg d w) (hs : s.size ≤ 140737488351232) (hnm : d.name.size ≤ 140737488355328) (hlx : ∀ x ∈ d.l, x.1.size ≤ 140737488355328 ∧ x.2.size ≤ 140737488355328) (hlen : d.l.length ≤ 140737488355328) :
    Calls Tryz.prog 6 #[d.v, .string s] w fun e w' => e = .returned (.bool true) ∧ Below w.heap.size w w' := by
  obtain ⟨i0, hinf, hz0, hz1, hz2⟩ := info_parts info41
  have ca := Lib.hid (awake_any (w.alloc (.cells #[.int .i64 d.kind, .string d.name, .string d.help, .slice d.A d.l.length d.c] 35)))
  have cb := fun w1 (k : Below w.heap.size w w1) => beyond_any d.name d.A d.c d.l w1 ((hd.below k).rd) hnm hlx hlen
  have htl := tot_len d.name d.l d.l.length
  obtain ⟨T, hT⟩ : ∃ T, T = tot d.name d.l d.l.length := ⟨_, rfl⟩
  rw [← hT] at cb htl
  -- the calls with d, and with x
  have rd0 := fun w1 (k : Below w.heap.size w w1) => (hd.below k)
  obtain ⟨k1, n1, h1, A1, c1, l1⟩ := d
  unfold DD.v at *
  dsimp only at *
  replace cb := Lib.hid cb
  replace rd0 := Lib.hid rd0
  replace hlx := Lib.hid hlx
  replace hT := Lib.hid hT
  obtain ⟨n, hn⟩ : ∃ n, n = l1.length := ⟨_, rfl⟩
  rw [← hn] at ca cb htl hlen ⊢
  replace hn := Lib.hid hn
  go_enter Tryz.func6, Tryz.ntmps6
  go_wp2_with fail
  refine ca.out.mono ?_
  rintro e w1 ⟨rfl, hb1⟩
  have hw1 : Below w.heap.size w w1 := (((Below.refl _ w).alloc (Nat.le_refl _) _)).trans (hb1.mono (by simp))
  simp only [World.size_alloc] at hb1
  have g1 : w1.heap[w.heap.size]? = some (.cells #[.int .i64 k1, .string n1, .string h1, .slice A1 n c1] 35 (0, 0)) :=
    (hb1.block _ (by omega)).trans (heap_alloc_new _ _)
  have hlt1 : w.heap.size + 1 ≤ w1.heap.size := Rp.lt_of_heap g1
  clear ca hb1
  have cellsD : ∀ wr, Below (w.heap.size + 1) w1 wr → wr.cell? ⟨w.heap.size, 0, none⟩ = some (.int .i64 k1) ∧ wr.cell? ⟨w.heap.size, 1, none⟩ = some (.string n1) ∧ wr.cell? ⟨w.heap.size, 2, none⟩ = some (.string h1) ∧ wr.cell? ⟨w.heap.size, 3, none⟩ = some (.slice A1 n c1) := by
    intro wr k
    have e1 := (k.block w.heap.size (by omega)).trans g1
    exact ⟨by rw [cell_of_row _ _ _ _ _ _ e1]; rfl, by rw [cell_of_row _ _ _ _ _ _ e1]; rfl, by rw [cell_of_row _ _ _ _ _ _ e1]; rfl, by rw [cell_of_row _ _ _ _ _ _ e1]; rfl⟩
  obtain ⟨z0, z1, z2, z3⟩ := cellsD w1 (Below.refl _ _)
  replace cellsD := Lib.hid cellsD
  have cb1 := cb.out w1 hw1
  replace cb1 := Lib.hid cb1
  clear cb g1
  go_wp2_with fail
  refine cb1.out.mono ?_
  rintro e w' ⟨rfl, hw⟩
  rw [hw]; clear hw w' cb1
  by_cases hb : 536870912 < T
  · simp only [decide_eq_true hb]
    clear hb htl
    go_wp2
    go_ret
    exact ⟨rfl, hw1⟩
  simp only [decide_eq_false hb]
  have hT2 : tot n1 l1 l1.length ≤ 536870912 := by rw [← hT.out]; omega
  have hn8 : n ≤ 67108864 := by omega
  have hnI : (n : Int) ≤ 67108864 := by omega
  clear hb htl
  replace hT2 := Lib.hid hT2
  obtain ⟨M, hM, hmk⟩ := make_labs n (by omega)
  obtain ⟨w2, hw2⟩ : ∃ w2, w2 = w1.alloc (.cells M 45) := ⟨_, rfl⟩
  have own0 := World.ownsRow_made (e := 45) (size := 2) w1 M (n + 2) (base := w.heap.size + 1) hlt1 (by unfold maxLen; omega) hM
  have bel2 : Below (w.heap.size + 1) w1 (w1.alloc (.cells M 45)) := (Below.refl _ _).alloc hlt1 _
  have belS : Below w1.heap.size w1 (w1.alloc (.cells M 45)) := (Below.refl _ _).alloc (Nat.le_refl _) _
  rw [← hw2] at own0 bel2 belS
  have rdS : Rd w2 w1.heap.size 2 A1 (labs l1) n := by
    rw [hn.out]
    exact (rd0.out w1 hw1).rd.below belS
  have oneC : ∀ u ∈ labs l1, u.oneCell' = true := fun u hu => by
    unfold labs at hu
    obtain ⟨x, _, hx⟩ := List.mem_flatMap.1 hu
    exact one2 x u hx
  replace own0 := Lib.hid own0
  replace rdS := Lib.hid rdS
  replace oneC := Lib.hid oneC
  replace hw2 := Lib.hid hw2
  have hs2 := bel2.size
  clear hM belS
  go_upto_region 6 with fail
  rw [← hw2.out]
  clear z0 z1 z2 z3
  obtain ⟨z0, z1, z2, z3⟩ := cellsD.out w2 bel2
  go_upto_region 7 with (at_builtin; refine wpList_append_rd rfl _ _ _ rfl (w.heap.size + 1) 45 Tryz.underlying24 hinf hz0 hz1 hz2 rfl (by decide) rfl own0.out rfl rdS.out oneC.out (by unfold maxLen; omega) (by omega) (by omega) ?_; intro A2 c2 w3 ho3 hb3 hs3)
  rw [Nat.zero_add, List.nil_append] at ho3
  have bel3 := bel2.trans hb3
  have hs3' := bel3.size
  clear hb3 z0 z1 z2 z3 own0 rdS oneC hw2 hs2 hs3 hmk
  obtain ⟨spr, hspr⟩ : ∃ x : List Value, x = [.string ⟨#[115, 112, 97, 114, 101]⟩, .string ⟨#[]⟩, .string ⟨#[114, 111, 111, 109]⟩, .string ⟨#[]⟩] := ⟨_, rfl⟩
  have hnw : ∀ j u, spr[j]? = some u → (w3.alloc (.cells #[.string ⟨#[115, 112, 97, 114, 101]⟩, .string ⟨#[]⟩, .string ⟨#[114, 111, 111, 109]⟩, .string ⟨#[]⟩] 45)).cell? ((⟨w3.heap.size, 0, none⟩ : Addr).add j) = some u := by
    rw [hspr]
    exact World.news_of_block (cs := #[.string ⟨#[115, 112, 97, 114, 101]⟩, .string ⟨#[]⟩, .string ⟨#[114, 111, 111, 109]⟩, .string ⟨#[]⟩]) (heap_alloc_new _ _)
  have spl : spr.length = 2 * 2 := by rw [hspr]; rfl
  have sp1 : ∀ u ∈ spr, u.oneCell' = true := by rw [hspr]; intro u hu; simp at hu; rcases hu with rfl | rfl | rfl | rfl <;> rfl
  replace hspr := Lib.hid hspr
  replace hnw := Lib.hid hnw
  replace sp1 := Lib.hid sp1
  go_upto_region 8 with (at_builtin; refine wpList_append_two _ rfl _ _ _ rfl (w.heap.size + 1) 45 i0 _ 2 32 Tryz.underlying24 hinf hz0 hz1 hz2 rfl (by decide) _ n (labs l1) (by rfl) (ho3.alloc _) ⟨w3.heap.size, 0, none⟩ 2 2 spr (by rfl) spl hnw.out sp1.out (by omega) (by unfold maxLen; omega) (by omega) (by simp; omega) _ rfl ?_; intro gg cap w4 ho4 h2w)
  have ho3a := ho3.alloc (.cells #[.string ⟨#[115, 112, 97, 114, 101]⟩, .string ⟨#[]⟩, .string ⟨#[114, 111, 111, 109]⟩, .string ⟨#[]⟩] 45)
  have bel3a : Below (w.heap.size + 1) w1 (w3.alloc (.cells #[.string ⟨#[115, 112, 97, 114, 101]⟩, .string ⟨#[]⟩, .string ⟨#[114, 111, 111, 109]⟩, .string ⟨#[]⟩] 45)) := bel3.alloc (by omega) _
  have hgg := own_lt ho4 gg rfl
  have own4 : w4.ownsRow (w.heap.size + 1) 45 2 (.slice A2 n c2) n (labs l1) ∧ Below (w.heap.size + 1) w1 w4 := by
    rcases h2w with ⟨e, hg⟩ | ⟨e, hg⟩
    · injection e with e1 e2 e3
      subst e1 e3
      have k1 := own_head ho4 (k := n) (by omega) (by simp)
      rw [List.take_left' (by rw [labs_len, hn.out])] at k1
      exact ⟨k1, bel3a.grown hg (by simp; omega) (fun k hk => by cases hk; exact hgg.1)⟩
    · exact ⟨ho3a.kept hg (by cases A2 <;> simp [Value.ownBlock]), bel3a.grown hg (by simp; omega) (fun k hk => by cases hk)⟩
  obtain ⟨own4, bel4⟩ := own4
  have hs4 := bel4.size
  clear h2w ho3a bel3a hnw ho3 bel3 hs3' bel2
  obtain ⟨z0, z1, z2, z3⟩ := cellsD.out w4 bel4
  go_upto_region 10 with fail
  obtain ⟨w5, hw5⟩ : ∃ w5, w5 = w4.alloc (.cells #[.int .i64 k1, .string n1, .string h1, .slice A2 n c2] 35) := ⟨_, rfl⟩
  rw [← hw5]
  have hnew : w5.heap[w4.heap.size]? = some (.cells #[.int .i64 k1, .string n1, .string h1, .slice A2 n c2] 35 (0, 0)) := by rw [hw5]; exact heap_alloc_new _ _
  have bel5 : Below (w.heap.size + 1) w1 w5 := by rw [hw5]; exact bel4.alloc (by omega) _
  have own5 : w5.ownsRow (w.heap.size + 1) 45 2 (.slice A2 n c2) n (labs l1) := by rw [hw5]; exact own4.alloc _
  have spr5 : w5.ownsRow (w.heap.size + 1) 45 2 (.slice (some ⟨gg, 0, none⟩) (n + 2) cap) (n + 2) (labs l1 ++ spr) := by rw [hw5]; exact ho4.alloc _
  have hs5 : w5.heap.size = w4.heap.size + 1 := by rw [hw5]; simp
  have belw5 : Below w.heap.size w w5 := hw1.trans (bel5.mono (by omega))
  have cells5 : ∀ wr, Below w5.heap.size w5 wr → (wr.cell? ⟨w.heap.size, 0, none⟩ = some (.int .i64 k1) ∧ wr.cell? ⟨w.heap.size, 1, none⟩ = some (.string n1) ∧ wr.cell? ⟨w.heap.size, 2, none⟩ = some (.string h1) ∧ wr.cell? ⟨w.heap.size, 3, none⟩ = some (.slice A1 n c1)) ∧
      (wr.cell? ⟨w4.heap.size, 0, none⟩ = some (.int .i64 k1) ∧ wr.cell? ⟨w4.heap.size, 1, none⟩ = some (.string n1) ∧ wr.cell? ⟨w4.heap.size, 2, none⟩ = some (.string h1) ∧ wr.cell? ⟨w4.heap.size, 3, none⟩ = some (.slice A2 n c2)) ∧
      wr.cell? ⟨gg, n * 2, none⟩ = some (.string ⟨#[115, 112, 97, 114, 101]⟩) ∧ wr.cell? ⟨gg, (n + 1) * 2, none⟩ = some (.string ⟨#[114, 111, 111, 109]⟩) := by
    intro wr k
    have e1 := (k.block w4.heap.size (by omega)).trans hnew
    have so := own_later spr5 k
    have hl : (labs l1).length = n * 2 := by rw [labs_len, hn.out]
    refine ⟨cellsD.out wr (bel5.trans (k.mono (by omega))), ⟨by rw [cell_of_row _ _ _ _ _ _ e1]; rfl, by rw [cell_of_row _ _ _ _ _ _ e1]; rfl, by rw [cell_of_row _ _ _ _ _ _ e1]; rfl, by rw [cell_of_row _ _ _ _ _ _ e1]; rfl⟩, ?_, ?_⟩
    · rw [so.cellAt _ (by omega), List.getElem?_append_right (by omega), hl, Nat.sub_self, hspr.out]; rfl
    · rw [so.cellAt _ (by omega), List.getElem?_append_right (by omega), hl, show (n + 1) * 2 - n * 2 = 2 by omega, hspr.out]; rfl
  have argx : Arg ⟨k1, n1, h1, A2, c2, l1⟩ w5 := by
    have hc := own_cap own5
    refine ⟨?_, by show l1.length ≤ c2; rw [← hn.out]; exact hc.1, hc.2, hd.name, hd.help, hd.texts⟩
    show Rd w5 w5.heap.size 2 A2 (labs l1) l1.length
    rw [← hn.out]
    exact Rd.of_own own5 (fun a ha => (own_lt own5 a.block (by rw [ha]; rfl)).2)
  have argd : Arg ⟨k1, n1, h1, A1, c1, l1⟩ w5 := rd0.out w5 belw5
  have hl9 : l1.length ≤ 140737488355328 := by rw [← hn.out]; omega
  have q1 := fun wr (k : Below w5.heap.size w5 wr) => argx.check (w' := wr) k
  have q2 := fun wr (k : Below w5.heap.size w5 wr) => print_any n1 A2 c2 l1 wr (argx.below k).rd hT2.out
  have q3 := fun wr (k : Below w5.heap.size w5 wr) => compare_any (w := wr) ⟨k1, n1, h1, A2, c2, l1⟩ ⟨k1, n1, h1, A1, c1, l1⟩ ⟨(argx.below k).rd, by show l1.length ≤ _; omega⟩ ⟨(argd.below k).rd, by show l1.length ≤ _; omega⟩ (Nat.le_refl _)
  have q4 := fun wr (k : Below w5.heap.size w5 wr) => lsame_any (w := wr) ⟨k1, n1, h1, A2, c2, l1⟩ ⟨k1, n1, h1, A1, c1, l1⟩ (argx.below k).rd (argd.below k).rd hl9 hl9
  have q5 := fun wr (k : Below w5.heap.size w5 wr) => rcheck_any (w := wr) ⟨k1, n1, h1, A1, c1, l1⟩ (argd.below k).rd (by show l1.length ≤ _; omega) hd.name hd.help hd.texts
  have q6 := fun wr (k : Below w5.heap.size w5 wr) => rprint_any n1 A1 c1 l1 wr (argd.below k).rd hT2.out
  have q7 := fun wr (k : Below w5.heap.size w5 wr) => Sm.same_any A2 A1 c2 c1 l1 l1 wr (argx.below k).rd (argd.below k).rd hl9 hl9
  rw [(cmp_zero ⟨k1, n1, h1, A2, c2, l1⟩ ⟨k1, n1, h1, A1, c1, l1⟩).2 ⟨rfl, rfl⟩] at q3
  rw [show sameD ⟨k1, n1, h1, A2, c2, l1⟩ ⟨k1, n1, h1, A1, c1, l1⟩ = true by unfold sameD; simp] at q4
  rw [show chkD ⟨k1, n1, h1, A2, c2, l1⟩ = chkD ⟨k1, n1, h1, A1, c1, l1⟩ from rfl] at q1
  simp only [decide_true] at q7
  obtain ⟨ck, hck⟩ : ∃ ck, ck = chkD ⟨k1, n1, h1, A1, c1, l1⟩ := ⟨_, rfl⟩
  rw [← hck] at q1 q5
  obtain ⟨P0, hP0⟩ : ∃ P0, P0 = prS n1 l1 := ⟨_, rfl⟩
  rw [← hP0] at q2 q6
  unfold DD.v at q1 q3 q4 q5
  dsimp only at q1 q3 q4 q5
  rw [← hn.out] at q1 q2 q3 q4 q5 q6 q7
  obtain ⟨g5, hg5⟩ : ∃ g5, g5 = w4.heap.size := ⟨_, rfl⟩
  rw [← hg5] at cells5 ⊢
  replace q1 := Lib.hid q1
  replace q2 := Lib.hid q2
  replace q3 := Lib.hid q3
  replace q4 := Lib.hid q4
  replace q5 := Lib.hid q5
  replace q6 := Lib.hid q6
  replace q7 := Lib.hid q7
  clear hck hP0 argx argd hl9 hnew own5 spr5 own4 ho4 hgg hw5 hg5 hs5 bel5 bel4 hs4 z0 z1 z2 z3 hT2 hT hn hlx cellsD rd0 sp1 spl hspr spr hd hnm
  obtain ⟨⟨z0, z1, z2, z3⟩, ⟨y0, y1, y2, y3⟩, x0, x1⟩ := cells5 w5 (Below.refl _ _)
  replace cells5 := Lib.hid cells5
  have p1 := Lib.hid (q1.out w5 (Below.refl _ _))
  go_wp2_with fail
  refine p1.out.mono ?_
  rintro e w6 ⟨rfl, b6⟩
  have p2 := Lib.hid (q2.out w6 b6)
  clear z0 z1 z2 z3 y0 y1 y2 y3 x0 x1 p1 q1 q2
  obtain ⟨⟨z0, z1, z2, z3⟩, ⟨y0, y1, y2, y3⟩, x0, x1⟩ := cells5.out w6 b6
  go_wp2_with fail
  refine p2.out.mono ?_
  rintro e w7 ⟨rfl, b7⟩
  replace b7 := b6.trans (b7.mono b6.size)
  have p3 := Lib.hid (q3.out w7 b7)
  clear z0 z1 z2 z3 y0 y1 y2 y3 x0 x1 p2 q3 b6
  obtain ⟨⟨z0, z1, z2, z3⟩, ⟨y0, y1, y2, y3⟩, x0, x1⟩ := cells5.out w7 b7
  go_wp2_with fail
  refine p3.out.mono ?_
  rintro e w8 ⟨rfl, b8⟩
  replace b8 := b7.trans (b8.mono b7.size)
  have p4 := Lib.hid (q4.out w8 b8)
  clear z0 z1 z2 z3 y0 y1 y2 y3 x0 x1 p3 q4 b7
  obtain ⟨⟨z0, z1, z2, z3⟩, ⟨y0, y1, y2, y3⟩, x0, x1⟩ := cells5.out w8 b8
  go_wp2_with fail
  refine p4.out.mono ?_
  rintro e w9 ⟨rfl, b9⟩
  replace b9 := b8.trans (b9.mono b8.size)
  have p5 := Lib.hid (q5.out w9 b9)
  clear z0 z1 z2 z3 y0 y1 y2 y3 x0 x1 p4 q5 b8
  obtain ⟨⟨z0, z1, z2, z3⟩, ⟨y0, y1, y2, y3⟩, x0, x1⟩ := cells5.out w9 b9
  go_wp2_with fail
  refine p5.out.mono ?_
  rintro e w10 ⟨rfl, b10⟩
  replace b10 := b9.trans (b10.mono b9.size)
  have p6 := Lib.hid (q6.out w10 b10)
  clear z0 z1 z2 z3 y0 y1 y2 y3 x0 x1 p5 q6 b9
  obtain ⟨⟨z0, z1, z2, z3⟩, ⟨y0, y1, y2, y3⟩, x0, x1⟩ := cells5.out w10 b10
  go_wp2_with fail
  refine p6.out.mono ?_
  rintro e w11 ⟨rfl, b11⟩
  replace b11 := b10.trans (b11.mono b10.size)
  have p7 := Lib.hid (q7.out w11 b11)
  clear z0 z1 z2 z3 y0 y1 y2 y3 x0 x1 p6 q7 b10
  obtain ⟨⟨z0, z1, z2, z3⟩, ⟨y0, y1, y2, y3⟩, x0, x1⟩ := cells5.out w11 b11
  go_wp2_with fail
  refine p7.out.mono ?_
  rintro e w12 ⟨rfl, b12⟩
  replace b12 := b11.trans (b12.mono b11.size)
  clear z0 z1 z2 z3 y0 y1 y2 y3 x0 x1 p7 b11
  obtain ⟨⟨z0, z1, z2, z3⟩, ⟨y0, y1, y2, y3⟩, x0, x1⟩ := cells5.out w12 b12
  have b13 := belw5.trans (b12.mono belw5.size)
  clear cells5
  go_upto_region 16 with fail
  clear z0 z1 z2 z3 y0 y1 y2 y3 x0 x1 b12 hw1 hlt1 hn8 hnI hlen belw5
  clear hz2 hz1 hz0 hinf i0
  obtain ⟨i0, hinf, hz0, hz1, hz2⟩ := info_parts info41
  obtain ⟨j0, hinf', hz0', hz1', hz2'⟩ := info_parts info24
  have pc := parse_one s hs
  have rp := rparse_one s hs
  have hL17 := lsOf_len s
  obtain ⟨ls, hls⟩ : ∃ ls, ls = lsOf (serR s) := ⟨_, rfl⟩
  rw [← hls] at pc rp hL17
  obtain ⟨L, hL⟩ : ∃ L, L = ls.length := ⟨_, rfl⟩
  rw [← hL] at pc rp hL17
  replace pc := Lib.hid pc
  replace rp := Lib.hid rp
  replace hL := Lib.hid hL
  clear hls hs
  obtain ⟨B, hB⟩ : ∃ B, B = w12.heap.size := ⟨_, rfl⟩
  have hBw : w.heap.size ≤ B := by have := b13.size; omega
  have own0 := World.ownsRow_made (e := 24) (size := 1) w12 #[] 0 (base := B) (by omega) (by decide) (by simp)
  have bel0 : Below B w12 (w12.alloc (.cells #[] 24)) := (Below.refl _ _).alloc (by omega) _
  replace own0 := Lib.hid own0
  replace bel0 := Lib.hid bel0
  replace b13 := Lib.hid b13
  go_wp2
  go_loopw [12, 13] (fun t v wr => ∃ (i : Nat) (vs : List (Option Addr × Nat)) (T0 : Option Addr) (cT : Nat), t = .slice T0 i cT ∧ v = .int .i64 (i : Int) ∧ i ≤ 3 ∧ vs.length = i ∧ TS nmF wr B L vs (fun _ => 0) ∧ Apart vs ∧
    wr.ownsRow B 24 1 (.slice T0 i cT) i (vs.map (slV L)) ∧ Below B w12 wr) (fun _ v _ => 4 - La.natOf v)
  case atStart => exact ⟨0, [], _, 0, rfl, rfl, by omega, rfl, TS.nil _, Apart.nil, own0.out, bel0.out⟩
  case round =>
    clear own0 bel0
    obtain ⟨i, vs, T0, cT, rfl, rfl, hi, hvl, hts, hap, hto, hb⟩ := hrel
    have hbs := hb.size
    have hBr : B ≤ wr.heap.size := by omega
    by_cases hlt : i < 3
    · have g1 : (i : Int) < 3 := by omega
      have hiI : (0 : Int) ≤ (i : Int) := by omega
      have p1 := Lib.hid (pc.out wr)
      replace hto := Lib.hid hto
      go_wp2_with fail
      refine p1.out.mono ?_
      rintro e w2 ⟨nm, A, c, x, q, rfl, ho2, hb2⟩
      have hs2 := hb2.size
      have hts2 := hts.below hb2
      have hto2 := own_later hto.out hb2
      have hap2 := hap.snoc wr.heap.size (fun j p a hp ha => hts.lt hp ha) (p := (A, c)) (fun a ha => (own_lt ho2 a.block (by simp only at ha; rw [ha]; rfl)).1)
      have hb3 : Below B w12 (w2.alloc (.cells #[.slice A L c] 24)) := (hb.trans (hb2.mono hBr)).alloc (by omega) _
      clear p1 hap
      go_upto_region 19 with (at_builtin; refine wpList_append_lies _ rfl _ _ _ rfl B 24 j0 _ 1 24 Tryz.underlying46 hinf' hz0' hz1' hz2' rfl (by decide) _ i (vs.map (slV L)) (by rfl) (hto2.alloc _) ⟨w2.heap.size, 0, none⟩ 1 1 [.slice A L c] (by rfl) (by rfl) (World.news_of_block (cs := #[.slice A L c]) (heap_alloc_new _ _)) (by intro u hu; simp at hu; subst hu; rfl) (by omega) (by unfold maxLen; omega) (by omega) (by simp; omega) _ rfl ?_; intro gg cap w4 ho4 hgrow hat hlt4)
      have hto3 := hto2.alloc (.cells #[.slice A L c] 24)
      have hts3 := hts2.below ((Below.refl _ w2).alloc (Nat.le_refl _) (.cells #[.slice A L c] 24))
      have hts4 := hts3.kept hgrow (ts_apart hts3 hto3 (by decide))
      have ho3 := (own_base ho2 hBr).alloc (.cells #[.slice A L c] 24)
      have ho4' : w4.ownsRow B 45 2 (.slice A L c) L (labs ls) := by
        refine ho3.kept hgrow ?_
        cases hTb : (Value.slice T0 i cT).ownBlock with
        | none =>
          cases A with
          | none => exact .inl rfl
          | some a => exact .inr (by simp [Value.ownBlock])
        | some g => exact .inr (own_apart ho3 hto3 (by decide) hTb)
      have hts5 := hts4.snoc (p := (A, c)) hL.out.symm ho4'
      have hb4 := hb3.grown hgrow (by simp; omega) (fun k hk => (own_lt hto3 k hk).1)
      replace ho4 := Lib.hid ho4
      clear ho4' ho3 hts4 hts3 hto3 hgrow hat hts2 hto2 hts hto
      replace hts5 := Lib.hid hts5
      go_wp2
      exact ⟨⟨i + 1, vs ++ [(A, c)], _, cap, rfl, by simp, by omega, by simp [hvl], hts5.out, hap2, by simpa [slV] using ho4.out, hb4⟩, by simp [La.natOf]; omega⟩
    · obtain rfl : i = 3 := by omega
      clear hlt
      obtain ⟨gT, cT', eT, hgT1, hgT2⟩ := hto.form (by omega)
      injection eT with eT1 _ eT3
      subst eT1 eT3
      replace hto := Lib.hid hto
      replace hts := Lib.hid hts
      replace hap := Lib.hid hap
      go_wp2
      go_loopw [136] (fun v wx => ∃ i : Nat, v = .int .i64 (i : Int) ∧ i ≤ 3 ∧ TS nmF wx B L vs (fun j => if j < i then L else 0) ∧ wx.ownsRow B 24 1 (.slice (some ⟨gT, 0, none⟩) 3 cT) 3 (vs.map (slV L)) ∧ Below B w12 wx) (fun v _ => 4 - La.natOf v)
      case atStart => exact ⟨0, rfl, by omega, hts.out.less (fun j => by simp), hto.out, hb⟩
      case round =>
        clear hts hto hb hi hbs hBr hgT1 hgT2
        obtain ⟨i, rfl, hi, hts, hto, hb⟩ := hrel
        have hbs := hb.size
        have hBr : B ≤ wr.heap.size := by omega
        by_cases hlt : i < 3
        · have g1 : (i : Int) < 3 := by omega
          have g0 : (0 : Int) ≤ (i : Int) := by omega
          have hiv : i < vs.length := by omega
          obtain ⟨⟨Ai, ci⟩, hp⟩ : ∃ p, vs[i]? = some p := ⟨_, List.getElem?_eq_getElem hiv⟩
          have hce : wr.cell? ⟨gT, i, none⟩ = some (.slice Ai L ci) := by
            rw [hto.cellAt i (by omega), List.getElem?_map, hp]; rfl
          replace hto := Lib.hid hto
          replace hts := Lib.hid hts
          replace hb := Lib.hid hb
          go_upto_region 26 with fail
          rw [show Utf8.encode (65 + (i : Int)) = nmF i from rfl]
          obtain ⟨gm, hgm⟩ : ∃ gm, gm = wr.heap.size := ⟨_, rfl⟩
          obtain ⟨wm, hwm⟩ : ∃ wm, wm = wr.alloc (.cells #[.string (nmF i), .string ⟨#[]⟩] 45) := ⟨_, rfl⟩
          rw [← hwm]
          have mrow : wm.heap[gm]? = some (.cells #[.string (nmF i), .string ⟨#[]⟩] 45 (0, 0)) := by rw [hwm, hgm]; exact heap_alloc_new _ _
          have bm : Below wr.heap.size wr wm := by rw [hwm]; exact (Below.refl _ _).alloc (Nat.le_refl _) _
          have htm := own_later hto.out bm
          have tsm := hts.out.below bm
          have bbm : Below B w12 wm := hb.out.trans (bm.mono hBr)
          have hfar : ∀ (j : Nat) (p : Option Addr × Nat) (a : Addr), vs[j]? = some p → p.1 = some a → a.block < gm := fun j p a hj ha => by rw [hgm]; exact hts.out.lt hj ha
          rw [← hgm]
          clear hgm hwm bm hts hto hb hce hbs hBr
          replace tsm := Lib.hid tsm
          replace htm := Lib.hid htm
          replace bbm := Lib.hid bbm
          replace mrow := Lib.hid mrow
          replace hfar := Lib.hid hfar
          replace hp := Lib.hid hp
          clear g1 g0 hiv
          go_wp2
          go_loopw [148] (fun v wy => ∃ k : Nat, v = .int .i64 (k : Int) ∧ k ≤ L ∧ TS nmF wy B L vs (fun j => if j = i then k else if j < i then L else 0) ∧ wy.ownsRow B 24 1 (.slice (some ⟨gT, 0, none⟩) 3 cT) 3 (vs.map (slV L)) ∧
            wy.heap[gm]? = some (.cells #[.string (nmF i), .string ⟨#[]⟩] 45 (0, 0)) ∧ Below B w12 wy) (fun v _ => 18 - La.natOf v)
          case atStart => exact ⟨0, rfl, Nat.zero_le _, tsm.out.less (fun j => by by_cases h : j = i <;> simp [h]), htm.out, mrow.out, bbm.out⟩
          case round =>
            clear tsm htm mrow bbm
            obtain ⟨k, rfl, hk, hts, hto, hm, hb⟩ := hrel
            by_cases hkl : k < L
            · obtain ⟨g, c, hpe, hgl⟩ := hts.form hp.out (by omega)
              injection hpe with e1 e2
              subst e1 e2
              have hgm : g < gm := hfar.out i _ _ hp.out rfl
              obtain ⟨x, _, x0, x1, x2, x3⟩ := hts.cells hp.out hkl
              obtain ⟨s1, s2⟩ := hts.store hap.out hp.out hkl (by simp) ⟨#[]⟩
              have m0 : wr.cell? ⟨gm, 0, none⟩ = some (.string (nmF i)) := by rw [cell_of_row _ _ _ _ _ _ hm]; rfl
              have m1 : wr.cell? ⟨gm, 1, none⟩ = some (.string ⟨#[]⟩) := by rw [cell_of_row _ _ _ _ _ _ hm]; rfl
              have gB : B ≤ g := by
                obtain ⟨cur, _, _, h3⟩ := hts i _ hp.out
                exact (own_lt h3 g rfl).1
              have hb2 := (hb.setCell (p := ⟨g, k * 2, none⟩) gB (.string (nmF i))).setCell (p := ⟨g, k * 2 + 1, none⟩) gB (.string ⟨#[]⟩)
              have hto2 := hto.kept s2 (by
                refine .inr ?_
                intro e
                exact own_apart hto (hts i _ hp.out).choose_spec.2.2 (by decide) rfl e)
              have hm2 := (s2.block gm (by have := Rp.lt_of_heap hm; omega) (by simp; omega)).trans hm
              have ts2 : TS nmF ((wr.setCell ⟨g, k * 2, none⟩ (.string (nmF i))).setCell ⟨g, k * 2 + 1, none⟩ (.string ⟨#[]⟩)) B L vs (fun j => if j = i then k + 1 else if j < i then L else 0) := s1.less (fun j => by by_cases h : j = i <;> simp [h])
              have k0 : (0 : Int) ≤ (k : Int) := by omega
              have k1' : (k : Int) < (L : Int) := by omega
              have k2 : (L : Int) ≤ 17 := by omega
              replace hb2 := Lib.hid hb2
              replace hto2 := Lib.hid hto2
              replace hm2 := Lib.hid hm2
              replace ts2 := Lib.hid ts2
              clear s1 s2 hts hto hm hb hgm hgl gB
              go_wp2
              exact ⟨⟨k + 1, by simp, hkl, ts2.out, hto2.out, hm2.out, hb2.out⟩, by simp [La.natOf]; omega⟩
            · have e : L = k := by omega
              subst e
              clear hkl hk
              have hge : ¬ (L : Int) < (L : Int) := by omega
              obtain ⟨cur, _, _, hown⟩ := hts i _ hp.out
              have hfi : ∀ a, Ai = some a → a.block ≠ gm := fun a ha => by have := hfar.out i _ a hp.out ha; omega
              have hts2 : TS nmF wr B L vs (fun j => if j < i + 1 then L else 0) := hts.less (fun j => by
                by_cases h : j = i
                · simp [h]
                · simp only [h, if_false]
                  by_cases h2 : j < i
                  · rw [if_pos (by omega), if_pos h2]; exact Nat.le_refl _
                  · rw [if_neg (by omega)]; exact Nat.zero_le _)
              have gB : B ≤ wr.heap.size := by have := hb.size; omega
              unfold slV at hown
              simp only at hown
              clear hts
              replace hts2 := Lib.hid hts2
              replace hto := Lib.hid hto
              replace hm := Lib.hid hm
              replace hb := Lib.hid hb
              replace hown := Lib.hid hown
              replace hfi := Lib.hid hfi
              clear gB
              go_wp2
              go_loopw [19, 22] (fun l v wy => ∃ (q m : Nat) (A' : Option Addr) (c' : Nat) (xs : List Value), l = .slice A' m c' ∧ v = .int .i64 (q : Int) ∧ q ≤ 18 ∧ L ≤ m ∧ m ≤ L + q ∧ wy.ownsRow B 45 2 (.slice A' m c') m xs ∧ (∀ a, A' = some a → a.block ≠ gm) ∧
                TS nmF wy B L vs (fun j => if j < i + 1 then L else 0) ∧ wy.ownsRow B 24 1 (.slice (some ⟨gT, 0, none⟩) 3 cT) 3 (vs.map (slV L)) ∧
                wy.heap[gm]? = some (.cells #[.string (nmF i), .string ⟨#[]⟩] 45 (0, 0)) ∧ Below B w12 wy) (fun _ v _ => 19 - La.natOf v)
              case atStart => exact ⟨0, L, Ai, ci, labs cur, rfl, rfl, by omega, Nat.le_refl _, by omega, hown.out, hfi.out, hts2.out, hto.out, hm.out, hb.out⟩
              case round =>
                clear hts2 hto hm hb hown hfi
                obtain ⟨q, m, A', c', xs, rfl, rfl, hq, hLm, hmq, ho, hfm, hts, hto, hm, hb⟩ := hrel
                have hbs := hb.size
                have hBr : B ≤ wr.heap.size := by omega
                by_cases hlt : q < 18
                · have q1 : (q : Int) < 18 := by omega
                  have q0 : (0 : Int) ≤ (q : Int) := by omega
                  have m0 : wr.cell? ⟨gm, 0, none⟩ = some (.string (nmF i)) := by rw [cell_of_row _ _ _ _ _ _ hm]; rfl
                  have m1 : wr.cell? ⟨gm, 1, none⟩ = some (.string ⟨#[]⟩) := by rw [cell_of_row _ _ _ _ _ _ hm]; rfl
                  have hgl := Rp.lt_of_heap hm
                  replace hts := Lib.hid hts
                  replace hto := Lib.hid hto
                  replace hm := Lib.hid hm
                  replace hb := Lib.hid hb
                  go_upto_region 33 with (at_builtin; refine wpList_append_two _ rfl _ _ _ rfl B 45 i0 _ 2 32 Tryz.underlying24 hinf hz0 hz1 hz2 rfl (by decide) _ m xs (by rfl) (ho.alloc _) ⟨wr.heap.size, 0, none⟩ 1 1 [.string (nmF i), .string ⟨#[]⟩] (by rfl) (by rfl) (nm_news i wr) (nm_one i) (by omega) (by unfold maxLen; omega) (by omega) (by simp; omega) _ rfl ?_; intro g2 cap2 w4 ho4 h2w)
                  have bA : Below wr.heap.size wr (wr.alloc (.cells #[.string (nmF i), .string ⟨#[]⟩] 45)) := (Below.refl _ _).alloc (Nat.le_refl _) _
                  have tsA := hts.out.below bA
                  have toA := own_later hto.out bA
                  have mA := (bA.block gm hgl).trans hm.out
                  have bbA := hb.out.trans (bA.mono hBr)
                  have hoA := ho.alloc (.cells #[.string (nmF i), .string ⟨#[]⟩] 45)
                  have key : (∀ a, (some (⟨g2, 0, none⟩ : Addr)) = some a → a.block ≠ gm) ∧ TS nmF w4 B L vs (fun j => if j < i + 1 then L else 0) ∧ w4.ownsRow B 24 1 (.slice (some ⟨gT, 0, none⟩) 3 cT) 3 (vs.map (slV L)) ∧
                      w4.heap[gm]? = some (.cells #[.string (nmF i), .string ⟨#[]⟩] 45 (0, 0)) ∧ Below B w12 w4 := by
                    rcases h2w with ⟨e, hg⟩ | ⟨e, hg⟩
                    · injection e with e1 e2 e3
                      subst e1 e3
                      have hne := hfm _ rfl
                      refine ⟨fun a ha => by cases ha; exact hne, tsA.onto (Nat.le_refl _) hoA ho4 hg hLm (by omega), toA.kept hg (.inr fun e => own_apart toA hoA (by decide) rfl e), (hg.block gm (by simp; omega) (by simp; exact fun e => hne e.symm)).trans mA, bbA.grown hg (by simp; omega) (fun k hk => by cases hk; exact (own_lt hoA g2 rfl).1)⟩
                    · refine ⟨fun a ha => by cases ha; simp only; rw [e]; simp only [World.size_alloc]; omega, tsA.kept hg (fun _ _ _ _ _ => by simp), toA.kept hg (.inr (by simp [Value.ownBlock])), (hg.block gm (by simp; omega) (by simp)).trans mA, bbA.grown hg (by simp; omega) (fun k hk => by cases hk)⟩
                  obtain ⟨r1, r2, r3, r4, r5⟩ := key
                  clear h2w bA tsA toA mA bbA hoA hts hto hm hb ho m0 m1 hgl
                  replace r1 := Lib.hid r1
                  replace r2 := Lib.hid r2
                  replace r3 := Lib.hid r3
                  replace r4 := Lib.hid r4
                  replace r5 := Lib.hid r5
                  replace ho4 := Lib.hid ho4
                  go_wp2
                  exact ⟨⟨q + 1, m + 1, _, cap2, _, rfl, by simp, by omega, by omega, by omega, ho4.out, r1.out, r2.out, r3.out, r4.out, r5.out⟩, by simp [La.natOf]; omega⟩
                · obtain rfl : q = 18 := by omega
                  replace hts := Lib.hid hts
                  replace hto := Lib.hid hto
                  replace hb := Lib.hid hb
                  clear ho hm hlt
                  go_wp2
                  exact ⟨⟨i + 1, by simp, by omega, hts.out, hto.out, hb.out⟩, by simp [La.natOf]; omega⟩
        · obtain rfl : i = 3 := by omega
          clear hlt hi
          have tsC : TS nmF wr B L vs (fun j => L) := by
            intro j p hj
            have hj3 : j < 3 := by
              rcases Nat.lt_or_ge j 3 with h | h
              · exact h
              · rw [List.getElem?_eq_none (by omega)] at hj; cases hj
            obtain ⟨cur, h1, h2, h3⟩ := hts j p hj
            exact ⟨cur, h1, fun k hk => h2 k (by simp only [hj3, if_true]; exact hk), h3⟩
          obtain ⟨wC, hwC⟩ : ∃ wC, wC = wr := ⟨_, rfl⟩
          have b0 : Below wC.heap.size wC wr := by rw [hwC]; exact Below.refl _ _
          rw [← hwC] at tsC hto hb hBr
          clear hts hwC hbs
          replace tsC := Lib.hid tsC
          replace hto := Lib.hid hto
          replace hb := Lib.hid hb
          replace hap := Lib.hid hap
          replace b0 := Lib.hid b0
          go_wp2
          go_loopw [167] (fun v wx => ∃ i : Nat, v = .int .i64 (i : Int) ∧ i ≤ 3 ∧ Below wC.heap.size wC wx) (fun v _ => 4 - La.natOf v)
          case atStart => exact ⟨0, rfl, by omega, b0.out⟩
          case round =>
            clear b0
            obtain ⟨i, rfl, hi, hbx⟩ := hrel
            have hxs := hbx.size
            by_cases hlt : i < 3
            · have g1 : (i : Int) < 3 := by omega
              have g0 : (0 : Int) ≤ (i : Int) := by omega
              have hiv : i < vs.length := by omega
              obtain ⟨⟨Ai, ci⟩, hp⟩ : ∃ p, vs[i]? = some p := ⟨_, List.getElem?_eq_getElem hiv⟩
              have hce : wr.cell? ⟨gT, i, none⟩ = some (.slice Ai L ci) := by
                rw [(own_later hto.out hbx).cellAt i (by omega), List.getElem?_map, hp]; rfl
              replace hbx := Lib.hid hbx
              replace hp := Lib.hid hp
              clear hiv
              go_wp2
              go_loopw [174] (fun v wz => ∃ k : Nat, v = .int .i64 (k : Int) ∧ k ≤ L ∧ Below wC.heap.size wC wz) (fun v _ => 18 - La.natOf v)
              case atStart => exact ⟨0, rfl, Nat.zero_le _, hbx.out⟩
              case round =>
                clear hce hbx hxs
                obtain ⟨k, rfl, hk, hbx⟩ := hrel
                have hxs := hbx.size
                by_cases hkl : k < L
                · have ts := tsC.out.below hbx
                  obtain ⟨g, c, hpe, hgl⟩ := ts.form hp.out (by omega)
                  injection hpe with e1 e2
                  subst e1 e2
                  obtain ⟨x, hx, x0, x1, x2, x3⟩ := ts.cells hp.out hkl
                  have hx' : x.1 = nmF i := hx hkl
                  rw [show nmF i = Utf8.encode (65 + (i : Int)) from rfl] at hx'
                  rw [hx'] at x0
                  have k0 : (0 : Int) ≤ (k : Int) := by omega
                  have k1' : (k : Int) < (L : Int) := by omega
                  have k2 : (L : Int) ≤ 17 := by omega
                  have hbn : ∀ o, Below wC.heap.size wC (wr.alloc o) := fun o => hbx.alloc hxs o
                  replace hbn := Lib.hid hbn
                  clear ts hx hx' x2 x3 hbx hgl
                  go_wp2
                  exact ⟨⟨k + 1, by simp, hkl, hbn.out _⟩, by simp [La.natOf]; omega⟩
                · have e : k = L := by omega
                  have hge : ¬ (k : Int) < (L : Int) := by omega
                  replace hbx := Lib.hid hbx
                  clear e hkl
                  go_wp2
                  exact ⟨⟨i + 1, by simp, by omega, hbx.out⟩, by simp [La.natOf]; omega⟩
            · obtain rfl : i = 3 := by omega
              clear hlt hi
              have bW : Below w.heap.size w wr := b13.out.trans ((hb.out.mono hBw).trans (hbx.mono (by omega)) |>.mono (by have := b13.out.size; omega))
              have hsW := bW.size
              have p1 := Lib.hid (pc.out wr)
              replace hbx := Lib.hid hbx
              go_wp2_with fail
              refine p1.out.mono ?_
              rintro e w20 ⟨nm, A, c, x, q, rfl, ho20, hb20⟩
              have p2 := Lib.hid (rp.out w20)
              have hs20 := hb20.size
              clear p1
              go_wp2_with fail
              refine p2.out.mono ?_
              rintro e w21 ⟨nm', A', c', x', q', rfl, ho21, hb21⟩
              have hs21 := hb21.size
              have ho20' := own_later ho20 hb21
              have r1 : Rd w21 w21.heap.size 2 A (labs ls) L := Rd.of_own ho20' (fun a ha => (own_lt ho20' a.block (by rw [ha]; rfl)).2)
              have r2 : Rd w21 w21.heap.size 2 A' (labs ls) L := Rd.of_own ho21 (fun a ha => (own_lt ho21 a.block (by rw [ha]; rfl)).2)
              have bw2 : Below w.heap.size w w21 := bW.trans ((hb20.mono (by omega)).trans (hb21.mono (by omega)))
              replace r1 := Lib.hid r1
              replace r2 := Lib.hid r2
              replace bw2 := Lib.hid bw2
              clear p2 ho20 ho21 ho20' hb20 hb21 bW
              go_upto_region 48 with fail
              have bw3 : ∀ o, Below w.heap.size w (w21.alloc o) := fun o => bw2.out.alloc (by omega) o
              have p3 := fun o => Sm.same_any A A' c c' ls ls (w21.alloc o) (((hL.out ▸ r1.out).below ((Below.refl _ _).alloc (Nat.le_refl _) o)).mono (by simp)) (((hL.out ▸ r2.out).below ((Below.refl _ _).alloc (Nat.le_refl _) o)).mono (by simp)) (by rw [← hL.out]; omega) (by rw [← hL.out]; omega)
              simp only [decide_true] at p3
              rw [← hL.out] at p3
              replace p3 := Lib.hid p3
              replace bw3 := Lib.hid bw3
              go_wp2_with fail
              refine (p3.out _).mono ?_
              rintro e w22 ⟨rfl, hb22⟩
              have bw4 := (bw3.out _).trans (hb22.mono (bw3.out _).size)
              clear hb22 p3 bw3
              go_wp2
              go_ret
              exact ⟨rfl, bw4⟩
end Go.Proofs.YtgjcdhcbniholaaGreat.Kp

