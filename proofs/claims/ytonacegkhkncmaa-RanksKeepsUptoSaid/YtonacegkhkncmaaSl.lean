/- Slices in memory, whatever their elements: what they read as, what cutting and appending does. -/
import Derived.WalkKit
import Derived.WalkSmall
import Derived.Maps.AppendAt
import Derived.Deep.AppendLies
import Derived.Deep.Draws
import Derived.RangeFuncBox
namespace Go.Proofs.Ytonacegkhkncmaa.Sl
open Go.RowKit
set_option linter.unusedVariables false

/-- The slice of n elements of s cells that begins at A holds the cells xs; its array lies below block B. -/
structure Rd (w : World) (B s : Nat) (A : Option Addr) (xs : List Value) (n : Nat) : Prop where
  len : xs.length = n * s
  cells : 0 < n → ∃ b off, A = some ⟨b, off, none⟩ ∧ b < B ∧ ∀ j u, xs[j]? = some u → w.cell? ⟨b, off + j, none⟩ = some u

section
variable {w w' : World} {B B' s n : Nat} {A : Option Addr} {xs : List Value}

theorem Rd.nil (w : World) (B s : Nat) (A : Option Addr) : Rd w B s A [] 0 := ⟨by simp, fun h => absurd h (by omega)⟩
theorem Rd.below (h : Rd w B s A xs n) (hb : Below B w w') : Rd w' B s A xs n :=
  ⟨h.len, fun hn => by
    obtain ⟨b, off, e, hB, hc⟩ := h.cells hn
    exact ⟨b, off, e, hB, fun j u hu => (hb.cell (p := ⟨b, off + j, none⟩) hB).trans (hc j u hu)⟩⟩
theorem Rd.mono (h : Rd w B s A xs n) (hB : B ≤ B') : Rd w B' s A xs n :=
  ⟨h.len, fun hn => by
    obtain ⟨b, off, e, h1, hc⟩ := h.cells hn
    exact ⟨b, off, e, by omega, hc⟩⟩
theorem Rd.kept (h : Rd w B s A xs n) {row : Option Nat} (hg : w.grownBy w' row) (hB : B ≤ w.heap.size) (hr : ∀ k, row = some k → B ≤ k) : Rd w' B s A xs n :=
  h.below ((Below.refl B w).grown hg hB hr)
theorem Rd.take (h : Rd w B s A xs n) {k : Nat} (hk : k ≤ n) : Rd w B s A (xs.take (k * s)) k :=
  ⟨by rw [List.length_take, h.len]; have := Nat.mul_le_mul_right s hk; omega, fun hn => by
    obtain ⟨b, off, e, h1, hc⟩ := h.cells (by omega)
    exact ⟨b, off, e, h1, fun j u hu => hc j u (by
      rw [List.getElem?_take] at hu
      by_cases hj : j < k * s
      · rw [if_pos hj] at hu; exact hu
      · rw [if_neg hj] at hu; cases hu)⟩⟩
/-- Where 's[k:]' begins. -/
def cutA (A : Option Addr) (k cap s : Nat) : Option Addr := if cap = k then A else A.map (·.add (k * s))
theorem Rd.cut (h : Rd w B s A xs n) {k cap : Nat} (hk : k ≤ n) (hc : n ≤ cap) : Rd w B s (cutA A k cap s) (xs.drop (k * s)) (n - k) :=
  ⟨by rw [List.length_drop, h.len, Nat.sub_mul], fun hn => by
    obtain ⟨b, off, rfl, h1, hcell⟩ := h.cells (by omega)
    unfold cutA
    rw [if_neg (by omega)]
    refine ⟨b, off + k * s, ?_, h1, fun j u hu => ?_⟩
    · simp only [Option.map_some, Addr.add]
      by_cases hz : k * s = 0
      · rw [if_pos hz, hz, Nat.add_zero]
      · rw [if_neg hz]
    · rw [List.getElem?_drop] at hu
      have := hcell _ _ hu
      rwa [show off + k * s + j = off + (k * s + j) by omega]⟩
theorem Rd.of_own {base : Nat} {e : TypeId} {c : Nat} (h : w.ownsRow base e s (.slice A n c) n xs) (hB : ∀ g, A = some g → g.block < B) : Rd w B s A xs n := by
  refine ⟨h.1, fun hn => ?_⟩
  rcases h.2 with ⟨hv, h0⟩ | ⟨g, cap, cur, hv, hb, hh, _, _, _, ht⟩
  · omega
  · injection hv with h1 h2 h3
    refine ⟨g, 0, h1, hB _ h1, fun j u hu => ?_⟩
    have := h.cells (g := g) (by rw [h1]; rfl) j u hu
    rw [Nat.zero_add]
    simp only [Addr.add] at this
    by_cases hj : j = 0
    · subst hj; simpa using this
    · simpa [hj] using this
end

/-- A block just laid reads as its cells. -/
theorem Rd.new (w : World) (cs : List Value) (t : TypeId) (s n : Nat) (h : cs.length = n * s) : Rd (w.alloc (.cells cs.toArray t)) (w.heap.size + 1) s (some ⟨w.heap.size, 0, none⟩) cs n :=
  ⟨h, fun _ => ⟨w.heap.size, 0, rfl, Nat.lt_succ_self _, fun j u hu => by
    have e : (w.alloc (.cells cs.toArray t)).heap[w.heap.size]? = some (.cells cs.toArray t (0, 0)) := heap_alloc_new w _
    simp only [World.cell?, e, Nat.zero_add]
    simpa using hu⟩⟩

theorem own_form {w : World} {base n s : Nat} {e : TypeId} {v : Value} {xs : List Value} (h : w.ownsRow base e s v n xs) : ∃ A c, v = .slice A n c ∧ n ≤ c ∧ c ≤ maxLen ∧ (∀ g, A = some g → base ≤ g.block ∧ g.block < w.heap.size ∧ g = ⟨g.block, 0, none⟩) := by
  rcases h.2 with ⟨rfl, rfl⟩ | ⟨g, cap, cur, rfl, hb, hh, h1, h2, _⟩
  · exact ⟨none, 0, rfl, by omega, by simp [maxLen], fun g hg => by cases hg⟩
  · exact ⟨_, cap, rfl, h1, h2, fun g' hg => by cases hg; exact ⟨hb, (Array.getElem?_eq_some_iff.1 hh).1, rfl⟩⟩
theorem own_base {w : World} {base base' n s : Nat} {e : TypeId} {v : Value} {xs : List Value} (h : w.ownsRow base e s v n xs) (hb : base' ≤ base) : w.ownsRow base' e s v n xs := by
  refine ⟨h.1, ?_⟩
  rcases h.2 with h' | ⟨g, cap, cur, h1, h2, h3⟩
  · exact .inl h'
  · exact .inr ⟨g, cap, cur, h1, by omega, h3⟩
theorem own_below {w w' : World} {base n s B : Nat} {e : TypeId} {v : Value} {xs : List Value} (h : w.ownsRow base e s v n xs) (hb : Below B w w') (hB : ∀ g, v.ownBlock = some g → g < B) : w'.ownsRow base e s v n xs := by
  refine ⟨h.1, ?_⟩
  rcases h.2 with h' | ⟨g, cap, cur, h1, h2, h3, h4⟩
  · exact .inl h'
  · exact .inr ⟨g, cap, cur, h1, h2, by rw [hb.block g (hB g (by rw [h1]; rfl))]; exact h3, h4⟩
theorem own_lt {w : World} {base n s : Nat} {e : TypeId} {v : Value} {xs : List Value} (h : w.ownsRow base e s v n xs) : ∀ k, v.ownBlock = some k → base ≤ k ∧ k < w.heap.size := h.lt
/-- A callee's new row stays through whatever comes behind it. -/
theorem own_later {w w' : World} {base n s : Nat} {e : TypeId} {v : Value} {xs : List Value} (h : w.ownsRow base e s v n xs) (hb : Below w.heap.size w w') : w'.ownsRow base e s v n xs :=
  own_below h hb fun g hg => (h.lt g hg).2

section
variable {P : Program}
theorem run_sizeOf {e : TypeId} {i : TypeInfo} (hi : P.info? e = some i) (W : World) : (sizeOf e).run P W = .ok i.size W := by simp [sizeOf, typeInfo, hi]

/-- 's[k:]' -/
theorem run_cut (t e : TypeId) (ht : P.underlying t = some (.slice e)) {i : TypeInfo} {s : Nat} (hi : P.info? e = some i) (hs : i.size = s) (A : Option Addr) (n cap k : Nat) (hk : k ≤ n) (x : Int) (hx : x = (k : Int)) (W : World) :
    (Instr.slice t (.slice A n cap) (some (.int .i64 x)) none none).run P W = .ok (.slice (cutA A k cap s) (n - k) (cap - k)) W := by
  have he : P.elem t = e := by simp [Program.elem, ht]
  have ht' : P.underlying t = some (.slice (P.elem t)) := by rw [he]; exact ht
  subst hx
  rw [run_slice_l W t A n cap ht' .i64 (k : Int) (by omega) (by omega), he, run_sizeOf hi, hs]
  simp [Result.andThen, sliced, cutA]
/-- 's[:k]' -/
theorem run_head (t e : TypeId) (ht : P.underlying t = some (.slice e)) {i : TypeInfo} {s : Nat} (hi : P.info? e = some i) (hs : i.size = s) (A : Option Addr) (n cap k : Nat) (hk : k ≤ cap) (x : Int) (hx : x = (k : Int)) (W : World) :
    (Instr.slice t (.slice A n cap) none (some (.int .i64 x)) none).run P W = .ok (.slice A k cap) W := by
  have he : P.elem t = e := by simp [Program.elem, ht]
  have ht' : P.underlying t = some (.slice (P.elem t)) := by rw [he]; exact ht
  subst hx
  rw [run_slice_h W t A n cap ht' .i64 (k : Int) (by omega) (by omega), he, run_sizeOf hi, hs]
  cases A <;> simp [Result.andThen, sliced, Addr.add]

/-- append of nothing, from nil. -/
theorem run_append_nothing {w : World} (base : Nat) (t ty e : TypeId) {i : TypeInfo} (s : Nat) (ht : P.underlying t = some (.slice e)) (hi : P.info? e = some i)
    {v : Value} {n : Nat} {xs : List Value} (h : w.ownsRow base e s v n xs) (c : Nat) : (Builtin.append_ #[t, t] ty #[v, .slice none 0 c]).run P w = .ok v w := by
  rcases h.2 with ⟨rfl, rfl⟩ | ⟨g, cap, cur, rfl, _, _, hc, _⟩
  · simp [Builtin.append_, run_underlying ht, sizeOf, typeInfo, hi, Builtin.lenOf, Builtin.firstCells]
  · simp [Builtin.append_, run_underlying ht, sizeOf, typeInfo, hi, Builtin.lenOf, Builtin.firstCells, hc, storeCells]

theorem run_append_rd {w : World} (base : Nat) (t ty e : TypeId) {i : TypeInfo} {z : Value} {s bytes : Nat} (ht : P.underlying t = some (.slice e)) (hi : P.info? e = some i) (hz : i.zero = some z)
    (hs : i.size = s) (hby : i.bytes = bytes) (hzs : z.cells.size = s) (hsz : 0 < s) {v : Value} {n : Nat} {xs : List Value} (h : w.ownsRow base e s v n xs)
    {B : Nat} {A : Option Addr} {m : Nat} (c : Nat) {ys : List Value} (hr : Rd w B s A ys m) (h1 : ∀ u ∈ ys, u.oneCell' = true) (h63 : n + m ≤ maxLen) (hb : (n + m) * bytes ≤ 140737488355328) (hbase : base ≤ w.heap.size) :
    ∃ v' w', (Builtin.append_ #[t, t] ty #[v, .slice A m c]).run P w = .ok v' w' ∧ w'.ownsRow base e s v' (n + m) (xs ++ ys) ∧ w.grownBy w' v.ownBlock ∧ (v'.ownBlock = v.ownBlock ∨ v'.ownBlock = some w.heap.size) := by
  cases A with
  | none =>
    have hm : m = 0 := by
      rcases Nat.eq_zero_or_pos m with h0 | h0
      · exact h0
      · obtain ⟨b, off, e, _⟩ := hr.cells h0; cases e
    subst hm
    obtain rfl : ys = [] := List.eq_nil_of_length_eq_zero (by simpa using hr.len)
    exact ⟨v, w, run_append_nothing base t ty e s ht hi h c, by simpa using h, World.grownBy.refl w _, .inl rfl⟩
  | some ad =>
    have hc : ∀ j u, ys[j]? = some u → w.cell? (ad.add j) = some u := by
      intro j u hu
      rcases Nat.eq_zero_or_pos m with h0 | h0
      · subst h0
        obtain rfl : ys = [] := List.eq_nil_of_length_eq_zero (by simpa using hr.len)
        simp at hu
      · obtain ⟨b, off, e, _, hcc⟩ := hr.cells h0
        cases e
        have := hcc j u hu
        simp only [Addr.add]
        by_cases hj : j = 0
        · subst hj; simpa using this
        · simpa [hj] using this
    obtain ⟨v', w', x1, x2, x3, _, x5⟩ := run_append_own_at (P := P) w base t ty e i z s bytes ht hi hz hs hby hzs hsz v n xs h ad m c ys hr.len hc h1 h63 hb hbase
    exact ⟨v', w', x1, x2, x3, x5⟩

/-- 'v = append(v, ys...)', in a walk; behind it only v's block and what is new has turned. -/
theorem wpList_append_rd {w : World} {ops : Array Oper} {rest : List Oper} {o : Oper} {a : Act} {Q : Exit → Act → World → Prop} (hgd : o.guard = none) (x y : Operand) (t : TypeId)
    (ho : o.op = .call { callee := .builtin .append, args := #[x, y], argTypes := #[t, t] })
    (base : Nat) (e : TypeId) {i : TypeInfo} {z : Value} {s bytes : Nat} (ht : P.underlying t = some (.slice e)) (hi : P.info? e = some i) (hz : i.zero = some z)
    (hs : i.size = s) (hby : i.bytes = bytes) (hzs : z.cells.size = s) (hsz : 0 < s) {v : Value} {n : Nat} {xs : List Value} (hx : a.eval x = v) (h : w.ownsRow base e s v n xs)
    {B : Nat} {A : Option Addr} {m c : Nat} {ys : List Value} (hy : a.eval y = .slice A m c) (hr : Rd w B s A ys m) (h1 : ∀ u ∈ ys, u.oneCell' = true) (h63 : n + m ≤ maxLen) (hb : (n + m) * bytes ≤ 140737488355328) (hbase : base ≤ w.heap.size)
    (hk : ∀ A' c' w', w'.ownsRow base e s (.slice A' (n + m) c') (n + m) (xs ++ ys) → Below base w w' → w.heap.size ≤ w'.heap.size → wpList P ops Q rest (a.put o.dst (.slice A' (n + m) c')) w') : wpList P ops Q (o :: rest) a w := by
  refine wpList_plain hgd fun _ hK => ?_
  obtain ⟨v', w', x1, x2, x3, x4⟩ := run_append_rd base t o.type e ht hi hz hs hby hzs hsz h c hr h1 h63 hb hbase
  obtain ⟨A', c', rfl, _⟩ := own_form x2
  unfold Oper.wp execOp
  simp only [ho, resolve, invoke, builtin, Sem.run_bind, Sem.run_pure, Result.andThen_ok, List.map_toArray, List.map_cons, List.map_nil, hx, hy, x1]
  exact hK _ _ (hk A' c' w' x2 ((Below.refl base w).grown x3 hbase fun k hk => (h.lt k hk).1) x3.size)
end
end Go.Proofs.Ytonacegkhkncmaa.Sl
