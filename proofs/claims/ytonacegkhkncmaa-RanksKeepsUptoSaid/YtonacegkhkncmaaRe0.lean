/- Rows beside one another: what RanksKeeps holds on to. -/
import Derived.Test.YtonacegkhkncmaaRd5
import Derived.Test.YtonacegkhkncmaaSs
namespace Go.Proofs.Ytonacegkhkncmaa.Rk
open Go.RowKit Go.Proofs.Ytonacegkhkncmaa.Bk Go.Proofs.Ytonacegkhkncmaa.Sl Go.Proofs.Ytonacegkhkncmaa.Mg Go.Proofs.Ytonacegkhkncmaa.St
set_option linter.unusedVariables false

/-- All that was there when u was, and the mark's variable. -/
def Sk (u : World) (g : Nat) (W : World) : Prop := Below u.heap.size u W ∧ W.cell? ⟨g, 0, none⟩ = some (.int .i64 (-7)) ∧ W.cell? ⟨g, 1, none⟩ = some (.int .u64 7)
theorem Sk.kept {u : World} {g : Nat} {W W' : World} {row : Option Nat} (h : Sk u g W) (hn : g < u.heap.size) (hg : W.grownBy W' row) (hr : ∀ k, row = some k → u.heap.size ≤ k) : Sk u g W' := by
  obtain ⟨h0, h2, h3⟩ := h
  have hne : some g ≠ row := by
    intro e
    have := hr g e.symm
    omega
  exact ⟨h0.grown hg h0.size hr, hg.cell (a := ⟨g, 0, none⟩) h2 hne, hg.cell (a := ⟨g, 1, none⟩) h3 hne⟩
theorem Sk.drew {u : World} {g : Nat} {W : World} (h : Sk u g W) : Sk u g W.drew := ⟨h.1.drew, h.2⟩
theorem Sk.alloc {u : World} {g : Nat} {W : World} (h : Sk u g W) (hn : g < u.heap.size) (o : Obj) : Sk u g (W.alloc o) := h.kept hn (World.grownBy_alloc W o none) (fun k hk => by cases hk)
theorem Sk.self {u : World} {g : Nat} {W : World} (h : Sk u g W) : Sk W g W := ⟨Below.refl _ _, h.2⟩
theorem Sk.stay {u : World} {g : Nat} {W W' : World} (h : Sk u g W) (hn : g < u.heap.size) (hb : Below W.heap.size W W') : Sk u g W' := by
  have hlt : g < W.heap.size := Nat.lt_of_lt_of_le hn h.1.size
  exact ⟨h.1.trans (hb.mono h.1.size), (hb.cell (p := ⟨g, 0, none⟩) hlt).trans h.2.1, (hb.cell (p := ⟨g, 1, none⟩) hlt).trans h.2.2⟩
def mk2 : List (Int × Int) := [(-7, 7), (-7, 7)]
theorem mk_new (W : World) : ∃ B, Rd (W.alloc (.cells #[.int .i64 (-7), .int .u64 7, .int .i64 (-7), .int .u64 7] 55)) B 2 (some ⟨W.heap.size, 0, none⟩) (flat mk2) 2 := ⟨_, Rd.new W (flat mk2) _ 2 2 rfl⟩
theorem mk_far {W w' : World} (hg : (W.alloc (.cells #[.int .i64 (-7), .int .u64 7, .int .i64 (-7), .int .u64 7] 55)).grownBy w' none) : ∃ B, Rd w' B 2 (some ⟨W.heap.size, 0, none⟩) (flat mk2) 2 :=
  ⟨W.heap.size + 1, (Rd.new W (flat mk2) _ 2 2 rfl).far hg (by simp) (fun g hg => by simp)⟩
/-- 'append(append(nil, l...), mark, mark)' -/
def Laid (u : World) (l : List (Int × Int)) (A : Option Addr) (k : Nat) (W : World) : Prop := W.ownsRow u.heap.size 55 2 (.slice A (l.length + 2) k) (l.length + 2) (flat (l ++ mk2))
def LaidPost (u : World) (g : Nat) (l : List (Int × Int)) (v : Value) (W : World) : Prop := ∃ A k, v = .slice A (l.length + 2) k ∧ Laid u l A k W ∧ Sk u g W
theorem Laid.stay {u : World} {l : List (Int × Int)} {A : Option Addr} {k : Nat} {W W' : World} (h : Laid u l A k W) (hb : Below W.heap.size W W') : Laid u l A k W' := own_later h hb
theorem Laid.at {u : World} {l : List (Int × Int)} {A : Option Addr} {k : Nat} {W : World} (h : Laid u l A k W) : ∃ g, A = some ⟨g, 0, none⟩ ∧ u.heap.size ≤ g ∧ g < W.heap.size ∧ l.length + 2 ≤ k ∧ k ≤ maxLen := by
  rcases h.2 with ⟨_, h2⟩ | ⟨g, cap', cur, h1, _, _, h4, h5, _⟩
  · omega
  · cases h1
    exact ⟨g, rfl, (h.lt g rfl).1, (h.lt g rfl).2, h4, h5⟩
/-- The first part, as the counts laid out. -/
theorem Laid.head {u : World} {l : List (Int × Int)} {g : Nat} {k : Nat} {W : World} (h : Laid u l (some ⟨g, 0, none⟩) k W) (hok : ∀ c ∈ l, okC c) : Cs W W.heap.size (some ⟨g, 0, none⟩) l := by
  have := (own_cut h (k := l.length) (by omega))
  rw [flat_take, List.take_left' rfl] at this
  exact cs_of_own this hok
theorem Laid.marks {u : World} {l : List (Int × Int)} {g : Nat} {k : Nat} {W : World} (h : Laid u l (some ⟨g, 0, none⟩) k W) :
    W.cell? ⟨g, l.length * 2, none⟩ = some (.int .i64 (-7)) ∧ W.cell? ⟨g, l.length * 2 + 1, none⟩ = some (.int .u64 7) ∧ W.cell? ⟨g, (l.length + 1) * 2, none⟩ = some (.int .i64 (-7)) ∧ W.cell? ⟨g, (l.length + 1) * 2 + 1, none⟩ = some (.int .u64 7) := by
  obtain ⟨a1, a2⟩ := flat_get (l ++ mk2) l.length (-7, 7) (by simp [mk2])
  obtain ⟨b1, b2⟩ := flat_get (l ++ mk2) (l.length + 1) (-7, 7) (by simp [mk2])
  exact ⟨(h.cellAt _ (by omega)).trans a1, (h.cellAt _ (by omega)).trans a2, (h.cellAt _ (by omega)).trans b1, (h.cellAt _ (by omega)).trans b2⟩
/-- The marks' cells, all of them; what was there when u was. -/
def Sm (u : World) (g0 ga gb a b : Nat) (W : World) : Prop :=
  Below u.heap.size u W ∧ W.cell? ⟨g0, 0, none⟩ = some (.int .i64 (-7)) ∧ W.cell? ⟨g0, 1, none⟩ = some (.int .u64 7) ∧
  W.cell? ⟨ga, a * 2, none⟩ = some (.int .i64 (-7)) ∧ W.cell? ⟨ga, a * 2 + 1, none⟩ = some (.int .u64 7) ∧ W.cell? ⟨ga, (a + 1) * 2, none⟩ = some (.int .i64 (-7)) ∧ W.cell? ⟨ga, (a + 1) * 2 + 1, none⟩ = some (.int .u64 7) ∧
  W.cell? ⟨gb, b * 2, none⟩ = some (.int .i64 (-7)) ∧ W.cell? ⟨gb, b * 2 + 1, none⟩ = some (.int .u64 7) ∧ W.cell? ⟨gb, (b + 1) * 2, none⟩ = some (.int .i64 (-7)) ∧ W.cell? ⟨gb, (b + 1) * 2 + 1, none⟩ = some (.int .u64 7)
theorem Sm.stay {u : World} {g0 ga gb a b : Nat} {W W' : World} (h : Sm u g0 ga gb a b W) (l : g0 < u.heap.size ∧ ga < u.heap.size ∧ gb < u.heap.size) (hb : Below W.heap.size W W') : Sm u g0 ga gb a b W' := by
  obtain ⟨h0, q0, q1, q2, q3, q4, q5, q6, q7, q8, q9⟩ := h
  obtain ⟨l0, l1, l2⟩ := l
  have hs := h0.size
  have m0 : g0 < W.heap.size := by omega
  have m1 : ga < W.heap.size := by omega
  have m2 : gb < W.heap.size := by omega
  have e : ∀ g o v, g < W.heap.size → W.cell? ⟨g, o, none⟩ = some v → W'.cell? ⟨g, o, none⟩ = some v := fun g o v hg h => (hb.cell (p := ⟨g, o, none⟩) hg).trans h
  exact ⟨h0.trans (hb.mono hs), e _ _ _ m0 q0, e _ _ _ m0 q1, e _ _ _ m1 q2, e _ _ _ m1 q3, e _ _ _ m1 q4, e _ _ _ m1 q5, e _ _ _ m2 q6, e _ _ _ m2 q7, e _ _ _ m2 q8, e _ _ _ m2 q9⟩
theorem Sm.drew {u : World} {g0 ga gb a b : Nat} {W : World} (h : Sm u g0 ga gb a b W) : Sm u g0 ga gb a b W.drew := ⟨h.1.drew, h.2⟩
theorem Sm.start {u v0 v1 v2 : World} {g0 ga gb ka kb : Nat} {l m : List (Int × Int)} (h : Sk v0 g0 u) (oA : Laid v1 l (some ⟨ga, 0, none⟩) ka u) (oB : Laid v2 m (some ⟨gb, 0, none⟩) kb u) : Sm u g0 ga gb l.length m.length u := by
  obtain ⟨a1, a2, a3, a4⟩ := oA.marks
  obtain ⟨b1, b2, b3, b4⟩ := oB.marks
  exact ⟨Below.refl _ _, h.2.1, h.2.2, a1, a2, a3, a4, b1, b2, b3, b4⟩
/-- What another row's writing leaves. -/
theorem Sm.far {u : World} {g0 ga gb a b : Nat} {W W' : World} {row : Option Nat} (h : Sm u g0 ga gb a b W) (hg : W.grownBy W' row) (h0 : some g0 ≠ row) (h1 : some ga ≠ row) (h2 : some gb ≠ row) : Sm W' g0 ga gb a b W' := by
  obtain ⟨_, q0, q1, q2, q3, q4, q5, q6, q7, q8, q9⟩ := h
  exact ⟨Below.refl _ _, hg.cell (a := ⟨g0, _, none⟩) q0 h0, hg.cell (a := ⟨g0, _, none⟩) q1 h0, hg.cell (a := ⟨ga, _, none⟩) q2 h1, hg.cell (a := ⟨ga, _, none⟩) q3 h1, hg.cell (a := ⟨ga, _, none⟩) q4 h1, hg.cell (a := ⟨ga, _, none⟩) q5 h1, hg.cell (a := ⟨gb, _, none⟩) q6 h2, hg.cell (a := ⟨gb, _, none⟩) q7 h2, hg.cell (a := ⟨gb, _, none⟩) q8 h2, hg.cell (a := ⟨gb, _, none⟩) q9 h2⟩

/-- The row of c while it is written over and grown: anything; beside it all stays. -/
def CW (u : World) (bc : Nat) (row : Option Nat) (v : Value) (n : Nat) (W : World) : Prop := ∃ xs, W.ownsRow bc 55 2 v n xs ∧ u.grownBy W row ∧ ∀ j, v.ownBlock = some j → row = some j ∨ u.heap.size ≤ j
theorem CW.set {u : World} {bc g n k : Nat} {row : Option Nat} {W : World} (h : CW u bc row (.slice (some ⟨g, 0, none⟩) n k) n W) (j : Nat) (x : Value) : CW u bc row (.slice (some ⟨g, 0, none⟩) n k) n (W.setCell ⟨g, j, none⟩ x) := by
  obtain ⟨xs, h1, h2, h3⟩ := h
  obtain ⟨s1, s2⟩ := h1.stored j x
  exact ⟨_, s1, h2.andThen s2 (fun i hi => (h3 i hi).symm), h3⟩
theorem CW.alloc {u : World} {bc n : Nat} {row : Option Nat} {v : Value} {W : World} (h : CW u bc row v n W) (o : Obj) : CW u bc row v n (W.alloc o) := by
  obtain ⟨xs, h1, h2, h3⟩ := h
  exact ⟨xs, h1.alloc o, h2.andThen (World.grownBy_alloc W o none) (fun i hi => by cases hi), h3⟩
theorem CW.grow {u : World} {bc n n' : Nat} {row : Option Nat} {v v' : Value} {W W' : World} {xs : List Value} (h : CW u bc row v n W) (h1 : W'.ownsRow bc 55 2 v' n' xs) (hg : W.grownBy W' v.ownBlock) (he : v'.ownBlock = v.ownBlock ∨ v'.ownBlock = some W.heap.size) : CW u bc row v' n' W' := by
  obtain ⟨_, _, h2, h3⟩ := h
  refine ⟨xs, h1, h2.andThen hg (fun i hi => (h3 i hi).symm), fun j hj => ?_⟩
  rcases he with e | e
  · exact h3 j (by rw [← e]; exact hj)
  · rw [e] at hj; cases hj
    exact .inr h2.size

/-- Three more, brought round. -/
def add3 (c : Int × Int) : Int × Int := (c.1, IntKind.u64.wrap (c.2 + 3))
def upto3 (l : List (Int × Int)) (k : Nat) : List (Int × Int) := (l.take k).map add3 ++ l.drop k
theorem upto3_zero (l : List (Int × Int)) : upto3 l 0 = l := by simp [upto3]
theorem upto3_all (l : List (Int × Int)) : upto3 l l.length = l.map add3 := by simp [upto3]
theorem upto3_len (l : List (Int × Int)) (k : Nat) : (upto3 l k).length = l.length := by
  simp [upto3]; omega
theorem upto3_at {l : List (Int × Int)} {k : Nat} {c : Int × Int} (h : l[k]? = some c) : (upto3 l k)[k]? = some c := by
  obtain ⟨hk, e⟩ := List.getElem?_eq_some_iff.1 h
  unfold upto3
  rw [List.getElem?_append_right (by simp; omega), List.length_map, List.length_take, Nat.min_eq_left (by omega), Nat.sub_self, List.getElem?_drop]
  simpa using h
theorem upto3_next {l : List (Int × Int)} {k : Nat} {c : Int × Int} (h : l[k]? = some c) : (upto3 l k).set k (add3 c) = upto3 l (k + 1) := by
  obtain ⟨hk, e⟩ := List.getElem?_eq_some_iff.1 h
  unfold upto3
  rw [List.set_append_right _ _ (by simp; omega), List.length_map, List.length_take, Nat.min_eq_left (by omega), Nat.sub_self, List.take_succ_eq_append_getElem hk, List.drop_eq_getElem_cons hk, e]
  simp
theorem add3_ok {l : List (Int × Int)} (h : ∀ c ∈ l, okC c) : ∀ c ∈ l.map add3, okC c := by
  intro c hc
  obtain ⟨d, hd, rfl⟩ := List.mem_map.1 hc
  have := h d hd
  unfold okC add3 at *
  simp only [IntKind.wrap_u64]
  omega
theorem flat_setR (a b : List (Int × Int)) (k : Nat) (c : Int × Int) (v : Int) (h : a[k]? = some c) : (flat (a ++ b)).set (k * 2 + 1) (.int .u64 v) = flat (a.set k (c.1, v) ++ b) := by
  obtain ⟨hk, e⟩ := List.getElem?_eq_some_iff.1 h
  have h1 := flat_set2 (a ++ b) k (c.1, v)
  rw [List.set_append_left _ _ hk] at h1
  rw [← h1]
  congr 1
  have g := (flat_get (a ++ b) k c (by rw [List.getElem?_append_left hk]; exact h)).1
  obtain ⟨hl, e2⟩ := List.getElem?_eq_some_iff.1 g
  apply List.ext_getElem?
  intro i
  rw [List.getElem?_set]
  split
  · rename_i e3; subst e3; rw [g]
  · rfl
end Go.Proofs.Ytonacegkhkncmaa.Rk
