/- Labels and descriptions that came in, as what the walks are told of them. -/
import Derived.Test.YtgjcdhcbniholaaGreatLc2
import Derived.ProofKit
import Derived.SizedLaws
import Derived.ChangeArms
import Derived.ChangeSame
import Derived.Lib.SmallJoins
namespace Go.Proofs.YtgjcdhcbniholaaGreat.La
open Go.RowKit Go.Proofs.YtgjcdhcbniholaaGreat.Sl Go.ChangeShapes Go.WideShapes
set_option linter.unusedVariables false
set_option maxRecDepth 100000

theorem str_sizes {H : Type} {enc : TypeId × Value → H} {W : World} {base : Nat} {spare : Nat → Bool} {held : Bool} {m t : Nat} {c : Value} {y : DataW H × List MemPlace}
    (ht : Tryz.prog.underlying t = some .string) (h : DataW.trod enc Tryz.prog W base spare held m t [c] = some y) : ∃ s : ByteArray, c = .string s ∧ s.size ≤ maxLen ∧ y = (.lit (.string s.data.toList), []) := by
  obtain ⟨s, hs, hy, hl⟩ := DataW.trod_string ht h
  exact ⟨s, by simpa using hs, hl, hy⟩

/-- A label, as data. -/
def labD {H : Type} (x : Lab) : DataW H := .agg [.lit (.string x.1.data.toList), .lit (.string x.2.data.toList)]

theorem one_lab {H : Type} {enc : TypeId × Value → H} {W : World} {base : Nat} {spare : Nat → Bool} {held : Bool} {m : Nat} {cs : List Value} {y : DataW H × List MemPlace}
    (h : DataW.trod enc Tryz.prog W base spare held m 45 cs = some y) : ∃ x : Lab, cs = labV x ∧ (x.1.size ≤ maxLen ∧ x.2.size ≤ maxLen) ∧ y.1 = labD x := by
  obtain ⟨y0, y1, n, hy, hl, h0, h1⟩ := trod_struct2 Tryz.underlying45 h
  have hl2 : cs.length = 2 := hl.trans (by kernel_rfl)
  match cs, hl2 with
  | [c0, c1], _ =>
    obtain ⟨s0, rfl, z0, e0⟩ := str_sizes (by kernel_rfl) (show DataW.trod enc Tryz.prog W base spare held n _ [c0] = some y0 from h0)
    obtain ⟨s1, rfl, z1, e1⟩ := str_sizes (by kernel_rfl) (show DataW.trod enc Tryz.prog W base spare held n _ [c1] = some y1 from h1)
    exact ⟨(s0, s1), rfl, ⟨z0, z1⟩, by rw [hy, e0, e1]; rfl⟩

theorem pick_all {α : Type} {p : Nat → α → Prop} : ∀ n, (∀ i, i < n → ∃ x, p i x) → ∃ l : List α, l.length = n ∧ ∀ i (h : i < l.length), p i l[i]
  | 0, _ => ⟨[], rfl, fun i h => absurd h (by simp)⟩
  | n + 1, hp => by
    obtain ⟨l, hl, h⟩ := pick_all n (fun i hi => hp i (by omega))
    obtain ⟨x, hx⟩ := hp n (by omega)
    refine ⟨l ++ [x], by simp [hl], fun i hi => ?_⟩
    by_cases hi' : i < l.length
    · rw [List.getElem_append_left hi']; exact h i hi'
    · have hi2 : i = l.length := by simp at hi; omega
      subst hi2
      simp [hl, hx]

/-- A list of labels that came in. -/
theorem labs_open {H : Type} {enc : TypeId × Value → H} {W : World} {base : Nat} {spare : Nat → Bool} {held : Bool} {m : Nat} {c : Value} {y : DataW H × List MemPlace}
    (h : DataW.trod enc Tryz.prog W base spare held m 24 [c] = some y) :
    ∃ (A : Option Addr) (cap : Nat) (l : List Lab), c = .slice A l.length cap ∧ Rd W W.heap.size 2 A (labs l) l.length ∧ l.length ≤ cap ∧ cap ≤ maxLen ∧ (∀ x ∈ l, x.1.size ≤ maxLen ∧ x.2.size ≤ maxLen) ∧ ((y.1 = .nil ∧ l = []) ∨ ∃ rest, y.1 = .slice (l.map labD) rest) := by
  rcases DataW.trod_slice Tryz.underlying24 h with ⟨hc, hy⟩ | ⟨a, len, cap, elems, rest, n, _, hc, hy, hb, hl, hm, hlen, hel, _, _⟩
  · obtain rfl : c = .slice none 0 0 := by simpa using hc
    exact ⟨none, 0, [], rfl, Rd.nil _ _ _ _, Nat.le_refl _, by decide, fun x hx => by simp at hx, .inl ⟨by rw [hy], rfl⟩⟩
  · obtain rfl : c = .slice (some a) len cap := by simpa using hc
    have hC : Tryz.prog.cellsOf 45 = 2 := by kernel_rfl
    rw [hC] at hel
    have key : ∀ i, i < len → ∃ x : Lab, (W.cell? (a.add (i * 2)) = some (.string x.1) ∧ W.cell? ((a.add (i * 2)).add 1) = some (.string x.2)) ∧ (x.1.size ≤ maxLen ∧ x.2.size ≤ maxLen) ∧ (elems.map (·.1))[i]? = some (labD x) := by
      intro i hi
      have he := hel i hi
      rw [List.getElem?_eq_getElem (by omega)] at he
      simp only [Option.bind_eq_some_iff] at he
      obtain ⟨cs, hcs, ht⟩ := he
      obtain ⟨x, rfl, z01, hd⟩ := one_lab ht
      have hcc := (World.cells?_some hcs).2.2
      refine ⟨x, ⟨?_, ?_⟩, z01, by rw [List.getElem?_map, List.getElem?_eq_getElem (by omega), Option.map_some, hd]⟩
      · have := hcc 0 (by omega)
        simpa [labV, Addr.add] using this
      · exact hcc 1 (by omega)
    obtain ⟨l, hll, hp⟩ := pick_all len key
    refine ⟨some a, cap, l, by rw [hll], ⟨labs_len l, fun hn => ?_⟩, by omega, hm, fun x hx => ?_, .inr ⟨rest.map (·.1), ?_⟩⟩
    · have h0 := (hp 0 hn).1.1
      have ha : a.add (0 * 2) = a := by simp [Addr.add]
      rw [ha] at h0
      have hsp := World.cell?_spot h0
      have hlt := World.block_lt_of_cell? W _ h0
      obtain ⟨ab, ao, at0⟩ := a
      simp only at hsp hlt
      subst hsp
      refine ⟨ab, ao, rfl, hlt, fun j u hu => ?_⟩
      have hj : j < (labs l).length := by
        rcases Nat.lt_or_ge j (labs l).length with hj | hj
        · exact hj
        · rw [List.getElem?_eq_none hj] at hu; cases hu
      rw [labs_len] at hj
      have hq : j / 2 < l.length := by omega
      have hg := labs_get l (j / 2) hq
      have hw := (hp (j / 2) hq).1
      rw [add_plain] at hw
      rw [add_plain] at hw
      rcases Nat.mod_two_eq_zero_or_one j with h2 | h2
      · have hj2 : j = j / 2 * 2 := by omega
        have := hg.1
        rw [← hj2, hu] at this
        obtain rfl : u = _ := by simpa using this
        have := hw.1
        rw [← hj2] at this
        exact this
      · have hj2 : j = j / 2 * 2 + 1 := by omega
        have := hg.2
        rw [← hj2, hu] at this
        obtain rfl : u = _ := by simpa using this
        have := hw.2
        rw [Nat.add_assoc, ← hj2] at this
        exact this
    · obtain ⟨i, hi, rfl⟩ := List.mem_iff_getElem.1 hx
      exact (hp i hi).2.1
    · have hE : elems.map (·.1) = l.map labD := by
        apply List.ext_getElem?
        intro i
        by_cases hi : i < l.length
        · rw [(hp i hi).2.2, List.getElem?_map, List.getElem?_eq_getElem hi]; rfl
        · rw [List.getElem?_eq_none (by simp; omega), List.getElem?_eq_none (by simp; omega)]
      rw [hy]
      show DataW.slice (elems.map (·.1)) _ = _
      rw [hE]

/-- .. whose texts have no more bytes than the weights say. -/
theorem labs_sized {H : Type} {d : DataW H} {l : List Lab} (hd : (d = .nil ∧ l = []) ∨ ∃ rest, d = .slice (l.map labD) rest) (hw : ∀ n ∈ d.weights Tryz.prog 24, n ≤ reachBytes) :
    l.length * 32 ≤ reachBytes ∧ ∀ x ∈ l, x.1.size ≤ reachBytes ∧ x.2.size ≤ reachBytes := by
  rcases hd with ⟨_, rfl⟩ | ⟨rest, rfl⟩
  · exact ⟨by simp, fun x hx => by simp at hx⟩
  · have hu : Tryz.prog.underlying 24 = some (.slice 45) := Tryz.underlying24
    have hu1 : Tryz.prog.underlying 45 = some (.struct _) := Tryz.underlying45
    rw [DataW.weights, hu] at hw
    simp only at hw
    have hB : Tryz.prog.bytesOf 45 = 32 := by kernel_rfl
    rw [hB] at hw
    constructor
    · have := hw _ (List.mem_cons_self ..)
      simp at this
      have h2 := Nat.mul_le_mul_right 32 (Nat.le_add_right l.length rest.length)
      omega
    · have hall : ∀ (m : List Lab), (∀ n ∈ DataW.weightsAll Tryz.prog 45 (m.map (labD (H := H))), n ≤ reachBytes) → ∀ x ∈ m, x.1.size ≤ reachBytes ∧ x.2.size ≤ reachBytes := by
        intro m
        induction m with
        | nil => intro _ x hx; simp at hx
        | cons y m ih =>
          intro hm x hx
          rw [List.map_cons, DataW.weightsAll] at hm
          have hy : DataW.weights Tryz.prog 45 (labD (H := H) y) = [y.1.data.toList.length, y.2.data.toList.length] := by
            unfold labD
            rw [DataW.weights, hu1]
            simp [DataW.weightsEach, DataW.weights]
          rw [hy] at hm
          rcases List.mem_cons.1 hx with e | e
          · subst e
            have h1 := hm x.1.data.toList.length (by simp)
            have h2 := hm x.2.data.toList.length (by simp)
            simp at h1 h2
            exact ⟨h1, h2⟩
          · exact ih (fun n hn => hm n (by simp [hn])) x e
      exact hall l (fun n hn => hw n (by simp [hn]))

/-- A description that came in. -/
theorem desc_open {H : Type} {enc : TypeId × Value → H} {W : World} {base b0 : Nat} {spare : Nat → Bool} {held : Bool} {r : Reach} {v : Value} {d : DataW H} {p : List MemPlace}
    (hv : Value.okWide Tryz.prog W r b0 35 v) (h : DataW.Trod enc Tryz.prog W base spare held 35 v d p) :
    ∃ x : DD, v = x.v ∧ x.In W W.heap.size ∧ (Lit.int .i64 x.kind).wf = true ∧ x.name.size ≤ maxLen ∧ x.help.size ≤ maxLen ∧ x.l.length ≤ x.c ∧ x.c ≤ maxLen ∧ ∀ y ∈ x.l, y.1.size ≤ maxLen ∧ y.2.size ≤ maxLen := by
  obtain ⟨c0, c1, c2, c3, y0, y1, y2, y3, m, rfl, rfl, rfl, e0, e1, e2, e3⟩ := Joins.open_agg4 Tryz.underlying35 (by kernel_rfl) (by kernel_rfl) hv h
  obtain ⟨k, hk, _, hwf⟩ := DataW.trod_int (k := .i64) (by kernel_rfl) e0
  obtain rfl : c0 = .int .i64 k := by simpa using hk
  obtain ⟨s1, rfl, z1, _⟩ := str_sizes (by kernel_rfl) e1
  obtain ⟨s2, rfl, z2, _⟩ := str_sizes (by kernel_rfl) e2
  obtain ⟨A, cap, l, rfl, hr, hl, hm, hz, hd3⟩ := labs_open e3
  have hM : maxLen ≤ 9223372036854775807 := by decide
  exact ⟨⟨k, s1, s2, A, cap, l⟩, rfl, ⟨hr, Nat.le_trans hl (Nat.le_trans hm hM)⟩, hwf, z1, z2, hl, hm, hz⟩

/-- .. whose texts and list have no more bytes than the weights say. -/
theorem desc_sized {H : Type} {enc : TypeId × Value → H} {W : World} {base b0 : Nat} {spare : Nat → Bool} {held : Bool} {r : Reach} {v : Value} {d : DataW H} {p : List MemPlace}
    (hv : Value.okWide Tryz.prog W r b0 35 v) (h : DataW.Trod enc Tryz.prog W base spare held 35 v d p) (hw : ∀ n ∈ d.weights Tryz.prog 35, n ≤ reachBytes) :
    ∃ x : DD, v = x.v ∧ x.In W W.heap.size ∧ x.name.size ≤ reachBytes ∧ x.help.size ≤ reachBytes ∧ x.l.length ≤ x.c ∧ x.c ≤ maxLen ∧ x.l.length * 32 ≤ reachBytes ∧ ∀ y ∈ x.l, y.1.size ≤ reachBytes ∧ y.2.size ≤ reachBytes := by
  obtain ⟨c0, c1, c2, c3, y0, y1, y2, y3, m, rfl, rfl, rfl, e0, e1, e2, e3⟩ := Joins.open_agg4 Tryz.underlying35 (by kernel_rfl) (by kernel_rfl) hv h
  obtain ⟨k, hk, _, hwf⟩ := DataW.trod_int (k := .i64) (by kernel_rfl) e0
  obtain rfl : c0 = .int .i64 k := by simpa using hk
  obtain ⟨s1, rfl, z1, f1⟩ := str_sizes (by kernel_rfl) e1
  obtain ⟨s2, rfl, z2, f2⟩ := str_sizes (by kernel_rfl) e2
  obtain ⟨A, cap, l, rfl, hr, hl, hm, hz, hd3⟩ := labs_open e3
  have hM : maxLen ≤ 9223372036854775807 := by decide
  have hu : Tryz.prog.underlying 35 = some (.struct _) := Tryz.underlying35
  rw [DataW.weights, hu] at hw
  simp only [List.map_cons, List.map_nil] at hw
  have w1 := hw s1.data.toList.length (DataW.weights_mem_each (j := 1) (d := y1.1) rfl rfl _ (by rw [f1]; simp [DataW.weights]))
  have w2 := hw s2.data.toList.length (DataW.weights_mem_each (j := 2) (d := y2.1) rfl rfl _ (by rw [f2]; simp [DataW.weights]))
  obtain ⟨q1, q2⟩ := labs_sized hd3 (fun n hn => hw n (DataW.weights_mem_each (j := 3) (d := y3.1) rfl rfl n hn))
  exact ⟨⟨k, s1, s2, A, cap, l⟩, rfl, ⟨hr, Nat.le_trans hl (Nat.le_trans hm hM)⟩, by simpa using w1, by simpa using w2, hl, hm, q1, q2⟩
end Go.Proofs.YtgjcdhcbniholaaGreat.La
