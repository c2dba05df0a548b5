/- The document's SameLabels. -/
import Derived.Test.YtgjcdhcbniholaaGreatLc1
import Derived.Test.YtgjcdhcbniholaaGreatLaG
import Derived.BigQuiet
import Derived.Laws.StructEq
namespace Go.Proofs.YtgjcdhcbniholaaGreat.Sm
open Go.RowKit Go.Proofs.YtgjcdhcbniholaaGreat.La Go.Proofs.YtgjcdhcbniholaaGreat.Sl
set_option linter.unusedVariables false

set_option maxRecDepth 100000 in
theorem ne_fact (a b c d : ByteArray) (w : World) : (binOp .neq 45 (.agg #[.string a, .string b]) (.agg #[.string c, .string d])).run Tryz.prog w = .ok (.bool (!decide ((a, b) = (c, d)))) w := by
  have hf : Tryz.prog.fieldsOf 45 = #[⟨"Name", 9, 0, false, "", "", 0⟩, ⟨"Value", 9, 1, false, "", "", 16⟩] := by kernel_rfl
  have hu : Tryz.prog.underlying 45 = some (.struct (Tryz.prog.fieldsOf 45)) := by rw [hf]; exact Tryz.underlying45
  have hp : Tryz.prog.stoodInHeld 45 = false := by kernel_rfl
  have h9 : Tryz.prog.underlying 9 = some .string := Tryz.underlying9
  have ee : ∀ (d : Nat) (x y : ByteArray) (w : World), (Op.equalIn (d + 1) 9 (.string x) (.string y)).run Tryz.prog w = .ok (decide (x = y)) w := by
    intro d x y w
    rw [run_equalIn_string w d 9 x y h9]
    congr 1
    by_cases e : x = y
    · subst e; simp
    · have hne : x.toList ≠ y.toList := fun h => e (by
        rw [ByteArray.toList_eq, ByteArray.toList_eq] at h
        exact ByteArray.ext (Array.toList_inj.1 h))
      simp [e, hne]
  have pp : ∀ (k : Nat) (xs : Array Value) (s : ByteArray) (w : World), xs[k]? = some (.string s) → (part 9 xs k).run Tryz.prog w = .ok (.string s) w := by
    intro k xs s w hk
    simp [part, Tryz.isAgg9, hk]
  have e9 : ∀ (x y : ByteArray) (w : World), (Op.equalIn 9999 9 (.string x) (.string y)).run Tryz.prog w = .ok (decide (x = y)) w := ee 9998
  rw [run_neq_struct, run_equalIn_agg (d := 9999) (ht := hu) (hp := hp), hf]
  have p0 : ∀ w, (part 9 #[.string a, .string b] 0).run Tryz.prog w = .ok (.string a) w := fun w => pp 0 _ _ w rfl
  have p1 : ∀ w, (part 9 #[.string a, .string b] 1).run Tryz.prog w = .ok (.string b) w := fun w => pp 1 _ _ w rfl
  have p2 : ∀ w, (part 9 #[.string c, .string d] 0).run Tryz.prog w = .ok (.string c) w := fun w => pp 0 _ _ w rfl
  have p3 : ∀ w, (part 9 #[.string c, .string d] 1).run Tryz.prog w = .ok (.string d) w := fun w => pp 1 _ _ w rfl
  clear pp ee
  simp [Op.eqFields, p0, p1, p2, p3, e9]
  by_cases h1 : a = c <;> by_cases h2 : b = d <;> simp [h1, h2]

set_option maxRecDepth 100000 in
set_option maxHeartbeats 8000000 in
theorem same_any (A1 A2 : Option Addr) (c1 c2 : Nat) (l m : List Lab) (w : World) (h1 : Rd w w.heap.size 2 A1 (labs l) l.length) (h2 : Rd w w.heap.size 2 A2 (labs m) m.length) (hl : l.length ≤ 140737488355328) (hm : m.length ≤ 140737488355328) :
    Calls Tryz.prog 10 #[.slice A1 l.length c1, .slice A2 m.length c2] w fun e w' => e = .returned (.bool (decide (l = m))) ∧ Below w.heap.size w w' := by
  obtain ⟨n, hn⟩ : ∃ n, n = l.length := ⟨_, rfl⟩
  obtain ⟨k, hk⟩ : ∃ k, k = m.length := ⟨_, rfl⟩
  obtain ⟨res, hres⟩ : ∃ res, res = decide (l = m) := ⟨_, rfl⟩
  have hnI : (n : Int) ≤ 140737488355328 := by omega
  rw [← hn, ← hk, ← hres]
  rw [← hn] at h1
  rw [← hk] at h2
  replace h1 := Lib.hid h1
  replace h2 := Lib.hid h2
  clear hl hm
  by_cases hnk : n = k
  · obtain rfl := hnk
    replace hn := Lib.hid hn
    replace hk := Lib.hid hk
    replace hres := Lib.hid hres
    go_enter Tryz.func10, Tryz.ntmps10
    go_wp2
    go_loopw [5] (fun v wr => ∃ i : Nat, v = .int .i64 (i : Int) ∧ i ≤ n ∧ Hid (l.take i = m.take i) ∧ Below w.heap.size w wr) (fun v _ => n + 1 - natOf' v)
    case atStart => exact ⟨0, rfl, Nat.zero_le _, Lib.hid (by simp), Below.refl _ _⟩
    case round =>
      obtain ⟨i, rfl, hi, hpre, hw⟩ := hrel
      by_cases hlt : i < n
      · have hil : i < l.length := by rw [← hn.out]; exact hlt
        have him : i < m.length := by rw [← hk.out]; exact hlt
        obtain ⟨b1, o1, hA1, hb1, p0, p1⟩ := rd_lab h1.out i hil hn.out
        obtain ⟨b2, o2, hA2, hb2, q0, q1⟩ := rd_lab h2.out i him hk.out
        subst hA1; subst hA2
        obtain ⟨x, hx⟩ : ∃ x, x = l[i] := ⟨_, rfl⟩
        obtain ⟨y, hy⟩ : ∃ y, y = m[i] := ⟨_, rfl⟩
        rw [← hx] at p0 p1
        rw [← hy] at q0 q1
        have z0 := (hw.cell (p := ⟨b1, o1 + i * 2, none⟩) hb1).trans p0
        have z1 := (hw.cell (p := ⟨b1, o1 + i * 2 + 1, none⟩) hb1).trans p1
        have z2 := (hw.cell (p := ⟨b2, o2 + i * 2, none⟩) hb2).trans q0
        have z3 := (hw.cell (p := ⟨b2, o2 + i * 2 + 1, none⟩) hb2).trans q1
        have g0 : (0 : Int) ≤ (i : Int) := by omega
        have g1 : (i : Int) < (n : Int) := by omega
        have g2 : wrap64 (i : Int) = (i : Int) := by unfold wrap64; omega
        clear p0 p1 q0 q1
        obtain ⟨xa, xb⟩ := x
        obtain ⟨ya, yb⟩ := y
        dsimp only at z0 z1 z2 z3
        have hgd : ∀ w x y, (eqGuard .neq 45 x y (.agg #[.string xa, .string xb]) (.agg #[.string ya, .string yb])).run Tryz.prog w = .ok () w := fun w x y => run_eqGuard_agg (w := w) _ _ x y _ _ (by kernel_rfl)
        have hne := ne_fact xa xb ya yb
        by_cases hxy : (xa, xb) = (ya, yb)
        · have hst : l.take (i + 1) = m.take (i + 1) := by
            rw [List.take_add_one, List.take_add_one, hpre.out, List.getElem?_eq_getElem hil, List.getElem?_eq_getElem him, ← hx, ← hy, hxy]
          rw [decide_eq_true hxy] at hne
          replace hst := Lib.hid hst
          clear hxy hx hy hil him
          go_wp2
          go_quiet (fail)
          go_wp2
          exact ⟨⟨i + 1, by simp, hlt, hst, below_drewN hw _⟩, by simp [natOf']; omega⟩
        · have hr : res = false := by
            rw [hres.out]
            simp
            intro e
            subst e
            exact hxy (hx.trans hy.symm)
          rw [decide_eq_false hxy] at hne
          subst hr
          clear hxy hx hy hil him
          go_wp2
          go_quiet (fail)
          go_wp2
          go_ret
          exact ⟨rfl, below_drewN hw _⟩
      · obtain rfl : i = n := by omega
        have hr : res = true := by
          rw [hres.out]
          have := hpre.out
          rw [List.take_of_length_le (by rw [← hn.out]; exact Nat.le_refl _), List.take_of_length_le (by rw [← hk.out]; exact Nat.le_refl _)] at this
          simpa using this
        subst hr
        go_wp2
        go_ret
        exact ⟨rfl, hw⟩
  · have hr : res = false := by
      rw [hres]
      simp
      intro e
      exact hnk (by rw [hn, hk, e])
    subst hr
    have t1 : ((n : Int) != (k : Int)) = true := by simp; omega
    go_enter Tryz.func10, Tryz.ntmps10
    go_wp2
    go_ret
    exact ⟨rfl, Below.refl _ _⟩
end Go.Proofs.YtgjcdhcbniholaaGreat.Sm
