/- Lemmas for the laws of this seat, laid together of Lc1, LaD, LaE, Lc2, Reg, Ck, Ut, Rc0, Sm, Sq, Rc2, Rk0. -/
import Derived.Test.YtpiegngjpnpohaaK00
import Derived.Test.YtpiegngjpnpohaaK01
import Derived.Shelf.Strings.BuilderX
import Derived.Lib.AppendStr
import Derived.Lib.Builder
import Derived.WalkKit
import Derived.Laws.Externs
import Derived.Below
import Derived.WalkSmall
import Derived.Handy
import Derived.BigQuiet
import Derived.Deep.QuietTactic
import Derived.Deep.DeepCutAuto
import Derived.ProofKit
import Derived.SizedLaws
import Derived.ChangeArms
import Derived.ChangeSame
import Derived.Lib.SmallJoins
import Derived.Laws.StructEq
import Derived.Test.YtpiegngjpnpohaaChecked
import Derived.RegionTactic
import Derived.ChangeAlike
import Derived.Outline
import Derived.Lib.Hide
import Derived.LoopTactic
import Derived.IntWalk

namespace Go.Proofs.Ytpiegngjpnpohaa.La
open Go.RowKit Go.Proofs.Ytpiegngjpnpohaa.Sl
set_option linter.unusedVariables false
set_option maxHeartbeats 1000000 in
theorem cmp1_any (x y : Lab) (w : World) :
    Calls Try.prog 36 #[.agg #[.string x.1, .string x.2], .agg #[.string y.1, .string y.2]] w fun e w' => e = .returned (.int .i64 (cmpLab x y)) ∧ Below w.heap.size w w' := by
  have c1 := Try.strings_Compare x.1 y.1
  have c2 := Try.strings_Compare x.2 y.2
  rw [show Lib.compareBytes x.1.data.toList y.1.data.toList = cB x.1 y.1 from rfl] at c1
  rw [show Lib.compareBytes x.2.data.toList y.2.data.toList = cB x.2 y.2 from rfl] at c2
  unfold cmpLab
  have hb : ∀ o1 o2, Below w.heap.size w ((w.alloc o1).alloc o2) := fun o1 o2 => ((Below.refl _ w).alloc (Nat.le_refl _) _).alloc (by simp) _
  replace c1 := Lib.hid c1
  replace c2 := Lib.hid c2
  replace hb := Lib.hid hb
  by_cases h : cB x.1 y.1 ≠ 0
  · rw [if_pos h]
    have t : (cB x.1 y.1 != 0) = true := by simpa using h
    clear h
    go_enter Try.func36, Try.ntmps36
    go_wp2_with fail
    refine (c1.out _).mono ?_
    rintro e w' ⟨rfl, hw⟩
    rw [hw]; clear hw w'
    go_wp2
    go_ret
    exact ⟨rfl, hb.out _ _⟩
  · rw [if_neg h]
    have t : (cB x.1 y.1 != 0) = false := by simpa using h
    clear h
    go_enter Try.func36, Try.ntmps36
    go_wp2_with fail
    refine (c1.out _).mono ?_
    rintro e w' ⟨rfl, hw⟩
    rw [hw]; clear hw w'
    go_wp2_with fail
    refine (c2.out _).mono ?_
    rintro e w' ⟨rfl, hw⟩
    rw [hw]; clear hw w'
    go_wp2
    go_ret
    exact ⟨rfl, hb.out _ _⟩
theorem cmpLs_drop (l m : List Lab) (i : Nat) (hl : i < l.length) (hm : i < m.length) : cmpLs (l.drop i) (m.drop i) = if cmpLab l[i] m[i] ≠ 0 then cmpLab l[i] m[i] else cmpLs (l.drop (i + 1)) (m.drop (i + 1)) := by
  rw [List.drop_eq_getElem_cons hl, List.drop_eq_getElem_cons hm]; rfl
theorem cmpLs_more (l m : List Lab) (i : Nat) (hl : i < l.length) (hm : m.length ≤ i) : cmpLs (l.drop i) (m.drop i) = 1 := by
  rw [List.drop_eq_getElem_cons hl, List.drop_eq_nil_of_le hm]; rfl
theorem cmpLs_end (l m : List Lab) (i : Nat) (hl : i = l.length) (hm : i ≤ m.length) : cmpLs (l.drop i) (m.drop i) = if l.length < m.length then -1 else 0 := by
  rw [List.drop_eq_nil_of_le (by omega)]
  by_cases h : l.length < m.length
  · rw [if_pos h, List.drop_eq_getElem_cons (by omega)]; rfl
  · rw [if_neg h, List.drop_eq_nil_of_le (by omega)]; rfl
def natOf' : Value → Nat
  | .int _ n => n.toNat
  | _ => 0
theorem rd_lab {w : World} {B n : Nat} {A : Option Addr} {l : List Lab} (h : Rd w B 2 A (labs l) n) (i : Nat) (hi : i < l.length) (hn : n = l.length) : ∃ b off, A = some ⟨b, off, none⟩ ∧ b < B ∧ w.cell? ⟨b, off + i * 2, none⟩ = some (.string l[i].1) ∧ w.cell? ⟨b, off + i * 2 + 1, none⟩ = some (.string l[i].2) := by
  obtain ⟨b, off, e, hb, hc⟩ := h.cells (by omega)
  have := labs_get l i hi
  exact ⟨b, off, e, hb, hc _ _ this.1, hc _ _ this.2⟩
set_option maxRecDepth 100000 in
set_option maxHeartbeats 4000000 in
theorem cmpf_any {w : World} {c1 c2 : Nat} {A1 A2 : Option Addr} {l m : List Lab} (h1 : Rd w w.heap.size 2 A1 (labs l) l.length) (h2 : Rd w w.heap.size 2 A2 (labs m) m.length) (hl : l.length ≤ 9223372036854775807) (hm : m.length ≤ 9223372036854775807) :
    Calls Try.prog 35 #[.slice A1 l.length c1, .slice A2 m.length c2, .func (.func 36) #[] #[]] w fun e w' => e = .returned (.int .i64 (cmpLs l m)) ∧ Below w.heap.size w w' := by
  have hc := cmp1_any
  replace h1 := Lib.hid h1
  replace h2 := Lib.hid h2
  replace hc := Lib.hid hc
  go_enter Try.func35, Try.ntmps35
  go_wp2
  go_loopw [13] (fun v wr => ∃ i : Nat, v = .int .i64 i ∧ i ≤ l.length ∧ i ≤ m.length ∧ Hid (cmpLs (l.drop i) (m.drop i) = cmpLs l m) ∧ Below w.heap.size w wr) (fun v _ => l.length + 1 - natOf' v)
  case atStart => exact ⟨0, rfl, Nat.zero_le _, Nat.zero_le _, rfl, Below.refl _ _⟩
  case round =>
    obtain ⟨i, rfl, hi1, hi2, hq, hw⟩ := hrel
    have hq' := hq.out
    clear hq
    have g0 : (0 : Int) ≤ (i : Int) := by omega
    have gw : wrap64 (i : Int) = (i : Int) := by unfold wrap64; omega
    by_cases hlt : i < l.length
    · obtain ⟨b1, o1, rfl, hb1, x1, x2⟩ := rd_lab h1.out i hlt rfl
      have x1 := (hw.cell (p := ⟨b1, o1 + i * 2, none⟩) hb1).trans x1
      have x2 := (hw.cell (p := ⟨b1, o1 + i * 2 + 1, none⟩) hb1).trans x2
      have g1 : (i : Int) < (l.length : Int) := by omega
      by_cases hlt2 : i < m.length
      · rw [cmpLs_drop l m i hlt hlt2] at hq'
        obtain ⟨b2, o2, rfl, hb2, y1, y2⟩ := rd_lab h2.out i hlt2 rfl
        have y1 := fun o => ((hw.alloc hw.size o).cell (p := ⟨b2, o2 + i * 2, none⟩) hb2).trans y1
        have y2 := fun o => ((hw.alloc hw.size o).cell (p := ⟨b2, o2 + i * 2 + 1, none⟩) hb2).trans y2
        have g2 : (i : Int) < (m.length : Int) := by omega
        have g3 : ¬ (m.length : Int) ≤ (i : Int) := by omega
        have g4 : ¬ m.length ≤ i := by omega
        obtain ⟨p, hp⟩ : ∃ p, p = l[i] := ⟨_, rfl⟩
        obtain ⟨q, hqq⟩ : ∃ q, q = m[i] := ⟨_, rfl⟩
        rw [← hp] at x1 x2 hq'
        rw [← hqq] at y1 y2 hq'
        clear hp hqq
        have hwa : ∀ a1 a2, Below w.heap.size w ((wr.alloc a1).alloc a2) := fun a1 a2 => (hw.alloc hw.size a1).alloc (by simp; have := hw.size; omega) a2
        by_cases hz : cmpLab p q ≠ 0
        · rw [if_pos hz] at hq'
          have t : (cmpLab p q != 0) = true := by simpa using hz
          clear hz
          replace hq' := Lib.hid hq'
          replace hwa := Lib.hid hwa
          go_wp2_with fail
          refine (hc.out p q _).mono ?_
          rintro e w2 ⟨rfl, hw2⟩
          have hw3 := (hwa.out _ _).trans (hw2.mono (hwa.out _ _).size)
          go_wp2
          go_ret
          exact ⟨by rw [← hq'.out]; rfl, hw3⟩
        · rw [if_neg hz] at hq'
          have t : (cmpLab p q != 0) = false := by simpa using hz
          clear hz
          replace hq' := Lib.hid hq'
          replace hwa := Lib.hid hwa
          go_wp2_with fail
          refine (hc.out p q _).mono ?_
          rintro e w2 ⟨rfl, hw2⟩
          have hw3 := (hwa.out _ _).trans (hw2.mono (hwa.out _ _).size)
          go_wp2
          exact ⟨⟨i + 1, by simp, by omega, by omega, hq', hw3⟩, by simp [natOf']; omega⟩
      · rw [cmpLs_more l m i hlt (by omega)] at hq'
        have g3 : (m.length : Int) ≤ (i : Int) := by omega
        have g4 : m.length ≤ i := by omega
        replace hq' := Lib.hid hq'
        have hwa : ∀ a1, Below w.heap.size w (wr.alloc a1) := fun a1 => hw.alloc hw.size a1
        replace hwa := Lib.hid hwa
        go_wp2
        go_ret
        exact ⟨by rw [← hq'.out]; rfl, hwa.out _⟩
    · rw [cmpLs_end l m i (by omega) hi2] at hq'
      have g1 : ¬ (i : Int) < (l.length : Int) := by omega
      by_cases hs : l.length < m.length
      · rw [if_pos hs] at hq'
        have g2 : (l.length : Int) < (m.length : Int) := by omega
        replace hq' := Lib.hid hq'
        go_wp2
        go_ret
        exact ⟨by rw [← hq'.out]; rfl, hw⟩
      · rw [if_neg hs] at hq'
        have g2 : ¬ (l.length : Int) < (m.length : Int) := by omega
        replace hq' := Lib.hid hq'
        go_wp2
        go_ret
        exact ⟨by rw [← hq'.out]; rfl, hw⟩
end Go.Proofs.Ytpiegngjpnpohaa.La

namespace Go.Proofs.Ytpiegngjpnpohaa.La
open Go.RowKit Go.Proofs.Ytpiegngjpnpohaa.Sl
set_option linter.unusedVariables false
def lenOf : Value → Nat
  | .slice _ n _ => n
  | _ => 0
theorem Rdr.alloc {w : World} {g : Nat} {s : ByteArray} {p er bad : Int} (h : Rdr w g s p er bad) (o : Obj) : Rdr (w.alloc o) g s p er bad := h.stays (Below.alloc (Below.refl _ _) (Nat.le_refl _) o)
end Go.Proofs.Ytpiegngjpnpohaa.La

namespace Go.Proofs.Ytpiegngjpnpohaa.La
open Go.RowKit Go.Proofs.Ytpiegngjpnpohaa.Sl
set_option linter.unusedVariables false
theorem Rdr.new (w : World) (s : ByteArray) (t : TypeId) : Rdr (w.alloc (.cells #[.string s, .int .i64 0, .int .i64 0, .int .i64 0] t)) w.heap.size s ((0 : Nat) : Int) 0 0 := by
  refine ⟨by simp, ?_, ?_, ?_, ?_, ?_, ?_, ?_⟩ <;> go_cell
end Go.Proofs.Ytpiegngjpnpohaa.La

namespace Go.Proofs.Ytpiegngjpnpohaa.La
open Go.RowKit Go.Proofs.Ytpiegngjpnpohaa.Sl
set_option linter.unusedVariables false
structure DD where
  kind : Int
  name : ByteArray
  help : ByteArray
  A : Option Addr
  c : Nat
  l : List Lab
def DD.v (d : DD) : Value := .agg #[.int .i64 d.kind, .string d.name, .string d.help, .slice d.A d.l.length d.c]
structure DD.In (d : DD) (w : World) (B : Nat) : Prop where
  rd : Rd w B 2 d.A (labs d.l) d.l.length
  len : d.l.length ≤ 9223372036854775807
def cmpD (a b : DD) : Int := if cB a.name b.name ≠ 0 then cB a.name b.name else cmpLs a.l b.l
set_option maxRecDepth 100000 in
set_option maxHeartbeats 4000000 in
theorem compare_any {w : World} {B : Nat} (a b : DD) (ha : a.In w B) (hb : b.In w B) (hB : B ≤ w.heap.size) :
    Calls Try.prog 12 #[a.v, b.v] w fun e w' => e = .returned (.int .i64 (cmpD a b)) ∧ Below w.heap.size w w' := by
  obtain ⟨k1, n1, h1, A1, c1, l1⟩ := a
  obtain ⟨k2, n2, h2, A2, c2, l2⟩ := b
  obtain ⟨ra, la⟩ := ha
  obtain ⟨rb, lb⟩ := hb
  have cs := Try.strings_Compare n1 n2
  rw [show Lib.compareBytes n1.data.toList n2.data.toList = cB n1 n2 from rfl] at cs
  have hal : ∀ o1 o2, Below w.heap.size w ((w.alloc o1).alloc o2) := fun o1 o2 => ((Below.refl _ w).alloc (Nat.le_refl _) _).alloc (by simp) _
  have cf : ∀ o1 o2, Calls _ _ _ ((w.alloc o1).alloc o2) _ := fun o1 o2 => cmpf_any (c1 := c1) (c2 := c2) (((ra.mono hB).below (hal o1 o2)).mono (by simp; omega)) (((rb.mono hB).below (hal o1 o2)).mono (by simp; omega)) la lb
  unfold cmpD DD.v
  dsimp only at *
  replace cs := Lib.hid cs
  replace hal := Lib.hid hal
  replace cf := Lib.hid cf
  clear ra rb
  by_cases h : cB n1 n2 ≠ 0
  · rw [if_pos h]
    have t : (cB n1 n2 != 0) = true := by simpa using h
    clear h
    go_enter Try.func12, Try.ntmps12
    go_wp2_with fail
    refine (cs.out _).mono ?_
    rintro e w' ⟨rfl, hw⟩
    rw [hw]; clear hw w'
    go_wp2
    go_ret
    exact ⟨rfl, hal.out _ _⟩
  · rw [if_neg h]
    have t : (cB n1 n2 != 0) = false := by simpa using h
    clear h
    go_enter Try.func12, Try.ntmps12
    go_wp2_with fail
    refine (cs.out _).mono ?_
    rintro e w' ⟨rfl, hw⟩
    rw [hw]; clear hw w'
    go_wp2_with fail
    refine (cf.out _ _).mono ?_
    rintro e w' ⟨rfl, hw⟩
    go_wp2
    go_ret
    exact ⟨rfl, (hal.out _ _).trans (hw.mono (hal.out _ _).size)⟩
theorem cmpD_ord (a b : DD) : cmpD a b = (if cB (a.name, a.l).1 (b.name, b.l).1 ≠ 0 then cB (a.name, a.l).1 (b.name, b.l).1 else cmpLs (a.name, a.l).2 (b.name, b.l).2) := rfl
end Go.Proofs.Ytpiegngjpnpohaa.La

namespace Go.Proofs.Ytpiegngjpnpohaa.Reg
open Go.RowKit
set_option linter.unusedVariables false
theorem region_below {P : Program} {id : Nat} {Q : Exit → Act → World → Prop} {a : Act} {w : World} {l : List Oper} (hm : P.follows .mixedOrders = true) (hB : Region.lexB .any l.toArray = true)
    (h : ∀ (S : Type) [Nonempty S] (f : S → World), (∀ s, Below w.heap.size w (f s)) → (∀ s w', Below (f s).heap.size (f s) w' → ∃ s', w' = f s') →
      wpQuiet P l.toArray (fun w' => ∃ s, w' = f s) (fun a' => ∀ s, Q .normal a' (f s)) l a) : (Code.region id l.toArray true).wp P Q a w := by
  refine wp_region_quiet (C := fun w' => ∃ s : { w' // Below w.heap.size w w' }, w' = s.1) hm hB ⟨⟨_, below_drewN (Below.refl _ w) 1⟩, rfl⟩ ?_
  have hne : Nonempty { w' // Below w.heap.size w w' } := ⟨⟨w, Below.refl _ w⟩⟩
  have hh := h { w' // Below w.heap.size w w' } Subtype.val (fun s => s.2) (fun s w' hb => ⟨⟨w', s.2.trans (hb.mono s.2.size)⟩, rfl⟩)
  have e : (fun a' => ∀ w', (∃ s : { w' // Below w.heap.size w w' }, w' = s.1) → Q .normal a' w') = (fun a' => ∀ s : { w' // Below w.heap.size w w' }, Q .normal a' s.1) := by
    funext a'
    apply propext
    constructor
    · intro g s; exact g _ ⟨s, rfl⟩
    · rintro g w' ⟨s, rfl⟩; exact g s
  rw [e]
  simpa using hh
theorem keepc {S : Type} {f : S → World} {w : World} {B g o : Nat} {v : Value} (hf : ∀ s, Below B w (f s)) (hg : g < B) (h : w.cell? ⟨g, o, none⟩ = some v) : ∀ s, (f s).cell? ⟨g, o, none⟩ = some v :=
  fun s => ((hf s).cell (p := ⟨g, o, none⟩) hg).trans h
theorem met {S : Type} {f : S → World} {P : Program} {k : FuncId} {args : Array Value} {v : Value} (hs : ∀ s w', Below (f s).heap.size (f s) w' → ∃ s', w' = f s') {s : S}
    (c : Calls P k args (f s) fun e w' => e = .returned v ∧ Below (f s).heap.size (f s) w') : Calls P k args (f s) fun e w' => e = .returned v ∧ ∃ s', w' = f s' :=
  c.mono fun _ _ ⟨he, hb⟩ => ⟨he, hs _ _ hb⟩
end Go.Proofs.Ytpiegngjpnpohaa.Reg

namespace Go.Proofs.Ytpiegngjpnpohaa.Ck
open Go.RowKit Go.Proofs.Ytpiegngjpnpohaa.La Go.Proofs.Ytpiegngjpnpohaa.Sl
set_option linter.unusedVariables false
def chkR (pre : List Lab) : List Lab → Int
  | [] => 0
  | x :: r => if lnameL x.1.data.toList = false then 9 else if valE x.2 ≠ 0 then valE x.2 else if behE pre x.1 ≠ 0 then behE pre x.1 else chkR (pre ++ [x]) r
def chkD (d : DD) : Int :=
  if d.kind ≠ 1 ∧ d.kind ≠ 2 ∧ d.kind ≠ 3 then 7 else if nameL d.name.data.toList = false then 9 else if valE d.help ≠ 0 then valE d.help else if 16 < d.l.length then 3 else chkR [] d.l
theorem chkR_drop (l : List Lab) (i : Nat) (h : i < l.length) : chkR (l.take i) (l.drop i) =
    if lnameL l[i].1.data.toList = false then 9 else if valE l[i].2 ≠ 0 then valE l[i].2 else if behE (l.take i) l[i].1 ≠ 0 then behE (l.take i) l[i].1 else chkR (l.take (i + 1)) (l.drop (i + 1)) := by
  rw [List.drop_eq_getElem_cons h, chkR, List.take_add_one, List.getElem?_eq_getElem h]
  rfl
theorem labs_take (l : List Lab) (i : Nat) : (labs l).take (i * 2) = labs (l.take i) := by
  induction l generalizing i with
  | nil => simp [labs]
  | cons x l ih =>
    cases i with
    | zero => simp [labs]
    | succ i =>
      have e : (i + 1) * 2 = i * 2 + 1 + 1 := by omega
      have := ih i
      unfold labs at *
      rw [e]
      simp [labV, this]
theorem rd_head {w : World} {B n i : Nat} {A : Option Addr} {l : List Lab} (h : Rd w B 2 A (labs l) n) (hn : n = l.length) (hi : i ≤ n) : Rd w B 2 A (labs (l.take i)) (l.take i).length := by
  have := h.take hi
  rw [labs_take] at this
  rw [List.length_take, Nat.min_eq_left (by omega)]
  exact this
set_option maxRecDepth 100000 in
set_option maxHeartbeats 8000000 in
theorem check_any {w : World} (d : DD) (hin : Rd w w.heap.size 2 d.A (labs d.l) d.l.length) (hc : d.l.length ≤ d.c) (hcm : d.c ≤ 9223372036854775807)
    (hnm : d.name.size ≤ 9223372036854775807) (hhp : d.help.size ≤ 9223372036854775807) (hlx : ∀ x ∈ d.l, x.1.size ≤ 9223372036854775807 ∧ x.2.size ≤ 9223372036854775807) :
    Calls Try.prog 10 #[d.v] w fun e w' => e = .returned (.int .i64 (chkD d)) ∧ Below w.heap.size w w' := by
  obtain ⟨k, nm, hp, A, c, l⟩ := d
  unfold chkD DD.v
  dsimp only at *
  have c1 := name_any nm hnm
  have c2 := value_any hp hhp
  obtain ⟨n, hn⟩ : ∃ n, n = l.length := ⟨_, rfl⟩
  have hin2 : ∀ o, Rd (w.alloc o) w.heap.size 2 A (labs l) n := fun o => by rw [hn]; exact hin.below ((Below.refl _ _).alloc (Nat.le_refl _) o)
  have hcI : (n : Int) ≤ (c : Int) := by omega
  have hcmI : (c : Int) ≤ 9223372036854775807 := by omega
  rw [← hn]
  replace c1 := Lib.hid c1
  replace c2 := Lib.hid c2
  replace hlx := Lib.hid hlx
  replace hn := Lib.hid hn
  replace hin2 := Lib.hid hin2
  clear hin hc hcm hnm hhp
  by_cases hk : k ≠ 1 ∧ k ≠ 2 ∧ k ≠ 3
  · rw [if_pos hk]
    obtain ⟨k1, k2, k3⟩ := hk
    have t1 : (k != 1) = true := by simpa using k1
    have t2 : (k != 2) = true := by simpa using k2
    have t3 : (k != 3) = true := by simpa using k3
    clear k1 k2 k3
    go_enter Try.func10, Try.ntmps10
    go_wp2
    go_ret
    exact ⟨rfl, (Below.refl _ _).alloc (Nat.le_refl _) _⟩
  · rw [if_neg hk]
    obtain ⟨res, hres⟩ : ∃ res, res = (if nameL nm.data.toList = false then 9 else if valE hp ≠ 0 then valE hp else if 16 < n then 3 else chkR [] l) := ⟨_, rfl⟩
    rw [← hres]
    replace hres := Lib.hid hres
    go_enter Try.func10, Try.ntmps10
    go_upto_region 1 with fail
    go_cut [8] (fun s8 wx => s8 = .bool false ∧ wx = w.alloc (.cells #[.int .i64 k, .string nm, .string hp, .slice A n c] 35))
    case first => as_aux_lemma =>
      have hk3 : k = 1 ∨ k = 2 ∨ k = 3 := by omega
      clear hk
      rcases hk3 with rfl | rfl | rfl
      all_goals
        go_wp2
        go_meet
        case rel => exact ⟨rfl, rfl⟩
    case rest => as_aux_lemma =>
      obtain ⟨rfl, hwc⟩ := hcut
      clear hk
      have bel0 : Below w.heap.size w wc := by rw [hwc]; exact (Below.refl _ _).alloc (Nat.le_refl _) _
      have hblk : wc.heap[w.heap.size]? = some (.cells #[.int .i64 k, .string nm, .string hp, .slice A n c] 35 (0, 0)) := by rw [hwc]; exact heap_alloc_new _ _
      have hrd := hin2.out (.cells #[.int .i64 k, .string nm, .string hp, .slice A n c] 35)
      rw [← hwc] at hrd
      have hwsz : w.heap.size < wc.heap.size := by rw [hwc]; simp
      clear hwc hin2
      have z1 : wc.cell? ⟨w.heap.size, 1, none⟩ = some (.string nm) := by rw [cell_of_row _ _ _ _ _ _ hblk]; rfl
      have z2 : wc.cell? ⟨w.heap.size, 2, none⟩ = some (.string hp) := by rw [cell_of_row _ _ _ _ _ _ hblk]; rfl
      have z3 : wc.cell? ⟨w.heap.size, 3, none⟩ = some (.slice A n c) := by rw [cell_of_row _ _ _ _ _ _ hblk]; rfl
      replace hblk := Lib.hid hblk
      replace hrd := Lib.hid hrd
      cases hnl : nameL nm.data.toList with
      | false =>
        rw [hnl] at c1
        have hres := hres.out
        rw [hnl, if_pos rfl] at hres
        subst hres
        go_wp2_with fail
        refine (c1.out _).mono ?_
        rintro e w' ⟨rfl, hw⟩
        rw [hw]; clear hw w'
        go_wp2
        go_ret
        exact ⟨rfl, bel0⟩
      | true =>
        rw [hnl] at c1
        have hres := hres.out
        rw [hnl, if_neg (by decide)] at hres
        go_wp2_with fail
        refine (c1.out _).mono ?_
        rintro e w' ⟨rfl, hw⟩
        rw [hw]; clear hw w' c1
        go_wp2_with fail
        refine (c2.out _).mono ?_
        rintro e w2 ⟨rfl, hb2⟩
        have bel2 := bel0.trans (hb2.mono (Nat.le_of_lt hwsz))
        have y3 := (hb2.cell (p := ⟨w.heap.size, 3, none⟩) hwsz).trans z3
        have hblk2 := Lib.hid ((hb2.block _ hwsz).trans hblk.out)
        have hrd2 := Lib.hid (hrd.out.below (hb2.mono (Nat.le_of_lt hwsz)))
        have hws2 : w.heap.size < w2.heap.size := Nat.lt_of_lt_of_le hwsz hb2.size
        clear z1 z2 z3 c2 hb2 hblk hrd bel0 hwsz
        obtain ⟨v, hv⟩ : ∃ v, v = valE hp := ⟨_, rfl⟩
        rw [← hv] at hres ⊢
        replace hv := Lib.hid hv
        by_cases hv0 : v ≠ 0
        · rw [if_pos hv0] at hres
          subst hres
          have t1 : (res != 0) = true := by simpa using hv0
          clear hv0
          go_wp2
          go_ret
          exact ⟨rfl, bel2⟩
        · rw [if_neg hv0] at hres
          have t1 : (v != 0) = false := by simpa using hv0
          clear hv0
          by_cases h16 : 16 < n
          · rw [if_pos h16] at hres
            subst hres
            have t2 : (16 : Int) < (n : Int) := by omega
            go_wp2
            go_ret
            exact ⟨rfl, bel2⟩
          · rw [if_neg h16] at hres
            replace hres := Lib.hid hres
            have t2 : ¬ (16 : Int) < (n : Int) := by omega
            go_wp2
            clear h16 hv t1
            have hnI : (n : Int) ≤ 16 := by omega
            have hn16 : n ≤ 16 := by omega
            go_loopw [40] (fun v wr => ∃ i : Nat, v = .int .i64 (i : Int) ∧ i ≤ n ∧ Hid (chkR (l.take i) (l.drop i) = res) ∧ Below (w.heap.size + 1) w2 wr) (fun v _ => n + 1 - natOf' v)
            case atStart => exact ⟨0, rfl, Nat.zero_le _, Lib.hid (by rw [hres.out]; rfl), Below.refl _ _⟩
            case round =>
              obtain ⟨i, rfl, hi, hck, hbr⟩ := hrel
              have hsr := hbr.size
              have y3 := (hbr.cell (p := ⟨w.heap.size, 3, none⟩) (Nat.lt_succ_self _)).trans y3
              have bel3 := bel2.trans (hbr.mono (Nat.le_succ _))
              by_cases hlt : i < n
              · have hil : i < l.length := by rw [← hn.out]; exact hlt
                obtain ⟨b0, off, hA, hb, q0, q1⟩ := rd_lab hrd2.out i hil hn.out
                subst hA
                obtain ⟨x, hx⟩ : ∃ x, x = l[i] := ⟨_, rfl⟩
                rw [← hx] at q0 q1
                have z0 := (hbr.cell (p := ⟨b0, off + i * 2, none⟩) (Nat.lt_succ_of_lt hb)).trans q0
                have z1 := (hbr.cell (p := ⟨b0, off + i * 2 + 1, none⟩) (Nat.lt_succ_of_lt hb)).trans q1
                have g0 : (0 : Int) ≤ (i : Int) := by omega
                have g1 : (i : Int) < (n : Int) := by omega
                have g2 : wrap64 (i : Int) = (i : Int) := by unfold wrap64; omega
                have g3 : (i : Int) ≤ (c : Int) := by omega
                have hxs := hlx.out x (by rw [hx]; exact List.getElem_mem hil)
                have c1 := lname_any x.1 hxs.1
                have c2 := value_any x.2 hxs.2
                clear hxs
                have hrh := rd_head hrd2.out hn.out (Nat.le_of_lt hlt)
                have hli : (l.take i).length = i := by rw [List.length_take]; omega
                have cb := fun (w3 : World) (k : Below (w.heap.size + 1) w2 w3) => behind_any (c := c) x.1 (hrh.below (k.mono (Nat.le_succ _))) (by rw [hli]; omega)
                rw [hli] at cb
                have hck' := hck.out
                rw [chkR_drop l i hil, ← hx] at hck'
                obtain ⟨e1, he1⟩ : ∃ e1, e1 = behE (l.take i) x.1 := ⟨_, rfl⟩
                obtain ⟨e2, he2⟩ : ∃ e2, e2 = valE x.2 := ⟨_, rfl⟩
                rw [← he1] at cb hck'
                rw [← he2] at c2 hck'
                have hlaX : (wr.alloc (.cells #[.string x.1, .string x.2] 63)).heap[wr.heap.size]? = some (.cells #[.string x.1, .string x.2] 63 (0, 0)) := heap_alloc_new _ _
                clear q0 q1 hx hrh hli he1 he2 hck hil
                replace c1 := Lib.hid c1
                replace c2 := Lib.hid c2
                replace cb := Lib.hid cb
                replace hck' := Lib.hid hck'
                replace hlaX := Lib.hid hlaX
                cases hln : lnameL x.1.data.toList with
                | false =>
                  have hr := hck'.out
                  rw [hln, if_pos rfl] at hr
                  subst hr
                  rw [hln] at c1
                  go_wp2_with fail
                  refine (c1.out _).mono ?_
                  rintro e w' ⟨rfl, hw⟩
                  rw [hw]; clear hw w'
                  go_wp2
                  go_ret
                  exact ⟨rfl, bel3.alloc (by omega) _⟩
                | true =>
                  have hr := hck'.out
                  rw [hln, if_neg (by decide)] at hr
                  rw [hln] at c1
                  replace hr := Lib.hid hr
                  clear hck'
                  go_wp2_with fail
                  refine (c1.out _).mono ?_
                  rintro e w' ⟨rfl, hw⟩
                  rw [hw]; clear hw w' c1
                  go_wp2_with fail
                  refine (c2.out _).mono ?_
                  rintro e w4 ⟨rfl, hb4⟩
                  simp only [World.size_alloc] at hb4
                  have hb4' : Below (w.heap.size + 1) w2 w4 := (hbr.alloc (by omega) _).trans (hb4.mono (by omega))
                  have x0 : w4.cell? ⟨wr.heap.size, 0, none⟩ = some (.string x.1) := by
                    rw [cell_of_row _ _ _ _ _ _ ((hb4.block wr.heap.size (Nat.lt_succ_self _)).trans hlaX.out)]; rfl
                  have y4 := (hb4.cell (p := ⟨w.heap.size, 3, none⟩) (by simp; omega)).trans ((World.cell?_alloc_past (w := wr) (.cells #[.string x.1, .string x.2] 63) w.heap.size 3 (by omega)).trans y3)
                  have bel4 := bel2.trans (hb4'.mono (Nat.le_succ _))
                  clear c2 hb4 y3 hbr bel3 z0 z1
                  by_cases he20 : e2 ≠ 0
                  · have hr := hr.out
                    rw [if_pos he20] at hr
                    subst hr
                    have t1 : (e2 != 0) = true := by simpa using he20
                    clear he20
                    go_wp2
                    go_ret
                    exact ⟨rfl, bel4⟩
                  · have hr := hr.out
                    rw [if_neg he20] at hr
                    have t1 : (e2 != 0) = false := by simpa using he20
                    clear he20
                    replace hr := Lib.hid hr
                    go_wp2
                    have hxl : wr.heap.size < w4.heap.size := World.block_lt_of_cell? w4 _ x0
                    have hw4 : w.heap.size < w4.heap.size := by omega
                    have cq := fun (w3 : World) (k : Below w4.heap.size w4 w3) => (cb.out w3 (hb4'.trans (k.mono (by omega)))).mono (R' := fun e w' => e = .returned (.int .i64 e1) ∧ Below w3.heap.size w3 w') (fun _ _ hh => ⟨hh.1, by rw [hh.2]; exact Below.refl _ _⟩)
                    replace cq := Lib.hid cq
                    clear cb
                    refine Reg.region_below (by kernel_rfl) (by kernel_rfl) ?_
                    intro Sx _ f hf hs
                    have y0 := Reg.keepc hf hw4 y4
                    have y1 := Reg.keepc hf hxl x0
                    have q1 := fun s => cq.out (f s) (hf s)
                    clear x0 y4 cq
                    repeat (go_big_quiet_step ((go_at_call 28; with_reducible exact Reg.met hs (q1 _))))
                    refine wpQuiet_nil ?_
                    intro s
                    have hb5 := hf s
                    obtain ⟨w5, hw5⟩ : ∃ w5, w5 = f s := ⟨_, rfl⟩
                    rw [← hw5] at hb5 ⊢
                    clear hw5 hs hf q1 y0 y1
                    have bel5 := bel4.trans (hb5.mono (Nat.le_of_lt hw4))
                    have hb5' := hb4'.trans (hb5.mono hw4)
                    by_cases he10 : e1 ≠ 0
                    · have hr := hr.out
                      rw [if_pos he10] at hr
                      subst hr
                      have t3 : (e1 != 0) = true := by simpa using he10
                      clear he10
                      go_wp2
                      go_ret
                      exact ⟨rfl, bel5⟩
                    · have hr := hr.out
                      rw [if_neg he10] at hr
                      have t3 : (e1 != 0) = false := by simpa using he10
                      clear he10
                      replace hr := Lib.hid hr
                      go_wp2
                      exact ⟨⟨i + 1, by simp, hlt, hr, hb5'⟩, by simp [natOf']; omega⟩
              · obtain rfl : i = n := by omega
                have hge : ¬ (i : Int) < (i : Int) := by omega
                have hr := hck.out
                rw [List.drop_of_length_le (by rw [← hn.out]; exact Nat.le_refl _)] at hr
                have hr0 : res = 0 := by rw [← hr]; rfl
                subst hr0
                clear hr hck
                go_wp2
                go_ret
                exact ⟨rfl, bel3⟩
end Go.Proofs.Ytpiegngjpnpohaa.Ck

namespace Go.Proofs.Ytpiegngjpnpohaa.Ut
open Go.RowKit Go.Proofs.Ytpiegngjpnpohaa.La
set_option linter.unusedVariables false
def bn (s : ByteArray) (i : Nat) : Nat := (s.get! i).toNat
def tailB (s : ByteArray) (j : Nat) : Bool := decide (j < s.size ∧ 128 ≤ bn s j ∧ bn s j < 192)
def vN (s : ByteArray) (i c0 : Nat) : Nat → Nat
  | 0 => c0
  | k + 1 => 64 * vN s i c0 k + (bn s (i + (k + 1)) - 128)
def tailsB (s : ByteArray) (i : Nat) : Nat → Bool
  | 0 => true
  | k + 1 => tailsB s i k && tailB s (i + (k + 1))
def badC (n c : Nat) : Bool := decide (n = 1 ∧ c < 128 ∨ n = 2 ∧ c < 2048 ∨ n = 3 ∧ c < 65536 ∨ 1114111 < c ∨ 55296 ≤ c ∧ c ≤ 57343)
def chk (s : ByteArray) (i n c0 : Nat) : Option Nat := if tailsB s i n = true then (if badC n (vN s i c0 n) = true then none else some (n + 1)) else none
end Go.Proofs.Ytpiegngjpnpohaa.Ut

namespace Go.Proofs.Ytpiegngjpnpohaa.Rc
open Go.RowKit Go.Proofs.Ytpiegngjpnpohaa.La
set_option linter.unusedVariables false
theorem cmp_neg : ∀ a b : List UInt8, Lib.compareBytes b a = - Lib.compareBytes a b
  | [], [] => rfl
  | [], _ :: _ => rfl
  | _ :: _, [] => rfl
  | a :: x, b :: y => by
    rw [Lib.compareBytes, Lib.compareBytes]
    by_cases h1 : a < b
    · have h2 : ¬ b < a := fun h => by have := UInt8.lt_iff_toNat_lt.1 h; have := UInt8.lt_iff_toNat_lt.1 h1; omega
      simp [h1, h2]
    · by_cases h2 : b < a
      · simp [h1, h2]
      · simp only [h1, h2, if_false]; exact cmp_neg x y
theorem cB_neg (a b : ByteArray) : cB b a = - cB a b := cmp_neg _ _
theorem tl_ne {x y : ByteArray} (h : x ≠ y) : (x.toList == y.toList) = false := by
  have hne : x.toList ≠ y.toList := fun e => h (by
    rw [ByteArray.toList_eq, ByteArray.toList_eq] at e
    exact ByteArray.ext (Array.toList_inj.1 e))
  simp [hne]
theorem cB_zero (a b : ByteArray) : cB a b = 0 ↔ a = b := cB_ord.eq a b
end Go.Proofs.Ytpiegngjpnpohaa.Rc

namespace Go.Proofs.Ytpiegngjpnpohaa.Sm
open Go.RowKit Go.Proofs.Ytpiegngjpnpohaa.La Go.Proofs.Ytpiegngjpnpohaa.Sl
set_option linter.unusedVariables false
set_option maxRecDepth 100000 in
theorem ne_fact (a b c d : ByteArray) (w : World) : (binOp .neq 63 (.agg #[.string a, .string b]) (.agg #[.string c, .string d])).run Try.prog w = .ok (.bool (!decide ((a, b) = (c, d)))) w := by
  have hf : Try.prog.fieldsOf 63 = #[⟨"Name", 9, 0, false, "", "", 0⟩, ⟨"Value", 9, 1, false, "", "", 16⟩] := by kernel_rfl
  have hu : Try.prog.underlying 63 = some (.struct (Try.prog.fieldsOf 63)) := by rw [hf]; exact Try.underlying63
  have hp : Try.prog.stoodInHeld 63 = false := by kernel_rfl
  have h9 : Try.prog.underlying 9 = some .string := Try.underlying9
  have ee : ∀ (d : Nat) (x y : ByteArray) (w : World), (Op.equalIn (d + 1) 9 (.string x) (.string y)).run Try.prog w = .ok (decide (x = y)) w := by
    intro d x y w
    rw [run_equalIn_string w d 9 x y h9]
    congr 1
    by_cases e : x = y
    · subst e; simp
    · have hne : x.toList ≠ y.toList := fun h => e (by
        rw [ByteArray.toList_eq, ByteArray.toList_eq] at h
        exact ByteArray.ext (Array.toList_inj.1 h))
      simp [e, hne]
  have pp : ∀ (k : Nat) (xs : Array Value) (s : ByteArray) (w : World), xs[k]? = some (.string s) → (part 9 xs k).run Try.prog w = .ok (.string s) w := by
    intro k xs s w hk
    simp [part, Try.isAgg9, hk]
  have e9 : ∀ (x y : ByteArray) (w : World), (Op.equalIn 9999 9 (.string x) (.string y)).run Try.prog w = .ok (decide (x = y)) w := ee 9998
  rw [run_neq_struct, run_equalIn_agg (d := 9999) (ht := hu) (hp := hp), hf]
  have p0 : ∀ w, (part 9 #[.string a, .string b] 0).run Try.prog w = .ok (.string a) w := fun w => pp 0 _ _ w rfl
  have p1 : ∀ w, (part 9 #[.string a, .string b] 1).run Try.prog w = .ok (.string b) w := fun w => pp 1 _ _ w rfl
  have p2 : ∀ w, (part 9 #[.string c, .string d] 0).run Try.prog w = .ok (.string c) w := fun w => pp 0 _ _ w rfl
  have p3 : ∀ w, (part 9 #[.string c, .string d] 1).run Try.prog w = .ok (.string d) w := fun w => pp 1 _ _ w rfl
  clear pp ee
  simp [Op.eqFields, p0, p1, p2, p3, e9]
  by_cases h1 : a = c <;> by_cases h2 : b = d <;> simp [h1, h2]
end Go.Proofs.Ytpiegngjpnpohaa.Sm

namespace Go.Proofs.Ytpiegngjpnpohaa.Sq
open Go.RowKit Go.Proofs.Ytpiegngjpnpohaa.La Go.Proofs.Ytpiegngjpnpohaa.Sl
set_option linter.unusedVariables false
set_option maxRecDepth 100000 in
set_option maxHeartbeats 8000000 in
theorem equal_any (A1 A2 : Option Addr) (c1 c2 : Nat) (l m : List Lab) (w : World) (h1 : Rd w w.heap.size 2 A1 (labs l) l.length) (h2 : Rd w w.heap.size 2 A2 (labs m) m.length) (hl : l.length ≤ 140737488355328) (hm : m.length ≤ 140737488355328) :
    Calls Try.prog 74 #[.slice A1 l.length c1, .slice A2 m.length c2] w fun e w' => e = .returned (.bool (decide (l = m))) ∧ Below w.heap.size w w' := by
  obtain ⟨n, hn⟩ : ∃ n, n = l.length := ⟨_, rfl⟩
  obtain ⟨k, hk⟩ : ∃ k, k = m.length := ⟨_, rfl⟩
  obtain ⟨res, hres⟩ : ∃ res, res = decide (l = m) := ⟨_, rfl⟩
  have hnI : (n : Int) ≤ 140737488355328 := by omega
  rw [← hn, ← hk, ← hres]
  rw [← hn] at h1
  rw [← hk] at h2
  replace h1 := Lib.hid h1
  replace h2 := Lib.hid h2
  clear hl hm
  by_cases hnk : n = k
  · obtain rfl := hnk
    replace hn := Lib.hid hn
    replace hk := Lib.hid hk
    replace hres := Lib.hid hres
    go_enter Try.func74, Try.ntmps74
    go_wp2
    go_loopw [13] (fun v wr => ∃ i : Nat, v = .int .i64 (i : Int) ∧ i ≤ n ∧ Hid (l.take i = m.take i) ∧ Below w.heap.size w wr) (fun v _ => n + 1 - natOf' v)
    case atStart => exact ⟨0, rfl, Nat.zero_le _, Lib.hid (by simp), Below.refl _ _⟩
    case round =>
      obtain ⟨i, rfl, hi, hpre, hw⟩ := hrel
      by_cases hlt : i < n
      · have hil : i < l.length := by rw [← hn.out]; exact hlt
        have him : i < m.length := by rw [← hk.out]; exact hlt
        obtain ⟨b1, o1, hA1, hb1, p0, p1⟩ := rd_lab h1.out i hil hn.out
        obtain ⟨b2, o2, hA2, hb2, q0, q1⟩ := rd_lab h2.out i him hk.out
        subst hA1; subst hA2
        obtain ⟨x, hx⟩ : ∃ x, x = l[i] := ⟨_, rfl⟩
        obtain ⟨y, hy⟩ : ∃ y, y = m[i] := ⟨_, rfl⟩
        rw [← hx] at p0 p1
        rw [← hy] at q0 q1
        have z0 := (hw.cell (p := ⟨b1, o1 + i * 2, none⟩) hb1).trans p0
        have z1 := (hw.cell (p := ⟨b1, o1 + i * 2 + 1, none⟩) hb1).trans p1
        have z2 := (hw.cell (p := ⟨b2, o2 + i * 2, none⟩) hb2).trans q0
        have z3 := (hw.cell (p := ⟨b2, o2 + i * 2 + 1, none⟩) hb2).trans q1
        have g0 : (0 : Int) ≤ (i : Int) := by omega
        have g1 : (i : Int) < (n : Int) := by omega
        have g2 : wrap64 (i : Int) = (i : Int) := by unfold wrap64; omega
        clear p0 p1 q0 q1
        obtain ⟨xa, xb⟩ := x
        obtain ⟨ya, yb⟩ := y
        dsimp only at z0 z1 z2 z3
        have hgd : ∀ w x y, (eqGuard .neq 63 x y (.agg #[.string xa, .string xb]) (.agg #[.string ya, .string yb])).run Try.prog w = .ok () w := fun w x y => run_eqGuard_agg (w := w) _ _ x y _ _ (by kernel_rfl)
        have hne := Sm.ne_fact xa xb ya yb
        by_cases hxy : (xa, xb) = (ya, yb)
        · have hst : l.take (i + 1) = m.take (i + 1) := by
            rw [List.take_add_one, List.take_add_one, hpre.out, List.getElem?_eq_getElem hil, List.getElem?_eq_getElem him, ← hx, ← hy, hxy]
          rw [decide_eq_true hxy] at hne
          replace hst := Lib.hid hst
          clear hxy hx hy hil him
          go_wp2
          go_quiet (fail)
          go_wp2
          exact ⟨⟨i + 1, by simp, hlt, hst, below_drewN hw _⟩, by simp [natOf']; omega⟩
        · have hr : res = false := by
            rw [hres.out]
            simp
            intro e
            subst e
            exact hxy (hx.trans hy.symm)
          rw [decide_eq_false hxy] at hne
          subst hr
          clear hxy hx hy hil him
          go_wp2
          go_quiet (fail)
          go_wp2
          go_ret
          exact ⟨rfl, below_drewN hw _⟩
      · obtain rfl : i = n := by omega
        have hr : res = true := by
          rw [hres.out]
          have := hpre.out
          rw [List.take_of_length_le (by rw [← hn.out]; exact Nat.le_refl _), List.take_of_length_le (by rw [← hk.out]; exact Nat.le_refl _)] at this
          simpa using this
        subst hr
        go_wp2
        go_ret
        exact ⟨rfl, hw⟩
  · have hr : res = false := by
      rw [hres]
      simp
      intro e
      exact hnk (by rw [hn, hk, e])
    subst hr
    have t1 : ((n : Int) != (k : Int)) = true := by simp; omega
    go_enter Try.func74, Try.ntmps74
    go_wp2
    go_ret
    exact ⟨rfl, Below.refl _ _⟩
end Go.Proofs.Ytpiegngjpnpohaa.Sq

namespace Go.Proofs.Ytpiegngjpnpohaa.Rc
open Go.RowKit Go.Proofs.Ytpiegngjpnpohaa.La Go.Proofs.Ytpiegngjpnpohaa.Sl Go.Proofs.Ytpiegngjpnpohaa.Ck
set_option linter.unusedVariables false
def sameD (a b : DD) : Bool := decide (a.kind = b.kind ∧ a.name = b.name ∧ a.help = b.help ∧ a.l = b.l)
set_option maxRecDepth 100000 in
set_option maxHeartbeats 8000000 in
theorem lsame_any {w : World} (a b : DD) (ha : Rd w w.heap.size 2 a.A (labs a.l) a.l.length) (hb : Rd w w.heap.size 2 b.A (labs b.l) b.l.length) (hl1 : a.l.length ≤ 140737488355328) (hl2 : b.l.length ≤ 140737488355328) :
    Calls Try.prog 44 #[a.v, b.v] w fun e w' => e = .returned (.bool (sameD a b)) ∧ Below w.heap.size w w' := by
  obtain ⟨k1, n1, h1, A1, c1, l1⟩ := a
  obtain ⟨k2, n2, h2, A2, c2, l2⟩ := b
  unfold DD.v sameD
  dsimp only at *
  have bel0 : Below w.heap.size w ((w.alloc (.cells #[.int .i64 k1, .string n1, .string h1, .slice A1 l1.length c1] 35)).alloc (.cells #[.int .i64 k2, .string n2, .string h2, .slice A2 l2.length c2] 35)) := ((Below.refl _ _).alloc (Nat.le_refl _) _).alloc (by simp) _
  have ce := Sq.equal_any A1 A2 c1 c2 l1 l2 _ ((ha.below bel0).mono bel0.size) ((hb.below bel0).mono bel0.size) hl1 hl2
  obtain ⟨m1, hm1⟩ : ∃ m1, m1 = l1.length := ⟨_, rfl⟩
  obtain ⟨m2, hm2⟩ : ∃ m2, m2 = l2.length := ⟨_, rfl⟩
  rw [← hm1] at ce bel0 ⊢
  rw [← hm2] at ce bel0 ⊢
  replace ce := Lib.hid ce
  clear ha hb hl1 hl2 hm1 hm2
  by_cases e1 : k1 = k2
  · by_cases e2 : n1 = n2
    · by_cases e3 : h1 = h2
      · rw [show decide (k1 = k2 ∧ n1 = n2 ∧ h1 = h2 ∧ l1 = l2) = decide (l1 = l2) by simp [e1, e2, e3]]
        subst e1; subst e2; subst e3
        go_enter Try.func44, Try.ntmps44
        go_wp2_with fail
        refine ce.out.mono ?_
        rintro e w2 ⟨rfl, hb2⟩
        go_wp2
        go_ret
        exact ⟨rfl, bel0.trans (hb2.mono bel0.size)⟩
      · rw [show decide (k1 = k2 ∧ n1 = n2 ∧ h1 = h2 ∧ l1 = l2) = false by simp [e3]]
        have t3 := tl_ne e3
        subst e1; subst e2
        clear e3
        go_enter Try.func44, Try.ntmps44
        go_wp2
        go_ret
        exact ⟨rfl, bel0⟩
    · rw [show decide (k1 = k2 ∧ n1 = n2 ∧ h1 = h2 ∧ l1 = l2) = false by simp [e2]]
      have t3 := tl_ne e2
      subst e1
      clear e2
      go_enter Try.func44, Try.ntmps44
      go_wp2
      go_ret
      exact ⟨rfl, bel0⟩
  · rw [show decide (k1 = k2 ∧ n1 = n2 ∧ h1 = h2 ∧ l1 = l2) = false by simp [e1]]
    have t3 : (k1 == k2) = false := by simpa using e1
    clear e1
    go_enter Try.func44, Try.ntmps44
    go_wp2
    go_ret
    exact ⟨rfl, bel0⟩
end Go.Proofs.Ytpiegngjpnpohaa.Rc

namespace Go.Proofs.Ytpiegngjpnpohaa.Rk
open Go.RowKit
set_option linter.unusedVariables false
def okC (c : Int × Int) : Prop := -9223372036854775808 ≤ c.1 ∧ c.1 ≤ 9223372036854775807 ∧ 0 ≤ c.2 ∧ c.2 ≤ 18446744073709551615
structure Cs (w : World) (B : Nat) (A : Option Addr) (l : List (Int × Int)) : Prop where
  len : l.length ≤ maxLen
  ok : ∀ c ∈ l, okC c
  cells : 0 < l.length → ∃ b off, A = some ⟨b, off, none⟩ ∧ b < B ∧ ∀ i c, l[i]? = some c → w.cell? ⟨b, off + i * 2, none⟩ = some (.int .i64 c.1) ∧ w.cell? ⟨b, off + i * 2 + 1, none⟩ = some (.int .u64 c.2)
theorem Cs.below {w w' : World} {B : Nat} {A : Option Addr} {l : List (Int × Int)} (h : Cs w B A l) (hb : Below B w w') : Cs w' B A l :=
  ⟨h.len, h.ok, fun hl => by
    obtain ⟨b, off, e, hB, hc⟩ := h.cells hl
    refine ⟨b, off, e, hB, fun i c hi => ?_⟩
    obtain ⟨h1, h2⟩ := hc i c hi
    exact ⟨(hb.cell (p := ⟨b, off + i * 2, none⟩) hB).trans h1, (hb.cell (p := ⟨b, off + i * 2 + 1, none⟩) hB).trans h2⟩⟩
def totF (n : Int) (l : List (Int × Int)) : Int := l.foldl (fun n c => IntKind.u64.wrap (n + c.2)) n
theorem take_snoc {α : Type} {l : List α} {k : Nat} (h : k < l.length) : l.take (k + 1) = l.take k ++ [l[k]] := by
  rw [List.take_succ_eq_append_getElem h]
theorem totF_snoc (n : Int) {l : List (Int × Int)} {k : Nat} (h : k < l.length) : totF n (l.take (k + 1)) = IntKind.u64.wrap (totF n (l.take k) + l[k].2) := by
  rw [take_snoc h, totF, List.foldl_append]; rfl
theorem total_any (w : World) (B : Nat) (A : Option Addr) (l : List (Int × Int)) (cap : Nat) (h : Cs w B A l) (hB : B ≤ w.heap.size) :
    Calls Try.prog 57 #[.slice A l.length cap] w fun e w' => e = .returned (.int .u64 (totF 0 l)) ∧ Below w.heap.size w w' := by
  have hl := h.len
  unfold maxLen at hl
  go_enter Try.func57, Try.ntmps57
  go_wp2
  go_loopw [3, 8] (fun n i wr => ∃ k : Nat, k ≤ l.length ∧ i = .int .i64 k ∧ n = .int .u64 (totF 0 (l.take k)) ∧ Below w.heap.size w wr) (fun _ i _ => l.length - (intOf i).toNat)
  case atStart => exact ⟨0, Nat.zero_le _, rfl, rfl, Below.refl _ _⟩
  case round =>
    obtain ⟨k, hk, rfl, rfl, hb⟩ := hrel
    by_cases hlt : k < l.length
    · obtain ⟨b, off, rfl, hbB, hc⟩ := (h.below (hb.mono hB)).cells (by omega)
      obtain ⟨h1, h2⟩ := hc k l[k] (List.getElem?_eq_getElem hlt)
      have hs := totF_snoc 0 hlt
      clear hc
      replace hs := Lib.hid hs
      go_wp2
      exact ⟨⟨k + 1, by omega, by go_num, by rw [hs.out], hb.alloc hb.size _⟩, by simp [intOf]; omega⟩
    · go_wp2
      go_ret
      exact ⟨by rw [List.take_of_length_le (by omega)]; rfl, hb⟩
end Go.Proofs.Ytpiegngjpnpohaa.Rk
