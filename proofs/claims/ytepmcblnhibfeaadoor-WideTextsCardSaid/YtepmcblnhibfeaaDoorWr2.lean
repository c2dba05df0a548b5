/- The document's Parse. -/
import Derived.Test.YtepmcblnhibfeaaDoorWr1
import Derived.Test.YtepmcblnhibfeaaDoorWi8
namespace Go.Proofs.YtepmcblnhibfeaaDoor.Wi
open Go.RowKit Go.Sort Go.Lib Go.Proofs.YtepmcblnhibfeaaDoor.Sl
set_option linter.unusedVariables false

/-- How many bytes stand ahead of the digits. -/
def frm (l : List UInt8) : Nat := if hasPrefix l [45] = true then 1 else 0

theorem trim_drop (l : List UInt8) : trimPrefix l [45] = l.drop (frm l) := by
  unfold trimPrefix frm
  split <;> simp

theorem frm_le (l : List UInt8) : frm l ≤ l.length := by
  unfold frm
  split
  · rename_i h
    cases l with
    | nil => simp [hasPrefix] at h
    | cons b r => simp
  · omega

/-- The number that the loop has when k digits are read. -/
def vsg (l : List UInt8) (k : Nat) : Int := if frm l = 1 then -((valN ((l.drop (frm l)).take k) : Nat) : Int) else ((valN ((l.drop (frm l)).take k) : Nat) : Int)

theorem vsg_all (l : List UInt8) {k : Nat} (h : l.length ≤ frm l + k) : vsg l k = sval l := by
  unfold vsg sval
  rw [List.take_of_length_le (by rw [List.length_drop]; omega), trim_drop]
  unfold frm
  by_cases hp : hasPrefix l [45] = true
  · rw [if_pos hp, if_pos hp, if_pos rfl]
  · rw [if_neg hp, if_neg hp, if_neg (by decide)]

theorem itoa_len {a : Int} (ha : In a) : (itoa a).length ≤ 40 := by
  have h := ndig_le 39 a.natAbs (by decide) (by unfold In at ha; omega)
  rw [← decDigits_length] at h
  have h2 := (itoa_parts a).2
  rw [← h2] at h
  have := trim_drop (itoa a)
  rw [this, List.length_drop] at h
  have hf : frm (itoa a) ≤ 1 := by unfold frm; split <;> omega
  omega

/-- What the last comparison decides. -/
theorem last_no {l : List UInt8} {k : Nat} (h : l.length ≤ frm l + k ∨ 41 ≤ frm l + k) (hk : frm l + k ≤ l.length) (hne : itoa (red (vsg l k)) ≠ l) : ∀ a, In a → itoa a ≠ l := by
  intro a ha
  rcases h with h | h
  · rw [vsg_all l h] at hne; exact no_other hne ha
  · intro e
    have := itoa_len ha
    rw [e] at this; omega

theorem frm_cases (s : ByteArray) : (s.size = 0 ∧ frm s.data.toList = 0) ∨ (∃ h : 0 < s.size, s[0] = 45 ∧ frm s.data.toList = 1) ∨ (∃ h : 0 < s.size, s[0] ≠ 45 ∧ frm s.data.toList = 0) := by
  rcases s with ⟨⟨l⟩⟩
  cases l with
  | nil => exact .inl ⟨rfl, by simp [frm, hasPrefix]⟩
  | cons b r =>
    by_cases hb : b = 45
    · subst hb
      exact .inr (.inl ⟨by simp [ByteArray.size], rfl, by simp [frm, hasPrefix]⟩)
    · have hne : (45 == b) = false := beq_eq_false_iff_ne.2 fun h => hb h.symm
      have hp : hasPrefix (b :: r) [45] = false := by
        unfold hasPrefix
        rw [List.isPrefixOf_cons_cons, hne, Bool.false_and]
      refine .inr (.inr ⟨by simp [ByteArray.size], hb, ?_⟩)
      show frm (b :: r) = 0
      unfold frm
      rw [hp]; rfl

/-- What the loop keeps. -/
structure QInv (w wr : World) (t : List UInt8) (k : Nat) : Prop where
  low : Below w.heap.size w wr
  size : w.heap.size + 1 + 1 ≤ wr.heap.size
  res : Two wr w.heap.size 0
  acc : Two wr (w.heap.size + 1) (valN (t.take k) : Nat)

theorem QInv.next {w wr w' : World} {t : List UInt8} {k : Nat} (h : QInv w wr t k) (b : Below wr.heap.size wr w') {v : Int} (hv : v = (valN (t.take (k + 1)) : Nat)) :
    QInv w ((w'.setCell ⟨w.heap.size + 1, 0, none⟩ (.int .i64 (hiI v))).setCell ⟨w.heap.size + 1, 1, none⟩ (.int .u64 (loI v))) t (k + 1) := by
  have s := h.size
  have s' := b.size
  have hA := h.acc.stays b (by omega)
  have hR := h.res.stays b (by omega)
  refine ⟨?_, ?_, hR.other (by omega) _ _, ?_⟩
  · have := h.low.trans (b.mono (B' := w.heap.size) (by omega))
    go_grown
  · simp only [World.size_setCell]; omega
  · rw [hv]; exact hA.set _

theorem Two.allocs {w : World} {g : Nat} {n : Int} (h : Two w g n) (hg : g < w.heap.size) (o : Obj) : Two (w.alloc o) g n :=
  h.stays ((Below.refl _ w).alloc (Nat.le_refl _) o) hg

theorem runs_any (n : Int) (h0 : 0 ≤ n) (h1 : n ≤ 9) (w : World) :
    Calls Tryd.prog 24 #[.int .u64 n] w fun e w' => e = .returned (.agg #[.int .i64 (hiI n), .int .u64 (loI n)]) ∧ Below w.heap.size w w' :=
  runsigned_any n h0 (by omega) w

set_option maxHeartbeats 4000000 in
theorem rparse_any (s : ByteArray) (hl : s.size ≤ 140737488355328) (w : World) :
    Calls Tryd.prog 26 #[.string s] w fun e w' => (∃ v er, e = .returned (.tuple #[I128 v, .int .i64 er]) ∧ Ans s.data.toList v er) ∧ Below w.heap.size w w' := by
  have Hno := fun b hb hd a => no_dig (l := s.data.toList) (b := b) hb hd (a := a)
  rw [trim_drop] at Hno
  have hfl := frm_le s.data.toList
  have hsl : s.data.toList.length = s.size := Array.length_toList
  have hget : ∀ (j : Nat) (h : j < s.size), s.data.toList[j]? = some s[j] := fun j h => by
    rw [List.getElem?_eq_getElem (by rw [hsl]; exact h), Array.getElem_toList]; rfl
  rw [hsl] at hfl
  replace Hno := Lib.hid Hno
  replace hsl := Lib.hid hsl
  replace hget := Lib.hid hget
  obtain ⟨l, hL⟩ : ∃ l, l = s.data.toList := ⟨_, rfl⟩
  rw [← hL] at hfl Hno hsl hget ⊢
  have ht : ∃ F : Nat, F ≤ s.size ∧ F ≤ 1 ∧ frm l = F ∧ ((s.size = 0 ∧ F = 0) ∨ (∃ h : 0 < s.size, s[0] = 45 ∧ F = 1) ∨ (∃ h : 0 < s.size, s[0] ≠ 45 ∧ F = 0)) := by
    refine ⟨frm l, hfl, by unfold frm; split <;> omega, rfl, ?_⟩
    rw [hL]; exact frm_cases s
  obtain ⟨F, hF, hF1, hFl, ht⟩ := ht
  rw [hFl] at Hno
  replace hFl := Lib.hid hFl
  clear hfl
  have ca := radd_any
  unfold I128 at ca
  replace hL := Lib.hid hL
  rcases ht with ⟨h0, rfl⟩ | ⟨h0, h1, rfl⟩ | ⟨h0, h1, rfl⟩
  · skip
    go_enter Tryd.func26, Tryd.ntmps26
    go_wp2
    go_loopw [6] (fun i wr => ∃ j : Nat, 0 ≤ j ∧ j ≤ s.size ∧ j ≤ 41 ∧ i = .int .i64 j ∧ QInv w wr (l.drop 0) (j - 0)) (fun i _ => 41 - (RowKit.intOf i).toNat)
    case atStart =>
      refine ⟨0, Nat.le_refl _, hF, by omega, rfl, by go_grown, by simp [World.size_alloc], ?_, ?_⟩
      · unfold Two; rw [hi0, lo0]
        exact ⟨by go_cell, by go_cell, by go_cell, by go_cell⟩
      · have e : ((valN ((l.drop 0).take (0 - 0)) : Nat) : Int) = 0 := rfl
        rw [e]; unfold Two; rw [hi0, lo0]
        exact ⟨by go_cell, by go_cell, by go_cell, by go_cell⟩
    case round =>
      obtain ⟨j, hjF, hjs, hj41, rfl, hi⟩ := hrel
      by_cases hlt : j < s.size ∧ j < 41
      · exfalso; omega
      · have hA := hi.acc
        have hR := hi.res
        have hlow := hi.low
        have s0 := hi.size
        obtain ⟨V, hV⟩ : ∃ V : Int, V = (valN ((l.drop 0).take (j - 0)) : Nat) := ⟨_, rfl⟩
        rw [← hV] at hA
        have hlast : itoa (red V) ≠ l → ∀ a, In a → itoa a ≠ l := by
          have h1 := last_no (l := l) (k := j - 0) (by rw [hFl.out, hsl.out]; omega) (by rw [hFl.out, hsl.out]; omega)
          have h2 : vsg l (j - 0) = V := by unfold vsg; rw [hFl.out, if_neg (by decide), hV]
          rw [h2] at h1; exact h1
        have hx1 : ¬ j < s.size := by omega
        clear hV ca hi hlt
        replace hlast := Lib.hid hlast
        have cp := fun w => rprint_any (red_in V) w
        have cn := rneg_any V
        simp only [red_val] at cp
        unfold I128 at cn cp
        by_cases hE : itoa (red V) = l
        · rw [hE, hL.out] at cp
          replace hE := Lib.hid hE
          obtain ⟨a1, a2, a3, a4⟩ := id hA
          replace hA := Lib.hid hA
          replace hR := Lib.hid hR
          replace s0 := Lib.hid s0
          have hx := hx1
          all_goals
            go_wp2_with fail
            have A3 := hA
            have R3 := hR
            have s4 := s0
            have wl4 := hlow
            clear a1 a2 a3 a4
            refine (cp _).mono ?_
            rintro e w2 ⟨rfl, b2⟩
            have wl2 := joined wl4 b2
            have s4' := s4.out
            have hA2 := A3.out.stays b2 (by omega)
            have hR2 := R3.out.stays b2 (by omega)
            clear s4'
            obtain ⟨a1, a2, a3, a4⟩ := hA2
            obtain ⟨r1, r2, r3, r4⟩ := hR2
            obtain ⟨l1, l2⟩ := set2 r1 r2 (.int .i64 (hiI V)) (.int .u64 (loI V))
            go_wp2
            refine bodyPost_ret (retP (g := w.heap.size) rfl rfl rfl l1 l2) rfl ?_
            exact ⟨⟨red V, 0, by rw [red_val]; rfl, Or.inl ⟨red_in _, hE.out, rfl⟩⟩, by go_grown⟩
        · have hne := hlast.out hE
          have hstr : (itoa (red V) == s.toList) = false := beq_eq_false_iff_ne.2 (by rw [ByteArray.toList_eq, ← hL.out]; exact hE)
          replace hE := Lib.hid hE
          replace hne := Lib.hid hne
          obtain ⟨a1, a2, a3, a4⟩ := id hA
          replace hA := Lib.hid hA
          replace hR := Lib.hid hR
          replace s0 := Lib.hid s0
          have hx := hx1
          all_goals
            go_wp2_with fail
            have A3 := hA
            have R3 := hR
            have s4 := s0
            have wl4 := hlow
            clear a1 a2 a3 a4
            refine (cp _).mono ?_
            rintro e w2 ⟨rfl, b2⟩
            have wl2 := joined wl4 b2
            have s4' := s4.out
            have hA2 := A3.out.stays b2 (by omega)
            have hR2 := R3.out.stays b2 (by omega)
            clear s4'
            obtain ⟨a1, a2, a3, a4⟩ := hA2
            obtain ⟨r1, r2, r3, r4⟩ := hR2
            rw [hi0] at r1
            rw [lo0] at r2
            obtain ⟨l1, l2⟩ := set2 r1 r2 (.int .i64 0) (.int .u64 0)
            go_wp2
            refine bodyPost_ret (retP (g := w.heap.size) rfl rfl rfl l1 l2) rfl ?_
            exact ⟨⟨0, 5, by rw [I128_zero]; rfl, Or.inr ⟨rfl, rfl, hne.out⟩⟩, by go_grown⟩
  · have t1 : ((s[0].toNat : Int) == 45) = true := by rw [h1]; decide
    clear h1
    go_enter Tryd.func26, Tryd.ntmps26
    go_wp2
    go_loopw [6] (fun i wr => ∃ j : Nat, 1 ≤ j ∧ j ≤ s.size ∧ j ≤ 41 ∧ i = .int .i64 j ∧ QInv w wr (l.drop 1) (j - 1)) (fun i _ => 41 - (RowKit.intOf i).toNat)
    case atStart =>
      refine ⟨1, Nat.le_refl _, hF, by omega, rfl, by go_grown, by simp [World.size_alloc], ?_, ?_⟩
      · unfold Two; rw [hi0, lo0]
        exact ⟨by go_cell, by go_cell, by go_cell, by go_cell⟩
      · have e : ((valN ((l.drop 1).take (1 - 1)) : Nat) : Int) = 0 := rfl
        rw [e]; unfold Two; rw [hi0, lo0]
        exact ⟨by go_cell, by go_cell, by go_cell, by go_cell⟩
    case round =>
      obtain ⟨j, hjF, hjs, hj41, rfl, hi⟩ := hrel
      clear t1
      by_cases hlt : j < s.size ∧ j < 41
      · obtain ⟨hlt1, hlt2⟩ := hlt
        have hlt3 : (j : Int) < 41 := by omega
        clear hlt2
        have s0 := hi.size
        have hgj := hget.out j hlt1
        have htk : valN ((l.drop 1).take (j + 1 - 1)) = 10 * valN ((l.drop 1).take (j - 1)) + (s[j].toNat - 48) := by
          have h1 : j - 1 < (l.drop 1).length := by rw [List.length_drop, hsl.out]; omega
          have h2 := take_val h1
          rw [show j - 1 + 1 = j + 1 - 1 by omega] at h2
          rw [h2, List.getElem_drop]
          have h3 : l[1 + (j - 1)]? = some s[j] := by rw [show 1 + (j - 1) = j by omega]; exact hgj
          rw [List.getElem?_eq_getElem (by rw [hsl.out]; omega)] at h3
          rw [Option.some.inj h3]
        have hmem : s[j] ∈ l.drop 1 := by
          refine List.mem_of_getElem? (i := j - 1) ?_
          rw [List.getElem?_drop, show 1 + (j - 1) = j by omega]; exact hgj
        clear hgj
        replace htk := Lib.hid htk
        by_cases hd : isDig s[j]
        · obtain ⟨V, hV⟩ : ∃ V : Int, V = (valN ((l.drop 1).take (j - 1)) : Nat) := ⟨_, rfl⟩
          have hA := hi.acc
          rw [← hV] at hA
          have hnx := fun w' (b : Below wr.heap.size wr w') v hv => hi.next b (v := v) hv
          rw [show j - 1 + 1 = j + 1 - 1 by omega] at hnx
          obtain ⟨D, hd', hd0, hd9⟩ : ∃ D : Int, (s[j].toNat : Int) = 48 + D ∧ 0 ≤ D ∧ D ≤ 9 := by unfold isDig at hd; exact ⟨(s[j].toNat : Int) - 48, by omega, by omega, by omega⟩
          have htk2 : ((valN ((l.drop 1).take (j + 1 - 1)) : Nat) : Int) = 10 * V + D := by have := htk.out; omega
          have c1 : ¬ 48 + D < 48 := by omega
          have c2 : ¬ 57 < 48 + D := by omega
          have c3 : 48 + D - 48 = D := by omega
          have c4 : IntKind.u8.wrap D = D := by rw [IntKind.wrap_u8]; omega
          have c5 : IntKind.u64.wrap D = D := by rw [IntKind.wrap_u64]; omega
          have cD := fun w => runs_any D hd0 hd9 w
          clear hd htk hmem
          obtain ⟨a1, a2, a3, a4⟩ := id hA
          replace hnx := Lib.hid hnx
          replace htk2 := Lib.hid htk2
          replace hV := Lib.hid hV
          replace hA := Lib.hid hA
          replace hi := Lib.hid hi
          replace s0 := Lib.hid s0
          go_wp2_with fail
          refine (ca V V _).mono ?_
          rintro e w1 ⟨rfl, b1⟩
          have s1 := b1.size
          replace s1 := Lib.hid s1
          go_wp2_with fail
          refine (ca (V + V) (V + V) _).mono ?_
          rintro e w2 ⟨rfl, b2⟩
          have S0 := s0.out
          have S1 := s1.out
          have s2 := b2.size
          simp only [World.size_alloc] at s2
          have w01 : Below wr.heap.size wr w1 := b1
          have w02 : Below wr.heap.size wr w2 := joined (w01.alloc S1 _) b2
          have A2 := hA.out.stays w02 (by omega)
          have A2a := fun o => A2.allocs (o := o) (by omega)
          have x1 := fun o => (A2a o).1
          have x2 := fun o => (A2a o).2.1
          clear A2a a1 a2 a3 a4 S0 S1
          replace A2 := Lib.hid A2
          replace s2 := Lib.hid s2
          go_wp2_with fail
          refine (ca (V + V + (V + V)) V _).mono ?_
          rintro e w3 ⟨rfl, b3⟩
          clear x1 x2
          have S1 := s1.out
          have S2 := s2.out
          have s3 := b3.size
          simp only [World.size_alloc] at s3
          have w03 : Below wr.heap.size wr w3 := joined (w02.alloc (by omega) _) b3
          clear S1 S2
          replace s3 := Lib.hid s3
          go_wp2_with fail
          refine (ca (V + V + (V + V) + V) (V + V + (V + V) + V) _).mono ?_
          rintro e w4 ⟨rfl, b4⟩
          have S1 := s1.out
          have S2 := s2.out
          have S3 := s3.out
          have s4 := b4.size
          simp only [World.size_alloc] at s4
          have w04 : Below wr.heap.size wr w4 := joined (w03.alloc (by omega) _) b4
          have T4 := Two.new w4 (V + V + (V + V) + V + (V + V + (V + V) + V)) 25
          clear S1 S2 S3
          replace s4 := Lib.hid s4
          replace T4 := Lib.hid T4
          go_wp2_with fail
          refine (cD _).mono ?_
          rintro e w5 ⟨rfl, b5⟩
          have S1 := s1.out
          have S2 := s2.out
          have S3 := s3.out
          have S4 := s4.out
          have s5 := b5.size
          simp only [World.size_alloc] at s5
          have w05 : Below wr.heap.size wr w5 := joined (w04.alloc (by omega) _) b5
          have T5 := T4.out.stays b5 (by simp only [World.size_alloc]; omega)
          have T5a := fun o => T5.allocs (o := o) (by omega)
          have x1 := fun o => (T5a o).1
          have x2 := fun o => (T5a o).2.1
          clear T5a S1 S2 S3 S4
          replace s5 := Lib.hid s5
          replace T5 := Lib.hid T5
          go_wp2_with fail
          refine (ca (V + V + (V + V) + V + (V + V + (V + V) + V)) D _).mono ?_
          rintro e w6 ⟨rfl, b6⟩
          clear x1 x2
          have S0 := s0.out
          have S1 := s1.out
          have S2 := s2.out
          have S3 := s3.out
          have S4 := s4.out
          have S5 := s5.out
          have w06 : Below wr.heap.size wr w6 := joined (w05.alloc (by omega) _) b6
          have A6 := hA.out.stays w06 (by omega)
          clear S0 S1 S2 S3 S4 S5
          obtain ⟨a1, a2, a3, a4⟩ := id A6
          have hN := hnx.out w6 w06 (V + V + (V + V) + V + (V + V + (V + V) + V) + D) (by rw [htk2.out]; omega)
          replace hN := Lib.hid hN
          go_wp2
          exact ⟨⟨j + 1, by omega, by omega, by omega, by go_num, hN.out⟩, by simp [RowKit.intOf]; omega⟩
        · have hne : ∀ a, In a → itoa a ≠ l := fun a ha => Hno.out s[j] hmem hd a
          obtain ⟨r1, r2, r3, r4⟩ := hi.res
          rw [hi0] at r1
          rw [lo0] at r2
          obtain ⟨l1, l2⟩ := set2 r1 r2 (.int .i64 0) (.int .u64 0)
          have hlow := hi.low
          have hx : (s[j].toNat : Int) < 48 ∨ ¬ (s[j].toNat : Int) < 48 ∧ 57 < (s[j].toNat : Int) := by unfold isDig at hd; omega
          replace hne := Lib.hid hne
          replace hi := Lib.hid hi
          clear s0 hd hmem ca
          rcases hx with hx | ⟨hx, hx'⟩
          · go_wp2
            refine bodyPost_ret (retP (g := w.heap.size) rfl rfl rfl l1 l2) rfl ?_
            exact ⟨⟨0, 5, by rw [I128_zero]; rfl, Or.inr ⟨rfl, rfl, hne.out⟩⟩, by go_grown⟩
          · go_wp2
            refine bodyPost_ret (retP (g := w.heap.size) rfl rfl rfl l1 l2) rfl ?_
            exact ⟨⟨0, 5, by rw [I128_zero]; rfl, Or.inr ⟨rfl, rfl, hne.out⟩⟩, by go_grown⟩
      · have hA := hi.acc
        have hR := hi.res
        have hlow := hi.low
        have s0 := hi.size
        obtain ⟨V, hV⟩ : ∃ V : Int, V = (valN ((l.drop 1).take (j - 1)) : Nat) := ⟨_, rfl⟩
        rw [← hV] at hA
        have hlast : itoa (red (-V)) ≠ l → ∀ a, In a → itoa a ≠ l := by
          have h1 := last_no (l := l) (k := j - 1) (by rw [hFl.out, hsl.out]; omega) (by rw [hFl.out, hsl.out]; omega)
          have h2 : vsg l (j - 1) = (-V) := by unfold vsg; rw [hFl.out, if_pos rfl, hV]
          rw [h2] at h1; exact h1
        have hx : ¬ j < s.size ∨ (j < s.size ∧ ¬ (j : Int) < 41) := by omega
        clear hV ca hi hlt
        replace hlast := Lib.hid hlast
        have cp := fun w => rprint_any (red_in (-V)) w
        have cn := rneg_any V
        simp only [red_val] at cp
        unfold I128 at cn cp
        by_cases hE : itoa (red (-V)) = l
        · rw [hE, hL.out] at cp
          replace hE := Lib.hid hE
          obtain ⟨a1, a2, a3, a4⟩ := id hA
          replace hA := Lib.hid hA
          replace hR := Lib.hid hR
          replace s0 := Lib.hid s0
          rcases hx with hx | ⟨hx, hx'⟩
          all_goals
            go_wp2_with fail
            refine (cn _).mono ?_
            rintro e w3 ⟨rfl, b3⟩
            have wl := joined hlow b3
            have S0 := s0.out
            have s3 := b3.size
            have A3 := hA.out.stays b3 (by omega)
            have R3 := hR.out.stays b3 (by omega)
            clear a1 a2 a3 a4
            obtain ⟨a1, a2, a3, a4⟩ := id A3
            replace A3 := A3.set (-V)
            have R3 := R3.other (b := w.heap.size + 1) (by omega) (.int .i64 (hiI (-V))) (.int .u64 (loI (-V)))
            have s4 : w.heap.size + 1 < ((w3.setCell ⟨w.heap.size + 1, 0, none⟩ (.int .i64 (hiI (-V)))).setCell ⟨w.heap.size + 1, 1, none⟩ (.int .u64 (loI (-V)))).heap.size := by simp only [World.size_setCell]; omega
            obtain ⟨e1, e2, e3, e4⟩ := id A3
            have wl4 : Below w.heap.size w ((w3.setCell ⟨w.heap.size + 1, 0, none⟩ (.int .i64 (hiI (-V)))).setCell ⟨w.heap.size + 1, 1, none⟩ (.int .u64 (loI (-V)))) := by go_grown
            clear S0 s3
            replace A3 := Lib.hid A3
            replace R3 := Lib.hid R3
            replace s4 := Lib.hid s4
            go_wp2_with fail
            clear a1 a2 a3 a4 e1 e2 e3 e4
            refine (cp _).mono ?_
            rintro e w2 ⟨rfl, b2⟩
            have wl2 := joined wl4 b2
            have s4' := s4.out
            have hA2 := A3.out.stays b2 (by omega)
            have hR2 := R3.out.stays b2 (by omega)
            clear s4'
            obtain ⟨a1, a2, a3, a4⟩ := hA2
            obtain ⟨r1, r2, r3, r4⟩ := hR2
            obtain ⟨l1, l2⟩ := set2 r1 r2 (.int .i64 (hiI (-V))) (.int .u64 (loI (-V)))
            go_wp2
            refine bodyPost_ret (retP (g := w.heap.size) rfl rfl rfl l1 l2) rfl ?_
            exact ⟨⟨red (-V), 0, by rw [red_val]; rfl, Or.inl ⟨red_in _, hE.out, rfl⟩⟩, by go_grown⟩
        · have hne := hlast.out hE
          have hstr : (itoa (red (-V)) == s.toList) = false := beq_eq_false_iff_ne.2 (by rw [ByteArray.toList_eq, ← hL.out]; exact hE)
          replace hE := Lib.hid hE
          replace hne := Lib.hid hne
          obtain ⟨a1, a2, a3, a4⟩ := id hA
          replace hA := Lib.hid hA
          replace hR := Lib.hid hR
          replace s0 := Lib.hid s0
          rcases hx with hx | ⟨hx, hx'⟩
          all_goals
            go_wp2_with fail
            refine (cn _).mono ?_
            rintro e w3 ⟨rfl, b3⟩
            have wl := joined hlow b3
            have S0 := s0.out
            have s3 := b3.size
            have A3 := hA.out.stays b3 (by omega)
            have R3 := hR.out.stays b3 (by omega)
            clear a1 a2 a3 a4
            obtain ⟨a1, a2, a3, a4⟩ := id A3
            replace A3 := A3.set (-V)
            have R3 := R3.other (b := w.heap.size + 1) (by omega) (.int .i64 (hiI (-V))) (.int .u64 (loI (-V)))
            have s4 : w.heap.size + 1 < ((w3.setCell ⟨w.heap.size + 1, 0, none⟩ (.int .i64 (hiI (-V)))).setCell ⟨w.heap.size + 1, 1, none⟩ (.int .u64 (loI (-V)))).heap.size := by simp only [World.size_setCell]; omega
            obtain ⟨e1, e2, e3, e4⟩ := id A3
            have wl4 : Below w.heap.size w ((w3.setCell ⟨w.heap.size + 1, 0, none⟩ (.int .i64 (hiI (-V)))).setCell ⟨w.heap.size + 1, 1, none⟩ (.int .u64 (loI (-V)))) := by go_grown
            clear S0 s3
            replace A3 := Lib.hid A3
            replace R3 := Lib.hid R3
            replace s4 := Lib.hid s4
            go_wp2_with fail
            clear a1 a2 a3 a4 e1 e2 e3 e4
            refine (cp _).mono ?_
            rintro e w2 ⟨rfl, b2⟩
            have wl2 := joined wl4 b2
            have s4' := s4.out
            have hA2 := A3.out.stays b2 (by omega)
            have hR2 := R3.out.stays b2 (by omega)
            clear s4'
            obtain ⟨a1, a2, a3, a4⟩ := hA2
            obtain ⟨r1, r2, r3, r4⟩ := hR2
            rw [hi0] at r1
            rw [lo0] at r2
            obtain ⟨l1, l2⟩ := set2 r1 r2 (.int .i64 0) (.int .u64 0)
            go_wp2
            refine bodyPost_ret (retP (g := w.heap.size) rfl rfl rfl l1 l2) rfl ?_
            exact ⟨⟨0, 5, by rw [I128_zero]; rfl, Or.inr ⟨rfl, rfl, hne.out⟩⟩, by go_grown⟩
  · have t1 : ((s[0].toNat : Int) == 45) = false := beq_eq_false_iff_ne.2 fun h => h1 (UInt8.toNat_inj.1 (by have : (45 : UInt8).toNat = 45 := rfl; omega))
    clear h1
    go_enter Tryd.func26, Tryd.ntmps26
    go_wp2
    go_loopw [6] (fun i wr => ∃ j : Nat, 0 ≤ j ∧ j ≤ s.size ∧ j ≤ 41 ∧ i = .int .i64 j ∧ QInv w wr (l.drop 0) (j - 0)) (fun i _ => 41 - (RowKit.intOf i).toNat)
    case atStart =>
      refine ⟨0, Nat.le_refl _, hF, by omega, rfl, by go_grown, by simp [World.size_alloc], ?_, ?_⟩
      · unfold Two; rw [hi0, lo0]
        exact ⟨by go_cell, by go_cell, by go_cell, by go_cell⟩
      · have e : ((valN ((l.drop 0).take (0 - 0)) : Nat) : Int) = 0 := rfl
        rw [e]; unfold Two; rw [hi0, lo0]
        exact ⟨by go_cell, by go_cell, by go_cell, by go_cell⟩
    case round =>
      obtain ⟨j, hjF, hjs, hj41, rfl, hi⟩ := hrel
      clear t1
      by_cases hlt : j < s.size ∧ j < 41
      · obtain ⟨hlt1, hlt2⟩ := hlt
        have hlt3 : (j : Int) < 41 := by omega
        clear hlt2
        have s0 := hi.size
        have hgj := hget.out j hlt1
        have htk : valN ((l.drop 0).take (j + 1 - 0)) = 10 * valN ((l.drop 0).take (j - 0)) + (s[j].toNat - 48) := by
          have h1 : j - 0 < (l.drop 0).length := by rw [List.length_drop, hsl.out]; omega
          have h2 := take_val h1
          rw [show j - 0 + 1 = j + 1 - 0 by omega] at h2
          rw [h2, List.getElem_drop]
          have h3 : l[0 + (j - 0)]? = some s[j] := by rw [show 0 + (j - 0) = j by omega]; exact hgj
          rw [List.getElem?_eq_getElem (by rw [hsl.out]; omega)] at h3
          rw [Option.some.inj h3]
        have hmem : s[j] ∈ l.drop 0 := by
          refine List.mem_of_getElem? (i := j - 0) ?_
          rw [List.getElem?_drop, show 0 + (j - 0) = j by omega]; exact hgj
        clear hgj
        replace htk := Lib.hid htk
        by_cases hd : isDig s[j]
        · obtain ⟨V, hV⟩ : ∃ V : Int, V = (valN ((l.drop 0).take (j - 0)) : Nat) := ⟨_, rfl⟩
          have hA := hi.acc
          rw [← hV] at hA
          have hnx := fun w' (b : Below wr.heap.size wr w') v hv => hi.next b (v := v) hv
          rw [show j - 0 + 1 = j + 1 - 0 by omega] at hnx
          obtain ⟨D, hd', hd0, hd9⟩ : ∃ D : Int, (s[j].toNat : Int) = 48 + D ∧ 0 ≤ D ∧ D ≤ 9 := by unfold isDig at hd; exact ⟨(s[j].toNat : Int) - 48, by omega, by omega, by omega⟩
          have htk2 : ((valN ((l.drop 0).take (j + 1 - 0)) : Nat) : Int) = 10 * V + D := by have := htk.out; omega
          have c1 : ¬ 48 + D < 48 := by omega
          have c2 : ¬ 57 < 48 + D := by omega
          have c3 : 48 + D - 48 = D := by omega
          have c4 : IntKind.u8.wrap D = D := by rw [IntKind.wrap_u8]; omega
          have c5 : IntKind.u64.wrap D = D := by rw [IntKind.wrap_u64]; omega
          have cD := fun w => runs_any D hd0 hd9 w
          clear hd htk hmem
          obtain ⟨a1, a2, a3, a4⟩ := id hA
          replace hnx := Lib.hid hnx
          replace htk2 := Lib.hid htk2
          replace hV := Lib.hid hV
          replace hA := Lib.hid hA
          replace hi := Lib.hid hi
          replace s0 := Lib.hid s0
          go_wp2_with fail
          refine (ca V V _).mono ?_
          rintro e w1 ⟨rfl, b1⟩
          have s1 := b1.size
          replace s1 := Lib.hid s1
          go_wp2_with fail
          refine (ca (V + V) (V + V) _).mono ?_
          rintro e w2 ⟨rfl, b2⟩
          have S0 := s0.out
          have S1 := s1.out
          have s2 := b2.size
          simp only [World.size_alloc] at s2
          have w01 : Below wr.heap.size wr w1 := b1
          have w02 : Below wr.heap.size wr w2 := joined (w01.alloc S1 _) b2
          have A2 := hA.out.stays w02 (by omega)
          have A2a := fun o => A2.allocs (o := o) (by omega)
          have x1 := fun o => (A2a o).1
          have x2 := fun o => (A2a o).2.1
          clear A2a a1 a2 a3 a4 S0 S1
          replace A2 := Lib.hid A2
          replace s2 := Lib.hid s2
          go_wp2_with fail
          refine (ca (V + V + (V + V)) V _).mono ?_
          rintro e w3 ⟨rfl, b3⟩
          clear x1 x2
          have S1 := s1.out
          have S2 := s2.out
          have s3 := b3.size
          simp only [World.size_alloc] at s3
          have w03 : Below wr.heap.size wr w3 := joined (w02.alloc (by omega) _) b3
          clear S1 S2
          replace s3 := Lib.hid s3
          go_wp2_with fail
          refine (ca (V + V + (V + V) + V) (V + V + (V + V) + V) _).mono ?_
          rintro e w4 ⟨rfl, b4⟩
          have S1 := s1.out
          have S2 := s2.out
          have S3 := s3.out
          have s4 := b4.size
          simp only [World.size_alloc] at s4
          have w04 : Below wr.heap.size wr w4 := joined (w03.alloc (by omega) _) b4
          have T4 := Two.new w4 (V + V + (V + V) + V + (V + V + (V + V) + V)) 25
          clear S1 S2 S3
          replace s4 := Lib.hid s4
          replace T4 := Lib.hid T4
          go_wp2_with fail
          refine (cD _).mono ?_
          rintro e w5 ⟨rfl, b5⟩
          have S1 := s1.out
          have S2 := s2.out
          have S3 := s3.out
          have S4 := s4.out
          have s5 := b5.size
          simp only [World.size_alloc] at s5
          have w05 : Below wr.heap.size wr w5 := joined (w04.alloc (by omega) _) b5
          have T5 := T4.out.stays b5 (by simp only [World.size_alloc]; omega)
          have T5a := fun o => T5.allocs (o := o) (by omega)
          have x1 := fun o => (T5a o).1
          have x2 := fun o => (T5a o).2.1
          clear T5a S1 S2 S3 S4
          replace s5 := Lib.hid s5
          replace T5 := Lib.hid T5
          go_wp2_with fail
          refine (ca (V + V + (V + V) + V + (V + V + (V + V) + V)) D _).mono ?_
          rintro e w6 ⟨rfl, b6⟩
          clear x1 x2
          have S0 := s0.out
          have S1 := s1.out
          have S2 := s2.out
          have S3 := s3.out
          have S4 := s4.out
          have S5 := s5.out
          have w06 : Below wr.heap.size wr w6 := joined (w05.alloc (by omega) _) b6
          have A6 := hA.out.stays w06 (by omega)
          clear S0 S1 S2 S3 S4 S5
          obtain ⟨a1, a2, a3, a4⟩ := id A6
          have hN := hnx.out w6 w06 (V + V + (V + V) + V + (V + V + (V + V) + V) + D) (by rw [htk2.out]; omega)
          replace hN := Lib.hid hN
          go_wp2
          exact ⟨⟨j + 1, by omega, by omega, by omega, by go_num, hN.out⟩, by simp [RowKit.intOf]; omega⟩
        · have hne : ∀ a, In a → itoa a ≠ l := fun a ha => Hno.out s[j] hmem hd a
          obtain ⟨r1, r2, r3, r4⟩ := hi.res
          rw [hi0] at r1
          rw [lo0] at r2
          obtain ⟨l1, l2⟩ := set2 r1 r2 (.int .i64 0) (.int .u64 0)
          have hlow := hi.low
          have hx : (s[j].toNat : Int) < 48 ∨ ¬ (s[j].toNat : Int) < 48 ∧ 57 < (s[j].toNat : Int) := by unfold isDig at hd; omega
          replace hne := Lib.hid hne
          replace hi := Lib.hid hi
          clear s0 hd hmem ca
          rcases hx with hx | ⟨hx, hx'⟩
          · go_wp2
            refine bodyPost_ret (retP (g := w.heap.size) rfl rfl rfl l1 l2) rfl ?_
            exact ⟨⟨0, 5, by rw [I128_zero]; rfl, Or.inr ⟨rfl, rfl, hne.out⟩⟩, by go_grown⟩
          · go_wp2
            refine bodyPost_ret (retP (g := w.heap.size) rfl rfl rfl l1 l2) rfl ?_
            exact ⟨⟨0, 5, by rw [I128_zero]; rfl, Or.inr ⟨rfl, rfl, hne.out⟩⟩, by go_grown⟩
      · have hA := hi.acc
        have hR := hi.res
        have hlow := hi.low
        have s0 := hi.size
        obtain ⟨V, hV⟩ : ∃ V : Int, V = (valN ((l.drop 0).take (j - 0)) : Nat) := ⟨_, rfl⟩
        rw [← hV] at hA
        have hlast : itoa (red V) ≠ l → ∀ a, In a → itoa a ≠ l := by
          have h1 := last_no (l := l) (k := j - 0) (by rw [hFl.out, hsl.out]; omega) (by rw [hFl.out, hsl.out]; omega)
          have h2 : vsg l (j - 0) = V := by unfold vsg; rw [hFl.out, if_neg (by decide), hV]
          rw [h2] at h1; exact h1
        have hx : ¬ j < s.size ∨ (j < s.size ∧ ¬ (j : Int) < 41) := by omega
        clear hV ca hi hlt
        replace hlast := Lib.hid hlast
        have cp := fun w => rprint_any (red_in V) w
        have cn := rneg_any V
        simp only [red_val] at cp
        unfold I128 at cn cp
        by_cases hE : itoa (red V) = l
        · rw [hE, hL.out] at cp
          replace hE := Lib.hid hE
          obtain ⟨a1, a2, a3, a4⟩ := id hA
          replace hA := Lib.hid hA
          replace hR := Lib.hid hR
          replace s0 := Lib.hid s0
          rcases hx with hx | ⟨hx, hx'⟩
          all_goals
            go_wp2_with fail
            have A3 := hA
            have R3 := hR
            have s4 := s0
            have wl4 := hlow
            clear a1 a2 a3 a4
            refine (cp _).mono ?_
            rintro e w2 ⟨rfl, b2⟩
            have wl2 := joined wl4 b2
            have s4' := s4.out
            have hA2 := A3.out.stays b2 (by omega)
            have hR2 := R3.out.stays b2 (by omega)
            clear s4'
            obtain ⟨a1, a2, a3, a4⟩ := hA2
            obtain ⟨r1, r2, r3, r4⟩ := hR2
            obtain ⟨l1, l2⟩ := set2 r1 r2 (.int .i64 (hiI V)) (.int .u64 (loI V))
            go_wp2
            refine bodyPost_ret (retP (g := w.heap.size) rfl rfl rfl l1 l2) rfl ?_
            exact ⟨⟨red V, 0, by rw [red_val]; rfl, Or.inl ⟨red_in _, hE.out, rfl⟩⟩, by go_grown⟩
        · have hne := hlast.out hE
          have hstr : (itoa (red V) == s.toList) = false := beq_eq_false_iff_ne.2 (by rw [ByteArray.toList_eq, ← hL.out]; exact hE)
          replace hE := Lib.hid hE
          replace hne := Lib.hid hne
          obtain ⟨a1, a2, a3, a4⟩ := id hA
          replace hA := Lib.hid hA
          replace hR := Lib.hid hR
          replace s0 := Lib.hid s0
          rcases hx with hx | ⟨hx, hx'⟩
          all_goals
            go_wp2_with fail
            have A3 := hA
            have R3 := hR
            have s4 := s0
            have wl4 := hlow
            clear a1 a2 a3 a4
            refine (cp _).mono ?_
            rintro e w2 ⟨rfl, b2⟩
            have wl2 := joined wl4 b2
            have s4' := s4.out
            have hA2 := A3.out.stays b2 (by omega)
            have hR2 := R3.out.stays b2 (by omega)
            clear s4'
            obtain ⟨a1, a2, a3, a4⟩ := hA2
            obtain ⟨r1, r2, r3, r4⟩ := hR2
            rw [hi0] at r1
            rw [lo0] at r2
            obtain ⟨l1, l2⟩ := set2 r1 r2 (.int .i64 0) (.int .u64 0)
            go_wp2
            refine bodyPost_ret (retP (g := w.heap.size) rfl rfl rfl l1 l2) rfl ?_
            exact ⟨⟨0, 5, by rw [I128_zero]; rfl, Or.inr ⟨rfl, rfl, hne.out⟩⟩, by go_grown⟩

end Go.Proofs.YtepmcblnhibfeaaDoor.Wi
