/- The reader: label. -/
import Derived.Test.YtgjcdhcbniholaaGreatLaB
namespace Go.Proofs.YtgjcdhcbniholaaGreat.La
open Go.RowKit Go.Proofs.YtgjcdhcbniholaaGreat.Sl
set_option linter.unusedVariables false

def isAt (s : ByteArray) (q : Nat) (c : UInt8) : Prop := ∃ h : q < s.size, s[q] = c
instance (s : ByteArray) (q : Nat) (c : UInt8) : Decidable (isAt s q c) := by unfold isAt; infer_instance

inductive LRes where
  | ok (x : Lab) (next : Nat)
  | bad (er : Int) (at_ : Nat)

/-- The row that stands there. -/
def rowLen (colon : Bool) (s : ByteArray) (p : Nat) : Nat := (rowL colon (s.data.toList.drop p)).length
def rowS (colon : Bool) (s : ByteArray) (p : Nat) : ByteArray := s.extract p (p + rowLen colon s p)
/-- A label behind others. -/
def labR (s : ByteArray) (l : List Lab) (p : Nat) : LRes :=
  if l.length = 16 then .bad 3 p
  else if lnameL (rowS false s p).data.toList = false then .bad 9 p
  else if behE l (rowS false s p) ≠ 0 then .bad (behE l (rowS false s p)) p
  else if ¬ isAt s (p + rowLen false s p) 61 then .bad 5 (p + rowLen false s p)
  else if ¬ isAt s (p + rowLen false s p + 1) 34 then .bad 5 (p + rowLen false s p + 1)
  else match textR s (p + rowLen false s p + 2) with
    | .ok bytes next => .ok (rowS false s p, ⟨bytes.toArray⟩) next
    | .bad e a => .bad e a

theorem rowLen_le (colon : Bool) (s : ByteArray) (p : Nat) (hp : p ≤ s.size) : p + rowLen colon s p ≤ s.size := by
  have := rowL_len colon (s.data.toList.drop p)
  rw [List.length_drop, len_data] at this
  unfold rowLen; omega

def labelV (x : Lab) : Value := .agg #[.string x.1, .string x.2]
def LabPost (w : World) (g : Nat) (s : ByteArray) (er bad : Int) (r : LRes) (e : Ending) (w' : World) : Prop :=
  match r with
  | .ok x next => e = .returned (.tuple #[labelV x, .bool true]) ∧ Rdr w' g s (next : Int) er bad ∧ next ≤ s.size ∧ w.grownBy w' (some g)
  | .bad x q => (∃ y, e = .returned (.tuple #[labelV y, .bool false])) ∧ (∃ p', Rdr w' g s p' x (q : Int)) ∧ w.grownBy w' (some g)

theorem rd_only {w w' : World} {B s n g : Nat} {A : Option Addr} {xs : List Value} (h : Rd w B s A xs n) (k : w.grownBy w' (some g)) (hB : B ≤ w.heap.size) (hg : ∀ a, A = some a → a.block ≠ g) : Rd w' B s A xs n :=
  ⟨h.len, fun hn => by
    obtain ⟨b, off, e, hb, hc⟩ := h.cells hn
    refine ⟨b, off, e, hb, fun j u hu => ?_⟩
    rw [k.cell_far _ (by show b < _; omega) (by simpa using hg _ e)]
    exact hc j u hu⟩

/-- The block of a label that is to be handed out. -/
structure Box (w : World) (N : Nat) (x : Lab) : Prop where
  lt : N < w.heap.size
  c0 : w.cell? ⟨N, 0, none⟩ = some (.string x.1)
  c1 : w.cell? ⟨N, 1, none⟩ = some (.string x.2)
  f0 : w.frozen? ⟨N, 0, none⟩ = false
  f1 : w.frozen? ⟨N, 1, none⟩ = false
theorem Box.only {w w' : World} {N g : Nat} {x : Lab} (h : Box w N x) (k : w.grownBy w' (some g)) (hne : N ≠ g) : Box w' N x :=
  ⟨Nat.lt_of_lt_of_le h.lt k.size, (k.cell_far _ h.lt (by simpa using hne)).trans h.c0, (k.cell_far _ h.lt (by simpa using hne)).trans h.c1,
    (k.frozen_far _ h.lt (by simpa using hne)).trans h.f0, (k.frozen_far _ h.lt (by simpa using hne)).trans h.f1⟩
theorem Box.new (w : World) (x : Lab) (t : TypeId) : Box (w.alloc (.cells #[.string x.1, .string x.2] t)) w.heap.size x := by
  refine ⟨by simp, ?_, ?_, ?_, ?_⟩ <;> go_cell

theorem Box.set {w : World} {N : Nat} {x : Lab} (h : Box w N x) (y : Lab) : Box ((w.setCell ⟨N, 0, none⟩ (.string y.1)).setCell ⟨N, 1, none⟩ (.string y.2)) N y := by
  obtain ⟨a, b0, b1, b2, b3⟩ := h
  exact ⟨by simpa using a, by go_cell, by go_cell, by go_cell, by go_cell⟩
theorem only_box {w w' : World} {g N : Nat} (h : w.grownBy w' (some g)) (hN : w.heap.size ≤ N) (u v : Value) : w.grownBy ((w'.setCell ⟨N, 0, none⟩ u).setCell ⟨N, 1, none⟩ v) (some g) :=
  only_setCell (p := ⟨N, 1, none⟩) (only_setCell (p := ⟨N, 0, none⟩) h (Or.inr hN) u) (Or.inr hN) v
theorem Rdr.box {w : World} {g N : Nat} {s : ByteArray} {p er bad : Int} (h : Rdr w g s p er bad) (hN : N ≠ g) (u v : Value) : Rdr ((w.setCell ⟨N, 0, none⟩ u).setCell ⟨N, 1, none⟩ v) g s p er bad := by
  obtain ⟨a, b0, b1, b2, b3, b4, b5, b6⟩ := h
  have hN' : g ≠ N := Ne.symm hN
  exact ⟨by simpa using a, by go_cell, by go_cell, by go_cell, by go_cell, by go_cell, by go_cell, by go_cell⟩

set_option maxRecDepth 100000 in
set_option maxHeartbeats 4000000 in
theorem label_any {w : World} {g B c : Nat} {A : Option Addr} {l : List Lab} {s : ByteArray} {p : Nat} {er bad : Int} (h : Rdr w g s p er bad) (hp : p ≤ s.size) (hs : s.size ≤ 140737488355328)
    (hr : Rd w B 2 A (labs l) l.length) (hB : B ≤ w.heap.size) (hA : ∀ a, A = some a → a.block ≠ g) (hl : l.length ≤ 16) :
    Calls Tryz.prog 51 #[.pointer (some ⟨g, 0, none⟩), .slice A l.length c] w (LabPost w g s er bad (labR s l p)) := by
  unfold labR
  obtain ⟨a, b0, b1, b2, b3, b4, b5, b6⟩ := id h
  have hne : w.heap.size ≠ g := by omega
  have h0 := h.stays (Below.alloc (Below.refl _ _) (Nat.le_refl _) (.cells #[.string ⟨#[]⟩, .string ⟨#[]⟩] 45))
  have x0 := Box.new w (⟨#[]⟩, ⟨#[]⟩) 45
  have o0 := only_alloc (only_refl w (some g)) (.cells #[.string ⟨#[]⟩, .string ⟨#[]⟩] 45)
  have r0 := hr.below (Below.alloc (Below.refl _ _) hB (.cells #[.string ⟨#[]⟩, .string ⟨#[]⟩] 45))
  clear h hr
  replace h0 := Lib.hid h0
  replace x0 := Lib.hid x0
  replace o0 := Lib.hid o0
  replace r0 := Lib.hid r0
  by_cases hl16 : l.length = 16
  · rw [if_pos hl16, hl16]
    go_enter Tryz.func51, Tryz.ntmps51
    go_wp2_with fail
    refine (fail_any h0.out 3 p).mono ?_
    rintro e w' ⟨rfl, h2, h3⟩
    have x2 := x0.out.only h3 hne
    have o2 := only_trans o0.out h3
    have o3 := only_box o2 (Nat.le_refl _) (.string ⟨#[]⟩) (.string ⟨#[]⟩)
    have r3 := h2.box hne (.string ⟨#[]⟩) (.string ⟨#[]⟩)
    obtain ⟨d0, d1, d2, d3, d4⟩ := x2
    replace r3 := Lib.hid r3
    replace o3 := Lib.hid o3
    clear h2 h3 o2
    go_wp2
    refine bodyPost_ret (v := .tuple #[labelV (⟨#[]⟩, ⟨#[]⟩), .bool false]) ?_ rfl ⟨⟨_, rfl⟩, ⟨_, r3.out⟩, o3.out⟩
    rw [results_cell_tmp rfl]
    go_simp
    rfl
  · rw [if_neg hl16]
    obtain ⟨n, hn⟩ : ∃ n, n = l.length := ⟨_, rfl⟩
    have hn16 : ((n : Int) == 16) = false := by simp; omega
    have q0 := rowLen_le false s p hp
    obtain ⟨R, hR⟩ : ∃ R, R = rowLen false s p := ⟨_, rfl⟩
    obtain ⟨nm, hnm⟩ : ∃ nm, nm = rowS false s p := ⟨_, rfl⟩
    have hnms : nm.size ≤ 9223372036854775807 := by
      rw [hnm]; unfold rowS; rw [ByteArray.size_extract]; omega
    have cr := mrow_any h0.out false hp hs
    rw [show s.extract p (p + (rowL false (s.data.toList.drop p)).length) = nm by rw [hnm]; rfl, show (rowL false (s.data.toList.drop p)).length = R by rw [hR]; rfl] at cr
    rw [← hR] at q0
    rw [← hR, ← hnm]
    have cl := lname_any nm hnms
    have hlen : l.length ≤ 1000000 := by omega
    rw [← hn]
    have cb : ∀ w1, Rd w1 B 2 A (labs l) l.length → Calls Tryz.prog 29 #[.slice A n c, .string nm] w1 fun e w' => e = .returned (.int .i64 (behE l nm)) ∧ w' = w1 :=
      fun w1 h => by rw [hn]; exact behind_any nm h hlen
    replace cb := Lib.hid cb
    clear hnm hR hnms hn
    replace cr := Lib.hid cr
    replace cl := Lib.hid cl
    by_cases t1 : lnameL nm.data.toList = false
    · rw [if_pos t1]
      rw [t1] at cl
      go_enter Tryz.func51, Tryz.ntmps51
      go_wp2_with fail
      refine cr.out.mono ?_
      rintro e w1 ⟨rfl, h1, o1⟩
      go_wp2_with fail
      refine (cl.out _).mono ?_
      rintro e w' ⟨rfl, hw⟩
      rw [hw]; clear hw w'
      go_wp2_with fail
      refine (fail_any h1 9 p).mono ?_
      rintro e w' ⟨rfl, h2, h3⟩
      have x2 := x0.out.only (only_trans o1 h3) hne
      have o3 := only_box (only_trans o0.out (only_trans o1 h3)) (Nat.le_refl _) (.string ⟨#[]⟩) (.string ⟨#[]⟩)
      have r3 := h2.box hne (.string ⟨#[]⟩) (.string ⟨#[]⟩)
      obtain ⟨d0, d1, d2, d3, d4⟩ := x2
      replace r3 := Lib.hid r3
      replace o3 := Lib.hid o3
      clear h2 h3 h1 o1
      go_wp2
      refine bodyPost_ret (v := .tuple #[labelV (⟨#[]⟩, ⟨#[]⟩), .bool false]) ?_ rfl ⟨⟨_, rfl⟩, ⟨_, r3.out⟩, o3.out⟩
      rw [results_cell_tmp rfl]
      go_simp
      rfl
    · rw [if_neg t1]
      have t1' : lnameL nm.data.toList = true := by simpa using t1
      rw [t1'] at cl
      clear t1 t1'
      by_cases t2 : behE l nm ≠ 0
      · rw [if_pos t2]
        have tb : (behE l nm != 0) = true := by simpa using t2
        clear t2
        go_enter Tryz.func51, Tryz.ntmps51
        go_wp2_with fail
        refine cr.out.mono ?_
        rintro e w1 ⟨rfl, h1, o1⟩
        go_wp2_with fail
        refine (cl.out _).mono ?_
        rintro e w' ⟨rfl, hw⟩
        rw [hw]; clear hw w'
        have rd1 := rd_only r0.out o1 (by simp; omega) hA
        go_wp2_with fail
        refine (cb.out _ rd1).mono ?_
        rintro e w' ⟨rfl, hw⟩
        rw [hw]; clear hw w'
        go_wp2_with fail
        refine (fail_any h1 _ p).mono ?_
        rintro e w' ⟨rfl, h2, h3⟩
        have x2 := x0.out.only (only_trans o1 h3) hne
        have o3 := only_box (only_trans o0.out (only_trans o1 h3)) (Nat.le_refl _) (.string ⟨#[]⟩) (.string ⟨#[]⟩)
        have r3 := h2.box hne (.string ⟨#[]⟩) (.string ⟨#[]⟩)
        obtain ⟨d0, d1, d2, d3, d4⟩ := x2
        replace r3 := Lib.hid r3
        replace o3 := Lib.hid o3
        go_wp2
        refine bodyPost_ret (v := .tuple #[labelV (⟨#[]⟩, ⟨#[]⟩), .bool false]) ?_ rfl ⟨⟨_, rfl⟩, ⟨_, r3.out⟩, o3.out⟩
        rw [results_cell_tmp rfl]
        go_simp
        rfl
      · rw [if_neg t2]
        have tb : (behE l nm != 0) = false := by simpa using t2
        clear t2
        have e61 : ∀ w, Calls Tryz.prog 50 #[.pointer (some ⟨g, 0, none⟩), .int .u8 61] w = Calls Tryz.prog 50 #[.pointer (some ⟨g, 0, none⟩), .int .u8 (((61 : UInt8).toNat : Int))] w := fun w => rfl
        have e34 : ∀ w, Calls Tryz.prog 50 #[.pointer (some ⟨g, 0, none⟩), .int .u8 34] w = Calls Tryz.prog 50 #[.pointer (some ⟨g, 0, none⟩), .int .u8 (((34 : UInt8).toNat : Int))] w := fun w => rfl
        replace e61 := Lib.hid e61
        replace e34 := Lib.hid e34
        by_cases t3 : ¬ isAt s (p + R) 61
        · rw [if_pos t3]
          have t3' : ∀ h : p + R < s.size, s[p + R] ≠ 61 := fun h e => t3 ⟨h, e⟩
          clear t3
          replace t3' := Lib.hid t3'
          go_enter Tryz.func51, Tryz.ntmps51
          go_wp2_with fail
          refine cr.out.mono ?_
          rintro e w1 ⟨rfl, h1, o1⟩
          go_wp2_with fail
          refine (cl.out _).mono ?_
          rintro e w' ⟨rfl, hw⟩
          rw [hw]; clear hw w'
          have rd1 := rd_only r0.out o1 (by simp; omega) hA
          go_wp2_with fail
          refine (cb.out _ rd1).mono ?_
          rintro e w' ⟨rfl, hw⟩
          rw [hw]; clear hw w'
          go_wp2_with fail
          rw [e61.out]
          refine (must_no h1 61 q0 t3'.out hs).mono ?_
          rintro e w' ⟨rfl, h2, h3⟩
          have x2 := x0.out.only (only_trans o1 h3) hne
          have o3 := only_box (only_trans o0.out (only_trans o1 h3)) (Nat.le_refl _) (.string ⟨#[]⟩) (.string ⟨#[]⟩)
          have r3 := h2.box hne (.string ⟨#[]⟩) (.string ⟨#[]⟩)
          obtain ⟨d0, d1, d2, d3, d4⟩ := x2
          replace r3 := Lib.hid r3
          replace o3 := Lib.hid o3
          go_wp2
          refine bodyPost_ret (v := .tuple #[labelV (⟨#[]⟩, ⟨#[]⟩), .bool false]) ?_ rfl ⟨⟨_, rfl⟩, ⟨_, r3.out⟩, o3.out⟩
          rw [results_cell_tmp rfl]
          go_simp
          rfl
        · rw [if_neg t3]
          obtain ⟨q1, t3'⟩ : isAt s (p + R) 61 := Decidable.not_not.1 t3
          clear t3
          replace t3' := Lib.hid t3'
          by_cases t4 : ¬ isAt s (p + R + 1) 34
          · rw [if_pos t4]
            have t4' : ∀ h : p + R + 1 < s.size, s[p + R + 1] ≠ 34 := fun h e => t4 ⟨h, e⟩
            clear t4
            replace t4' := Lib.hid t4'
            go_enter Tryz.func51, Tryz.ntmps51
            go_wp2_with fail
            refine cr.out.mono ?_
            rintro e w1 ⟨rfl, h1, o1⟩
            go_wp2_with fail
            refine (cl.out _).mono ?_
            rintro e w' ⟨rfl, hw⟩
            rw [hw]; clear hw w'
            have rd1 := rd_only r0.out o1 (by simp; omega) hA
            go_wp2_with fail
            refine (cb.out _ rd1).mono ?_
            rintro e w' ⟨rfl, hw⟩
            rw [hw]; clear hw w'
            go_wp2_with fail
            rw [e61.out]
            refine (must_yes h1 61 q1 t3'.out hs).mono ?_
            rintro e w' ⟨rfl, h2, h3⟩
            go_wp2_with fail
            rw [e34.out]
            refine (must_no h2 34 (by omega) t4'.out hs).mono ?_
            rintro e w3 ⟨rfl, h4, h5⟩
            have x2 := x0.out.only (only_trans o1 (only_trans h3 h5)) hne
            have o3 := only_box (only_trans o0.out (only_trans o1 (only_trans h3 h5))) (Nat.le_refl _) (.string ⟨#[]⟩) (.string ⟨#[]⟩)
            have r3 := h4.box hne (.string ⟨#[]⟩) (.string ⟨#[]⟩)
            obtain ⟨d0, d1, d2, d3, d4⟩ := x2
            replace r3 := Lib.hid r3
            replace o3 := Lib.hid o3
            go_wp2
            refine bodyPost_ret (v := .tuple #[labelV (⟨#[]⟩, ⟨#[]⟩), .bool false]) ?_ rfl ⟨⟨_, rfl⟩, ⟨_, r3.out⟩, o3.out⟩
            rw [results_cell_tmp rfl]
            go_simp
            rfl
          · rw [if_neg t4]
            obtain ⟨q2, t4'⟩ : isAt s (p + R + 1) 34 := Decidable.not_not.1 t4
            clear t4
            replace t4' := Lib.hid t4'
            cases htr : textR s (p + R + 2) with
            | ok bytes next =>
              go_enter Tryz.func51, Tryz.ntmps51
              go_wp2_with fail
              refine cr.out.mono ?_
              rintro e w1 ⟨rfl, h1, o1⟩
              go_wp2_with fail
              refine (cl.out _).mono ?_
              rintro e w' ⟨rfl, hw⟩
              rw [hw]; clear hw w'
              have rd1 := rd_only r0.out o1 (by simp; omega) hA
              go_wp2_with fail
              refine (cb.out _ rd1).mono ?_
              rintro e w' ⟨rfl, hw⟩
              rw [hw]; clear hw w'
              go_wp2_with fail
              rw [e61.out]
              refine (must_yes h1 61 q1 t3'.out hs).mono ?_
              rintro e w' ⟨rfl, h2, h3⟩
              go_wp2_with fail
              rw [e34.out]
              refine (must_yes h2 34 q2 t4'.out hs).mono ?_
              rintro e w3 ⟨rfl, h4, h5⟩
              have o3 := only_trans o1 (only_trans h3 h5)
              clear h2 h3 h5 o1 h1
              go_wp2_with fail
              refine (text_any h4 (by omega) hs).mono ?_
              intro e w4 hpost
              rw [show p + R + 1 + 1 = p + R + 2 by omega, htr] at hpost
              obtain ⟨rfl, h6, h7, h8⟩ := hpost
              have x2 := x0.out.only (only_trans o3 h8) hne
              have o4 := only_box (only_trans o0.out (only_trans o3 h8)) (Nat.le_refl _) (.string nm) (.string ⟨bytes.toArray⟩)
              have r3 := h6.box hne (.string nm) (.string ⟨bytes.toArray⟩)
              obtain ⟨d0, d1, d2, d3, d4⟩ := x2
              replace r3 := Lib.hid r3
              replace o4 := Lib.hid o4
              go_wp2
              refine bodyPost_ret (v := .tuple #[labelV (nm, ⟨bytes.toArray⟩), .bool true]) ?_ rfl ⟨rfl, r3.out, h7, o4.out⟩
              rw [results_cell_tmp rfl]
              go_simp
              rfl
            | bad x y =>
              go_enter Tryz.func51, Tryz.ntmps51
              go_wp2_with fail
              refine cr.out.mono ?_
              rintro e w1 ⟨rfl, h1, o1⟩
              go_wp2_with fail
              refine (cl.out _).mono ?_
              rintro e w' ⟨rfl, hw⟩
              rw [hw]; clear hw w'
              have rd1 := rd_only r0.out o1 (by simp; omega) hA
              go_wp2_with fail
              refine (cb.out _ rd1).mono ?_
              rintro e w' ⟨rfl, hw⟩
              rw [hw]; clear hw w'
              go_wp2_with fail
              rw [e61.out]
              refine (must_yes h1 61 q1 t3'.out hs).mono ?_
              rintro e w' ⟨rfl, h2, h3⟩
              go_wp2_with fail
              rw [e34.out]
              refine (must_yes h2 34 q2 t4'.out hs).mono ?_
              rintro e w3 ⟨rfl, h4, h5⟩
              have o3 := only_trans o1 (only_trans h3 h5)
              clear h2 h3 h5 o1 h1
              go_wp2_with fail
              refine (text_any h4 (by omega) hs).mono ?_
              intro e w4 hpost
              rw [show p + R + 1 + 1 = p + R + 2 by omega, htr] at hpost
              obtain ⟨rfl, ⟨p', h6⟩, h8⟩ := hpost
              have x2 := x0.out.only (only_trans o3 h8) hne
              have o4 := only_box (only_trans o0.out (only_trans o3 h8)) (Nat.le_refl _) (.string nm) (.string ⟨#[]⟩)
              have r3 := h6.box hne (.string nm) (.string ⟨#[]⟩)
              obtain ⟨d0, d1, d2, d3, d4⟩ := x2
              replace r3 := Lib.hid r3
              replace o4 := Lib.hid o4
              go_wp2
              refine bodyPost_ret (v := .tuple #[labelV (nm, ⟨#[]⟩), .bool false]) ?_ rfl ⟨⟨_, rfl⟩, ⟨_, r3.out⟩, o4.out⟩
              rw [results_cell_tmp rfl]
              go_simp
              rfl

end Go.Proofs.YtgjcdhcbniholaaGreat.La
