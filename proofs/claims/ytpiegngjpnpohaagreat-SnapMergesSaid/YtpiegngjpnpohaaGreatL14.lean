/- Lemmas for the laws of this seat, laid together of Mg5, Mg6, Wi0, Wi1, Wi2. -/
import Derived.Test.YtpiegngjpnpohaaGreatL11
import Derived.Test.YtpiegngjpnpohaaGreatL13
import Derived.Test.YtpiegngjpnpohaaGreatProg
import Derived.WalkKit
import Derived.ProofKit
import Derived.Below
import Derived.Handy
import Derived.Laws.Externs
import Derived.Shelf.Spec.BitsCarry

namespace Go.Proofs.YtpiegngjpnpohaaGreat.Mg
open Go.RowKit Go.Proofs.YtpiegngjpnpohaaGreat.Sl Go.Proofs.YtpiegngjpnpohaaGreat.Rk Go.Proofs.YtpiegngjpnpohaaGreat.St
set_option linter.unusedVariables false
theorem flat_drop (l : List (Int × Int)) (k : Nat) : (flat l).drop (k * 2) = flat (l.drop k) := by
  induction l generalizing k with
  | nil => simp [flat]
  | cons c r ih =>
    cases k with
    | zero => simp [flat]
    | succ k =>
      have := ih k
      rw [show (k + 1) * 2 = k * 2 + 1 + 1 by omega]
      simp only [flat, List.flatMap_cons, List.drop_succ_cons, List.cons_append, List.nil_append] at this ⊢
      rw [this]
def RefSortPost (w : World) (l : List Cnt) (e : Ending) (w' : World) : Prop :=
  ∃ A c ys, e = .returned (.slice A l.length c) ∧ w'.ownsRow w.heap.size 54 2 (.slice A l.length c) l.length (flat ys) ∧ ys.Perm l ∧ ys.Pairwise (fun x y => x.1 ≤ y.1) ∧ Below w.heap.size w w'
structure Merg (l us bs os : List Cnt) : Prop where
  perm : (os ++ (us ++ bs)).Perm l
  s1 : us.Pairwise (fun x y => x.1 ≤ y.1)
  s2 : bs.Pairwise (fun x y => x.1 ≤ y.1)
  s3 : os.Pairwise (fun x y => x.1 ≤ y.1)
  le : ∀ o ∈ os, ∀ x ∈ us ++ bs, o.1 ≤ x.1
theorem Merg.len {l us bs os : List Cnt} (h : Merg l us bs os) : os.length + us.length + bs.length = l.length := by
  have := h.perm.length_eq
  simp at this; omega
theorem pw_snoc {os : List Cnt} {x : Cnt} (h : os.Pairwise (fun x y => x.1 ≤ y.1)) (hx : ∀ o ∈ os, o.1 ≤ x.1) : (os ++ [x]).Pairwise (fun x y => x.1 ≤ y.1) :=
  List.pairwise_append.2 ⟨h, List.pairwise_singleton _ _, fun a ha b hb => by rw [List.mem_singleton.1 hb]; exact hx a ha⟩
theorem Merg.left {l us bs os : List Cnt} {x y : Cnt} (h : Merg l (x :: us) (y :: bs) os) (hxy : x.1 ≤ y.1) : Merg l us (y :: bs) (os ++ [x]) := by
  have h1 := List.pairwise_cons.1 h.s1
  have h2 := List.pairwise_cons.1 h.s2
  refine ⟨by have := h.perm; simpa using this, h1.2, h.s2, pw_snoc h.s3 (fun o ho => h.le o ho x (by simp)), fun o ho z hz => ?_⟩
  rcases List.mem_append.1 ho with ho | ho
  · exact h.le o ho z (by simp at hz ⊢; rcases hz with hz | hz | hz <;> simp [hz])
  · rw [List.mem_singleton.1 ho]
    simp at hz
    rcases hz with hz | rfl | hz
    · exact h1.1 z hz
    · exact hxy
    · have := h2.1 z hz; omega
theorem Merg.right {l us bs os : List Cnt} {x y : Cnt} (h : Merg l (x :: us) (y :: bs) os) (hxy : ¬ x.1 ≤ y.1) : Merg l (x :: us) bs (os ++ [y]) := by
  have h1 := List.pairwise_cons.1 h.s1
  have h2 := List.pairwise_cons.1 h.s2
  refine ⟨?_, h.s1, h2.2, pw_snoc h.s3 (fun o ho => h.le o ho y (by simp)), fun o ho z hz => ?_⟩
  · have := h.perm
    refine List.Perm.trans ?_ this
    rw [List.append_assoc]
    refine List.Perm.append_left os ?_
    exact (List.perm_middle (a := y) (l₁ := x :: us) (l₂ := bs)).symm
  rcases List.mem_append.1 ho with ho | ho
  · exact h.le o ho z (by simp at hz ⊢; rcases hz with hz | hz | hz <;> simp [hz])
  · rw [List.mem_singleton.1 ho]
    simp at hz
    rcases hz with rfl | hz | hz
    · omega
    · have := h1.1 z hz; omega
    · exact h2.1 z hz
theorem Merg.done {l us bs os : List Cnt} (h : Merg l us bs os) (h0 : us = [] ∨ bs = []) : (os ++ us ++ bs).Perm l ∧ (os ++ us ++ bs).Pairwise (fun x y => x.1 ≤ y.1) := by
  refine ⟨by rw [List.append_assoc]; exact h.perm, ?_⟩
  rcases h0 with rfl | rfl
  · simp only [List.append_nil]
    exact List.pairwise_append.2 ⟨h.s3, h.s2, fun a ha b hb => h.le a ha b (by simp [hb])⟩
  · simp only [List.append_nil]
    exact List.pairwise_append.2 ⟨h.s3, h.s1, fun a ha b hb => h.le a ha b (by simp [hb])⟩
def lenOf : Value → Nat
  | .slice _ n _ => n
  | _ => 0
set_option maxRecDepth 100000 in
theorem sorted_small (w : World) (B : Nat) (A : Option Addr) (l : List Cnt) (cap : Nat) (h2 : l.length < 2) (h : Rd w B 2 A (flat l) l.length) :
    Calls Tryz.prog 116 #[.slice A l.length cap] w (RefSortPost w l) := by
  obtain ⟨i0, hi, hz0, hz1, hz2⟩ := info_parts infoCount
  have hp : l.Pairwise (fun x y => x.1 ≤ y.1) := by
    match l, h2 with
    | [], _ => simp
    | [a], _ => simp
  replace hp := Lib.hid hp
  go_enter Tryz.func116, Tryz.ntmps116
  go_wp2_with (at_builtin; refine wpList_append_rd rfl _ _ _ rfl w.heap.size 54 Tryz.underlying46 hi hz0 hz1 hz2 rfl (by decide) rfl (World.ownsRow_nil w _ _ _) rfl h (flat_one l) (by unfold maxLen; omega) (by omega) (Nat.le_refl _) ?_; intro A1 c1 w1 ho1 hb1 hs1)
  go_ret
  exact ⟨A1, c1, l, by simp, by simpa using ho1, List.Perm.refl _, hp.out, hb1⟩
set_option maxRecDepth 100000 in
set_option maxHeartbeats 1000000 in
theorem sorted_any : ∀ (f : Nat) (w : World) (B : Nat) (A : Option Addr) (l : List Cnt) (cap : Nat), l.length ≤ f → Rd w B 2 A (flat l) l.length → l.length ≤ cap → cap ≤ maxLen → l.length * 16 ≤ 140737488355328 → B ≤ w.heap.size →
    Calls Tryz.prog 116 #[.slice A l.length cap] w (RefSortPost w l) := by
  intro f
  induction f with
  | zero => intro w B A l cap hf h hc _ h8 hB; exact sorted_small w B A l cap (by omega) h
  | succ f ih =>
    intro w B A l cap hf h hc hcm h8 hB
    by_cases h2 : l.length < 2
    · exact sorted_small w B A l cap h2 h
    obtain ⟨i0, hi, hz0, hz1, hz2⟩ := info_parts infoCount
    unfold maxLen at hcm
    have t1 := run_head 46 54 Tryz.underlying46 hi hz1 A l.length cap (l.length / 2) (by omega) ((l.length : Int) / 2) (by omega)
    have t2 := run_cut 46 54 Tryz.underlying46 hi hz1 A l.length cap (l.length / 2) (by omega) ((l.length : Int) / 2) (by omega)
    have r1 := h.take (k := l.length / 2) (by omega)
    have r2 := h.cut (k := l.length / 2) (cap := cap) (by omega) hc
    rw [flat_take] at r1
    rw [flat_drop] at r2
    have e1 : (l.take (l.length / 2)).length = l.length / 2 := by rw [List.length_take]; omega
    have e2 : (l.drop (l.length / 2)).length = l.length - l.length / 2 := by rw [List.length_drop]
    have c1 := ih w B A (l.take (l.length / 2)) cap (by omega) (by rw [e1]; exact r1) (by omega) (by unfold maxLen; omega) (by omega) hB
    rw [e1] at c1
    have c2 := fun (w1 : World) (hb : Below w.heap.size w w1) => ih w1 B (cutA A (l.length / 2) cap 2) (l.drop (l.length / 2)) (cap - l.length / 2) (by omega) (by rw [e2]; exact r2.below (hb.mono hB)) (by omega) (by unfold maxLen; omega) (by omega) (Nat.le_trans hB hb.size)
    rw [e2] at c2
    clear ih r1 r2
    replace e1 := Lib.hid e1; replace e2 := Lib.hid e2
    replace c2 := Lib.hid c2
    go_enter Tryz.func116, Tryz.ntmps116
    go_wp2_with fail
    refine c1.mono ?_
    rintro e w1 ⟨A1, k1, us, rfl, o1, p1, s1, hb1⟩
    rw [e1.out] at o1 ⊢
    clear c1 t1
    go_wp2_with fail
    refine (c2.out w1 hb1).mono ?_
    rintro e w2 ⟨A2, k2, bs, rfl, o2, p2, s2, hb2⟩
    rw [e2.out] at o2 ⊢
    clear c2 t2
    obtain ⟨_, _, x1, x2, x3, x4⟩ := own_form o1
    cases x1
    obtain ⟨_, _, y1, y2, y3, y4⟩ := own_form o2
    cases y1
    have hl1 : us.length = l.length / 2 := by rw [p1.length_eq, e1.out]
    have hl2 : bs.length = l.length - l.length / 2 := by rw [p2.length_eq, e2.out]
    have ra : Rd w2 w2.heap.size 2 A1 (flat us) (l.length / 2) := ((Rd.of_own o1 (fun g hg => (x4 g hg).2.1)).below hb2).mono hb2.size
    have rb : Rd w2 w2.heap.size 2 A2 (flat bs) (l.length - l.length / 2) := Rd.of_own o2 (fun g hg => (y4 g hg).2.1)
    have hbw : Below w.heap.size w w2 := hb1.trans (hb2.mono hb1.size)
    have hp : (us ++ bs).Perm l := by
      have := p1.append p2
      rwa [List.take_append_drop] at this
    clear o1 o2 x4 y4 p1 p2 hb1 hb2 h
    have hm : Merg l us bs [] := ⟨hp, s1, s2, List.Pairwise.nil, fun o ho => absurd ho (by simp)⟩
    rw [← hl2] at y2 rb ⊢
    rw [← hl1] at x2 ra ⊢
    clear hp s1 s2 hl1 hl2
    replace hm := Lib.hid hm
    obtain ⟨B2, hB2⟩ : ∃ B2, B2 = w2.heap.size := ⟨_, rfl⟩
    rw [← hB2] at ra rb
    have hwB : w.heap.size ≤ B2 := by rw [hB2]; exact hbw.size
    replace hB2 := Lib.hid hB2
    unfold maxLen at x3 y3
    have ho0 : (w2.alloc (.cells #[] 54)).ownsRow B2 54 2 (.slice (some ⟨w2.heap.size, 0, none⟩) 0 0) 0 (flat []) := World.ownsRow_lit w2 #[] 0 (by rw [hB2.out]; exact Nat.le_refl _) (by decide) rfl
    go_wp2_with fail
    go_loopw [3, 4, 5] (fun a b o wr => ∃ (A1 A2 A3 : Option Addr) (k1 k2 k3 : Nat) (us bs os : List Cnt), a = .slice A1 us.length k1 ∧ b = .slice A2 bs.length k2 ∧ o = .slice A3 os.length k3 ∧ us.length ≤ k1 ∧ k1 ≤ 2 ^ 63 - 1 ∧ bs.length ≤ k2 ∧ k2 ≤ 2 ^ 63 - 1 ∧
      Rd wr B2 2 A1 (flat us) us.length ∧ Rd wr B2 2 A2 (flat bs) bs.length ∧ wr.ownsRow B2 54 2 (.slice A3 os.length k3) os.length (flat os) ∧ Below B2 w2 wr ∧ Hid (Merg l us bs os)) (fun a b _ _ => lenOf a + lenOf b)
    case atStart =>
      exact ⟨A1, A2, _, k1, k2, _, us, bs, [], rfl, rfl, rfl, x2, x3, y2, y3, ra.below ((Below.refl _ _).alloc (Nat.le_of_eq hB2.out) _), rb.below ((Below.refl _ _).alloc (Nat.le_of_eq hB2.out) _), ho0, (Below.refl _ _).alloc (Nat.le_of_eq hB2.out) _, hm⟩
    case round =>
      clear ra rb ho0 hm x2 x3 y2 y3
      obtain ⟨A1, A2, A3, k1, k2, k3, us, bs, os, rfl, rfl, rfl, x2, x3, y2, y3, ra, rb, ho, hb, hm⟩ := hrel
      have hlen := hm.out.len
      have hsz := hb.size
      have hBr : B2 ≤ wr.heap.size := by rw [hB2.out]; exact hsz
      by_cases hnil : us = [] ∨ bs = []
      · have hd := hm.out.done hnil
        have g1 : os.length + us.length ≤ maxLen := by unfold maxLen; omega
        have g2 : (os.length + us.length) * 16 ≤ 140737488355328 := by omega
        have g3 : os.length + us.length + bs.length ≤ maxLen := by unfold maxLen; omega
        have g4 : (os.length + us.length + bs.length) * 16 ≤ 140737488355328 := by omega
        have hfin : ∀ (A5 : Option Addr) (c5 : Nat) (w5 : World), w5.ownsRow B2 54 2 (.slice A5 (os.length + us.length + bs.length) c5) (os.length + us.length + bs.length) (flat os ++ flat us ++ flat bs) → Below B2 w2 w5 →
            RefSortPost w l (.returned (.slice A5 (os.length + us.length + bs.length) c5)) w5 := fun A5 c5 w5 o5 b5 =>
          ⟨A5, c5, os ++ us ++ bs, by rw [hlen], own_base (by rw [hlen] at o5; simpa [flat] using o5) hwB, hd.1, hd.2, hbw.trans (b5.mono hwB)⟩
        replace hd := Lib.hid hd
        replace hlen := Lib.hid hlen
        replace hfin := Lib.hid hfin
        have ht1 : decide (0 < us.length) = false ∨ (decide (0 < us.length) = true ∧ decide (0 < bs.length) = false) := by
          by_cases h0 : us = []
          · exact .inl (by simp [h0])
          · have hz : bs = [] := hnil.resolve_left h0
            have := List.length_pos_iff.2 h0
            exact .inr ⟨decide_eq_true (by omega), by simp [hz]⟩
        replace hnil := Lib.hid hnil
        rcases ht1 with ht1 | ⟨ht1, ht2⟩
        all_goals
          go_wp2_with (first | (at_builtin; refine wpList_append_rd rfl (.tmp 57) (.tmp 58) _ rfl B2 54 Tryz.underlying46 hi hz0 hz1 hz2 rfl (by decide) rfl ho rfl ra (flat_one _) g1 g2 hBr ?_; intro A4 c4 w4 ho4 hb4 hs4; have rb4 := rb.below hb4; have hb4' := hb.trans hb4; have hBr4 : B2 ≤ w4.heap.size := Nat.le_trans hBr hs4) | (at_builtin; refine wpList_append_rd rfl (.tmp 60) (.tmp 61) _ rfl B2 54 Tryz.underlying46 hi hz0 hz1 hz2 rfl (by decide) rfl ho4 rfl rb4 (flat_one _) g3 g4 hBr4 ?_; intro A5 c5 w5 ho5 hb5 hs5; have hb5' := hb4'.trans hb5))
          go_ret
          exact hfin.out _ _ _ ho5 hb5'
      · obtain ⟨x, us, rfl⟩ : ∃ x u, us = x :: u := by
          cases us with
          | nil => exact absurd (Or.inl rfl) hnil
          | cons x u => exact ⟨x, u, rfl⟩
        obtain ⟨y, bs, rfl⟩ : ∃ x u, bs = x :: u := by
          cases bs with
          | nil => exact absurd (Or.inr rfl) hnil
          | cons x u => exact ⟨x, u, rfl⟩
        clear hnil
        obtain ⟨b1, f1, rfl, q1, q2⟩ := ra.cells (by simp)
        obtain ⟨b2, f2, rfl, q3, q4⟩ := rb.cells (by simp)
        have c1 : wr.cell? ⟨b1, f1, none⟩ = some (.int .i64 x.1) := q2 0 (.int .i64 x.1) rfl
        have c1b : wr.cell? ⟨b1, f1 + 1, none⟩ = some (.int .u64 x.2) := q2 1 (.int .u64 x.2) rfl
        have c2 : wr.cell? ⟨b2, f2, none⟩ = some (.int .i64 y.1) := q4 0 (.int .i64 y.1) rfl
        have c2b : wr.cell? ⟨b2, f2 + 1, none⟩ = some (.int .u64 y.2) := q4 1 (.int .u64 y.2) rfl
        clear q2 q4
        simp only [List.length_cons] at x2 y2 ra rb hlen
        have p1 : decide (0 < us.length + 1) = true := decide_eq_true (by omega)
        have p2 : decide (0 < bs.length + 1) = true := decide_eq_true (by omega)
        have g1 : os.length + 1 ≤ maxLen := by unfold maxLen; omega
        have g2 : (os.length + 1) * 16 ≤ 140737488355328 := by omega
        have t1 := run_cut 46 54 Tryz.underlying46 hi hz1 (some ⟨b1, f1, none⟩) (us.length + 1) k1 1 (by omega) 1 rfl
        have t2 := run_cut 46 54 Tryz.underlying46 hi hz1 (some ⟨b2, f2, none⟩) (bs.length + 1) k2 1 (by omega) 1 rfl
        have ra1 := ra.cut (k := 1) (by omega) x2
        have rb1 := rb.cut (k := 1) (by omega) y2
        simp only [Nat.add_sub_cancel] at t1 t2 ra1 rb1
        rw [flat_drop] at ra1 rb1
        simp only [List.drop_succ_cons, List.drop_zero] at ra1 rb1
        obtain ⟨C1, hC1⟩ : ∃ C, C = cutA (some ⟨b1, f1, none⟩) 1 k1 2 := ⟨_, rfl⟩
        obtain ⟨C2, hC2⟩ : ∃ C, C = cutA (some ⟨b2, f2, none⟩) 1 k2 2 := ⟨_, rfl⟩
        rw [← hC1] at t1 ra1
        rw [← hC2] at t2 rb1
        clear hC1 hC2
        have x2' : us.length ≤ k1 - 1 := by omega
        have y2' : bs.length ≤ k2 - 1 := by omega
        have hlen' := Lib.hid hlen
        by_cases hxy : x.1 ≤ y.1
        · have hm' := hm.out.left hxy
          replace hm' := Lib.hid hm'
          clear hm hlen
          go_wp2
          go_quiet (fail)
          have hown : ((wr.drewN nq).alloc (.cells #[.int .i64 x.1, .int .u64 x.2] 54)).ownsRow B2 54 2 (.slice A3 os.length k3) os.length (flat os) := World.ownsRow.alloc (w := wr.drewN nq) ho _
          have hnew := Rd.new (wr.drewN nq) (flat [x]) 54 2 1 rfl
          have hbn : Below B2 wr ((wr.drewN nq).alloc (.cells #[.int .i64 x.1, .int .u64 x.2] 54)) := (below_drewN (Below.refl _ wr) nq).alloc hBr _
          have hszn : B2 ≤ ((wr.drewN nq).alloc (.cells #[.int .i64 x.1, .int .u64 x.2] 54)).heap.size := Nat.le_trans hBr hbn.size
          go_wp2_with (at_builtin; refine wpList_append_rd rfl (.tmp 41) (.tmp 45) _ rfl B2 54 Tryz.underlying46 hi hz0 hz1 hz2 rfl (by decide) rfl hown rfl hnew (flat_one [x]) g1 g2 hszn ?_; intro A4 c4 w4 ho4 hb4 hs4)
          have hbb := hbn.trans hb4
          have ho5 : w4.ownsRow B2 54 2 (.slice A4 (os ++ [x]).length c4) (os ++ [x]).length (flat (os ++ [x])) := by simpa [flat] using ho4
          exact ⟨⟨C1, some ⟨b2, f2, none⟩, A4, k1 - 1, k2, c4, us, y :: bs, os ++ [x], rfl, rfl, by simp, x2', by omega, y2, y3, ra1.below hbb, rb.below hbb, ho5, hb.trans hbb, hm'⟩, by simp [lenOf]⟩
        · have hm' := hm.out.right hxy
          replace hm' := Lib.hid hm'
          clear hm hlen
          go_wp2
          go_quiet (fail)
          have hown : ((wr.drewN nq).alloc (.cells #[.int .i64 y.1, .int .u64 y.2] 54)).ownsRow B2 54 2 (.slice A3 os.length k3) os.length (flat os) := World.ownsRow.alloc (w := wr.drewN nq) ho _
          have hnew := Rd.new (wr.drewN nq) (flat [y]) 54 2 1 rfl
          have hbn : Below B2 wr ((wr.drewN nq).alloc (.cells #[.int .i64 y.1, .int .u64 y.2] 54)) := (below_drewN (Below.refl _ wr) nq).alloc hBr _
          have hszn : B2 ≤ ((wr.drewN nq).alloc (.cells #[.int .i64 y.1, .int .u64 y.2] 54)).heap.size := Nat.le_trans hBr hbn.size
          go_wp2_with (at_builtin; refine wpList_append_rd rfl (.tmp 49) (.tmp 53) _ rfl B2 54 Tryz.underlying46 hi hz0 hz1 hz2 rfl (by decide) rfl hown rfl hnew (flat_one [y]) g1 g2 hszn ?_; intro A4 c4 w4 ho4 hb4 hs4)
          have hbb := hbn.trans hb4
          have ho5 : w4.ownsRow B2 54 2 (.slice A4 (os ++ [y]).length c4) (os ++ [y]).length (flat (os ++ [y])) := by simpa [flat] using ho4
          exact ⟨⟨some ⟨b1, f1, none⟩, C2, A4, k1, k2 - 1, c4, x :: us, bs, os ++ [y], rfl, rfl, by simp, x2, x3, y2', by omega, ra.below hbb, rb1.below hbb, ho5, hb.trans hbb, hm'⟩, by simp [lenOf]⟩
end Go.Proofs.YtpiegngjpnpohaaGreat.Mg

namespace Go.Proofs.YtpiegngjpnpohaaGreat.Mg
open Go.RowKit Go.Shelf Go.Sort Go.Proofs Go.Lib Go.Proofs.YtpiegngjpnpohaaGreat.Sl Go.Proofs.YtpiegngjpnpohaaGreat.Rk Go.Proofs.YtpiegngjpnpohaaGreat.St
set_option linter.unusedVariables false
def Gap (L : List Cnt) (k : Nat) : Prop := ∀ r j v, clp (L.take k) = r ++ [(j, v)] → ∀ x, L[k]? = some x → j ≠ x.1
theorem Gap.zero (L : List Cnt) : Gap L 0 := fun r j v h => by simp [clp] at h
theorem clp_take {L : List Cnt} {m : Nat} {x : Cnt} (h : L[m]? = some x) : clp (L.take (m + 1)) = stp (clp (L.take m)) x := by
  obtain ⟨hm, e⟩ := List.getElem?_eq_some_iff.1 h
  rw [take_snoc hm, clp_snoc, e]
theorem Gap.first {L : List Cnt} {k : Nat} {x : Cnt} (g : Gap L k) (h : L[k]? = some x) : clp (L.take (k + 1)) = clp (L.take k) ++ [x] := by
  rw [clp_take h]
  rcases List.eq_nil_or_concat (clp (L.take k)) with e | ⟨r, d, e⟩
  · rw [e]; rfl
  · rw [List.concat_eq_append] at e
    rw [e, stp_other _ _ _ (g r d.1 d.2 e x h)]; simp
structure Grp (L : List Cnt) (k m : Nat) (j v : Int) : Prop where
  le : k ≤ m
  ml : m ≤ L.length
  gap : Gap L k
  at_k : ∃ n, L[k]? = some (j, n)
  eq : clp (L.take m) = clp (L.take k) ++ (if k < m then [(j, v)] else [])
  v0 : m = k → v = 0
theorem Grp.start {L : List Cnt} {k : Nat} {x : Cnt} (g : Gap L k) (h : L[k]? = some x) : Grp L k k x.1 0 :=
  ⟨Nat.le_refl _, Nat.le_of_lt (List.getElem?_eq_some_iff.1 h).1, g, ⟨x.2, h⟩, by simp, fun _ => rfl⟩
theorem Grp.next {L : List Cnt} {k m : Nat} {j v n : Int} (g : Grp L k m j v) (h : L[m]? = some (j, n)) (hn : 0 ≤ n ∧ n < two64) : Grp L k (m + 1) j ((v + n) % two64) := by
  have hm := (List.getElem?_eq_some_iff.1 h).1
  refine ⟨by have := g.le; omega, hm, g.gap, g.at_k, ?_, fun e => by have := g.le; omega⟩
  rw [if_pos (by have := g.le; omega)]
  rcases Nat.lt_or_eq_of_le g.le with h1 | h1
  · rw [clp_take h, g.eq, if_pos h1, stp_same]
  · subst h1
    rw [g.gap.first h, g.v0 rfl]
    congr 3
    simp only [two64] at hn ⊢
    omega
theorem nz_append (a b : List Cnt) : nz (a ++ b) = nz a ++ nz b := by simp [nz]
theorem Grp.done {L : List Cnt} {k m : Nat} {j v : Int} (g : Grp L k m j v) (h : ∀ x, L[m]? = some x → j ≠ x.1) : k < m ∧ Gap L m ∧ nz (clp (L.take m)) = nz (clp (L.take k)) ++ (if v = 0 then [] else [(j, v)]) := by
  have hkm : k < m := by
    rcases Nat.lt_or_eq_of_le g.le with h1 | h1
    · exact h1
    · subst h1
      obtain ⟨n, hn⟩ := g.at_k
      exact absurd rfl (h _ hn)
  have e := g.eq
  rw [if_pos hkm] at e
  refine ⟨hkm, fun r j' v' e' x hx => ?_, ?_⟩
  · rw [e] at e'
    have := List.append_inj_right' e' rfl
    cases this
    exact h x hx
  · rw [e, nz_append]
    congr 1
    by_cases hv : v = 0
    · simp [nz, hv]
    · simp [nz, hv]
theorem Grp.rng {L : List Cnt} {k m : Nat} {j v : Int} (g : Grp L k m j v) (ho : okN L) : 0 ≤ v ∧ v < two64 := by
  rcases Nat.lt_or_eq_of_le g.le with h1 | h1
  · have e := g.eq
    rw [if_pos h1] at e
    exact okN_clp (L.take m) (fun c hc => ho c (List.mem_of_mem_take hc)) (j, v) (by rw [e]; simp)
  · rw [g.v0 h1.symm]; simp [two64]
theorem app_facts0 {W : World} {B2 : Nat} {s : Value} {n : Nat} {xs : List Value} (ho : W.ownsRow B2 54 2 s n xs) (hB : B2 ≤ W.heap.size) (nq : Nat) (x : Cnt) :
    Hid (((W.drewN nq).alloc (.cells #[.int .i64 x.1, .int .u64 x.2] 54)).ownsRow B2 54 2 s n xs ∧
      Rd ((W.drewN nq).alloc (.cells #[.int .i64 x.1, .int .u64 x.2] 54)) (W.heap.size + 1) 2 (some ⟨W.heap.size, 0, none⟩) (flat [x]) 1 ∧
      RowKit.Below B2 W ((W.drewN nq).alloc (.cells #[.int .i64 x.1, .int .u64 x.2] 54)) ∧ B2 ≤ ((W.drewN nq).alloc (.cells #[.int .i64 x.1, .int .u64 x.2] 54)).heap.size) := by
  have b : RowKit.Below B2 W ((W.drewN nq).alloc (.cells #[.int .i64 x.1, .int .u64 x.2] 54)) := (below_drewN (RowKit.Below.refl _ W) nq).alloc hB _
  refine ⟨World.ownsRow.alloc (w := W.drewN nq) ho _, ?_, b, Nat.le_trans hB b.size⟩
  exact Rd.new (W.drewN nq) (flat [x]) 54 2 1 rfl
set_option maxRecDepth 100000 in
set_option maxHeartbeats 4000000 in
theorem rmerge_any (w : World) (B : Nat) (A1 A2 : Option Addr) (a b : List Cnt) (c1 c2 : Nat) (h1 : Cs w B A1 a) (h2 : Cs w B A2 b) (hB : B ≤ w.heap.size) (hn : a.length + b.length ≤ 4194304) :
    Calls Tryz.prog 64 #[.slice A1 a.length c1, .slice A2 b.length c2] w (MrgPost w (mrg (a ++ b))) := by
  obtain ⟨i0, hi, hz0, hz1, hz2⟩ := info_parts infoCount
  have ha := rd_of_cs h1
  have hb := rd_of_cs h2
  have hok : Hid (∀ c ∈ a ++ b, okC c) := fun c hc => (List.mem_append.1 hc).elim (h1.ok c) (h2.ok c)
  have hl : (a ++ b).length ≤ 4194304 := by rw [List.length_append]; omega
  clear h1 h2
  have g1 : 0 + a.length ≤ maxLen := by unfold maxLen; omega
  have g2 : (0 + a.length) * 16 ≤ 140737488355328 := by omega
  have g3 : a.length + b.length ≤ maxLen := by unfold maxLen; omega
  have g4 : (a.length + b.length) * 16 ≤ 140737488355328 := by omega
  go_enter Tryz.func64, Tryz.ntmps64
  go_wp2_with (first | (at_builtin; refine wpList_append_rd rfl (.const (.slice none 0 0)) (.tmp 9) _ rfl w.heap.size 54 Tryz.underlying46 hi hz0 hz1 hz2 rfl (by decide) rfl (World.ownsRow_nil w _ _ _) rfl ha (flat_one _) g1 g2 (Nat.le_refl _) ?_; intro A3 k3 w1 ho1 hb1 hs1; have rb1 := hb.below (hb1.mono hB); simp only [Nat.zero_add, List.nil_append] at ho1) | (at_builtin; refine wpList_append_rd rfl (.tmp 11) (.tmp 12) _ rfl w.heap.size 54 Tryz.underlying46 hi hz0 hz1 hz2 rfl (by decide) rfl ho1 rfl rb1 (flat_one _) g3 g4 hs1 ?_; intro A4 k4 w2 ho2 hb2 hs2))
  have ho3 : w2.ownsRow w.heap.size 54 2 (.slice A4 (a ++ b).length k4) (a ++ b).length (flat (a ++ b)) := by rw [List.length_append, flat_append]; exact ho2
  have hbw2 := hb1.trans hb2
  clear ha hb rb1 ho1 ho2 hb1 hb2 hs1 hs2 g1 g2 g3 g4
  have eab : a.length + b.length = (a ++ b).length := by rw [List.length_append]
  rw [eab]
  clear eab
  generalize a ++ b = ab at *
  obtain ⟨_, _, x1, x2, x3, x4⟩ := own_form ho3
  cases x1
  have cs := sorted_any ab.length w2 w2.heap.size A4 ab k4 (Nat.le_refl _) (Rd.of_own ho3 fun g hg => (x4 g hg).2.1) x2 x3 (by omega) (Nat.le_refl _)
  clear x4 ho3 x2 x3
  replace cs := Lib.hid cs
  go_wp2_with fail
  refine cs.out.mono ?_
  rintro e w3 ⟨A, c, L, rfl, ho, hp, hs, hb3⟩
  clear cs
  have hlen : L.length = ab.length := hp.length_eq
  rw [← hlen] at hl ho ⊢
  have hokL : okN L := okC_okN fun c hc => hok.out c (hp.mem_iff.1 hc)
  have fin0 : mrg ab = nz (clp L) := (mrg_of hs hp (okC_okN hok.out)).symm
  have hbw3 : RowKit.Below w.heap.size w w3 := hbw2.trans (hb3.mono hbw2.size)
  obtain ⟨_, _, x1, x2, x3, x4⟩ := own_form ho
  cases x1
  have hr : Rd w3 w3.heap.size 2 A (flat L) L.length := Rd.of_own ho fun g hg => (x4 g hg).2.1
  obtain ⟨N, hN⟩ : ∃ N, N = L.length := ⟨_, rfl⟩
  rw [← hN] at hl hr ⊢
  obtain ⟨B2, hB2⟩ : ∃ B2, B2 = w3.heap.size := ⟨_, rfl⟩
  rw [← hB2] at hr
  have hwB : w.heap.size ≤ B2 := by rw [hB2]; exact hbw3.size
  have ho0 : (w3.alloc (.cells #[] 54)).ownsRow B2 54 2 (.slice (some ⟨w3.heap.size, 0, none⟩) 0 0) 0 (flat []) := World.ownsRow_lit w3 #[] 0 (by rw [hB2]; exact Nat.le_refl _) (by decide) rfl
  replace hB2 := Lib.hid hB2
  replace hN := Lib.hid hN
  replace fin0 := Lib.hid fin0
  replace hokL := Lib.hid hokL
  clear hlen hp hs hok hb3 hbw2 ho x2 x3 x4
  go_wp2
  go_loopg [6, 7] (N) (fun kx o i wr => ∃ (k : Nat) (A3 : Option Addr) (c3 : Nat) (os : List Cnt), k ≤ N ∧ N - k ≤ kx ∧ i = .int .i64 k ∧ o = .slice A3 os.length c3 ∧ wr.ownsRow B2 54 2 (.slice A3 os.length c3) os.length (flat os) ∧ RowKit.Below B2 w3 wr ∧ Hid (os = nz (clp (L.take k)) ∧ Gap L k))
  case atStart => exact ⟨0, _, _, [], Nat.zero_le _, by omega, rfl, rfl, ho0, (RowKit.Below.refl _ _).alloc (Nat.le_of_eq hB2.out) _, Lib.hid ⟨by simp [clp, nz], Gap.zero L⟩⟩
  case round =>
    clear ho0
    obtain ⟨k, A3, c3, os, hk, hkx, rfl, rfl, ho, hb, hos⟩ := hrel
    have hBr : B2 ≤ wr.heap.size := by rw [hB2.out]; exact hb.size
    by_cases hlt : k < N
    · obtain ⟨bb, off, rfl, hbB, hc⟩ := (hr.below hb).cells (by omega)
      have hkL : k < L.length := by rw [← hN.out]; exact hlt
      obtain ⟨x, hx⟩ : ∃ x, L[k]? = some x := ⟨_, List.getElem?_eq_getElem hkL⟩
      have k1 := hc _ _ (flat_get L k x hx).1
      have hG : Hid (Grp L k k x.1 0) := Grp.start hos.out.2 hx
      replace hos := Lib.hid hos.out.1
      obtain ⟨j, xn⟩ := x
      simp only at k1 hG
      clear hx hc
      obtain ⟨wo, rfl⟩ : ∃ wo : World, wo = wr := ⟨_, rfl⟩
      go_wp2_with fail
      go_loopg [7] (N - k) (fun ky i wz => ∃ (m : Nat) (v : Int) (n : Nat), m ≤ N ∧ N - m ≤ ky ∧ i = .int .i64 m ∧ wz = (wo.alloc (.cells #[.int .i64 j, .int .u64 v] 54)).drewN n ∧ Hid (Grp L k m j v))
      case atStart => exact ⟨k, 0, 0, hk, Nat.le_refl _, rfl, rfl, hG⟩
      case round =>
        clear hG k1
        obtain ⟨m, v, n, hm, hmx, rfl, hw, hg⟩ := hrel
        have hbz : RowKit.Below B2 wo wr := by rw [hw]; exact below_drewN ((RowKit.Below.refl _ _).alloc hBr _) n
        have hoz : wr.ownsRow B2 54 2 (.slice A3 os.length c3) os.length (flat os) := by rw [hw]; exact World.ownsRow.alloc ho _
        have hBz : B2 ≤ wr.heap.size := Nat.le_trans hBr hbz.size
        have q1 : wr.cell? ⟨wo.heap.size, 0, none⟩ = some (.int .i64 j) := by rw [hw, World.cell?_drewN, cell_new]; rfl
        have q2 : wr.cell? ⟨wo.heap.size, 1, none⟩ = some (.int .u64 v) := by rw [hw, World.cell?_drewN, cell_new]; rfl
        have hc := ((hr.below hb).below hbz).cells (by omega)
        obtain ⟨_, _, e, _, hc⟩ := hc
        cases e
        have hvr := hg.out.rng hokL.out
        simp only [two64] at hvr
        by_cases hin : ∃ n', L[m]? = some (j, n')
        · obtain ⟨n', hx⟩ := hin
          have hmN : m < N := by rw [hN.out]; exact (List.getElem?_eq_some_iff.1 hx).1
          obtain ⟨f1, f2⟩ := flat_get L m (j, n') hx
          have k1 := hc _ _ f1
          have k2 := hc _ _ f2
          rw [← Nat.add_assoc] at k2
          have hn' := hokL.out (j, n') (List.mem_of_getElem? hx)
          have hg2 := hg.out.next hx hn'
          replace hg2 := Lib.hid hg2
          have hd1 : decide (m < N) = true := decide_eq_true hmN
          have hjj : (j == j) = true := beq_self_eq_true _
          have hmI : (m : Int) < (N : Int) := by omega
          have q3 : wr.frozen? ⟨wo.heap.size, 1, none⟩ = false := by rw [hw]; simp
          simp only at k1 k2 hn'
          clear f1 f2 hx hc hg hvr
          have e3 : ∀ n2 v2, ((wr.drewN n2).setCell ⟨wo.heap.size, 1, none⟩ (.int .u64 v2)) = (wo.alloc (.cells #[.int .i64 j, .int .u64 v2] 54)).drewN (n + n2) := fun n2 v2 => by
            rw [hw, World.drewN_drewN]
            have e : ((wo.alloc (.cells #[.int .i64 j, .int .u64 v] 54)).setCell ⟨wo.heap.size, 1, none⟩ (.int .u64 v2)) = wo.alloc (.cells #[.int .i64 j, .int .u64 v2] 54) := by rw [World.setCell_alloc_new]; rfl
            rw [← e]; rfl
          replace hw := Lib.hid hw
          replace e3 := Lib.hid e3
          go_wp2_with fail
          go_quiet (fail)
          go_wp2_with fail
          go_region
          go_wp2_with fail
          have ew : IntKind.u64.wrap (v + n') = (v + n') % two64 := by rw [IntKind.wrap_u64]; rfl
          go_roundg (N - (m + 1))
          case measure => omega
          case rel => exact ⟨m + 1, (v + n') % two64, _, by omega, Nat.le_refl _, by go_num, by rw [ew]; exact e3.out _ _, hg2⟩
        · have hdone := hg.out.done (fun x hx e => hin ⟨x.2, by rw [hx, e]⟩)
          obtain ⟨hkm, hgap, hnz⟩ := hdone
          have hosl : os.length ≤ k := by
            rw [hos.out]
            have := nz_len (clp (L.take k)); have := clp_len (L.take k)
            rw [List.length_take] at this; omega
          have hmn : (∃ j' n' : Int, m < N ∧ j' ≠ j ∧ wr.cell? ⟨bb, off + m * 2, none⟩ = some (.int .i64 j')) ∨ ¬ m < N := by
            by_cases hmN : m < N
            · left
              obtain ⟨x, hx⟩ : ∃ x, L[m]? = some x := ⟨_, List.getElem?_eq_getElem (by rw [← hN.out]; exact hmN)⟩
              exact ⟨x.1, x.2, hmN, fun e => hin ⟨x.2, by rw [hx, ← e]⟩, hc _ _ (flat_get L m x hx).1⟩
            · exact .inr hmN
          have fin : v = 0 → Hid (os = nz (clp (L.take m)) ∧ Gap L m) := fun e => Lib.hid ⟨by rw [hnz, if_pos e, ← hos.out]; simp, hgap⟩
          have fin2 : v ≠ 0 → Hid (os ++ [(j, v)] = nz (clp (L.take m)) ∧ Gap L m) := fun e => Lib.hid ⟨by rw [hnz, if_neg e, ← hos.out], hgap⟩
          have g1 : os.length + 1 ≤ maxLen := by unfold maxLen; omega
          have g2 : (os.length + 1) * 16 ≤ 140737488355328 := by omega
          replace hnz := Lib.hid hnz
          replace hgap := Lib.hid hgap
          have hbb : RowKit.Below B2 w3 wr := hb.trans hbz
          clear hin hg hc hos hvr hb hbz
          replace hw := Lib.hid hw
          by_cases hv : v = 0
          · have f := fin hv
            have hv1 : (v != 0) = false := by rw [hv]; rfl
            have hv2 : (v == 0) = true := by rw [hv]; rfl
            replace hv := Lib.hid hv
            clear fin fin2
            rcases hmn with ⟨j', n', hmN, hjn, kj⟩ | hmN
            · have hd1 : decide (m < N) = true := decide_eq_true hmN
              have hd2 : (j' == j) = false := beq_eq_false_iff_ne.2 hjn
              have hmI : (m : Int) < (N : Int) := by omega
              replace hjn := Lib.hid hjn
              go_wp2_with fail
              go_quiet (fail)
              go_wp2_with fail
              go_roundg (N - m)
              case measure => omega
              case rel => exact ⟨m, A3, c3, os, hm, Nat.le_refl _, rfl, rfl, hoz, below_drewN hbb _, f⟩
            · have hd1 : decide (m < N) = false := decide_eq_false hmN
              go_wp2_with fail
              go_quiet (fail)
              go_wp2_with fail
              go_roundg (N - m)
              case measure => omega
              case rel => exact ⟨m, A3, c3, os, hm, Nat.le_refl _, rfl, rfl, hoz, below_drewN hbb _, f⟩
          · have f := fin2 hv
            have hv1 : (v != 0) = true := by simpa using hv
            have hv2 : (v == 0) = false := beq_eq_false_iff_ne.2 hv
            clear fin fin2
            replace hv := Lib.hid hv
            rcases hmn with ⟨j', n', hmN, hjn, kj⟩ | hmN
            · have hd1 : decide (m < N) = true := decide_eq_true hmN
              have hd2 : (j' == j) = false := beq_eq_false_iff_ne.2 hjn
              have hmI : (m : Int) < (N : Int) := by omega
              replace hjn := Lib.hid hjn
              go_wp2_with fail
              go_quiet (fail)
              have af := app_facts0 hoz hBz nq (j, v)
              go_wp2_with (at_builtin; refine wpList_append_rd rfl (.tmp 54) (.tmp 56) _ rfl B2 54 Tryz.underlying46 hi hz0 hz1 hz2 rfl (by decide) rfl af.out.1 rfl af.out.2.1 (flat_one _) g1 g2 af.out.2.2.2 ?_; intro A4 c4 w4 ho4 hb4 hs4)
              go_roundg (N - m)
              case measure => omega
              case rel => exact ⟨m, A4, c4, os ++ [(j, v)], hm, Nat.le_refl _, rfl, by simp, by simpa [flat] using ho4, hbb.trans (af.out.2.2.1.trans hb4), f⟩
            · have hd1 : decide (m < N) = false := decide_eq_false hmN
              go_wp2_with fail
              go_quiet (fail)
              have af := app_facts0 hoz hBz nq (j, v)
              go_wp2_with (at_builtin; refine wpList_append_rd rfl (.tmp 54) (.tmp 56) _ rfl B2 54 Tryz.underlying46 hi hz0 hz1 hz2 rfl (by decide) rfl af.out.1 rfl af.out.2.1 (flat_one _) g1 g2 af.out.2.2.2 ?_; intro A4 c4 w4 ho4 hb4 hs4)
              go_roundg (N - m)
              case measure => omega
              case rel => exact ⟨m, A4, c4, os ++ [(j, v)], hm, Nat.le_refl _, rfl, by simp, by simpa [flat] using ho4, hbb.trans (af.out.2.2.1.trans hb4), f⟩
    · have e : os = mrg ab := by rw [fin0.out, hos.out.1, List.take_of_length_le (by rw [← hN.out]; omega)]
      have fin : MrgPost w (mrg ab) (.returned (.slice A3 os.length c3)) wr := by
        rw [e] at ho ⊢
        exact ⟨A3, c3, rfl, own_base ho hwB, hbw3.trans (hb.mono hwB)⟩
      replace fin := Lib.hid fin
      replace e := Lib.hid e
      clear hos ho hb
      go_wp2
      go_ret
      exact fin.out
end Go.Proofs.YtpiegngjpnpohaaGreat.Mg

namespace Go.Proofs.YtpiegngjpnpohaaGreat.Wi
open Go.RowKit
set_option linter.unusedVariables false
def loI (n : Int) : Int := n % 18446744073709551616
def hU (n : Int) : Int := n / 18446744073709551616 % 18446744073709551616
def hiI (n : Int) : Int := (n / 18446744073709551616 + 9223372036854775808) % 18446744073709551616 - 9223372036854775808
def I128 (n : Int) : Value := .agg #[.int .i64 (hiI n), .int .u64 (loI n)]
def cA (a b : Int) : Int := (loI a + loI b) / 18446744073709551616
def cB (a b : Int) : Int := (hU a + hU b + cA a b) / 18446744073709551616
theorem wrap_hi (n : Int) : IntKind.u64.wrap (hiI n) = hU n := by rw [IntKind.wrap_u64]; unfold hiI hU; omega
theorem wrap_hU (n : Int) : IntKind.i64.wrap (hU n) = hiI n := by rw [IntKind.wrap_i64]; unfold hiI hU; omega
theorem run_add (x y c : Int) (hx : 0 ≤ x) (hy : 0 ≤ y) (h0 : 0 ≤ c) (h1 : c ≤ 1) (w : World) :
    (callFunc 161 #[.int .u64 x, .int .u64 y, .int .u64 c]).run Tryz.prog w =
      .ok (.value (.tuple #[.int .u64 ((x + y + c) % 18446744073709551616), .int .u64 ((x + y + c) / 18446744073709551616)])) w := by
  rw [run_callFunc_extern Tryz.func161 (by kernel_rfl) (by kernel_rfl) (by kernel_rfl) (e := add64Entry) (by kernel_rfl), run_add64 x y c hx hy h0 h1]
  rfl
theorem add_lo (a b : Int) (w : World) : (callFunc 161 #[.int .u64 (loI a), .int .u64 (loI b), .int .u64 0]).run Tryz.prog w = .ok (.value (.tuple #[.int .u64 (loI (a + b)), .int .u64 (cA a b)])) w := by
  rw [run_add _ _ _ (by unfold loI; omega) (by unfold loI; omega) (by omega) (by omega)]
  have e1 : (loI a + loI b + 0) % 18446744073709551616 = loI (a + b) := by unfold loI; omega
  have e2 : (loI a + loI b + 0) / 18446744073709551616 = cA a b := by unfold cA; omega
  rw [e1, e2]
theorem add_hi (a b : Int) (w : World) : (callFunc 161 #[.int .u64 (hU a), .int .u64 (hU b), .int .u64 (cA a b)]).run Tryz.prog w = .ok (.value (.tuple #[.int .u64 (hU (a + b)), .int .u64 (cB a b)])) w := by
  rw [run_add _ _ _ (by unfold hU; omega) (by unfold hU; omega) (by unfold cA loI; omega) (by unfold cA loI; omega)]
  have e1 : (hU a + hU b + cA a b) % 18446744073709551616 = hU (a + b) := by unfold hU cA loI; omega
  rw [e1]; rfl
theorem add_any (a b : Int) (w : World) :
    Calls Tryz.prog 112 #[I128 a, I128 b] w fun e w' => e = .returned (I128 (a + b)) ∧ Below w.heap.size w w' := by
  have c1 := add_lo a b
  have c2 := add_hi a b
  have e1 := wrap_hi a
  have e2 := wrap_hi b
  have e3 := wrap_hU (a + b)
  unfold I128
  go_enter Tryz.func112, Tryz.ntmps112
  go_wp2
  go_returns
  exact ⟨rfl, by go_grown⟩
theorem I128_zero : I128 0 = .agg #[.int .i64 0, .int .u64 0] := by simp [I128, hiI, loI]
theorem kept2 {B : Nat} {w w' : World} (b : Below B w w') {g : Nat} (x y : Value) (hg : g < B) (h0 : w.cell? ⟨g, 0, none⟩ = some x) (h1 : w.cell? ⟨g, 1, none⟩ = some y)
    (f0 : w.frozen? ⟨g, 0, none⟩ = false) (f1 : w.frozen? ⟨g, 1, none⟩ = false) :
    w'.cell? ⟨g, 0, none⟩ = some x ∧ w'.cell? ⟨g, 1, none⟩ = some y ∧ w'.frozen? ⟨g, 0, none⟩ = false ∧ w'.frozen? ⟨g, 1, none⟩ = false :=
  ⟨by rw [b.cell hg]; exact h0, by rw [b.cell hg]; exact h1, by rw [b.frozen hg]; exact f0, by rw [b.frozen hg]; exact f1⟩
theorem set2 {w : World} {g : Nat} {x y : Value} (h0 : w.cell? ⟨g, 0, none⟩ = some x) (h1 : w.cell? ⟨g, 1, none⟩ = some y) (u v : Value) :
    ((w.setCell ⟨g, 0, none⟩ u).setCell ⟨g, 1, none⟩ v).cell? ⟨g, 0, none⟩ = some u ∧ ((w.setCell ⟨g, 0, none⟩ u).setCell ⟨g, 1, none⟩ v).cell? ⟨g, 1, none⟩ = some v := by
  constructor
  · go_cell
  · go_cell
theorem joined {w w2 w' : World} (h : Below w.heap.size w w2) (b : Below w2.heap.size w2 w') : Below w.heap.size w w' := h.trans (b.mono h.size)
end Go.Proofs.YtpiegngjpnpohaaGreat.Wi

namespace Go.Proofs.YtpiegngjpnpohaaGreat.Wi
open Go.RowKit
set_option linter.unusedVariables false
def cmpI (a b : Int) : Int := if a = b then 0 else if a < b then -1 else 1
def In (a : Int) : Prop := -170141183460469231731687303715884105728 ≤ a ∧ a ≤ 170141183460469231731687303715884105727
theorem In.hi {a : Int} (h : In a) : hiI a = a / 18446744073709551616 := by unfold hiI; unfold In at h; omega
theorem cmp_cases {a b : Int} (ha : In a) (hb : In b) :
    (hiI a < hiI b ∧ cmpI a b = -1) ∨ (hiI b < hiI a ∧ cmpI a b = 1) ∨ (hiI a = hiI b ∧ loI a < loI b ∧ cmpI a b = -1) ∨ (hiI a = hiI b ∧ loI b < loI a ∧ cmpI a b = 1) ∨ (hiI a = hiI b ∧ loI a = loI b ∧ cmpI a b = 0) := by
  rw [ha.hi, hb.hi]
  unfold cmpI loI
  clear ha hb
  rcases Int.lt_trichotomy (a / 18446744073709551616) (b / 18446744073709551616) with h | h | h
  · exact .inl ⟨h, by rw [if_neg (by omega), if_pos (by omega)]⟩
  · rcases Int.lt_trichotomy (a % 18446744073709551616) (b % 18446744073709551616) with g | g | g
    · exact .inr (.inr (.inl ⟨h, g, by rw [if_neg (by omega), if_pos (by omega)]⟩))
    · exact .inr (.inr (.inr (.inr ⟨h, g, by rw [if_pos (by omega)]⟩)))
    · exact .inr (.inr (.inr (.inl ⟨h, g, by rw [if_neg (by omega), if_neg (by omega)]⟩)))
  · exact .inr (.inl ⟨h, by rw [if_neg (by omega), if_neg (by omega)]⟩)
theorem compare_walk (x y x' y' r : Int) (w : World)
    (h : (x < x' ∧ r = -1) ∨ (x' < x ∧ r = 1) ∨ (x = x' ∧ y < y' ∧ r = -1) ∨ (x = x' ∧ y' < y ∧ r = 1) ∨ (x = x' ∧ y = y' ∧ r = 0)) :
    Calls Tryz.prog 144 #[.agg #[.int .i64 x, .int .u64 y], .agg #[.int .i64 x', .int .u64 y']] w fun e w' => e = .returned (.int .i64 r) ∧ Below w.heap.size w w' := by
  rcases h with ⟨h, rfl⟩ | ⟨h, rfl⟩ | ⟨h, g, rfl⟩ | ⟨h, g, rfl⟩ | ⟨h, g, rfl⟩
  · have d1 : (x == x') = false := beq_eq_false_iff_ne.2 (by omega)
    go_enter Tryz.func144, Tryz.ntmps144
    go_wp2
    go_ret
    exact ⟨rfl, by go_grown⟩
  · have d1 : (x == x') = false := beq_eq_false_iff_ne.2 (by omega)
    have d2 : ¬ x < x' := by omega
    go_enter Tryz.func144, Tryz.ntmps144
    go_wp2
    go_ret
    exact ⟨rfl, by go_grown⟩
  · subst h
    have d1 : (y == y') = false := beq_eq_false_iff_ne.2 (by omega)
    go_enter Tryz.func144, Tryz.ntmps144
    go_wp2
    go_ret
    exact ⟨rfl, by go_grown⟩
  · subst h
    have d1 : (y == y') = false := beq_eq_false_iff_ne.2 (by omega)
    have d2 : ¬ y < y' := by omega
    go_enter Tryz.func144, Tryz.ntmps144
    go_wp2
    go_ret
    exact ⟨rfl, by go_grown⟩
  · subst h; subst g
    go_enter Tryz.func144, Tryz.ntmps144
    go_wp2
    go_ret
    exact ⟨rfl, by go_grown⟩
end Go.Proofs.YtpiegngjpnpohaaGreat.Wi

namespace Go.Proofs.YtpiegngjpnpohaaGreat.Wi
open Go.RowKit
set_option linter.unusedVariables false
theorem compare_any {a b : Int} (ha : In a) (hb : In b) (w : World) :
    Calls Tryz.prog 144 #[I128 a, I128 b] w fun e w' => e = .returned (.int .i64 (cmpI a b)) ∧ Below w.heap.size w w' :=
  compare_walk _ _ _ _ _ w (cmp_cases ha hb)
theorem rcompare_walk (x y x' y' r : Int) (w : World)
    (h : (x < x' ∧ r = -1) ∨ (x' < x ∧ r = 1) ∨ (x = x' ∧ y < y' ∧ r = -1) ∨ (x = x' ∧ y' < y ∧ r = 1) ∨ (x = x' ∧ y = y' ∧ r = 0)) :
    Calls Tryz.prog 158 #[.agg #[.int .i64 x, .int .u64 y], .agg #[.int .i64 x', .int .u64 y']] w fun e w' => e = .returned (.int .i64 r) ∧ Below w.heap.size w w' := by
  rcases h with ⟨h, rfl⟩ | ⟨h, rfl⟩ | ⟨h, g, rfl⟩ | ⟨h, g, rfl⟩ | ⟨h, g, rfl⟩
  · go_enter Tryz.func158, Tryz.ntmps158
    go_wp2
    go_ret
    exact ⟨rfl, by go_grown⟩
  · have d1 : (x == x') = false := beq_eq_false_iff_ne.2 (by omega)
    have d2 : ¬ x < x' := by omega
    go_enter Tryz.func158, Tryz.ntmps158
    go_wp2
    go_ret
    exact ⟨rfl, by go_grown⟩
  · subst h
    go_enter Tryz.func158, Tryz.ntmps158
    go_wp2
    go_ret
    exact ⟨rfl, by go_grown⟩
  · subst h
    have d1 : (y == y') = false := beq_eq_false_iff_ne.2 (by omega)
    have d2 : ¬ y < y' := by omega
    go_enter Tryz.func158, Tryz.ntmps158
    go_wp2
    go_ret
    exact ⟨rfl, by go_grown⟩
  · subst h; subst g
    go_enter Tryz.func158, Tryz.ntmps158
    go_wp2
    go_ret
    exact ⟨rfl, by go_grown⟩
theorem rcompare_any {a b : Int} (ha : In a) (hb : In b) (w : World) :
    Calls Tryz.prog 158 #[I128 a, I128 b] w fun e w' => e = .returned (.int .i64 (cmpI a b)) ∧ Below w.heap.size w w' :=
  rcompare_walk _ _ _ _ _ w (cmp_cases ha hb)
theorem in_zero : In 0 := by unfold In; omega
theorem sign_any {a : Int} (ha : In a) (w : World) :
    Calls Tryz.prog 89 #[I128 a] w fun e w' => e = .returned (.int .i64 (cmpI a 0)) ∧ Below w.heap.size w w' := by
  have c := compare_any ha in_zero
  rw [I128_zero] at c
  unfold I128 at c ⊢
  go_enter Tryz.func89, Tryz.ntmps89
  go_wp2_with fail
  refine (c _).mono ?_
  rintro e w' ⟨rfl, b⟩
  have bw := joined (w := w) (by go_grown) b
  go_wp2
  go_ret
  exact ⟨rfl, by go_grown⟩
theorem radd_any (a b : Int) (w : World) :
    Calls Tryz.prog 62 #[I128 a, I128 b] w fun e w' => e = .returned (I128 (a + b)) ∧ Below w.heap.size w w' := by
  have e1 := wrap_hi a
  have e2 := wrap_hi b
  have e3 := wrap_hU (a + b)
  have e4 : IntKind.u64.wrap (loI a + loI b) = loI (a + b) := by rw [IntKind.wrap_u64]; unfold loI; omega
  obtain ⟨x, hx⟩ : ∃ x, x = (hU a + hU b) % 18446744073709551616 := ⟨_, rfl⟩
  have e5 : IntKind.u64.wrap (hU a + hU b) = x := by rw [IntKind.wrap_u64, hx]
  by_cases h : loI (a + b) < loI a
  · have e6 : IntKind.u64.wrap (x + 1) = hU (a + b) := by rw [IntKind.wrap_u64, hx]; unfold hU; unfold loI at h; omega
    clear hx
    unfold I128
    go_enter Tryz.func62, Tryz.ntmps62
    go_wp2
    go_returns
    exact ⟨rfl, by go_grown⟩
  · have e6 : x = hU (a + b) := by rw [hx]; unfold hU; unfold loI at h; omega
    clear hx; subst e6
    unfold I128
    go_enter Tryz.func62, Tryz.ntmps62
    go_wp2
    go_returns
    exact ⟨rfl, by go_grown⟩
end Go.Proofs.YtpiegngjpnpohaaGreat.Wi
