/- The law's own sorting of numbers. -/
import Derived.Test.YtonacegkhkncmaaRk0
import Derived.Test.YtonacegkhkncmaaSl
namespace Go.Proofs.Ytonacegkhkncmaa.Rk
open Go.RowKit Go.Proofs.Ytonacegkhkncmaa.Sl
set_option linter.unusedVariables false

theorem infoI64 : (Try.prog.info? 2).map (fun i => (i.zero, i.size, i.bytes)) = some (some (.int .i64 0), 1, 8) := by kernel_rfl

/-- Numbers as cells. -/
def ic (l : List Int) : List Value := l.map (Value.int .i64)
theorem ic_len (l : List Int) : (ic l).length = l.length := by simp [ic]
theorem ic_one (l : List Int) : ∀ u ∈ ic l, u.oneCell' = true := by
  intro u hu
  obtain ⟨x, _, rfl⟩ := List.mem_map.1 hu
  rfl
theorem ic_take (l : List Int) (k : Nat) : (ic l).take (k * 1) = ic (l.take k) := by simp [ic, List.map_take]
theorem ic_drop (l : List Int) (k : Nat) : (ic l).drop (k * 1) = ic (l.drop k) := by simp [ic, List.map_drop]

/-- What sorted answers: new memory of its own; the same numbers, rising. -/
def SortPost (w : World) (l : List Int) (e : Ending) (w' : World) : Prop :=
  ∃ A c ys, e = .returned (.slice A l.length c) ∧ w'.ownsRow w.heap.size 2 1 (.slice A l.length c) l.length (ic ys) ∧ ys.Perm l ∧ ys.Pairwise (· ≤ ·) ∧ Below w.heap.size w w'

/-- The merging loop's state. -/
structure Merg (l us bs os : List Int) : Prop where
  perm : (os ++ (us ++ bs)).Perm l
  s1 : us.Pairwise (· ≤ ·)
  s2 : bs.Pairwise (· ≤ ·)
  s3 : os.Pairwise (· ≤ ·)
  le : ∀ o ∈ os, ∀ x ∈ us ++ bs, o ≤ x

theorem Merg.len {l us bs os : List Int} (h : Merg l us bs os) : os.length + us.length + bs.length = l.length := by
  have := h.perm.length_eq
  simp at this; omega
theorem pw_snoc {os : List Int} {x : Int} (h : os.Pairwise (· ≤ ·)) (hx : ∀ o ∈ os, o ≤ x) : (os ++ [x]).Pairwise (· ≤ ·) :=
  List.pairwise_append.2 ⟨h, List.pairwise_singleton _ _, fun a ha b hb => by rw [List.mem_singleton.1 hb]; exact hx a ha⟩
theorem Merg.left {l us bs os : List Int} {x y : Int} (h : Merg l (x :: us) (y :: bs) os) (hxy : x ≤ y) : Merg l us (y :: bs) (os ++ [x]) := by
  have h1 := List.pairwise_cons.1 h.s1
  have h2 := List.pairwise_cons.1 h.s2
  refine ⟨by have := h.perm; simpa using this, h1.2, h.s2, pw_snoc h.s3 (fun o ho => h.le o ho x (by simp)), fun o ho z hz => ?_⟩
  rcases List.mem_append.1 ho with ho | ho
  · exact h.le o ho z (by simp at hz ⊢; rcases hz with hz | hz | hz <;> simp [hz])
  · rw [List.mem_singleton.1 ho]
    simp at hz
    rcases hz with hz | rfl | hz
    · exact h1.1 z hz
    · exact hxy
    · have := h2.1 z hz; omega
theorem Merg.right {l us bs os : List Int} {x y : Int} (h : Merg l (x :: us) (y :: bs) os) (hxy : ¬ x ≤ y) : Merg l (x :: us) bs (os ++ [y]) := by
  have h1 := List.pairwise_cons.1 h.s1
  have h2 := List.pairwise_cons.1 h.s2
  refine ⟨?_, h.s1, h2.2, pw_snoc h.s3 (fun o ho => h.le o ho y (by simp)), fun o ho z hz => ?_⟩
  · have := h.perm
    refine List.Perm.trans ?_ this
    rw [List.append_assoc]
    refine List.Perm.append_left os ?_
    exact (List.perm_middle (a := y) (l₁ := x :: us) (l₂ := bs)).symm
  rcases List.mem_append.1 ho with ho | ho
  · exact h.le o ho z (by simp at hz ⊢; rcases hz with hz | hz | hz <;> simp [hz])
  · rw [List.mem_singleton.1 ho]
    simp at hz
    rcases hz with rfl | hz | hz
    · omega
    · have := h1.1 z hz; omega
    · exact h2.1 z hz
theorem Merg.done {l us bs os : List Int} (h : Merg l us bs os) (h0 : us = [] ∨ bs = []) : (os ++ us ++ bs).Perm l ∧ (os ++ us ++ bs).Pairwise (· ≤ ·) := by
  refine ⟨by rw [List.append_assoc]; exact h.perm, ?_⟩
  rcases h0 with rfl | rfl
  · simp only [List.append_nil]
    exact List.pairwise_append.2 ⟨h.s3, h.s2, fun a ha b hb => h.le a ha b (by simp [hb])⟩
  · simp only [List.append_nil]
    exact List.pairwise_append.2 ⟨h.s3, h.s1, fun a ha b hb => h.le a ha b (by simp [hb])⟩

def lenOf : Value → Nat
  | .slice _ n _ => n
  | _ => 0

theorem sorted_small (w : World) (B : Nat) (A : Option Addr) (l : List Int) (cap : Nat) (h2 : l.length < 2) (h : Rd w B 1 A (ic l) l.length) :
    Calls Try.prog 22 #[.slice A l.length cap] w (SortPost w l) := by
  obtain ⟨i0, hi, hz0, hz1, hz2⟩ := info_parts infoI64
  have hp : l.Pairwise (· ≤ ·) := by
    match l, h2 with
    | [], _ => simp
    | [a], _ => simp
  replace hp := Lib.hid hp
  go_enter Try.func22, Try.ntmps22
  go_wp2_with (at_builtin; refine wpList_append_rd rfl _ _ _ rfl w.heap.size 2 Try.underlying32 hi hz0 hz1 hz2 rfl (by decide) rfl (World.ownsRow_nil w _ _ _) rfl h (ic_one l) (by unfold maxLen; omega) (by omega) (Nat.le_refl _) ?_; intro A1 c1 w1 ho1 hb1 hs1)
  go_ret
  exact ⟨A1, c1, l, by simp, by simpa using ho1, List.Perm.refl _, hp.out, hb1⟩

set_option maxHeartbeats 1000000 in
theorem sorted_any : ∀ (f : Nat) (w : World) (B : Nat) (A : Option Addr) (l : List Int) (cap : Nat), l.length ≤ f → Rd w B 1 A (ic l) l.length → l.length ≤ cap → cap ≤ maxLen → l.length * 8 ≤ 140737488355328 → B ≤ w.heap.size →
    Calls Try.prog 22 #[.slice A l.length cap] w (SortPost w l) := by
  intro f
  induction f with
  | zero => intro w B A l cap hf h hc _ h8 hB; exact sorted_small w B A l cap (by omega) h
  | succ f ih =>
    intro w B A l cap hf h hc hcm h8 hB
    by_cases h2 : l.length < 2
    · exact sorted_small w B A l cap h2 h
    obtain ⟨i0, hi, hz0, hz1, hz2⟩ := info_parts infoI64
    unfold maxLen at hcm
    have t1 := run_head 32 2 Try.underlying32 hi hz1 A l.length cap (l.length / 2) (by omega) ((l.length : Int) / 2) (by omega)
    have t2 := run_cut 32 2 Try.underlying32 hi hz1 A l.length cap (l.length / 2) (by omega) ((l.length : Int) / 2) (by omega)
    have r1 := h.take (k := l.length / 2) (by omega)
    have r2 := h.cut (k := l.length / 2) (cap := cap) (by omega) hc
    rw [ic_take] at r1
    rw [ic_drop] at r2
    have e1 : (l.take (l.length / 2)).length = l.length / 2 := by rw [List.length_take]; omega
    have e2 : (l.drop (l.length / 2)).length = l.length - l.length / 2 := by rw [List.length_drop]
    have c1 := ih w B A (l.take (l.length / 2)) cap (by omega) (by rw [e1]; exact r1) (by omega) (by unfold maxLen; omega) (by omega) hB
    rw [e1] at c1
    have c2 := fun (w1 : World) (hb : Below w.heap.size w w1) => ih w1 B (cutA A (l.length / 2) cap 1) (l.drop (l.length / 2)) (cap - l.length / 2) (by omega) (by rw [e2]; exact r2.below (hb.mono hB)) (by omega) (by unfold maxLen; omega) (by omega) (Nat.le_trans hB hb.size)
    rw [e2] at c2
    clear ih r1 r2
    replace e1 := Lib.hid e1; replace e2 := Lib.hid e2
    replace c2 := Lib.hid c2
    go_enter Try.func22, Try.ntmps22
    go_wp2_with fail
    refine c1.mono ?_
    rintro e w1 ⟨A1, k1, us, rfl, o1, p1, s1, hb1⟩
    rw [e1.out] at o1 ⊢
    clear c1 t1
    go_wp2_with fail
    refine (c2.out w1 hb1).mono ?_
    rintro e w2 ⟨A2, k2, bs, rfl, o2, p2, s2, hb2⟩
    rw [e2.out] at o2 ⊢
    clear c2 t2
    obtain ⟨_, _, x1, x2, x3, x4⟩ := own_form o1
    cases x1
    obtain ⟨_, _, y1, y2, y3, y4⟩ := own_form o2
    cases y1
    have hl1 : us.length = l.length / 2 := by rw [p1.length_eq, e1.out]
    have hl2 : bs.length = l.length - l.length / 2 := by rw [p2.length_eq, e2.out]
    have ra : Rd w2 w2.heap.size 1 A1 (ic us) (l.length / 2) := ((Rd.of_own o1 (fun g hg => (x4 g hg).2.1)).below hb2).mono hb2.size
    have rb : Rd w2 w2.heap.size 1 A2 (ic bs) (l.length - l.length / 2) := Rd.of_own o2 (fun g hg => (y4 g hg).2.1)
    have hbw : Below w.heap.size w w2 := hb1.trans (hb2.mono hb1.size)
    have hp : (us ++ bs).Perm l := by
      have := p1.append p2
      rwa [List.take_append_drop] at this
    clear o1 o2 x4 y4 p1 p2 hb1 hb2 h
    have hm : Merg l us bs [] := ⟨hp, s1, s2, List.Pairwise.nil, fun o ho => absurd ho (by simp)⟩
    rw [← hl2] at y2 rb ⊢
    rw [← hl1] at x2 ra ⊢
    clear hp s1 s2 hl1 hl2
    replace hm := Lib.hid hm
    obtain ⟨B2, hB2⟩ : ∃ B2, B2 = w2.heap.size := ⟨_, rfl⟩
    rw [← hB2] at ra rb
    have hwB : w.heap.size ≤ B2 := by rw [hB2]; exact hbw.size
    replace hB2 := Lib.hid hB2
    unfold maxLen at x3 y3
    have ho0 : (w2.alloc (.cells #[] 2)).ownsRow B2 2 1 (.slice (some ⟨w2.heap.size, 0, none⟩) 0 0) 0 (ic []) := World.ownsRow_lit w2 #[] 0 (by rw [hB2.out]; exact Nat.le_refl _) (by decide) rfl
    go_wp2_with fail
    go_loopw [3, 4, 5] (fun a b o wr => ∃ (A1 A2 A3 : Option Addr) (k1 k2 k3 : Nat) (us bs os : List Int), a = .slice A1 us.length k1 ∧ b = .slice A2 bs.length k2 ∧ o = .slice A3 os.length k3 ∧ us.length ≤ k1 ∧ k1 ≤ 2 ^ 63 - 1 ∧ bs.length ≤ k2 ∧ k2 ≤ 2 ^ 63 - 1 ∧
      Rd wr B2 1 A1 (ic us) us.length ∧ Rd wr B2 1 A2 (ic bs) bs.length ∧ wr.ownsRow B2 2 1 (.slice A3 os.length k3) os.length (ic os) ∧ Below B2 w2 wr ∧ Hid (Merg l us bs os)) (fun a b _ _ => lenOf a + lenOf b)
    case atStart =>
      exact ⟨A1, A2, _, k1, k2, _, us, bs, [], rfl, rfl, rfl, x2, x3, y2, y3, ra.below ((Below.refl _ _).alloc (Nat.le_of_eq hB2.out) _), rb.below ((Below.refl _ _).alloc (Nat.le_of_eq hB2.out) _), ho0, (Below.refl _ _).alloc (Nat.le_of_eq hB2.out) _, hm⟩
    case round =>
      clear ra rb ho0 hm x2 x3 y2 y3
      obtain ⟨A1, A2, A3, k1, k2, k3, us, bs, os, rfl, rfl, rfl, x2, x3, y2, y3, ra, rb, ho, hb, hm⟩ := hrel
      have hlen := hm.out.len
      have hsz := hb.size
      have hBr : B2 ≤ wr.heap.size := by rw [hB2.out]; exact hsz
      by_cases hnil : us = [] ∨ bs = []
      · have hd := hm.out.done hnil
        have g1 : os.length + us.length ≤ maxLen := by unfold maxLen; omega
        have g2 : (os.length + us.length) * 8 ≤ 140737488355328 := by omega
        have g3 : os.length + us.length + bs.length ≤ maxLen := by unfold maxLen; omega
        have g4 : (os.length + us.length + bs.length) * 8 ≤ 140737488355328 := by omega
        have hfin : ∀ (A5 : Option Addr) (c5 : Nat) (w5 : World), w5.ownsRow B2 2 1 (.slice A5 (os.length + us.length + bs.length) c5) (os.length + us.length + bs.length) (ic os ++ ic us ++ ic bs) → Below B2 w2 w5 →
            SortPost w l (.returned (.slice A5 (os.length + us.length + bs.length) c5)) w5 := fun A5 c5 w5 o5 b5 =>
          ⟨A5, c5, os ++ us ++ bs, by rw [hlen], own_base (by rw [hlen] at o5; simpa [ic] using o5) hwB, hd.1, hd.2, hbw.trans (b5.mono hwB)⟩
        replace hd := Lib.hid hd
        replace hlen := Lib.hid hlen
        replace hfin := Lib.hid hfin
        have ht1 : decide (0 < us.length) = false ∨ (decide (0 < us.length) = true ∧ decide (0 < bs.length) = false) := by
          by_cases h0 : us = []
          · exact .inl (by simp [h0])
          · have hz : bs = [] := hnil.resolve_left h0
            have := List.length_pos_iff.2 h0
            exact .inr ⟨decide_eq_true (by omega), by simp [hz]⟩
        replace hnil := Lib.hid hnil
        rcases ht1 with ht1 | ⟨ht1, ht2⟩
        all_goals
          go_wp2_with (first | (at_builtin; refine wpList_append_rd rfl (.tmp 55) (.tmp 56) _ rfl B2 2 Try.underlying32 hi hz0 hz1 hz2 rfl (by decide) rfl ho rfl ra (ic_one _) g1 g2 hBr ?_; intro A4 c4 w4 ho4 hb4 hs4; have rb4 := rb.below hb4; have hb4' := hb.trans hb4; have hBr4 : B2 ≤ w4.heap.size := Nat.le_trans hBr hs4) | (at_builtin; refine wpList_append_rd rfl (.tmp 58) (.tmp 59) _ rfl B2 2 Try.underlying32 hi hz0 hz1 hz2 rfl (by decide) rfl ho4 rfl rb4 (ic_one _) g3 g4 hBr4 ?_; intro A5 c5 w5 ho5 hb5 hs5; have hb5' := hb4'.trans hb5))
          go_ret
          exact hfin.out _ _ _ ho5 hb5'
      · obtain ⟨x, us, rfl⟩ : ∃ x u, us = x :: u := by
          cases us with
          | nil => exact absurd (Or.inl rfl) hnil
          | cons x u => exact ⟨x, u, rfl⟩
        obtain ⟨y, bs, rfl⟩ : ∃ x u, bs = x :: u := by
          cases bs with
          | nil => exact absurd (Or.inr rfl) hnil
          | cons x u => exact ⟨x, u, rfl⟩
        clear hnil
        obtain ⟨b1, f1, rfl, q1, q2⟩ := ra.cells (by simp)
        obtain ⟨b2, f2, rfl, q3, q4⟩ := rb.cells (by simp)
        have c1 : wr.cell? ⟨b1, f1, none⟩ = some (.int .i64 x) := q2 0 (.int .i64 x) rfl
        have c2 : wr.cell? ⟨b2, f2, none⟩ = some (.int .i64 y) := q4 0 (.int .i64 y) rfl
        clear q2 q4
        simp only [List.length_cons] at x2 y2 ra rb hlen
        have p1 : decide (0 < us.length + 1) = true := decide_eq_true (by omega)
        have p2 : decide (0 < bs.length + 1) = true := decide_eq_true (by omega)
        have g1 : os.length + 1 ≤ maxLen := by unfold maxLen; omega
        have g2 : (os.length + 1) * 8 ≤ 140737488355328 := by omega
        have t1 := run_cut 32 2 Try.underlying32 hi hz1 (some ⟨b1, f1, none⟩) (us.length + 1) k1 1 (by omega) 1 rfl
        have t2 := run_cut 32 2 Try.underlying32 hi hz1 (some ⟨b2, f2, none⟩) (bs.length + 1) k2 1 (by omega) 1 rfl
        have ra1 := ra.cut (k := 1) (by omega) x2
        have rb1 := rb.cut (k := 1) (by omega) y2
        simp only [Nat.add_sub_cancel] at t1 t2 ra1 rb1
        rw [ic_drop] at ra1 rb1
        simp only [List.drop_succ_cons, List.drop_zero] at ra1 rb1
        obtain ⟨C1, hC1⟩ : ∃ C, C = cutA (some ⟨b1, f1, none⟩) 1 k1 1 := ⟨_, rfl⟩
        obtain ⟨C2, hC2⟩ : ∃ C, C = cutA (some ⟨b2, f2, none⟩) 1 k2 1 := ⟨_, rfl⟩
        rw [← hC1] at t1 ra1
        rw [← hC2] at t2 rb1
        clear hC1 hC2
        have x2' : us.length ≤ k1 - 1 := by omega
        have y2' : bs.length ≤ k2 - 1 := by omega
        have hlen' := Lib.hid hlen
        by_cases hxy : x ≤ y
        · have hm' := hm.out.left hxy
          replace hm' := Lib.hid hm'
          clear hm hlen
          go_wp2
          go_quiet (fail)
          have hown : ((wr.drewN nq).alloc (.cells #[.int .i64 x] 2)).ownsRow B2 2 1 (.slice A3 os.length k3) os.length (ic os) := World.ownsRow.alloc (w := wr.drewN nq) ho _
          have hnew := Rd.new (wr.drewN nq) [.int .i64 x] 2 1 1 rfl
          have hbn : Below B2 wr ((wr.drewN nq).alloc (.cells #[.int .i64 x] 2)) := (below_drewN (Below.refl _ wr) nq).alloc hBr _
          have hszn : B2 ≤ ((wr.drewN nq).alloc (.cells #[.int .i64 x] 2)).heap.size := Nat.le_trans hBr hbn.size
          go_wp2_with (at_builtin; refine wpList_append_rd rfl (.tmp 39) (.tmp 43) _ rfl B2 2 Try.underlying32 hi hz0 hz1 hz2 rfl (by decide) rfl hown rfl hnew (ic_one [x]) g1 g2 hszn ?_; intro A4 c4 w4 ho4 hb4 hs4)
          have hbb := hbn.trans hb4
          have ho5 : w4.ownsRow B2 2 1 (.slice A4 (os ++ [x]).length c4) (os ++ [x]).length (ic (os ++ [x])) := by simpa [ic] using ho4
          exact ⟨⟨C1, some ⟨b2, f2, none⟩, A4, k1 - 1, k2, c4, us, y :: bs, os ++ [x], rfl, rfl, by simp, x2', by omega, y2, y3, ra1.below hbb, rb.below hbb, ho5, hb.trans hbb, hm'⟩, by simp [lenOf]⟩
        · have hm' := hm.out.right hxy
          replace hm' := Lib.hid hm'
          clear hm hlen
          go_wp2
          go_quiet (fail)
          have hown : ((wr.drewN nq).alloc (.cells #[.int .i64 y] 2)).ownsRow B2 2 1 (.slice A3 os.length k3) os.length (ic os) := World.ownsRow.alloc (w := wr.drewN nq) ho _
          have hnew := Rd.new (wr.drewN nq) [.int .i64 y] 2 1 1 rfl
          have hbn : Below B2 wr ((wr.drewN nq).alloc (.cells #[.int .i64 y] 2)) := (below_drewN (Below.refl _ wr) nq).alloc hBr _
          have hszn : B2 ≤ ((wr.drewN nq).alloc (.cells #[.int .i64 y] 2)).heap.size := Nat.le_trans hBr hbn.size
          go_wp2_with (at_builtin; refine wpList_append_rd rfl (.tmp 47) (.tmp 51) _ rfl B2 2 Try.underlying32 hi hz0 hz1 hz2 rfl (by decide) rfl hown rfl hnew (ic_one [y]) g1 g2 hszn ?_; intro A4 c4 w4 ho4 hb4 hs4)
          have hbb := hbn.trans hb4
          have ho5 : w4.ownsRow B2 2 1 (.slice A4 (os ++ [y]).length c4) (os ++ [y]).length (ic (os ++ [y])) := by simpa [ic] using ho4
          exact ⟨⟨some ⟨b1, f1, none⟩, C2, A4, k1, k2 - 1, c4, x :: us, bs, os ++ [y], rfl, rfl, by simp, x2, x3, y2', by omega, ra.below hbb, rb1.below hbb, ho5, hb.trans hbb, hm'⟩, by simp [lenOf]⟩
end Go.Proofs.Ytonacegkhkncmaa.Rk
