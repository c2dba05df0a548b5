/- The law's own counting of sorted values by their buckets. -/
import Derived.Test.YtonacegkhkncmaaRkP
import Derived.Test.YtonacegkhkncmaaRkS
namespace Go.Proofs.Ytonacegkhkncmaa.Rk
open Go.RowKit Go.Proofs.Ytonacegkhkncmaa.Sl Go.Proofs.Ytonacegkhkncmaa.Bk
set_option linter.unusedVariables false

theorem infoCount : (Try.prog.info? 55).map (fun i => (i.zero, i.size, i.bytes)) = some (some (.agg #[.int .i64 0, .int .u64 0]), 2, 16) := by kernel_rfl

theorem flat_one (l : List (Int × Int)) : ∀ u ∈ flat l, u.oneCell' = true := by
  intro u hu
  obtain ⟨c, _, h⟩ := List.mem_flatMap.1 hu
  simp at h
  rcases h with rfl | rfl <;> rfl
theorem flat_snoc (l : List (Int × Int)) (c : Int × Int) : flat (l ++ [c]) = flat l ++ [.int .i64 c.1, .int .u64 c.2] := by simp [flat]

/-- What counted answers: new memory; the counts. -/
def CountPost (w : World) (p : Int) (l : List Int) (e : Ending) (w' : World) : Prop :=
  ∃ A c, e = .returned (.slice A (cntK (l.map (idxI p))).length c) ∧ w'.ownsRow w.heap.size 55 2 (.slice A (cntK (l.map (idxI p))).length c) (cntK (l.map (idxI p))).length (flat (cntK (l.map (idxI p)))) ∧ Below w.heap.size w w'

theorem cnt_small {p : Int} (hp : good p) {l : List Int} (hs : (l.map (idxI p)).Pairwise (· ≤ ·)) (hl : ∀ x ∈ l, 0 ≤ x ∧ x ≤ 9223372036854775807) : (∀ c ∈ cntK (l.map (idxI p)), 0 ≤ c.1 ∧ c.1 < lenI p ∧ 1 ≤ c.2) ∧ (cntK (l.map (idxI p))).length ≤ 1048576 ∧ sumN (cntK (l.map (idxI p))) = l.length := by
  have hi := inv_of_sorted _ hs
  have hmem : ∀ c ∈ cntK (l.map (idxI p)), 0 ≤ c.1 ∧ c.1 < lenI p := by
    intro c hc
    have h1 := hi.pos c hc
    have : c.1 ∈ expand (cntK (l.map (idxI p))) := List.mem_flatMap.2 ⟨c, hc, by simp; omega⟩
    rw [hi.exp] at this
    obtain ⟨x, hx, e⟩ := List.mem_map.1 this
    obtain ⟨h2, h3⟩ := hl x hx
    have hf := holds_facts hp h2 h3
    rw [← e]; exact ⟨hf.2.2.2.2.1, hf.2.2.2.2.2.1⟩
  have hN := lenI_rng p
  refine ⟨fun c hc => ⟨(hmem c hc).1, (hmem c hc).2, hi.pos c hc⟩, ?_, ?_⟩
  · have := rise_len ((cntK (l.map (idxI p))).map (·.1)) 0 (lenI p) hi.rise (fun x hx => by
      obtain ⟨c, hc, rfl⟩ := List.mem_map.1 hx
      exact hmem c hc)
    rw [List.length_map] at this; omega
  · rw [← expand_len _ hi.pos, hi.exp, List.length_map]

theorem mem_le_sum : ∀ (l : List (Int × Int)), (∀ c ∈ l, 1 ≤ c.2) → ∀ c ∈ l, c.2 ≤ sumN l
  | [], _, c, hc => absurd hc (by simp)
  | d :: r, h, c, hc => by
    have h1 := h d (by simp)
    have e : sumN (d :: r) = d.2 + sumN r := by simp [sumN]
    have hr : 0 ≤ sumN r := by
      cases r with
      | nil => simp [sumN]
      | cons f t => have := mem_le_sum (f :: t) (fun x hx => h x (by simp [hx])) f (by simp); have := h f (by simp); omega
    rcases List.mem_cons.1 hc with rfl | hc
    · omega
    · have := mem_le_sum r (fun x hx => h x (by simp [hx])) c hc; omega
theorem flat_set (r : List (Int × Int)) (j n m : Int) : (flat (r ++ [(j, n)])).set (r.length * 2 + 1) (.int .u64 m) = flat (r ++ [(j, m)]) := by
  rw [flat_snoc, flat_snoc, List.set_append_right _ _ (by rw [flat_len]; omega), flat_len]
  simp

set_option maxHeartbeats 1000000 in
theorem counted_any (w : World) (B : Nat) (p : Int) (A : Option Addr) (l : List Int) (cap : Nat) (hp : good p) (hl : Rd w B 1 A (ic l) l.length) (hlen : l.length ≤ 9223372036854775807) (hs : (l.map (idxI p)).Pairwise (· ≤ ·)) (hx : ∀ x ∈ l, 0 ≤ x ∧ x ≤ 9223372036854775807) (hB : B ≤ w.heap.size) :
    Calls Try.prog 23 #[.int .i64 p, .slice A l.length cap] w (CountPost w p l) := by
  obtain ⟨i0, hi, hz0, hz1, hz2⟩ := info_parts infoCount
  have ho0 : (w.alloc (.cells #[] 55)).ownsRow w.heap.size 55 2 (.slice (some ⟨w.heap.size, 0, none⟩) 0 0) 0 (flat []) := World.ownsRow_lit w #[] 0 (Nat.le_refl _) (by decide) rfl
  replace hs := Lib.hid hs
  replace hx := Lib.hid hx
  go_enter Try.func23, Try.ntmps23
  go_wp2_with fail
  go_loopw [5, 6] (fun o i wr => ∃ (k : Nat) (A3 : Option Addr) (c3 : Nat) (cs : List (Int × Int)), k ≤ l.length ∧ i = .int .i64 k ∧ o = .slice A3 cs.length c3 ∧ wr.ownsRow w.heap.size 55 2 (.slice A3 cs.length c3) cs.length (flat cs) ∧ Below w.heap.size w wr ∧ Hid (cs = cntK ((l.take k).map (idxI p)))) (fun _ i _ => l.length - (intOf i).toNat)
  case atStart => exact ⟨0, _, _, [], Nat.zero_le _, rfl, rfl, ho0, (Below.refl _ _).alloc (Nat.le_refl _) _, rfl⟩
  case round =>
    clear ho0
    obtain ⟨k, A3, c3, cs, hk, rfl, rfl, ho, hb, hcs⟩ := hrel
    by_cases hlt : k < l.length
    · obtain ⟨b, off, rfl, hbB, hc⟩ := (hl.below (hb.mono hB)).cells (by omega)
      have h1 := hc k (.int .i64 l[k]) (by simp [ic, hlt])
      clear hc
      obtain ⟨x1, x2⟩ := hx.out l[k] (List.getElem_mem hlt)
      have hnext : cntK ((l.take (k + 1)).map (idxI p)) = stepC cs (idxI p l[k]) := by
        rw [take_snoc hlt, List.map_append]
        simp only [List.map_cons, List.map_nil]
        rw [cntK_snoc, ← hcs.out]
      have hsm := cnt_small hp (l := l.take (k + 1)) (by rw [List.map_take]; exact List.Pairwise.sublist (List.take_sublist _ _) hs.out) (fun x h => hx.out x (List.mem_of_mem_take h))
      have hsm0 := cnt_small hp (l := l.take k) (by rw [List.map_take]; exact List.Pairwise.sublist (List.take_sublist _ _) hs.out) (fun x h => hx.out x (List.mem_of_mem_take h))
      rw [hnext] at hsm
      rw [← hcs.out] at hsm0
      have ci := rindex_any p l[k] x2
      generalize l[k] = x at *
      generalize idxI p x = j at *
      replace hnext := Lib.hid hnext
      rcases List.eq_nil_or_concat cs with rfl | ⟨r, ⟨j0, n0⟩, rfl⟩
      · have g1 : 0 + 1 ≤ maxLen := by decide
        have g2 : (0 + 1) * 16 ≤ 140737488355328 := by decide
        clear hsm hsm0 hcs
        go_wp2_with fail
        refine (ci _).mono ?_; rintro e w1 ⟨rfl, nq, rfl⟩
        have hown : ((wr.drewN nq).alloc (.cells #[.int .i64 j, .int .u64 1] 55)).ownsRow w.heap.size 55 2 (.slice A3 0 c3) 0 (flat []) := World.ownsRow.alloc (w := wr.drewN nq) ho _
        have hnew : Rd ((wr.drewN nq).alloc (.cells #[.int .i64 j, .int .u64 1] 55)) (wr.heap.size + 1) 2 (some ⟨wr.heap.size, 0, none⟩) (flat [(j, 1)]) 1 := Rd.new (wr.drewN nq) (flat [(j, 1)]) 55 2 1 rfl
        have hbn : Below w.heap.size wr ((wr.drewN nq).alloc (.cells #[.int .i64 j, .int .u64 1] 55)) := (below_drewN (Below.refl _ wr) nq).alloc hb.size _
        have hszn : w.heap.size ≤ ((wr.drewN nq).alloc (.cells #[.int .i64 j, .int .u64 1] 55)).heap.size := Nat.le_trans hb.size hbn.size
        go_wp2_with (at_builtin; refine wpList_append_rd rfl (.tmp 49) (.tmp 52) _ rfl w.heap.size 55 Try.underlying36 hi hz0 hz1 hz2 rfl (by decide) rfl hown rfl hnew (flat_one _) g1 g2 hszn ?_; intro A4 c4 w4 ho4 hb4 hs4)
        exact ⟨⟨k + 1, A4, c4, [(j, 1)], by omega, by go_num, rfl, by simpa [flat] using ho4, hb.trans (hbn.trans hb4), hnext.out.symm⟩, by simp [intOf]; omega⟩
      · rw [List.concat_eq_append] at *
        obtain ⟨m1, m2, m3⟩ := hsm0
        have hn0 := m1 (j0, n0) (by simp)
        simp only at hn0
        have hsumle : n0 ≤ k := by
          have := mem_le_sum _ (fun c hc => (m1 c hc).2.2) (j0, n0) (by simp)
          rw [m3, List.length_take] at this
          simp only at this; omega
        obtain ⟨g, hA⟩ : ∃ g, A3 = some ⟨g, 0, none⟩ := by
          obtain ⟨A', c', e1, e2, e3, e4⟩ := own_form ho
          cases e1
          rcases ho.2 with ⟨h1, h2⟩ | ⟨g, cap', cur, h1, h2⟩
          · simp at h2
          · cases h1; exact ⟨g, rfl⟩
        subst hA
        have hg : w.heap.size ≤ g := (ho.lt g rfl).1
        have k1 : wr.cell? ⟨g, r.length * 2, none⟩ = some (.int .i64 j0) := by
          rw [ho.cellAt (r.length * 2) (by simp)]
          exact (flat_get _ r.length (j0, n0) (by simp)).1
        have k2 : wr.cell? ⟨g, r.length * 2 + 1, none⟩ = some (.int .u64 n0) := by
          rw [ho.cellAt (r.length * 2 + 1) (by simp; omega)]
          exact (flat_get _ r.length (j0, n0) (by simp)).2
        have k3 : wr.frozen? ⟨g, r.length * 2 + 1, none⟩ = false := ho.frozenAt _
        simp only [List.length_append, List.length_cons, List.length_nil, Nat.zero_add] at ho m2
        have hpos : decide (0 < r.length + 1) = true := decide_eq_true (by omega)
        clear hcs m3
        replace m1 := Lib.hid m1; replace hsm := Lib.hid hsm
        by_cases hj : j0 = j
        · subst hj
          rw [stepC_same] at hnext
          have hjj : (j0 == j0) = true := beq_self_eq_true _
          go_wp2_with fail
          refine (ci _).mono ?_; rintro e w1 ⟨rfl, nq, rfl⟩
          have hst := (World.ownsRow.stored (w := wr.drewN nq) (u := .int .u64 (n0 + 1)) ho (r.length * 2 + 1)).1
          rw [flat_set] at hst
          replace hst := Lib.hid hst
          go_wp2
          exact ⟨⟨k + 1, some ⟨g, 0, none⟩, c3, r ++ [(j0, n0 + 1)], by omega, by go_num, by simp, by simpa using hst.out, (below_drewN hb nq).setCell (p := ⟨g, r.length * 2 + 1, none⟩) hg _, hnext.out.symm⟩, by simp [intOf]; omega⟩
        · rw [stepC_other _ _ _ _ hj] at hnext
          have hjj : (j0 == j) = false := beq_eq_false_iff_ne.2 hj
          have g1 : r.length + 1 + 1 ≤ maxLen := by unfold maxLen; omega
          have g2 : (r.length + 1 + 1) * 16 ≤ 140737488355328 := by omega
          go_wp2_with fail
          refine (ci _).mono ?_; rintro e w1 ⟨rfl, nq, rfl⟩
          have hown : ((wr.drewN nq).alloc (.cells #[.int .i64 j, .int .u64 1] 55)).ownsRow w.heap.size 55 2 (.slice (some ⟨g, 0, none⟩) (r.length + 1) c3) (r.length + 1) (flat (r ++ [(j0, n0)])) := World.ownsRow.alloc (w := wr.drewN nq) ho _
          have hnew : Rd ((wr.drewN nq).alloc (.cells #[.int .i64 j, .int .u64 1] 55)) (wr.heap.size + 1) 2 (some ⟨wr.heap.size, 0, none⟩) (flat [(j, 1)]) 1 := Rd.new (wr.drewN nq) (flat [(j, 1)]) 55 2 1 rfl
          have hbn : Below w.heap.size wr ((wr.drewN nq).alloc (.cells #[.int .i64 j, .int .u64 1] 55)) := (below_drewN (Below.refl _ wr) nq).alloc hb.size _
          have hszn : w.heap.size ≤ ((wr.drewN nq).alloc (.cells #[.int .i64 j, .int .u64 1] 55)).heap.size := Nat.le_trans hb.size hbn.size
          go_wp2_with (at_builtin; refine wpList_append_rd rfl (.tmp 49) (.tmp 52) _ rfl w.heap.size 55 Try.underlying36 hi hz0 hz1 hz2 rfl (by decide) rfl hown rfl hnew (flat_one _) g1 g2 hszn ?_; intro A4 c4 w4 ho4 hb4 hs4)
          exact ⟨⟨k + 1, A4, c4, r ++ [(j0, n0)] ++ [(j, 1)], by omega, by go_num, by simp, by simpa [flat] using ho4, hb.trans (hbn.trans hb4), hnext.out.symm⟩, by simp [intOf]; omega⟩
    · have e : cs = cntK (l.map (idxI p)) := by rw [hcs.out, List.take_of_length_le (by omega)]
      clear hcs
      subst e
      go_wp2
      go_ret
      exact ⟨A3, c3, rfl, ho, hb⟩
end Go.Proofs.Ytonacegkhkncmaa.Rk
