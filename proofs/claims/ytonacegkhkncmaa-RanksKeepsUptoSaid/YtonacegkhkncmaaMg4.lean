/- Merge of package ranks: the walk. -/
import Derived.Test.YtonacegkhkncmaaMg3
namespace Go.Proofs.Ytonacegkhkncmaa.Mg
open Go.RowKit Go.Shelf Go.Sort Go.Proofs Go.Lib Go.Proofs.Ytonacegkhkncmaa.Sl Go.Proofs.Ytonacegkhkncmaa.Rk Go.Proofs.Ytonacegkhkncmaa.St
set_option linter.unusedVariables false

theorem flat_setN (r : List Cnt) (j n m : Int) : (flat (r ++ [(j, n)])).set (r.length * 2 + 1) (.int .u64 m) = flat (r ++ [(j, m)]) := by
  rw [flat_snoc, flat_snoc, List.set_append_right _ _ (by rw [flat_len]; omega), flat_len]
  simp

theorem cell_new (w : World) (cs : Array Value) (t : TypeId) (j : Nat) : (w.alloc (.cells cs t)).cell? ⟨w.heap.size, j, none⟩ = cs[j]? := by
  have e : (w.alloc (.cells cs t)).heap[w.heap.size]? = some (.cells cs t (0, 0)) := heap_alloc_new w _
  simp only [World.cell?, e]; rfl

/-- What an append of one count meets: the row, the count in a block of its own. -/
theorem app_facts {wr : World} {B2 : Nat} {s : Value} {n : Nat} {xs : List Value} (ho : wr.ownsRow B2 55 2 s n xs) (hB : B2 ≤ wr.heap.size) (o : Obj) (nq : Nat) (x : Cnt) :
    Hid ((((wr.alloc o).drewN nq).alloc (.cells #[.int .i64 x.1, .int .u64 x.2] 55)).ownsRow B2 55 2 s n xs ∧
      Rd (((wr.alloc o).drewN nq).alloc (.cells #[.int .i64 x.1, .int .u64 x.2] 55)) (wr.heap.size + 2) 2 (some ⟨wr.heap.size + 1, 0, none⟩) (flat [x]) 1 ∧
      RowKit.Below B2 wr (((wr.alloc o).drewN nq).alloc (.cells #[.int .i64 x.1, .int .u64 x.2] 55)) ∧ B2 ≤ (((wr.alloc o).drewN nq).alloc (.cells #[.int .i64 x.1, .int .u64 x.2] 55)).heap.size) := by
  have b : RowKit.Below B2 wr (((wr.alloc o).drewN nq).alloc (.cells #[.int .i64 x.1, .int .u64 x.2] 55)) := (below_drewN ((RowKit.Below.refl _ wr).alloc hB o) nq).alloc (Nat.le_trans hB ((RowKit.Below.refl B2 wr).alloc hB o).size) _
  refine ⟨World.ownsRow.alloc (w := (wr.alloc o).drewN nq) (ho.alloc o) _, ?_, b, Nat.le_trans hB b.size⟩
  have := Rd.new ((wr.alloc o).drewN nq) (flat [x]) 55 2 1 rfl
  have e : ((wr.alloc o).drewN nq).heap.size = wr.heap.size + 1 := by simp
  rw [e] at this
  exact this

set_option maxRecDepth 100000 in
set_option maxHeartbeats 4000000 in
theorem merge_any (w : World) (B : Nat) (A1 A2 : Option Addr) (a b : List Cnt) (c1 c2 : Nat) (h1 : Cs w B A1 a) (h2 : Cs w B A2 b) (hB : B ≤ w.heap.size) (hn : a.length + b.length ≤ 4194304) :
    Calls Try.prog 36 #[.slice A1 a.length c1, .slice A2 b.length c2] w (MrgPost w (mrg (a ++ b))) := by
  obtain ⟨i0, hi, hz0, hz1, hz2⟩ := info_parts infoCount
  have ha := rd_of_cs h1
  have hb := rd_of_cs h2
  have hok : Hid (∀ c ∈ a ++ b, okC c) := fun c hc => (List.mem_append.1 hc).elim (h1.ok c) (h2.ok c)
  have hl : (a ++ b).length ≤ 4194304 := by rw [List.length_append]; omega
  have cc := fun (w1 : World) (L : Nat) (hb1 : RowKit.Below B w w1) (hL : L < w1.heap.size) h1 h2 => concat_any w1 L A1 A2 a b c1 c2 hL h1 h2 ((ha.below hb1).mono (Nat.le_trans hB hb1.size)) ((hb.below hb1).mono (Nat.le_trans hB hb1.size)) hn
  replace cc := Lib.hid cc
  clear ha hb h1 h2 hn
  have e0 : Hid (∀ o, RowKit.Below w.heap.size w (w.alloc o)) := fun o => (RowKit.Below.refl _ _).alloc (Nat.le_refl _) o
  go_enter Try.func36, Try.ntmps36
  go_wp2_with fail
  refine (cc.out _ _ ((e0.out _).mono hB) (by simp) (cell_new _ _ _ _) (cell_new _ _ _ _)).mono ?_
  rintro e w1 ⟨A, c, rfl, ho, hb1⟩
  have hbw1 : RowKit.Below w.heap.size w w1 := (e0.out _).trans (hb1.mono (by simp))
  have ho1 := own_base (base' := w.heap.size) ho (by simp)
  clear hb1 ho cc e0
  generalize hab : a ++ b = ab at *
  replace hab := Lib.hid hab
  have cs := sort_any w1 w.heap.size A ab c ho1 hbw1.size hl
  clear ho1
  go_wp2_with fail
  refine cs.mono ?_
  rintro e w2 ⟨rfl, L, hp, hs, hr, hb2⟩
  clear cs
  have hbw2 := hbw1.trans hb2
  have hokL : ∀ c ∈ L, okC c := fun c hc => hok.out c (hp.mem_iff.1 hc)
  have hlen : L.length = ab.length := hp.length_eq
  rw [← hlen] at hl ⊢
  have fin0 : mrg ab = nz (clp L) := (mrg_of hs hp (okC_okN hok.out)).symm
  replace fin0 := Lib.hid fin0
  obtain ⟨N, hN⟩ : ∃ N, N = L.length := ⟨_, rfl⟩
  rw [← hN] at hl hr hlen ⊢
  obtain ⟨B2, hB2⟩ : ∃ B2, B2 = w2.heap.size := ⟨_, rfl⟩
  rw [← hB2] at hr
  have hwB : w.heap.size ≤ B2 := by rw [hB2]; exact hbw2.size
  have hokp : Hid (∀ c ∈ clp L, okC c) := okC_clp hs hokL
  have dl := fun (w3 : World) (A3 : Option Addr) (c3 : Nat) (o : w3.ownsRow B2 55 2 (.slice A3 (clp L).length c3) (clp L).length (flat (clp L))) (y : B2 ≤ w3.heap.size) => delete_any w3 B2 A3 (clp L) c3 o hokp.out y
  replace dl := Lib.hid dl
  replace hB2 := Lib.hid hB2
  replace hN := Lib.hid hN
  replace hs := Lib.hid hs
  clear hlen hp hok hokL hb2 hbw1 hab hokp
  go_wp2
  go_loopw [6, 17] (fun o i wr => ∃ (k : Nat) (A3 : Option Addr) (c3 : Nat) (os : List Cnt), k ≤ N ∧ i = .int .i64 k ∧ o = .slice A3 os.length c3 ∧ wr.ownsRow B2 55 2 (.slice A3 os.length c3) os.length (flat os) ∧ RowKit.Below B2 w2 wr ∧ Hid (os = clp (L.take k))) (fun _ i _ => N - (intOf i).toNat)
  case atStart => exact ⟨0, none, 0, [], Nat.zero_le _, rfl, rfl, World.ownsRow_nil w2 _ _ _, RowKit.Below.refl _ _, Lib.hid (by simp [clp])⟩
  case round =>
    obtain ⟨k, A3, c3, os, hk, rfl, rfl, ho, hb, hos⟩ := hrel
    have hBr : B2 ≤ wr.heap.size := by rw [hB2.out]; exact hb.size
    by_cases hlt : k < N
    · obtain ⟨bb, off, rfl, hbB, hc⟩ := (hr.below hb).cells (by omega)
      have hkL : k < L.length := by rw [← hN.out]; exact hlt
      obtain ⟨x, hx⟩ : ∃ x, x = L[k] := ⟨_, rfl⟩
      obtain ⟨f1, f2⟩ := flat_get L k x (by rw [hx]; exact List.getElem?_eq_getElem hkL)
      have k1 := hc _ _ f1
      have k2 := hc _ _ f2
      rw [← Nat.add_assoc] at k2
      have hnext : Hid (stp os x = clp (L.take (k + 1))) := Lib.hid (by rw [take_snoc hkL, clp_snoc, ← hos.out, hx])
      have hlast := clp_last hs.out hkL
      rw [← hos.out] at hlast
      have hosl : os.length ≤ k := by
        have := clp_len (L.take k)
        rw [← hos.out, List.length_take] at this; omega
      replace hx := Lib.hid hx
      obtain ⟨xj, xn⟩ := x
      simp only at k1 k2
      have below1 : ∀ o, RowKit.Below B2 wr (wr.alloc o) := fun o => (RowKit.Below.refl _ _).alloc hBr o
      rcases hlast with ⟨e1, rfl⟩ | ⟨r, j, n, e1, h0, m, hm⟩
      · have hd1 : decide ((0 : Int) < (k : Int)) = false := by rw [e1]; rfl
        have hd2 : decide (0 < k) = false := by rw [e1]; rfl
        replace below1 := Lib.hid below1
        replace e1 := Lib.hid e1
        clear hc f1 f2 hos
        go_wp2
        go_quiet (fail)
        have af := app_facts ho hBr (.cells #[.int .i64 xj, .int .u64 xn] 55) nq (xj, xn)
        clear ho
        go_wp2_with (at_builtin; refine wpList_append_rd rfl (.tmp 47) (.tmp 49) _ rfl B2 55 Try.underlying36 hi hz0 hz1 hz2 rfl (by decide) rfl af.out.1 rfl af.out.2.1 (flat_one _) (by unfold maxLen; simp) (by simp) af.out.2.2.2 ?_; intro A4 c4 w4 ho4 hb4 hs4)
        exact ⟨⟨k + 1, A4, c4, [(xj, xn)], by omega, by go_num, rfl, by simpa [flat] using ho4, hb.trans (af.out.2.2.1.trans hb4), Lib.hid (by rw [← hnext.out]; rfl)⟩, by simp [intOf]; omega⟩
      · obtain ⟨f3, f4⟩ := flat_get L (k - 1) (j, m) hm
        have k3 : ∀ o, (wr.alloc o).cell? ⟨bb, off + (k - 1) * 2, none⟩ = some (.int .i64 j) := fun o => ((below1 o).cell (p := ⟨bb, off + (k - 1) * 2, none⟩) hbB).trans (hc _ _ f3)
        replace below1 := Lib.hid below1
        obtain ⟨g, hA⟩ : ∃ g, A3 = some ⟨g, 0, none⟩ := by
          rcases ho.2 with ⟨h1, h2⟩ | ⟨g, cap', cur, h1, h2⟩
          · rw [e1] at h2; simp at h2
          · cases h1; exact ⟨g, rfl⟩
        subst hA
        have hg : B2 ≤ g := (ho.lt g rfl).1
        subst e1
        have hi1 : 1 ≤ (k : Int) := by omega
        have hi2 : (k : Int) - 1 < (N : Int) := by omega
        have hd1 : decide ((0 : Int) < (k : Int)) = true := decide_eq_true (by omega)
        have hd2 : decide (0 < k) = true := decide_eq_true h0
        have gg : ∀ o nq, g < ((wr.alloc o).drewN nq).heap.size := fun o nq => by have := (ho.lt g rfl).2; simp; omega
        by_cases hj : j = xj
        · subst hj
          have hjj : (j == j) = true := beq_self_eq_true _
          rw [stp_same] at hnext
          have own2 := fun o nq => World.ownsRow.stored (w := (wr.alloc o).drewN nq) (u := .int .u64 ((n + xn) % two64)) (ho.alloc o) (r.length * 2 + 1)
          have q1 : ∀ o nq, ((wr.alloc o).drewN nq).cell? ⟨g, r.length * 2 + 1, none⟩ = some (.int .u64 n) := fun o nq => by
            have := World.ownsRow.cellAt (w := (wr.alloc o).drewN nq) (g := g) (ho.alloc o) (r.length * 2 + 1) (by simp; omega)
            rw [this]
            exact (flat_get _ r.length (j, n) (by simp)).2
          have q2 : ∀ o nq, ((wr.alloc o).drewN nq).frozen? ⟨g, r.length * 2 + 1, none⟩ = false := fun o nq => World.ownsRow.frozenAt (w := (wr.alloc o).drewN nq) (ho.alloc o) _
          replace own2 := Lib.hid own2
          clear hc f1 f2 f3 f4 hm hos
          simp only [List.length_append, List.length_cons, List.length_nil, Nat.zero_add] at *
          replace h0 := Lib.hid h0
          have y1 : (0 : Int) ≤ (k : Int) - 1 := by omega
          have y2 : ((k : Int) - 1).toNat = k - 1 := by omega
          have y3 : IntKind.i64.wrap ((k : Int) - 1) = (k : Int) - 1 := IntWalk.i64_in _ (by omega)
          go_wp2
          go_quiet (fail)
          clear y1 y2 y3
          have q3 := q1 (.cells #[.int .i64 j, .int .u64 xn] 55) nq
          have q4 := q2 (.cells #[.int .i64 j, .int .u64 xn] 55) nq
          have q5 := gg (.cells #[.int .i64 j, .int .u64 xn] 55) nq
          clear q1 q2 gg k1 k2 k3 hd1 hd2 hi1 hi2
          have q6 : ((wr.alloc (.cells #[.int .i64 j, .int .u64 xn] 55)).drewN nq).cell? ⟨wr.heap.size, 1, none⟩ = some (.int .u64 xn) := by rw [World.cell?_drewN, cell_new]; rfl
          obtain ⟨W, hW⟩ : ∃ W, W = (wr.alloc (.cells #[.int .i64 j, .int .u64 xn] 55)).drewN nq := ⟨_, rfl⟩
          have own3 := own2.out (.cells #[.int .i64 j, .int .u64 xn] 55) nq
          rw [← hW] at q3 q4 q5 q6 own3 ⊢
          replace own3 := Lib.hid own3
          clear own2
          replace hW := Lib.hid hW
          go_wp2
          go_region
          go_wp2
          have ew : IntKind.u64.wrap (n + xn) = (n + xn) % two64 := by rw [IntKind.wrap_u64]; rfl
          have e2 := own3.out.1
          rw [flat_setN] at e2
          have hbW : RowKit.Below B2 wr W := by rw [hW.out]; exact below_drewN (below1.out _) nq
          exact ⟨⟨k + 1, some ⟨g, 0, none⟩, c3, r ++ [(j, (n + xn) % two64)], by omega, by go_num, by simp, by rw [ew]; simp only [List.length_append, List.length_cons, List.length_nil, Nat.zero_add]; exact e2, hb.trans ((hbW.setCell (p := ⟨g, r.length * 2 + 1, none⟩) hg _).drew), hnext⟩, by simp [intOf]; omega⟩
        · have hjj : (j == xj) = false := beq_eq_false_iff_ne.2 hj
          rw [stp_other _ _ _ hj] at hnext
          clear hc f1 f2 f3 f4 hm hos
          simp only [List.length_append, List.length_cons, List.length_nil, Nat.zero_add] at *
          replace h0 := Lib.hid h0
          have g1 : r.length + 1 + 1 ≤ maxLen := by unfold maxLen; omega
          have g2 : (r.length + 1 + 1) * 16 ≤ 140737488355328 := by omega
          have y1 : (0 : Int) ≤ (k : Int) - 1 := by omega
          have y2 : ((k : Int) - 1).toNat = k - 1 := by omega
          have y3 : IntKind.i64.wrap ((k : Int) - 1) = (k : Int) - 1 := IntWalk.i64_in _ (by omega)
          go_wp2
          go_quiet (fail)
          clear y1 y2 y3
          have af := app_facts ho hBr (.cells #[.int .i64 xj, .int .u64 xn] 55) nq (xj, xn)
          clear ho k1 k2 k3 hd1 hd2 hi1 hi2
          go_wp2_with (at_builtin; refine wpList_append_rd rfl (.tmp 47) (.tmp 49) _ rfl B2 55 Try.underlying36 hi hz0 hz1 hz2 rfl (by decide) rfl af.out.1 rfl af.out.2.1 (flat_one _) g1 g2 af.out.2.2.2 ?_; intro A4 c4 w4 ho4 hb4 hs4)
          exact ⟨⟨k + 1, A4, c4, r ++ [(j, n), (xj, xn)], by omega, by go_num, by simp, by simpa [flat] using ho4, hb.trans (af.out.2.2.1.trans hb4), hnext⟩, by simp [intOf]; omega⟩
    · have e : os = clp L := by rw [hos.out, List.take_of_length_le (by rw [← hN.out]; omega)]
      clear hos
      subst e
      have d := dl.out wr A3 c3 ho hBr
      replace d := Lib.hid d
      clear dl ho
      have hbr : Hid (RowKit.Below B2 w2 wr) := hb
      clear hb
      go_wp2_with fail
      refine d.out.mono ?_
      rintro e w' ⟨A, rfl, o, hb'⟩
      go_wp2
      go_ret
      rw [← fin0.out] at o ⊢
      refine ⟨A, c3, rfl, own_base o hwB, hbw2.trans ((hbr.out.mono hwB).trans (hb'.mono hwB))⟩
end Go.Proofs.Ytonacegkhkncmaa.Mg
