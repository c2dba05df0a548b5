/- Lemmas for the laws of this seat, laid together of Mg4, Mg5, Mg6, Wi0, Wi1, Wi2, Sn0, Sn1. -/
import Derived.Test.YtpiegngjpnpohaaGreatK02
import Derived.Test.YtpiegngjpnpohaaGreatK04
import Derived.Test.YtpiegngjpnpohaaGreatK06
import Derived.Test.YtpiegngjpnpohaaGreatK09
import Derived.Test.YtpiegngjpnpohaaGreatK11
import Derived.Test.YtpiegngjpnpohaaGreatK13
import Derived.Test.YtpiegngjpnpohaaGreatK16
import Derived.Test.YtpiegngjpnpohaaGreatProg
import Derived.WalkKit
import Derived.ProofKit
import Derived.Below
import Derived.Handy
import Derived.Laws.Externs
import Derived.Shelf.Spec.BitsCarry
import Derived.Deep.RegionHeld3
import Derived.Deep.DeepCutAuto

namespace Go.Proofs.YtpiegngjpnpohaaGreat.Mg
open Go.RowKit Go.Shelf Go.Sort Go.Proofs Go.Lib Go.Proofs.YtpiegngjpnpohaaGreat.Sl Go.Proofs.YtpiegngjpnpohaaGreat.Rk Go.Proofs.YtpiegngjpnpohaaGreat.St
set_option linter.unusedVariables false
theorem flat_setN (r : List Cnt) (j n m : Int) : (flat (r ++ [(j, n)])).set (r.length * 2 + 1) (.int .u64 m) = flat (r ++ [(j, m)]) := by
  rw [flat_snoc, flat_snoc, List.set_append_right _ _ (by rw [flat_len]; omega), flat_len]
  simp
theorem cell_new (w : World) (cs : Array Value) (t : TypeId) (j : Nat) : (w.alloc (.cells cs t)).cell? ⟨w.heap.size, j, none⟩ = cs[j]? := by
  have e : (w.alloc (.cells cs t)).heap[w.heap.size]? = some (.cells cs t (0, 0)) := heap_alloc_new w _
  simp only [World.cell?, e]; rfl
theorem app_facts {wr : World} {B2 : Nat} {s : Value} {n : Nat} {xs : List Value} (ho : wr.ownsRow B2 54 2 s n xs) (hB : B2 ≤ wr.heap.size) (o : Obj) (nq : Nat) (x : Cnt) :
    Hid ((((wr.alloc o).drewN nq).alloc (.cells #[.int .i64 x.1, .int .u64 x.2] 54)).ownsRow B2 54 2 s n xs ∧
      Rd (((wr.alloc o).drewN nq).alloc (.cells #[.int .i64 x.1, .int .u64 x.2] 54)) (wr.heap.size + 2) 2 (some ⟨wr.heap.size + 1, 0, none⟩) (flat [x]) 1 ∧
      RowKit.Below B2 wr (((wr.alloc o).drewN nq).alloc (.cells #[.int .i64 x.1, .int .u64 x.2] 54)) ∧ B2 ≤ (((wr.alloc o).drewN nq).alloc (.cells #[.int .i64 x.1, .int .u64 x.2] 54)).heap.size) := by
  have b : RowKit.Below B2 wr (((wr.alloc o).drewN nq).alloc (.cells #[.int .i64 x.1, .int .u64 x.2] 54)) := (below_drewN ((RowKit.Below.refl _ wr).alloc hB o) nq).alloc (Nat.le_trans hB ((RowKit.Below.refl B2 wr).alloc hB o).size) _
  refine ⟨World.ownsRow.alloc (w := (wr.alloc o).drewN nq) (ho.alloc o) _, ?_, b, Nat.le_trans hB b.size⟩
  have := Rd.new ((wr.alloc o).drewN nq) (flat [x]) 54 2 1 rfl
  have e : ((wr.alloc o).drewN nq).heap.size = wr.heap.size + 1 := by simp
  rw [e] at this
  exact this
set_option maxRecDepth 100000 in
set_option maxHeartbeats 4000000 in
theorem merge_any (w : World) (B : Nat) (A1 A2 : Option Addr) (a b : List Cnt) (c1 c2 : Nat) (h1 : Cs w B A1 a) (h2 : Cs w B A2 b) (hB : B ≤ w.heap.size) (hn : a.length + b.length ≤ 4194304) :
    Calls Tryz.prog 113 #[.slice A1 a.length c1, .slice A2 b.length c2] w (MrgPost w (mrg (a ++ b))) := by
  obtain ⟨i0, hi, hz0, hz1, hz2⟩ := info_parts infoCount
  have ha := rd_of_cs h1
  have hb := rd_of_cs h2
  have hok : Hid (∀ c ∈ a ++ b, okC c) := fun c hc => (List.mem_append.1 hc).elim (h1.ok c) (h2.ok c)
  have hl : (a ++ b).length ≤ 4194304 := by rw [List.length_append]; omega
  have cc := fun (w1 : World) (L : Nat) (hb1 : RowKit.Below B w w1) (hL : L < w1.heap.size) h1 h2 => concat_any w1 L A1 A2 a b c1 c2 hL h1 h2 ((ha.below hb1).mono (Nat.le_trans hB hb1.size)) ((hb.below hb1).mono (Nat.le_trans hB hb1.size)) hn
  replace cc := Lib.hid cc
  clear ha hb h1 h2 hn
  have e0 : Hid (∀ o, RowKit.Below w.heap.size w (w.alloc o)) := fun o => (RowKit.Below.refl _ _).alloc (Nat.le_refl _) o
  go_enter Tryz.func113, Tryz.ntmps113
  go_wp2_with fail
  refine (cc.out _ _ ((e0.out _).mono hB) (by simp) (cell_new _ _ _ _) (cell_new _ _ _ _)).mono ?_
  rintro e w1 ⟨A, c, rfl, ho, hb1⟩
  have hbw1 : RowKit.Below w.heap.size w w1 := (e0.out _).trans (hb1.mono (by simp))
  have ho1 := own_base (base' := w.heap.size) ho (by simp)
  clear hb1 ho cc e0
  generalize hab : a ++ b = ab at *
  replace hab := Lib.hid hab
  have cs := sort_any w1 w.heap.size A ab c ho1 hbw1.size hl
  clear ho1
  go_wp2_with fail
  refine cs.mono ?_
  rintro e w2 ⟨rfl, L, hp, hs, hr, hb2⟩
  clear cs
  have hbw2 := hbw1.trans hb2
  have hokL : ∀ c ∈ L, okC c := fun c hc => hok.out c (hp.mem_iff.1 hc)
  have hlen : L.length = ab.length := hp.length_eq
  rw [← hlen] at hl ⊢
  have fin0 : mrg ab = nz (clp L) := (mrg_of hs hp (okC_okN hok.out)).symm
  replace fin0 := Lib.hid fin0
  obtain ⟨N, hN⟩ : ∃ N, N = L.length := ⟨_, rfl⟩
  rw [← hN] at hl hr hlen ⊢
  obtain ⟨B2, hB2⟩ : ∃ B2, B2 = w2.heap.size := ⟨_, rfl⟩
  rw [← hB2] at hr
  have hwB : w.heap.size ≤ B2 := by rw [hB2]; exact hbw2.size
  have hokp : Hid (∀ c ∈ clp L, okC c) := okC_clp hs hokL
  have dl := fun (w3 : World) (A3 : Option Addr) (c3 : Nat) (o : w3.ownsRow B2 54 2 (.slice A3 (clp L).length c3) (clp L).length (flat (clp L))) (y : B2 ≤ w3.heap.size) => delete_any w3 B2 A3 (clp L) c3 o hokp.out y
  replace dl := Lib.hid dl
  replace hB2 := Lib.hid hB2
  replace hN := Lib.hid hN
  replace hs := Lib.hid hs
  clear hlen hp hok hokL hb2 hbw1 hab hokp
  go_wp2
  go_loopw [6, 17] (fun o i wr => ∃ (k : Nat) (A3 : Option Addr) (c3 : Nat) (os : List Cnt), k ≤ N ∧ i = .int .i64 k ∧ o = .slice A3 os.length c3 ∧ wr.ownsRow B2 54 2 (.slice A3 os.length c3) os.length (flat os) ∧ RowKit.Below B2 w2 wr ∧ Hid (os = clp (L.take k))) (fun _ i _ => N - (intOf i).toNat)
  case atStart => exact ⟨0, none, 0, [], Nat.zero_le _, rfl, rfl, World.ownsRow_nil w2 _ _ _, RowKit.Below.refl _ _, Lib.hid (by simp [clp])⟩
  case round =>
    obtain ⟨k, A3, c3, os, hk, rfl, rfl, ho, hb, hos⟩ := hrel
    have hBr : B2 ≤ wr.heap.size := by rw [hB2.out]; exact hb.size
    by_cases hlt : k < N
    · obtain ⟨bb, off, rfl, hbB, hc⟩ := (hr.below hb).cells (by omega)
      have hkL : k < L.length := by rw [← hN.out]; exact hlt
      obtain ⟨x, hx⟩ : ∃ x, x = L[k] := ⟨_, rfl⟩
      obtain ⟨f1, f2⟩ := flat_get L k x (by rw [hx]; exact List.getElem?_eq_getElem hkL)
      have k1 := hc _ _ f1
      have k2 := hc _ _ f2
      rw [← Nat.add_assoc] at k2
      have hnext : Hid (stp os x = clp (L.take (k + 1))) := Lib.hid (by rw [take_snoc hkL, clp_snoc, ← hos.out, hx])
      have hlast := clp_last hs.out hkL
      rw [← hos.out] at hlast
      have hosl : os.length ≤ k := by
        have := clp_len (L.take k)
        rw [← hos.out, List.length_take] at this; omega
      replace hx := Lib.hid hx
      obtain ⟨xj, xn⟩ := x
      simp only at k1 k2
      have below1 : ∀ o, RowKit.Below B2 wr (wr.alloc o) := fun o => (RowKit.Below.refl _ _).alloc hBr o
      rcases hlast with ⟨e1, rfl⟩ | ⟨r, j, n, e1, h0, m, hm⟩
      · have hd1 : decide ((0 : Int) < (k : Int)) = false := by rw [e1]; rfl
        have hd2 : decide (0 < k) = false := by rw [e1]; rfl
        replace below1 := Lib.hid below1
        replace e1 := Lib.hid e1
        clear hc f1 f2 hos
        go_wp2
        go_quiet (fail)
        have af := app_facts ho hBr (.cells #[.int .i64 xj, .int .u64 xn] 54) nq (xj, xn)
        clear ho
        go_wp2_with (at_builtin; refine wpList_append_rd rfl (.tmp 47) (.tmp 49) _ rfl B2 54 Tryz.underlying46 hi hz0 hz1 hz2 rfl (by decide) rfl af.out.1 rfl af.out.2.1 (flat_one _) (by unfold maxLen; simp) (by simp) af.out.2.2.2 ?_; intro A4 c4 w4 ho4 hb4 hs4)
        exact ⟨⟨k + 1, A4, c4, [(xj, xn)], by omega, by go_num, rfl, by simpa [flat] using ho4, hb.trans (af.out.2.2.1.trans hb4), Lib.hid (by rw [← hnext.out]; rfl)⟩, by simp [intOf]; omega⟩
      · obtain ⟨f3, f4⟩ := flat_get L (k - 1) (j, m) hm
        have k3 : ∀ o, (wr.alloc o).cell? ⟨bb, off + (k - 1) * 2, none⟩ = some (.int .i64 j) := fun o => ((below1 o).cell (p := ⟨bb, off + (k - 1) * 2, none⟩) hbB).trans (hc _ _ f3)
        replace below1 := Lib.hid below1
        obtain ⟨g, hA⟩ : ∃ g, A3 = some ⟨g, 0, none⟩ := by
          rcases ho.2 with ⟨h1, h2⟩ | ⟨g, cap', cur, h1, h2⟩
          · rw [e1] at h2; simp at h2
          · cases h1; exact ⟨g, rfl⟩
        subst hA
        have hg : B2 ≤ g := (ho.lt g rfl).1
        subst e1
        have hi1 : 1 ≤ (k : Int) := by omega
        have hi2 : (k : Int) - 1 < (N : Int) := by omega
        have hd1 : decide ((0 : Int) < (k : Int)) = true := decide_eq_true (by omega)
        have hd2 : decide (0 < k) = true := decide_eq_true h0
        have gg : ∀ o nq, g < ((wr.alloc o).drewN nq).heap.size := fun o nq => by have := (ho.lt g rfl).2; simp; omega
        by_cases hj : j = xj
        · subst hj
          have hjj : (j == j) = true := beq_self_eq_true _
          rw [stp_same] at hnext
          have own2 := fun o nq => World.ownsRow.stored (w := (wr.alloc o).drewN nq) (u := .int .u64 ((n + xn) % two64)) (ho.alloc o) (r.length * 2 + 1)
          have q1 : ∀ o nq, ((wr.alloc o).drewN nq).cell? ⟨g, r.length * 2 + 1, none⟩ = some (.int .u64 n) := fun o nq => by
            have := World.ownsRow.cellAt (w := (wr.alloc o).drewN nq) (g := g) (ho.alloc o) (r.length * 2 + 1) (by simp; omega)
            rw [this]
            exact (flat_get _ r.length (j, n) (by simp)).2
          have q2 : ∀ o nq, ((wr.alloc o).drewN nq).frozen? ⟨g, r.length * 2 + 1, none⟩ = false := fun o nq => World.ownsRow.frozenAt (w := (wr.alloc o).drewN nq) (ho.alloc o) _
          replace own2 := Lib.hid own2
          clear hc f1 f2 f3 f4 hm hos
          simp only [List.length_append, List.length_cons, List.length_nil, Nat.zero_add] at *
          replace h0 := Lib.hid h0
          have y1 : (0 : Int) ≤ (k : Int) - 1 := by omega
          have y2 : ((k : Int) - 1).toNat = k - 1 := by omega
          have y3 : IntKind.i64.wrap ((k : Int) - 1) = (k : Int) - 1 := IntWalk.i64_in _ (by omega)
          go_wp2
          go_quiet (fail)
          clear y1 y2 y3
          have q3 := q1 (.cells #[.int .i64 j, .int .u64 xn] 54) nq
          have q4 := q2 (.cells #[.int .i64 j, .int .u64 xn] 54) nq
          have q5 := gg (.cells #[.int .i64 j, .int .u64 xn] 54) nq
          clear q1 q2 gg k1 k2 k3 hd1 hd2 hi1 hi2
          have q6 : ((wr.alloc (.cells #[.int .i64 j, .int .u64 xn] 54)).drewN nq).cell? ⟨wr.heap.size, 1, none⟩ = some (.int .u64 xn) := by rw [World.cell?_drewN, cell_new]; rfl
          obtain ⟨W, hW⟩ : ∃ W, W = (wr.alloc (.cells #[.int .i64 j, .int .u64 xn] 54)).drewN nq := ⟨_, rfl⟩
          have own3 := own2.out (.cells #[.int .i64 j, .int .u64 xn] 54) nq
          rw [← hW] at q3 q4 q5 q6 own3 ⊢
          replace own3 := Lib.hid own3
          clear own2
          replace hW := Lib.hid hW
          go_wp2
          go_region
          go_wp2
          have ew : IntKind.u64.wrap (n + xn) = (n + xn) % two64 := by rw [IntKind.wrap_u64]; rfl
          have e2 := own3.out.1
          rw [flat_setN] at e2
          have hbW : RowKit.Below B2 wr W := by rw [hW.out]; exact below_drewN (below1.out _) nq
          exact ⟨⟨k + 1, some ⟨g, 0, none⟩, c3, r ++ [(j, (n + xn) % two64)], by omega, by go_num, by simp, by rw [ew]; simp only [List.length_append, List.length_cons, List.length_nil, Nat.zero_add]; exact e2, hb.trans ((hbW.setCell (p := ⟨g, r.length * 2 + 1, none⟩) hg _).drew), hnext⟩, by simp [intOf]; omega⟩
        · have hjj : (j == xj) = false := beq_eq_false_iff_ne.2 hj
          rw [stp_other _ _ _ hj] at hnext
          clear hc f1 f2 f3 f4 hm hos
          simp only [List.length_append, List.length_cons, List.length_nil, Nat.zero_add] at *
          replace h0 := Lib.hid h0
          have g1 : r.length + 1 + 1 ≤ maxLen := by unfold maxLen; omega
          have g2 : (r.length + 1 + 1) * 16 ≤ 140737488355328 := by omega
          have y1 : (0 : Int) ≤ (k : Int) - 1 := by omega
          have y2 : ((k : Int) - 1).toNat = k - 1 := by omega
          have y3 : IntKind.i64.wrap ((k : Int) - 1) = (k : Int) - 1 := IntWalk.i64_in _ (by omega)
          go_wp2
          go_quiet (fail)
          clear y1 y2 y3
          have af := app_facts ho hBr (.cells #[.int .i64 xj, .int .u64 xn] 54) nq (xj, xn)
          clear ho k1 k2 k3 hd1 hd2 hi1 hi2
          go_wp2_with (at_builtin; refine wpList_append_rd rfl (.tmp 47) (.tmp 49) _ rfl B2 54 Tryz.underlying46 hi hz0 hz1 hz2 rfl (by decide) rfl af.out.1 rfl af.out.2.1 (flat_one _) g1 g2 af.out.2.2.2 ?_; intro A4 c4 w4 ho4 hb4 hs4)
          exact ⟨⟨k + 1, A4, c4, r ++ [(j, n), (xj, xn)], by omega, by go_num, by simp, by simpa [flat] using ho4, hb.trans (af.out.2.2.1.trans hb4), hnext⟩, by simp [intOf]; omega⟩
    · have e : os = clp L := by rw [hos.out, List.take_of_length_le (by rw [← hN.out]; omega)]
      clear hos
      subst e
      have d := dl.out wr A3 c3 ho hBr
      replace d := Lib.hid d
      clear dl ho
      have hbr : Hid (RowKit.Below B2 w2 wr) := hb
      clear hb
      go_wp2_with fail
      refine d.out.mono ?_
      rintro e w' ⟨A, rfl, o, hb'⟩
      go_wp2
      go_ret
      rw [← fin0.out] at o ⊢
      refine ⟨A, c3, rfl, own_base o hwB, hbw2.trans ((hbr.out.mono hwB).trans (hb'.mono hwB))⟩
end Go.Proofs.YtpiegngjpnpohaaGreat.Mg

namespace Go.Proofs.YtpiegngjpnpohaaGreat.Mg
open Go.RowKit Go.Proofs.YtpiegngjpnpohaaGreat.Sl Go.Proofs.YtpiegngjpnpohaaGreat.Rk Go.Proofs.YtpiegngjpnpohaaGreat.St
set_option linter.unusedVariables false
structure Merg (l us bs os : List Cnt) : Prop where
  perm : (os ++ (us ++ bs)).Perm l
  s1 : us.Pairwise (fun x y => x.1 ≤ y.1)
  s2 : bs.Pairwise (fun x y => x.1 ≤ y.1)
  s3 : os.Pairwise (fun x y => x.1 ≤ y.1)
  le : ∀ o ∈ os, ∀ x ∈ us ++ bs, o.1 ≤ x.1
theorem Merg.len {l us bs os : List Cnt} (h : Merg l us bs os) : os.length + us.length + bs.length = l.length := by
  have := h.perm.length_eq
  simp at this; omega
theorem pw_snoc {os : List Cnt} {x : Cnt} (h : os.Pairwise (fun x y => x.1 ≤ y.1)) (hx : ∀ o ∈ os, o.1 ≤ x.1) : (os ++ [x]).Pairwise (fun x y => x.1 ≤ y.1) :=
  List.pairwise_append.2 ⟨h, List.pairwise_singleton _ _, fun a ha b hb => by rw [List.mem_singleton.1 hb]; exact hx a ha⟩
theorem Merg.left {l us bs os : List Cnt} {x y : Cnt} (h : Merg l (x :: us) (y :: bs) os) (hxy : x.1 ≤ y.1) : Merg l us (y :: bs) (os ++ [x]) := by
  have h1 := List.pairwise_cons.1 h.s1
  have h2 := List.pairwise_cons.1 h.s2
  refine ⟨by have := h.perm; simpa using this, h1.2, h.s2, pw_snoc h.s3 (fun o ho => h.le o ho x (by simp)), fun o ho z hz => ?_⟩
  rcases List.mem_append.1 ho with ho | ho
  · exact h.le o ho z (by simp at hz ⊢; rcases hz with hz | hz | hz <;> simp [hz])
  · rw [List.mem_singleton.1 ho]
    simp at hz
    rcases hz with hz | rfl | hz
    · exact h1.1 z hz
    · exact hxy
    · have := h2.1 z hz; omega
theorem Merg.right {l us bs os : List Cnt} {x y : Cnt} (h : Merg l (x :: us) (y :: bs) os) (hxy : ¬ x.1 ≤ y.1) : Merg l (x :: us) bs (os ++ [y]) := by
  have h1 := List.pairwise_cons.1 h.s1
  have h2 := List.pairwise_cons.1 h.s2
  refine ⟨?_, h.s1, h2.2, pw_snoc h.s3 (fun o ho => h.le o ho y (by simp)), fun o ho z hz => ?_⟩
  · have := h.perm
    refine List.Perm.trans ?_ this
    rw [List.append_assoc]
    refine List.Perm.append_left os ?_
    exact (List.perm_middle (a := y) (l₁ := x :: us) (l₂ := bs)).symm
  rcases List.mem_append.1 ho with ho | ho
  · exact h.le o ho z (by simp at hz ⊢; rcases hz with hz | hz | hz <;> simp [hz])
  · rw [List.mem_singleton.1 ho]
    simp at hz
    rcases hz with rfl | hz | hz
    · omega
    · have := h1.1 z hz; omega
    · exact h2.1 z hz
theorem Merg.done {l us bs os : List Cnt} (h : Merg l us bs os) (h0 : us = [] ∨ bs = []) : (os ++ us ++ bs).Perm l ∧ (os ++ us ++ bs).Pairwise (fun x y => x.1 ≤ y.1) := by
  refine ⟨by rw [List.append_assoc]; exact h.perm, ?_⟩
  rcases h0 with rfl | rfl
  · simp only [List.append_nil]
    exact List.pairwise_append.2 ⟨h.s3, h.s2, fun a ha b hb => h.le a ha b (by simp [hb])⟩
  · simp only [List.append_nil]
    exact List.pairwise_append.2 ⟨h.s3, h.s1, fun a ha b hb => h.le a ha b (by simp [hb])⟩
def lenOf : Value → Nat
  | .slice _ n _ => n
  | _ => 0
end Go.Proofs.YtpiegngjpnpohaaGreat.Mg

namespace Go.Proofs.YtpiegngjpnpohaaGreat.Mg
open Go.RowKit Go.Shelf Go.Sort Go.Proofs Go.Lib Go.Proofs.YtpiegngjpnpohaaGreat.Sl Go.Proofs.YtpiegngjpnpohaaGreat.Rk Go.Proofs.YtpiegngjpnpohaaGreat.St
set_option linter.unusedVariables false
def Gap (L : List Cnt) (k : Nat) : Prop := ∀ r j v, clp (L.take k) = r ++ [(j, v)] → ∀ x, L[k]? = some x → j ≠ x.1
theorem Gap.zero (L : List Cnt) : Gap L 0 := fun r j v h => by simp [clp] at h
theorem clp_take {L : List Cnt} {m : Nat} {x : Cnt} (h : L[m]? = some x) : clp (L.take (m + 1)) = stp (clp (L.take m)) x := by
  obtain ⟨hm, e⟩ := List.getElem?_eq_some_iff.1 h
  rw [take_snoc hm, clp_snoc, e]
theorem Gap.first {L : List Cnt} {k : Nat} {x : Cnt} (g : Gap L k) (h : L[k]? = some x) : clp (L.take (k + 1)) = clp (L.take k) ++ [x] := by
  rw [clp_take h]
  rcases List.eq_nil_or_concat (clp (L.take k)) with e | ⟨r, d, e⟩
  · rw [e]; rfl
  · rw [List.concat_eq_append] at e
    rw [e, stp_other _ _ _ (g r d.1 d.2 e x h)]; simp
structure Grp (L : List Cnt) (k m : Nat) (j v : Int) : Prop where
  le : k ≤ m
  ml : m ≤ L.length
  gap : Gap L k
  at_k : ∃ n, L[k]? = some (j, n)
  eq : clp (L.take m) = clp (L.take k) ++ (if k < m then [(j, v)] else [])
  v0 : m = k → v = 0
theorem Grp.start {L : List Cnt} {k : Nat} {x : Cnt} (g : Gap L k) (h : L[k]? = some x) : Grp L k k x.1 0 :=
  ⟨Nat.le_refl _, Nat.le_of_lt (List.getElem?_eq_some_iff.1 h).1, g, ⟨x.2, h⟩, by simp, fun _ => rfl⟩
theorem Grp.next {L : List Cnt} {k m : Nat} {j v n : Int} (g : Grp L k m j v) (h : L[m]? = some (j, n)) (hn : 0 ≤ n ∧ n < two64) : Grp L k (m + 1) j ((v + n) % two64) := by
  have hm := (List.getElem?_eq_some_iff.1 h).1
  refine ⟨by have := g.le; omega, hm, g.gap, g.at_k, ?_, fun e => by have := g.le; omega⟩
  rw [if_pos (by have := g.le; omega)]
  rcases Nat.lt_or_eq_of_le g.le with h1 | h1
  · rw [clp_take h, g.eq, if_pos h1, stp_same]
  · subst h1
    rw [g.gap.first h, g.v0 rfl]
    congr 3
    simp only [two64] at hn ⊢
    omega
theorem nz_append (a b : List Cnt) : nz (a ++ b) = nz a ++ nz b := by simp [nz]
theorem Grp.done {L : List Cnt} {k m : Nat} {j v : Int} (g : Grp L k m j v) (h : ∀ x, L[m]? = some x → j ≠ x.1) : k < m ∧ Gap L m ∧ nz (clp (L.take m)) = nz (clp (L.take k)) ++ (if v = 0 then [] else [(j, v)]) := by
  have hkm : k < m := by
    rcases Nat.lt_or_eq_of_le g.le with h1 | h1
    · exact h1
    · subst h1
      obtain ⟨n, hn⟩ := g.at_k
      exact absurd rfl (h _ hn)
  have e := g.eq
  rw [if_pos hkm] at e
  refine ⟨hkm, fun r j' v' e' x hx => ?_, ?_⟩
  · rw [e] at e'
    have := List.append_inj_right' e' rfl
    cases this
    exact h x hx
  · rw [e, nz_append]
    congr 1
    by_cases hv : v = 0
    · simp [nz, hv]
    · simp [nz, hv]
end Go.Proofs.YtpiegngjpnpohaaGreat.Mg

namespace Go.Proofs.YtpiegngjpnpohaaGreat.Wi
open Go.RowKit
set_option linter.unusedVariables false
def loI (n : Int) : Int := n % 18446744073709551616
def hU (n : Int) : Int := n / 18446744073709551616 % 18446744073709551616
def hiI (n : Int) : Int := (n / 18446744073709551616 + 9223372036854775808) % 18446744073709551616 - 9223372036854775808
def I128 (n : Int) : Value := .agg #[.int .i64 (hiI n), .int .u64 (loI n)]
def cA (a b : Int) : Int := (loI a + loI b) / 18446744073709551616
def cB (a b : Int) : Int := (hU a + hU b + cA a b) / 18446744073709551616
theorem wrap_hi (n : Int) : IntKind.u64.wrap (hiI n) = hU n := by rw [IntKind.wrap_u64]; unfold hiI hU; omega
theorem wrap_hU (n : Int) : IntKind.i64.wrap (hU n) = hiI n := by rw [IntKind.wrap_i64]; unfold hiI hU; omega
theorem run_add (x y c : Int) (hx : 0 ≤ x) (hy : 0 ≤ y) (h0 : 0 ≤ c) (h1 : c ≤ 1) (w : World) :
    (callFunc 161 #[.int .u64 x, .int .u64 y, .int .u64 c]).run Tryz.prog w =
      .ok (.value (.tuple #[.int .u64 ((x + y + c) % 18446744073709551616), .int .u64 ((x + y + c) / 18446744073709551616)])) w := by
  rw [run_callFunc_extern Tryz.func161 (by kernel_rfl) (by kernel_rfl) (by kernel_rfl) (e := add64Entry) (by kernel_rfl), run_add64 x y c hx hy h0 h1]
  rfl
theorem add_lo (a b : Int) (w : World) : (callFunc 161 #[.int .u64 (loI a), .int .u64 (loI b), .int .u64 0]).run Tryz.prog w = .ok (.value (.tuple #[.int .u64 (loI (a + b)), .int .u64 (cA a b)])) w := by
  rw [run_add _ _ _ (by unfold loI; omega) (by unfold loI; omega) (by omega) (by omega)]
  have e1 : (loI a + loI b + 0) % 18446744073709551616 = loI (a + b) := by unfold loI; omega
  have e2 : (loI a + loI b + 0) / 18446744073709551616 = cA a b := by unfold cA; omega
  rw [e1, e2]
theorem add_hi (a b : Int) (w : World) : (callFunc 161 #[.int .u64 (hU a), .int .u64 (hU b), .int .u64 (cA a b)]).run Tryz.prog w = .ok (.value (.tuple #[.int .u64 (hU (a + b)), .int .u64 (cB a b)])) w := by
  rw [run_add _ _ _ (by unfold hU; omega) (by unfold hU; omega) (by unfold cA loI; omega) (by unfold cA loI; omega)]
  have e1 : (hU a + hU b + cA a b) % 18446744073709551616 = hU (a + b) := by unfold hU cA loI; omega
  rw [e1]; rfl
theorem add_any (a b : Int) (w : World) :
    Calls Tryz.prog 112 #[I128 a, I128 b] w fun e w' => e = .returned (I128 (a + b)) ∧ Below w.heap.size w w' := by
  have c1 := add_lo a b
  have c2 := add_hi a b
  have e1 := wrap_hi a
  have e2 := wrap_hi b
  have e3 := wrap_hU (a + b)
  unfold I128
  go_enter Tryz.func112, Tryz.ntmps112
  go_wp2
  go_returns
  exact ⟨rfl, by go_grown⟩
theorem I128_zero : I128 0 = .agg #[.int .i64 0, .int .u64 0] := by simp [I128, hiI, loI]
theorem kept2 {B : Nat} {w w' : World} (b : Below B w w') {g : Nat} (x y : Value) (hg : g < B) (h0 : w.cell? ⟨g, 0, none⟩ = some x) (h1 : w.cell? ⟨g, 1, none⟩ = some y)
    (f0 : w.frozen? ⟨g, 0, none⟩ = false) (f1 : w.frozen? ⟨g, 1, none⟩ = false) :
    w'.cell? ⟨g, 0, none⟩ = some x ∧ w'.cell? ⟨g, 1, none⟩ = some y ∧ w'.frozen? ⟨g, 0, none⟩ = false ∧ w'.frozen? ⟨g, 1, none⟩ = false :=
  ⟨by rw [b.cell hg]; exact h0, by rw [b.cell hg]; exact h1, by rw [b.frozen hg]; exact f0, by rw [b.frozen hg]; exact f1⟩
theorem set2 {w : World} {g : Nat} {x y : Value} (h0 : w.cell? ⟨g, 0, none⟩ = some x) (h1 : w.cell? ⟨g, 1, none⟩ = some y) (u v : Value) :
    ((w.setCell ⟨g, 0, none⟩ u).setCell ⟨g, 1, none⟩ v).cell? ⟨g, 0, none⟩ = some u ∧ ((w.setCell ⟨g, 0, none⟩ u).setCell ⟨g, 1, none⟩ v).cell? ⟨g, 1, none⟩ = some v := by
  constructor
  · go_cell
  · go_cell
theorem joined {w w2 w' : World} (h : Below w.heap.size w w2) (b : Below w2.heap.size w2 w') : Below w.heap.size w w' := h.trans (b.mono h.size)
end Go.Proofs.YtpiegngjpnpohaaGreat.Wi

namespace Go.Proofs.YtpiegngjpnpohaaGreat.Wi
open Go.RowKit
set_option linter.unusedVariables false
def cmpI (a b : Int) : Int := if a = b then 0 else if a < b then -1 else 1
def In (a : Int) : Prop := -170141183460469231731687303715884105728 ≤ a ∧ a ≤ 170141183460469231731687303715884105727
theorem In.hi {a : Int} (h : In a) : hiI a = a / 18446744073709551616 := by unfold hiI; unfold In at h; omega
theorem cmp_cases {a b : Int} (ha : In a) (hb : In b) :
    (hiI a < hiI b ∧ cmpI a b = -1) ∨ (hiI b < hiI a ∧ cmpI a b = 1) ∨ (hiI a = hiI b ∧ loI a < loI b ∧ cmpI a b = -1) ∨ (hiI a = hiI b ∧ loI b < loI a ∧ cmpI a b = 1) ∨ (hiI a = hiI b ∧ loI a = loI b ∧ cmpI a b = 0) := by
  rw [ha.hi, hb.hi]
  unfold cmpI loI
  clear ha hb
  rcases Int.lt_trichotomy (a / 18446744073709551616) (b / 18446744073709551616) with h | h | h
  · exact .inl ⟨h, by rw [if_neg (by omega), if_pos (by omega)]⟩
  · rcases Int.lt_trichotomy (a % 18446744073709551616) (b % 18446744073709551616) with g | g | g
    · exact .inr (.inr (.inl ⟨h, g, by rw [if_neg (by omega), if_pos (by omega)]⟩))
    · exact .inr (.inr (.inr (.inr ⟨h, g, by rw [if_pos (by omega)]⟩)))
    · exact .inr (.inr (.inr (.inl ⟨h, g, by rw [if_neg (by omega), if_neg (by omega)]⟩)))
  · exact .inr (.inl ⟨h, by rw [if_neg (by omega), if_neg (by omega)]⟩)
theorem compare_walk (x y x' y' r : Int) (w : World)
    (h : (x < x' ∧ r = -1) ∨ (x' < x ∧ r = 1) ∨ (x = x' ∧ y < y' ∧ r = -1) ∨ (x = x' ∧ y' < y ∧ r = 1) ∨ (x = x' ∧ y = y' ∧ r = 0)) :
    Calls Tryz.prog 144 #[.agg #[.int .i64 x, .int .u64 y], .agg #[.int .i64 x', .int .u64 y']] w fun e w' => e = .returned (.int .i64 r) ∧ Below w.heap.size w w' := by
  rcases h with ⟨h, rfl⟩ | ⟨h, rfl⟩ | ⟨h, g, rfl⟩ | ⟨h, g, rfl⟩ | ⟨h, g, rfl⟩
  · have d1 : (x == x') = false := beq_eq_false_iff_ne.2 (by omega)
    go_enter Tryz.func144, Tryz.ntmps144
    go_wp2
    go_ret
    exact ⟨rfl, by go_grown⟩
  · have d1 : (x == x') = false := beq_eq_false_iff_ne.2 (by omega)
    have d2 : ¬ x < x' := by omega
    go_enter Tryz.func144, Tryz.ntmps144
    go_wp2
    go_ret
    exact ⟨rfl, by go_grown⟩
  · subst h
    have d1 : (y == y') = false := beq_eq_false_iff_ne.2 (by omega)
    go_enter Tryz.func144, Tryz.ntmps144
    go_wp2
    go_ret
    exact ⟨rfl, by go_grown⟩
  · subst h
    have d1 : (y == y') = false := beq_eq_false_iff_ne.2 (by omega)
    have d2 : ¬ y < y' := by omega
    go_enter Tryz.func144, Tryz.ntmps144
    go_wp2
    go_ret
    exact ⟨rfl, by go_grown⟩
  · subst h; subst g
    go_enter Tryz.func144, Tryz.ntmps144
    go_wp2
    go_ret
    exact ⟨rfl, by go_grown⟩
end Go.Proofs.YtpiegngjpnpohaaGreat.Wi

namespace Go.Proofs.YtpiegngjpnpohaaGreat.Wi
open Go.RowKit
set_option linter.unusedVariables false
theorem compare_any {a b : Int} (ha : In a) (hb : In b) (w : World) :
    Calls Tryz.prog 144 #[I128 a, I128 b] w fun e w' => e = .returned (.int .i64 (cmpI a b)) ∧ Below w.heap.size w w' :=
  compare_walk _ _ _ _ _ w (cmp_cases ha hb)
theorem rcompare_walk (x y x' y' r : Int) (w : World)
    (h : (x < x' ∧ r = -1) ∨ (x' < x ∧ r = 1) ∨ (x = x' ∧ y < y' ∧ r = -1) ∨ (x = x' ∧ y' < y ∧ r = 1) ∨ (x = x' ∧ y = y' ∧ r = 0)) :
    Calls Tryz.prog 158 #[.agg #[.int .i64 x, .int .u64 y], .agg #[.int .i64 x', .int .u64 y']] w fun e w' => e = .returned (.int .i64 r) ∧ Below w.heap.size w w' := by
  rcases h with ⟨h, rfl⟩ | ⟨h, rfl⟩ | ⟨h, g, rfl⟩ | ⟨h, g, rfl⟩ | ⟨h, g, rfl⟩
  · go_enter Tryz.func158, Tryz.ntmps158
    go_wp2
    go_ret
    exact ⟨rfl, by go_grown⟩
  · have d1 : (x == x') = false := beq_eq_false_iff_ne.2 (by omega)
    have d2 : ¬ x < x' := by omega
    go_enter Tryz.func158, Tryz.ntmps158
    go_wp2
    go_ret
    exact ⟨rfl, by go_grown⟩
  · subst h
    go_enter Tryz.func158, Tryz.ntmps158
    go_wp2
    go_ret
    exact ⟨rfl, by go_grown⟩
  · subst h
    have d1 : (y == y') = false := beq_eq_false_iff_ne.2 (by omega)
    have d2 : ¬ y < y' := by omega
    go_enter Tryz.func158, Tryz.ntmps158
    go_wp2
    go_ret
    exact ⟨rfl, by go_grown⟩
  · subst h; subst g
    go_enter Tryz.func158, Tryz.ntmps158
    go_wp2
    go_ret
    exact ⟨rfl, by go_grown⟩
theorem rcompare_any {a b : Int} (ha : In a) (hb : In b) (w : World) :
    Calls Tryz.prog 158 #[I128 a, I128 b] w fun e w' => e = .returned (.int .i64 (cmpI a b)) ∧ Below w.heap.size w w' :=
  rcompare_walk _ _ _ _ _ w (cmp_cases ha hb)
theorem in_zero : In 0 := by unfold In; omega
theorem sign_any {a : Int} (ha : In a) (w : World) :
    Calls Tryz.prog 89 #[I128 a] w fun e w' => e = .returned (.int .i64 (cmpI a 0)) ∧ Below w.heap.size w w' := by
  have c := compare_any ha in_zero
  rw [I128_zero] at c
  unfold I128 at c ⊢
  go_enter Tryz.func89, Tryz.ntmps89
  go_wp2_with fail
  refine (c _).mono ?_
  rintro e w' ⟨rfl, b⟩
  have bw := joined (w := w) (by go_grown) b
  go_wp2
  go_ret
  exact ⟨rfl, by go_grown⟩
theorem radd_any (a b : Int) (w : World) :
    Calls Tryz.prog 62 #[I128 a, I128 b] w fun e w' => e = .returned (I128 (a + b)) ∧ Below w.heap.size w w' := by
  have e1 := wrap_hi a
  have e2 := wrap_hi b
  have e3 := wrap_hU (a + b)
  have e4 : IntKind.u64.wrap (loI a + loI b) = loI (a + b) := by rw [IntKind.wrap_u64]; unfold loI; omega
  obtain ⟨x, hx⟩ : ∃ x, x = (hU a + hU b) % 18446744073709551616 := ⟨_, rfl⟩
  have e5 : IntKind.u64.wrap (hU a + hU b) = x := by rw [IntKind.wrap_u64, hx]
  by_cases h : loI (a + b) < loI a
  · have e6 : IntKind.u64.wrap (x + 1) = hU (a + b) := by rw [IntKind.wrap_u64, hx]; unfold hU; unfold loI at h; omega
    clear hx
    unfold I128
    go_enter Tryz.func62, Tryz.ntmps62
    go_wp2
    go_returns
    exact ⟨rfl, by go_grown⟩
  · have e6 : x = hU (a + b) := by rw [hx]; unfold hU; unfold loI at h; omega
    clear hx; subst e6
    unfold I128
    go_enter Tryz.func62, Tryz.ntmps62
    go_wp2
    go_returns
    exact ⟨rfl, by go_grown⟩
end Go.Proofs.YtpiegngjpnpohaaGreat.Wi

namespace Go.Proofs.YtpiegngjpnpohaaGreat.Sn
open Go.RowKit Go.Proofs.YtpiegngjpnpohaaGreat.La Go.Proofs.YtpiegngjpnpohaaGreat.Sl Go.Proofs.YtpiegngjpnpohaaGreat.Ck Go.Proofs.YtpiegngjpnpohaaGreat.Rc Go.Proofs.YtpiegngjpnpohaaGreat.Rk Go.Proofs.YtpiegngjpnpohaaGreat.Wi Go.Proofs.YtpiegngjpnpohaaGreat.Fb
set_option linter.unusedVariables false
abbrev Cnt := Int × Int
structure Vv where
  d : DD
  t : Int
  CA : Option Addr
  cc : Nat
  cs : List Cnt
  n : Int
  sm : Nat
  mn : Nat
  mx : Nat
def Vv.row (v : Vv) : List Value :=
  [.int .i64 v.d.kind, .string v.d.name, .string v.d.help, .slice v.d.A v.d.l.length v.d.c, .int .i64 (hiI v.t), .int .u64 (loI v.t), .slice v.CA v.cs.length v.cc, .int .u64 v.n, .float .f64 v.sm, .float .f64 v.mn, .float .f64 v.mx]
def Vv.v (v : Vv) : Value :=
  .agg #[.int .i64 v.d.kind, .string v.d.name, .string v.d.help, .slice v.d.A v.d.l.length v.d.c, .int .i64 (hiI v.t), .int .u64 (loI v.t), .slice v.CA v.cs.length v.cc, .int .u64 v.n, .float .f64 v.sm, .float .f64 v.mn, .float .f64 v.mx]
theorem kc {w w' : World} {B g o : Nat} {v : Value} (hb : Below B w w') (hg : g < B) (h : w.cell? ⟨g, o, none⟩ = some v) : w'.cell? ⟨g, o, none⟩ = some v := (hb.cell (p := ⟨g, o, none⟩) hg).trans h
structure DAt (d : DD) (w : World) (B : Nat) : Prop where
  rd : Rd w B 2 d.A (labs d.l) d.l.length
  cap : d.l.length ≤ d.c
  len : d.c ≤ 9223372036854775807
  len2 : d.l.length ≤ 140737488355328
  name : d.name.size ≤ 9223372036854775807
  help : d.help.size ≤ 9223372036854775807
  texts : ∀ x ∈ d.l, x.1.size ≤ 9223372036854775807 ∧ x.2.size ≤ 9223372036854775807
  kind : -9223372036854775808 ≤ d.kind ∧ d.kind ≤ 9223372036854775807
theorem DAt.below {d : DD} {w w' : World} {B : Nat} (h : DAt d w B) (k : Below B w w') : DAt d w' B := ⟨h.rd.below k, h.cap, h.len, h.len2, h.name, h.help, h.texts, h.kind⟩
theorem DAt.mono {d : DD} {w : World} {B B' : Nat} (h : DAt d w B) (k : B ≤ B') : DAt d w B' := ⟨h.rd.mono k, h.cap, h.len, h.len2, h.name, h.help, h.texts, h.kind⟩
theorem cs_mono {w : World} {B B' : Nat} {A : Option Addr} {l : List Cnt} (h : Cs w B A l) (k : B ≤ B') : Cs w B' A l :=
  ⟨h.len, h.ok, fun hl => by obtain ⟨b, off, e, hb, hc⟩ := h.cells hl; exact ⟨b, off, e, by omega, hc⟩⟩
structure VAt (v : Vv) (w : World) (B : Nat) : Prop where
  d : DAt v.d w B
  cs : Cs w B v.CA v.cs
  cap : v.cs.length ≤ v.cc
  clen : v.cc ≤ 9223372036854775807
  tot : In v.t
  n : 0 ≤ v.n ∧ v.n ≤ 18446744073709551615
  sm : okF v.sm
  mn : okF v.mn
  mx : okF v.mx
theorem VAt.below {v : Vv} {w w' : World} {B : Nat} (h : VAt v w B) (k : Below B w w') : VAt v w' B := ⟨h.d.below k, h.cs.below k, h.cap, h.clen, h.tot, h.n, h.sm, h.mn, h.mx⟩
theorem VAt.mono {v : Vv} {w : World} {B B' : Nat} (h : VAt v w B) (k : B ≤ B') : VAt v w B' := ⟨h.d.mono k, cs_mono h.cs k, h.cap, h.clen, h.tot, h.n, h.sm, h.mn, h.mx⟩
def rows (vs : List Vv) : List Value := vs.flatMap Vv.row
theorem rows_len (vs : List Vv) : (rows vs).length = vs.length * 11 := by
  induction vs with
  | nil => rfl
  | cons v vs ih => simp only [rows, List.flatMap_cons, List.length_append, List.length_cons] at ih ⊢; rw [ih]; simp [Vv.row]; omega
theorem rows_get : ∀ (vs : List Vv) (i j : Nat) (h : i < vs.length), j < 11 → (rows vs)[i * 11 + j]? = (Vv.row vs[i])[j]?
  | [], i, j, h, _ => absurd h (by simp)
  | v :: vs, 0, j, h, hj => by
    simp only [rows, List.flatMap_cons, Nat.zero_mul, Nat.zero_add, List.getElem_cons_zero]
    rw [List.getElem?_append_left (by simpa [Vv.row] using hj)]
  | v :: vs, i + 1, j, h, hj => by
    have ih := rows_get vs i j (by simpa using h) hj
    simp only [rows, List.flatMap_cons, List.getElem_cons_succ] at ih ⊢
    rw [List.getElem?_append_right (by simp [Vv.row]; omega), ← ih]
    congr 1
    simp [Vv.row]; omega
theorem rows_append (a b : List Vv) : rows (a ++ b) = rows a ++ rows b := by simp [rows]
structure VsAt (vs : List Vv) (A : Option Addr) (w : World) (B : Nat) : Prop where
  rd : Rd w B 11 A (rows vs) vs.length
  all : ∀ v ∈ vs, VAt v w B
theorem VsAt.below {vs : List Vv} {A : Option Addr} {w w' : World} {B : Nat} (h : VsAt vs A w B) (k : Below B w w') : VsAt vs A w' B := ⟨h.rd.below k, fun v hv => (h.all v hv).below k⟩
theorem VsAt.mono {vs : List Vv} {A : Option Addr} {w : World} {B B' : Nat} (h : VsAt vs A w B) (k : B ≤ B') : VsAt vs A w B' := ⟨h.rd.mono k, fun v hv => (h.all v hv).mono k⟩
theorem VsAt.get {vs : List Vv} {A : Option Addr} {w : World} {B : Nat} (h : VsAt vs A w B) (i : Nat) (hi : i < vs.length) :
    ∃ b off, A = some ⟨b, off, none⟩ ∧ b < B ∧ ∀ j u, (Vv.row vs[i])[j]? = some u → w.cell? ⟨b, off + i * 11 + j, none⟩ = some u := by
  obtain ⟨b, off, e, hb, hc⟩ := h.rd.cells (by omega)
  refine ⟨b, off, e, hb, fun j u hu => ?_⟩
  have hj : j < 11 := by
    rcases Nat.lt_or_ge j 11 with g | g
    · exact g
    · rw [List.getElem?_eq_none (by simpa [Vv.row] using g)] at hu; cases hu
  have := hc (i * 11 + j) u (by rw [rows_get vs i j hi hj]; exact hu)
  rw [← Nat.add_assoc] at this
  exact this
theorem VsAt.cells {vs : List Vv} {A : Option Addr} {w : World} {B : Nat} (h : VsAt vs A w B) (i : Nat) (hi : i < vs.length) :
    ∃ b off, A = some ⟨b, off, none⟩ ∧ b < B ∧ w.cell? ⟨b, off + i * 11, none⟩ = some (.int .i64 vs[i].d.kind) ∧ w.cell? ⟨b, off + i * 11 + 1, none⟩ = some (.string vs[i].d.name) ∧ w.cell? ⟨b, off + i * 11 + 2, none⟩ = some (.string vs[i].d.help) ∧
      w.cell? ⟨b, off + i * 11 + 3, none⟩ = some (.slice vs[i].d.A vs[i].d.l.length vs[i].d.c) ∧ w.cell? ⟨b, off + i * 11 + 4, none⟩ = some (.int .i64 (hiI vs[i].t)) ∧ w.cell? ⟨b, off + i * 11 + 5, none⟩ = some (.int .u64 (loI vs[i].t)) ∧
      w.cell? ⟨b, off + i * 11 + 6, none⟩ = some (.slice vs[i].CA vs[i].cs.length vs[i].cc) ∧ w.cell? ⟨b, off + i * 11 + 7, none⟩ = some (.int .u64 vs[i].n) ∧ w.cell? ⟨b, off + i * 11 + 8, none⟩ = some (.float .f64 vs[i].sm) ∧
      w.cell? ⟨b, off + i * 11 + 9, none⟩ = some (.float .f64 vs[i].mn) ∧ w.cell? ⟨b, off + i * 11 + 10, none⟩ = some (.float .f64 vs[i].mx) := by
  obtain ⟨b, off, e, hb, hc⟩ := h.get i hi
  exact ⟨b, off, e, hb, hc 0 _ rfl, hc 1 _ rfl, hc 2 _ rfl, hc 3 _ rfl, hc 4 _ rfl, hc 5 _ rfl, hc 6 _ rfl, hc 7 _ rfl, hc 8 _ rfl, hc 9 _ rfl, hc 10 _ rfl⟩
structure Ss where
  p : Int
  A : Option Addr
  c : Nat
  vs : List Vv
  r : Int
def Ss.v (s : Ss) : Value := .agg #[.int .i64 s.p, .slice s.A s.vs.length s.c, .int .u64 s.r]
structure SAt (s : Ss) (w : World) (B : Nat) : Prop where
  vs : VsAt s.vs s.A w B
  p : -9223372036854775808 ≤ s.p ∧ s.p ≤ 9223372036854775807
  cap : s.vs.length ≤ s.c
  len : s.c ≤ 9223372036854775807
  len2 : s.vs.length ≤ 140737488355328
  r : 0 ≤ s.r ∧ s.r ≤ 18446744073709551615
theorem SAt.below {s : Ss} {w w' : World} {B : Nat} (h : SAt s w B) (k : Below B w w') : SAt s w' B := ⟨h.vs.below k, h.p, h.cap, h.len, h.len2, h.r⟩
theorem SAt.mono {s : Ss} {w : World} {B B' : Nat} (h : SAt s w B) (k : B ≤ B') : SAt s w B' := ⟨h.vs.mono k, h.p, h.cap, h.len, h.len2, h.r⟩
end Go.Proofs.YtpiegngjpnpohaaGreat.Sn

namespace Go.Proofs.YtpiegngjpnpohaaGreat.Sn
open Go.RowKit Go.Proofs.YtpiegngjpnpohaaGreat.La Go.Proofs.YtpiegngjpnpohaaGreat.Sl Go.Proofs.YtpiegngjpnpohaaGreat.Ck Go.Proofs.YtpiegngjpnpohaaGreat.Rc Go.Proofs.YtpiegngjpnpohaaGreat.Rk Go.Proofs.YtpiegngjpnpohaaGreat.Wi Go.Proofs.YtpiegngjpnpohaaGreat.Fb
set_option linter.unusedVariables false
theorem zeros1_any (x : Nat) (h : okF x) (w : World) :
    Calls Tryz.prog 143 #[.float .f64 x] w fun e w' => e = .returned (.bool (!zeroF x)) ∧ Below w.heap.size w w' := by
  have b1 := bits_run x
  have f2 : ((x : Int) != 0) = !zeroF x := by unfold zeroF; rw [Bool.eq_iff_iff]; simp
  generalize (!zeroF x) = r at *
  go_enter Tryz.func143, Tryz.ntmps143
  go_wp2
  go_ret
  exact ⟨rfl, Below.refl _ _⟩
theorem finite1_any (x : Nat) (h : okF x) (w : World) :
    Calls Tryz.prog 147 #[.float .f64 x] w fun e w' => e = .returned (.bool (!finF x)) ∧ Below w.heap.size w w' := by
  have c1 := isNaN_any x h
  have c2 := isInf_any x h
  have e : (!finF x) = (nanF x || infF x) := by
    unfold finF nanF infF
    rw [Bool.eq_iff_iff]; simp; omega
  rw [e]
  clear e
  generalize infF x = q at *
  cases hn : nanF x
  · rw [hn] at c1
    rw [Bool.false_or]
    go_enter Tryz.func147, Tryz.ntmps147
    go_wp2_with (first
      | (go_at_call 148; with_reducible refine (c1 _).mono ?_; rintro e w' ⟨rfl, rfl⟩)
      | (go_at_call 149; with_reducible refine (c2 _).mono ?_; rintro e w' ⟨rfl, rfl⟩))
    go_ret
    exact ⟨rfl, Below.refl _ _⟩
  · rw [hn] at c1
    rw [Bool.true_or]
    go_enter Tryz.func147, Tryz.ntmps147
    go_wp2_with (first
      | (go_at_call 148; with_reducible refine (c1 _).mono ?_; rintro e w' ⟨rfl, rfl⟩)
      | (go_at_call 149; with_reducible refine (c2 _).mono ?_; rintro e w' ⟨rfl, rfl⟩))
    go_ret
    exact ⟨rfl, Below.refl _ _⟩
def flF (x : Nat) : Value := .float .f64 x
theorem flF_get (l : List Nat) (i : Nat) (hi : i < l.length) : (l.map flF)[i]? = some (.float .f64 l[i]) := by
  rw [List.getElem?_map, List.getElem?_eq_getElem hi]; rfl
def idxP {α : Type} (p : α → Bool) (l : List α) : Int := match l.findIdx? p with
  | some i => i
  | none => -1
set_option maxRecDepth 100000 in
theorem indexF_any (F : FuncId) (hE : ∀ a w, (callFunc F a).run Tryz.prog w = .ok (.enter F a) w) (p : Nat → Bool) (hF : ∀ x w, okF x → Calls Tryz.prog F #[.float .f64 x] w fun e w' => e = .returned (.bool (p x)) ∧ Below w.heap.size w w')
    (l : List Nat) (A : Option Addr) (c : Nat) (w : World) (h : Rd w w.heap.size 1 A (l.map flF) l.length) (ho : ∀ x ∈ l, okF x) (hl : l.length ≤ 140737488355328) :
    Calls Tryz.prog 188 #[.slice A l.length c, .func (.func F) #[] #[]] w fun e w' => e = .returned (.int .i64 (idxP p l)) ∧ Below w.heap.size w w' := by
  obtain ⟨n, hn⟩ : ∃ n, n = l.length := ⟨_, rfl⟩
  obtain ⟨res, hres⟩ : ∃ res, res = idxP p l := ⟨_, rfl⟩
  have hnI : (n : Int) ≤ 140737488355328 := by omega
  rw [← hn, ← hres]
  rw [← hn] at h
  replace h := Lib.hid h
  replace hn := Lib.hid hn
  replace hres := Lib.hid hres
  replace ho := Lib.hid ho
  replace hF := Lib.hid hF
  clear hl
  go_enter Tryz.func188, Tryz.ntmps188
  go_wp2
  go_loopw [8] (fun v wr => ∃ i : Nat, v = .int .i64 (i : Int) ∧ i ≤ n ∧ Hid (∀ j, j < i → ∀ x, l[j]? = some x → p x = false) ∧ Below w.heap.size w wr) (fun v _ => n + 1 - natOf' v)
  case atStart => exact ⟨0, rfl, Nat.zero_le _, Lib.hid (fun j hj => absurd hj (by omega)), Below.refl _ _⟩
  case round =>
    obtain ⟨i, rfl, hi, hpre, hw⟩ := hrel
    by_cases hlt : i < n
    · have hil : i < l.length := by rw [← hn.out]; exact hlt
      obtain ⟨b, o, hA, hb, hc⟩ := (h.out.below hw).cells (by omega)
      have z0 := hc i _ (flF_get l i hil)
      subst hA
      have cx := hF.out l[i] wr (ho.out _ (List.getElem_mem hil))
      obtain ⟨x, hx⟩ : ∃ x, x = l[i] := ⟨_, rfl⟩
      rw [← hx] at z0 cx
      have g1 : (i : Int) < (n : Int) := by omega
      clear hc
      cases hp : p x
      · rw [hp] at cx
        have hst : ∀ j, j < i + 1 → ∀ y, l[j]? = some y → p y = false := fun j hj y hy => by
          by_cases e : j = i
          · subst e
            rw [List.getElem?_eq_getElem hil, ← hx] at hy
            cases hy; exact hp
          · exact hpre.out j (by omega) y hy
        replace hst := Lib.hid hst
        clear hx hp
        go_wp2_with (refine cx.mono ?_; rintro e w' ⟨rfl, hb'⟩)
        exact ⟨⟨i + 1, by simp, hlt, hst, hw.trans (hb'.mono hw.size)⟩, by simp [natOf']; omega⟩
      · rw [hp] at cx
        have hr : res = i := by
          rw [hres.out]
          unfold idxP
          have : l.findIdx? p = some i := by
            rw [List.findIdx?_eq_some_iff_getElem]
            refine ⟨hil, by rw [← hx]; exact hp, fun j hj => ?_⟩
            have := hpre.out j hj _ (List.getElem?_eq_getElem (by omega))
            simp [this]
          rw [this]
        clear hx hp
        subst hr
        go_wp2_with (refine cx.mono ?_; rintro e w' ⟨rfl, hb'⟩)
        go_ret
        exact ⟨rfl, hw.trans (hb'.mono hw.size)⟩
    · obtain rfl : i = n := by omega
      have hr : res = -1 := by
        rw [hres.out]
        unfold idxP
        have : l.findIdx? p = none := by
          rw [List.findIdx?_eq_none_iff]
          intro x hx
          obtain ⟨j, hj, rfl⟩ := List.mem_iff_getElem.1 hx
          exact hpre.out j (by rw [hn.out]; exact hj) _ (List.getElem?_eq_getElem hj)
        rw [this]
      subst hr
      go_wp2
      go_ret
      exact ⟨rfl, hw⟩
theorem idxP_any {α : Type} (p : α → Bool) (l : List α) : decide (0 ≤ idxP p l) = l.any p := by
  unfold idxP
  cases h : l.findIdx? p with
  | none =>
    rw [List.findIdx?_eq_none_iff] at h
    have : l.any p = false := by rw [List.any_eq_false]; intro x hx; simp [h x hx]
    rw [this]; rfl
  | some i =>
    rw [List.findIdx?_eq_some_iff_getElem] at h
    obtain ⟨hi, hp, _⟩ := h
    have : l.any p = true := List.any_eq_true.2 ⟨_, List.getElem_mem hi, hp⟩
    rw [this]; simp
theorem containsF_any (F : FuncId) (hE : ∀ a w, (callFunc F a).run Tryz.prog w = .ok (.enter F a) w) (p : Nat → Bool) (hF : ∀ x w, okF x → Calls Tryz.prog F #[.float .f64 x] w fun e w' => e = .returned (.bool (p x)) ∧ Below w.heap.size w w')
    (l : List Nat) (A : Option Addr) (c : Nat) (w : World) (h : Rd w w.heap.size 1 A (l.map flF) l.length) (ho : ∀ x ∈ l, okF x) (hl : l.length ≤ 140737488355328) :
    Calls Tryz.prog 142 #[.slice A l.length c, .func (.func F) #[] #[]] w fun e w' => e = .returned (.bool (l.any p)) ∧ Below w.heap.size w w' := by
  have c1 := indexF_any F hE p hF l A c w h ho hl
  rw [← idxP_any]
  generalize idxP p l = r at *
  generalize l.length = n at *
  clear h ho hl
  go_enter Tryz.func142, Tryz.ntmps142
  go_wp2_with (go_at_call 188; refine c1.mono ?_; rintro e w' ⟨rfl, hb'⟩)
  go_ret
  exact ⟨rfl, hb'⟩
theorem call_enter {P : Program} {f : FuncId} {fn : Func} (hf : P.funcs[f]? = some fn) (hn : (fn.name == "runtime.NumGoroutine") = false) (hb : fn.body.isSome = true) (a : Array Value) (w : World) :
    (callFunc f a).run P w = .ok (.enter f a) w := by
  have h1 : fn.name ≠ "runtime.NumGoroutine" := by simpa using hn
  obtain ⟨c, hc⟩ := Option.isSome_iff_exists.1 hb
  simp [callFunc, hf, h1, hc]
theorem enter_zeros (a : Array Value) (w : World) : (callFunc 143 a).run Tryz.prog w = .ok (.enter 143 a) w :=
  call_enter Tryz.func143 (by kernel_rfl) (by kernel_rfl) a w
theorem enter_finite (a : Array Value) (w : World) : (callFunc 147 a).run Tryz.prog w = .ok (.enter 147 a) w :=
  call_enter Tryz.func147 (by kernel_rfl) (by kernel_rfl) a w
theorem zeros_any (l : List Nat) (A : Option Addr) (c : Nat) (w : World) (h : Rd w w.heap.size 1 A (l.map flF) l.length) (ho : ∀ x ∈ l, okF x) (hl : l.length ≤ 140737488355328) :
    Calls Tryz.prog 88 #[.slice A l.length c] w fun e w' => e = .returned (.bool (l.all zeroF)) ∧ Below w.heap.size w w' := by
  have c1 := containsF_any 143 enter_zeros (fun x => !zeroF x) (fun x w h => zeros1_any x h w) l A c w h ho hl
  have e : l.all zeroF = !l.any (fun x => !zeroF x) := by rw [List.not_any_eq_all_not]; simp
  rw [e]
  generalize l.any (fun x => !zeroF x) = r at *
  generalize l.length = n at *
  clear h ho hl e
  go_enter Tryz.func88, Tryz.ntmps88
  go_wp2_with (go_at_call 142; refine c1.mono ?_; rintro e w' ⟨rfl, hb'⟩)
  go_ret
  exact ⟨rfl, hb'⟩
theorem finite_l (l : List Nat) (A : Option Addr) (c : Nat) (w : World) (h : Rd w w.heap.size 1 A (l.map flF) l.length) (ho : ∀ x ∈ l, okF x) (hl : l.length ≤ 140737488355328) :
    Calls Tryz.prog 91 #[.slice A l.length c] w fun e w' => e = .returned (.bool (l.all finF)) ∧ Below w.heap.size w w' := by
  have c1 := containsF_any 147 enter_finite (fun x => !finF x) (fun x w h => finite1_any x h w) l A c w h ho hl
  have e : l.all finF = !l.any (fun x => !finF x) := by rw [List.not_any_eq_all_not]; simp
  rw [e]
  generalize l.any (fun x => !finF x) = r at *
  generalize l.length = n at *
  clear h ho hl e
  go_enter Tryz.func91, Tryz.ntmps91
  go_wp2_with (go_at_call 142; refine c1.mono ?_; rintro e w' ⟨rfl, hb'⟩)
  go_ret
  exact ⟨rfl, hb'⟩
end Go.Proofs.YtpiegngjpnpohaaGreat.Sn
