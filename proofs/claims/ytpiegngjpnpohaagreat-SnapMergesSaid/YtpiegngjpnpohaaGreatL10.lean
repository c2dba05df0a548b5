/- Lemmas for the laws of this seat, laid together of Mg1, St1. -/
import Derived.Test.YtpiegngjpnpohaaGreatL00
import Derived.Test.YtpiegngjpnpohaaGreatL03
import Derived.Test.YtpiegngjpnpohaaGreatL08
import Derived.Test.YtpiegngjpnpohaaGreatL09
import Derived.Lib.AppendZerosOnto
import Derived.Laws.IdiomCopy
import Derived.Shelf.SlSortCmp.KitK
import Derived.WalkKit
import Derived.WalkSmall
import Derived.BigRegion
import Derived.Deep.LoopGhost
import Derived.Lib.Hide

namespace Go.Proofs.YtpiegngjpnpohaaGreat.Mg
open Go.RowKit Go.Shelf Go.Sort Go.Proofs Go.Lib Go.Proofs.YtpiegngjpnpohaaGreat.Sl Go.Proofs.YtpiegngjpnpohaaGreat.Rk Go.Proofs.YtpiegngjpnpohaaGreat.St
set_option linter.unusedVariables false
theorem infoCount : (Tryz.prog.info? 54).map (fun i => (i.zero, i.size, i.bytes)) = some (some (.agg #[.int .i64 0, .int .u64 0]), 2, 16) := by kernel_rfl
theorem flat_one (l : List (Int × Int)) : ∀ u ∈ flat l, u.oneCell' = true := by
  intro u hu
  obtain ⟨c, _, h⟩ := List.mem_flatMap.1 hu
  simp at h
  rcases h with rfl | rfl <;> rfl
theorem flat_snoc (l : List (Int × Int)) (c : Int × Int) : flat (l ++ [c]) = flat l ++ [.int .i64 c.1, .int .u64 c.2] := by simp [flat]
theorem flat_append (a b : List (Int × Int)) : flat (a ++ b) = flat a ++ flat b := by simp [flat]
theorem flat_take (l : List (Int × Int)) (k : Nat) : (flat l).take (k * 2) = flat (l.take k) := by
  induction l generalizing k with
  | nil => simp [flat]
  | cons c r ih =>
    cases k with
    | zero => simp [flat]
    | succ k =>
      have := ih k
      rw [show (k + 1) * 2 = k * 2 + 1 + 1 by omega]
      simp only [flat, List.flatMap_cons, List.take_succ_cons, List.cons_append, List.nil_append] at this ⊢
      rw [this]
theorem flat_set2 (l : List (Int × Int)) (i : Nat) (c : Int × Int) : ((flat l).set (i * 2) (.int .i64 c.1)).set (i * 2 + 1) (.int .u64 c.2) = flat (l.set i c) := by
  induction l generalizing i with
  | nil => simp [flat]
  | cons d r ih =>
    cases i with
    | zero => simp [flat]
    | succ i =>
      have := ih i
      rw [show (i + 1) * 2 = i * 2 + 1 + 1 by omega]
      simp only [flat, List.flatMap_cons, List.set_cons_succ, List.cons_append, List.nil_append] at this ⊢
      rw [this]
theorem cs_of_own {w : World} {base : Nat} {A : Option Addr} {cap : Nat} {l : List (Int × Int)} {t : TypeId} (h : w.ownsRow base t 2 (.slice A l.length cap) l.length (flat l)) (hok : ∀ c ∈ l, okC c) : Cs w w.heap.size A l := by
  obtain ⟨_, _, e1, e2, e3, e4⟩ := own_form h
  cases e1
  refine ⟨by omega, hok, fun hl => ?_⟩
  rcases h.2 with ⟨h1, h2⟩ | ⟨g, cap', cur, h1, h2⟩
  · omega
  · cases h1
    refine ⟨g, 0, rfl, (h.lt g rfl).2, fun i c hi => ?_⟩
    have hil := (List.getElem?_eq_some_iff.1 hi).1
    obtain ⟨f1, f2⟩ := flat_get l i c hi
    rw [Nat.zero_add]
    exact ⟨(h.cellAt (i * 2) (by omega)).trans f1, (h.cellAt (i * 2 + 1) (by omega)).trans f2⟩
theorem own_cut {w : World} {base s g n k cap : Nat} {t : TypeId} {xs : List Value} (h : w.ownsRow base t s (.slice (some ⟨g, 0, none⟩) n cap) n xs) (hk : k ≤ n) : w.ownsRow base t s (.slice (some ⟨g, 0, none⟩) k cap) k (xs.take (k * s)) := by
  have hm := Nat.mul_le_mul_right s hk
  refine ⟨by rw [List.length_take, h.1]; omega, ?_⟩
  rcases h.2 with ⟨h1, h2⟩ | ⟨g', cap', cur, h1, h2, h3, h4, h5, h6, h7⟩
  · simp at h1
  · cases h1
    exact .inr ⟨g, cap, cur, rfl, h2, h3, by omega, h5, h6, by rw [← h7, List.take_take, Nat.min_eq_left hm]⟩
theorem own_past {base s g n cap : Nat} {t : TypeId} {xs : List Value} (hl : xs.length = n * s) : ∀ (vs : List Value) (w : World) (o : Nat), n * s ≤ o → w.ownsRow base t s (.slice (some ⟨g, 0, none⟩) n cap) n xs → (w.setCells g o vs).ownsRow base t s (.slice (some ⟨g, 0, none⟩) n cap) n xs ∧ w.grownBy (w.setCells g o vs) (some g)
  | [], w, o, _, h => ⟨by simpa [World.setCells] using h, by simpa [World.setCells] using World.grownBy.refl w (some g)⟩
  | v :: vs, w, o, ho, h => by
    obtain ⟨h1, h2⟩ := h.stored o v
    rw [List.set_eq_of_length_le (by omega)] at h1
    obtain ⟨h3, h4⟩ := own_past hl vs _ (o + 1) (by omega) h1
    simp only [World.setCells]
    exact ⟨h3, h2.andThen h4 (fun j hj => by cases hj; exact .inr rfl)⟩
theorem run_clear_own {P : Program} {w : World} {base g n k cap : Nat} {t ty e : TypeId} {i : TypeInfo} {z : Value} {xs : List Value} (s : Nat) (ht : P.underlying t = some (.slice e)) (hi : P.info? e = some i) (hz : i.zero = some z) (hzs : z.cells.size = s) (h1 : ∀ u ∈ z.cells.toList, u.oneCell' = true) (hs : 0 < s)
    (h : w.ownsRow base e s (.slice (some ⟨g, 0, none⟩) n cap) n xs) (hk : k < n) (o : Nat) (ho : o = k * s) (c : Nat) :
    ∃ w', (Builtin.clear_ #[t] ty #[.slice (some ⟨g, o, none⟩) (n - k) c]).run P w = .ok (.tuple #[]) w' ∧ w'.ownsRow base e s (.slice (some ⟨g, 0, none⟩) k cap) k (xs.take (k * s)) ∧ w.grownBy w' (some g) := by
  subst ho
  have hzv : ∀ w : World, (zeroValue e).run P w = .ok z w := fun w => by simp [zeroValue, typeInfo, hi, hz]
  have hm : (n - k) * s + k * s = n * s := by rw [← Nat.add_mul]; congr 1; omega
  have hlen : (Builtin.zeroCells z.cells (n - k)).toList.length = (n - k) * s := by simp [Builtin.zeroCells, hzs]
  have hst := run_storeCells_cells (P := P) g (k * s) (Builtin.zeroCells z.cells (n - k)).toList 0 w
    (fun j hj => by
      rw [hlen] at hj
      rw [h.cellAt _ (by omega), List.getElem?_eq_getElem (by rw [h.1]; omega)]; rfl)
    (fun j _ => h.frozenAt _)
    (fun v hv => by
      refine h1 v ?_
      rw [Array.mem_toList_iff] at hv ⊢
      simp only [Builtin.zeroCells] at hv
      obtain ⟨j, hj, rfl⟩ := Array.mem_map.1 hv
      have hb : j % z.cells.size < z.cells.size := Nat.mod_lt _ (by omega)
      rw [getElem!_pos z.cells _ hb]
      exact Array.getElem_mem _)
  simp only [Nat.add_zero] at hst
  obtain ⟨a, b⟩ := own_past (own_cut h (Nat.le_of_lt hk)).1 (Builtin.zeroCells z.cells (n - k)).toList w (k * s) (Nat.le_refl _) (own_cut h (Nat.le_of_lt hk))
  refine ⟨_, ?_, a, b⟩
  obtain ⟨m, hm⟩ : ∃ m, n - k = m + 1 := ⟨n - k - 1, by omega⟩
  rw [hm] at hst ⊢
  simp [Builtin.clear_, run_underlying ht, hzv, hst]
theorem cmp_any (x y : Cnt) (W : World) : Calls Tryz.prog 164 #[.agg #[.int .i64 x.1, .int .u64 x.2], .agg #[.int .i64 y.1, .int .u64 y.2]] W fun e w' => e = .returned (.int .i64 (if x.1 < y.1 then -1 else if y.1 < x.1 then 1 else 0)) ∧ ∃ q os', w' = grow (W.drewN q) os' := by
  obtain ⟨a, b⟩ := x
  obtain ⟨c, d⟩ := y
  simp only
  rcases Int.lt_trichotomy a c with h | h | h
  · rw [if_pos h]
    go_enter Tryz.func164, Tryz.ntmps164
    go_wp2
    go_ret
    exact ⟨rfl, 0, _, by rw [alloc_eq_grow, alloc_eq_grow, grow_grow]; rfl⟩
  · subst h
    have h1 : ¬ a < a := by omega
    rw [if_neg h1, if_neg h1]
    go_enter Tryz.func164, Tryz.ntmps164
    go_wp2
    go_ret
    exact ⟨rfl, 0, _, by rw [alloc_eq_grow, alloc_eq_grow, grow_grow]; rfl⟩
  · have h1 : ¬ a < c := by omega
    rw [if_neg h1, if_pos h]
    go_enter Tryz.func164, Tryz.ntmps164
    go_wp2
    go_ret
    exact ⟨rfl, 0, _, by rw [alloc_eq_grow, alloc_eq_grow, grow_grow]; rfl⟩
theorem enters_cmp : ∀ args w, (callFunc 164 args).run Tryz.prog w = .ok (.enter 164 args) w := enters_of Tryz.func164 (by kernel_rfl) rfl
theorem enters_del : ∀ args w, (callFunc 166 args).run Tryz.prog w = .ok (.enter 166 args) w := enters_of Tryz.func166 (by kernel_rfl) rfl
theorem del_any (x : Cnt) (W : World) : Calls Tryz.prog 166 #[.agg #[.int .i64 x.1, .int .u64 x.2]] W fun e w' => e = .returned (.bool (x.2 == 0)) ∧ w' = W.alloc (.cells #[.int .i64 x.1, .int .u64 x.2] 54) := by
  obtain ⟨a, b⟩ := x
  simp only
  go_enter Tryz.func166, Tryz.ntmps166
  go_wp2
  go_ret
  exact ⟨rfl, rfl⟩
def zAt (l : List Cnt) : Nat := l.findIdx fun c => c.2 == 0
def zIdx (l : List Cnt) : Int := if zAt l < l.length then (zAt l : Int) else -1
theorem zAt_hit {l : List Cnt} {k : Nat} (hk : k < l.length) (h0 : ∀ j (h : j < l.length), j < k → l[j].2 ≠ 0) (h : l[k].2 = 0) : zIdx l = k := by
  have e : zAt l = k := by
    unfold zAt
    rw [List.findIdx_eq hk]
    exact ⟨by simpa using h, fun j hj => by simpa using h0 j (by omega) hj⟩
  rw [zIdx, e, if_pos hk]
theorem zAt_miss {l : List Cnt} (h0 : ∀ j (h : j < l.length), l[j].2 ≠ 0) : zIdx l = -1 := by
  have e : ¬ zAt l < l.length := by
    unfold zAt
    rw [List.findIdx_lt_length]
    rintro ⟨x, hx, e⟩
    obtain ⟨j, hj, rfl⟩ := List.mem_iff_getElem.1 hx
    exact h0 j hj (by simpa using e)
  rw [zIdx, if_neg e]
set_option maxHeartbeats 1000000 in
theorem index_any (w : World) (B : Nat) (A : Option Addr) (l : List Cnt) (cap : Nat) (h : Cs w B A l) (hB : B ≤ w.heap.size) :
    Calls Tryz.prog 196 #[.slice A l.length cap, .func (.func 166) #[] #[]] w fun e w' => e = .returned (.int .i64 (zIdx l)) ∧ Below w.heap.size w w' := by
  have hl := h.len
  unfold maxLen at hl
  have eg := enters_del
  go_enter Tryz.func196, Tryz.ntmps196
  go_wp2
  go_loopw [8] (fun i wr => ∃ k : Nat, k ≤ l.length ∧ i = .int .i64 k ∧ Hid (∀ j (h : j < l.length), j < k → l[j].2 ≠ 0) ∧ Below w.heap.size w wr) (fun i _ => l.length - (intOf i).toNat)
  case atStart => exact ⟨0, Nat.zero_le _, rfl, fun j _ hj => absurd hj (by omega), Below.refl _ _⟩
  case round =>
    obtain ⟨k, hk, rfl, h0, hb⟩ := hrel
    by_cases hlt : k < l.length
    · obtain ⟨b, off, rfl, hbB, hc⟩ := (h.below (hb.mono hB)).cells (by omega)
      obtain ⟨h1, h2⟩ := hc k l[k] (List.getElem?_eq_getElem hlt)
      clear hc
      have hit := fun (e : l[k].2 = 0) => zAt_hit hlt h0.out e
      have nx : l[k].2 ≠ 0 → Hid (∀ j (h : j < l.length), j < k + 1 → l[j].2 ≠ 0) := fun e j h hj => by
        by_cases ej : j = k
        · subst ej; exact e
        · exact h0.out j h (by omega)
      have hd := fun W => del_any l[k] W
      obtain ⟨c, hcx⟩ : ∃ c, c = l[k] := ⟨_, rfl⟩
      rw [← hcx] at h1 h2 hit nx hd
      replace hcx := Lib.hid hcx
      obtain ⟨a, b'⟩ := c
      simp only at h1 h2 hit nx hd
      by_cases hz : b' = 0
      · have e := hit hz
        subst hz
        have e0 : ((0 : Int) == 0) = true := rfl
        rw [e0] at hd
        replace e := Lib.hid e
        clear hit nx h0 e0
        go_wp2_with (go_at_fn 166; refine (hd _).mono ?_; rintro e w' ⟨rfl, rfl⟩)
        go_ret
        exact ⟨by rw [e.out]; rfl, hb.alloc hb.size _⟩
      · have e := nx hz
        have e0 : (b' == 0) = false := beq_eq_false_iff_ne.2 hz
        rw [e0] at hd
        clear hit nx h0 e0
        go_wp2_with (go_at_fn 166; refine (hd _).mono ?_; rintro e w' ⟨rfl, rfl⟩)
        exact ⟨⟨k + 1, by omega, by go_num, e, hb.alloc hb.size _⟩, by simp [intOf]; omega⟩
    · have e : zIdx l = -1 := zAt_miss fun j h => h0.out j h (by omega)
      clear h0
      go_wp2
      go_ret
      exact ⟨by rw [e]; rfl, hb⟩
theorem nz_snoc_keep {l : List Cnt} {c : Cnt} (h : c.2 ≠ 0) : nz (l ++ [c]) = nz l ++ [c] := by simp [nz, h]
theorem nz_snoc_drop {l : List Cnt} {c : Cnt} (h : c.2 = 0) : nz (l ++ [c]) = nz l := by simp [nz, h]
theorem nz_len (l : List Cnt) : (nz l).length ≤ l.length := List.length_filter_le _ _
theorem nz_all {l : List Cnt} (h : ∀ j (h : j < l.length), l[j].2 ≠ 0) : nz l = l := by
  unfold nz
  rw [List.filter_eq_self]
  intro c hc
  obtain ⟨j, hj, rfl⟩ := List.mem_iff_getElem.1 hc
  simpa using h j hj
theorem zIdx_cases (l : List Cnt) : (zIdx l = -1 ∧ nz l = l) ∨ ∃ k, k < l.length ∧ zIdx l = (k : Int) ∧ nz (l.take (k + 1)) = l.take k := by
  by_cases h : zAt l < l.length
  · refine .inr ⟨zAt l, h, by rw [zIdx, if_pos h], ?_⟩
    have hz : l[zAt l].2 = 0 := by
      have := List.findIdx_getElem (p := fun c : Cnt => c.2 == 0) (xs := l) (w := h)
      exact beq_iff_eq.1 this
    rw [List.take_succ_eq_append_getElem h, nz_snoc_drop hz]
    refine nz_all fun j hj => ?_
    rw [List.length_take] at hj
    rw [List.getElem_take]
    have := List.not_of_lt_findIdx (p := fun c : Cnt => c.2 == 0) (xs := l) (i := j) (by unfold zAt at hj; omega)
    simpa using this
  · refine .inl ⟨by rw [zIdx, if_neg h], nz_all fun j hj e => h ?_⟩
    unfold zAt
    rw [List.findIdx_lt_length]
    exact ⟨l[j], List.getElem_mem _, by simpa using e⟩
structure Kp (l dk : List Cnt) (i j : Nat) : Prop where
  len : dk.length = l.length
  head : dk.take i = nz (l.take j)
  rest : dk.drop j = l.drop j
  lt : i < j
theorem Kp.keep {l dk : List Cnt} {i j : Nat} (h : Kp l dk i j) (hj : j < l.length) (hk : l[j].2 ≠ 0) : Kp l (dk.set i l[j]) (i + 1) (j + 1) := by
  have hlt := h.lt
  have hlen := h.len
  refine ⟨by simp [h.len], ?_, ?_, by omega⟩
  · rw [List.take_succ_eq_append_getElem (by simp; omega), List.take_succ_eq_append_getElem hj, nz_snoc_keep hk, ← h.head]
    simp [List.take_set_of_le]
  · rw [List.drop_set_of_lt (by omega)]
    have := congrArg (List.drop 1) h.rest
    simpa [List.drop_drop] using this
theorem Kp.skip {l dk : List Cnt} {i j : Nat} (h : Kp l dk i j) (hj : j < l.length) (hk : l[j].2 = 0) : Kp l dk i (j + 1) := by
  refine ⟨h.len, ?_, ?_, by have := h.lt; omega⟩
  · rw [List.take_succ_eq_append_getElem hj, nz_snoc_drop hk]; exact h.head
  · have := congrArg (List.drop 1) h.rest
    simpa [List.drop_drop] using this
theorem Kp.at {l dk : List Cnt} {i j : Nat} (h : Kp l dk i j) (hj : j < l.length) : dk[j]? = some l[j] := by
  have := congrArg (fun t => t[0]?) h.rest
  simpa [hj] using this
def DelPost (w : World) (base : Nat) (l : List Cnt) (cap : Nat) (e : Ending) (w' : World) : Prop :=
  ∃ A, e = .returned (.slice A (nz l).length cap) ∧ w'.ownsRow base 54 2 (.slice A (nz l).length cap) (nz l).length (flat (nz l)) ∧ Below base w w'
theorem below_two {B : Nat} {w wr : World} (h : RowKit.Below B w wr) (hB : B ≤ w.heap.size) (o1 o2 : Obj) : RowKit.Below B w ((wr.alloc o1).alloc o2) :=
  (h.alloc (Nat.le_trans hB h.size) o1).alloc (Nat.le_trans (Nat.le_trans hB h.size) ((RowKit.Below.refl B wr).alloc (Nat.le_trans hB h.size) o1).size) o2
set_option maxHeartbeats 2000000 in
theorem delete_any (w : World) (base : Nat) (A : Option Addr) (l : List Cnt) (cap : Nat) (h : w.ownsRow base 54 2 (.slice A l.length cap) l.length (flat l)) (hok : ∀ c ∈ l, okC c) (hb : base ≤ w.heap.size) :
    Calls Tryz.prog 165 #[.slice A l.length cap, .func (.func 166) #[] #[]] w (DelPost w base l cap) := by
  have hc := cs_of_own h hok
  have ci := index_any w w.heap.size A l cap hc (Nat.le_refl _)
  have hl := hc.len
  unfold maxLen at hl
  obtain ⟨i0, hi, hz0, hz1, hz2⟩ := info_parts infoCount
  have eg := enters_del
  clear hc
  rcases zIdx_cases l with ⟨e1, e2⟩ | ⟨k, hk, e1, e2⟩
  · have fin : ∀ w', Below w.heap.size w w' → DelPost w base l cap (.returned (.slice A l.length cap)) w' := fun w' hb' => by
      refine ⟨A, by rw [e2], ?_, hb'.mono hb⟩
      rw [e2]; exact own_later h hb'
    rw [e1] at ci
    replace fin := Lib.hid fin
    clear h e1 e2
    go_enter Tryz.func165, Tryz.ntmps165
    go_wp2_with (go_at_call 196; refine ci.mono ?_; rintro e w' ⟨rfl, hb'⟩)
    go_ret
    exact fin.out _ hb'
  · rw [e1] at ci
    have hA : ∃ g, A = some ⟨g, 0, none⟩ := by
      rcases h.2 with ⟨h1, h2⟩ | ⟨g, cap', cur, h1, h2⟩
      · omega
      · cases h1; exact ⟨g, rfl⟩
    obtain ⟨g, rfl⟩ := hA
    have hne : ((k : Int) == -1) = false := beq_eq_false_iff_ne.2 (by omega)
    have hcap : l.length ≤ cap ∧ cap ≤ maxLen := by
      obtain ⟨_, _, x1, x2, x3, _⟩ := own_form h
      cases x1; exact ⟨x2, x3⟩
    unfold maxLen at hcap
    obtain ⟨hcap1, hcap2⟩ := hcap
    have hgb : base ≤ g := (h.lt g rfl).1
    replace e2 := Lib.hid e2
    replace hok := Lib.hid hok
    clear e1
    obtain ⟨N, hN⟩ : ∃ N, N = l.length := ⟨_, rfl⟩
    rw [← hN] at h ci hl hk hcap1 ⊢
    replace hN := Lib.hid hN
    go_enter Tryz.func165, Tryz.ntmps165
    go_wp2_with (go_at_call 196; refine ci.mono ?_; rintro e w1 ⟨rfl, hb1⟩)
    have st : Hid (∃ dk, Kp l dk k (k + 1) ∧ w1.ownsRow base 54 2 (.slice (some ⟨g, 0, none⟩) N cap) N (flat dk) ∧ Below base w w1) := ⟨l, ⟨rfl, e2.out.symm, rfl, by omega⟩, own_later h hb1, hb1.mono hb⟩
    clear h hb1 e2 ci
    go_wp2_with fail
    go_loopg [5, 6] (N) (fun kx s5 s6 wr => ∃ (i j : Nat), s5 = .int .i64 (i : Int) ∧ s6 = .int .i64 (j : Int) ∧ i < j ∧ j ≤ N ∧ N - j ≤ kx ∧ Hid (∃ dk, Kp l dk i j ∧ wr.ownsRow base 54 2 (.slice (some ⟨g, 0, none⟩) N cap) N (flat dk) ∧ Below base w wr))
    case atStart => exact ⟨k, k + 1, rfl, by simp, by omega, by omega, by omega, st⟩
    case round =>
      clear st hne hk
      obtain ⟨i, j, rfl, rfl, hij, hjN, hkx, hall⟩ := hrel
      obtain ⟨dk, K, ho, hbw⟩ := hall.out
      clear hall
      by_cases hlt : j < N
      · obtain ⟨x, hx⟩ : ∃ x, x = l[j]'(by rw [← hN.out]; exact hlt) := ⟨_, rfl⟩
        have hat := K.at (by rw [← hN.out]; exact hlt)
        rw [← hx] at hat
        obtain ⟨f1, f2⟩ := flat_get dk j x hat
        have c1 : wr.cell? ⟨g, j * 2, none⟩ = some (.int .i64 x.1) := (ho.cellAt (j * 2) (by omega)).trans f1
        have c2 : wr.cell? ⟨g, j * 2 + 1, none⟩ = some (.int .u64 x.2) := (ho.cellAt (j * 2 + 1) (by omega)).trans f2
        have hd := fun W => del_any x W
        by_cases hz : x.2 = 0
        · have K2 : Hid (Kp l dk i (j + 1)) := K.skip (by rw [← hN.out]; exact hlt) (by rw [← hx]; exact hz)
          have e0 : (x.2 == 0) = true := by rw [hz]; rfl
          rw [e0] at hd
          obtain ⟨a, b⟩ := x
          replace hx := Lib.hid hx
          simp only at c1 c2 hd hz
          clear f1 f2 hat K e0
          subst hz
          go_wp2_with (go_at_fn 166; refine (hd _).mono ?_; rintro e w' ⟨rfl, rfl⟩)
          go_roundg (N - (j + 1))
          case measure => omega
          case rel => exact ⟨i, j + 1, rfl, by go_num, by omega, by omega, by omega, ⟨dk, K2.out, (ho.alloc _).alloc _, below_two hbw hb _ _⟩⟩
        · have K2 : Hid (Kp l (dk.set i x) (i + 1) (j + 1)) := by rw [hx]; exact K.keep (by rw [← hN.out]; exact hlt) (by rw [← hx]; exact hz)
          have e0 : (x.2 == 0) = false := beq_eq_false_iff_ne.2 hz
          rw [e0] at hd
          have hset := flat_set2 dk i x
          obtain ⟨a, b⟩ := x
          replace hx := Lib.hid hx
          simp only at hset
          simp only at c1 c2 hd hz
          have own2 := fun o1 o2 => (ho.alloc o1).alloc o2
          have hil : i * 2 + 1 < (flat dk).length := by rw [ho.1]; omega
          obtain ⟨u1, hu1⟩ : ∃ u, (flat dk)[i * 2]? = some u := ⟨_, List.getElem?_eq_getElem (by omega)⟩
          obtain ⟨u2, hu2⟩ : ∃ u, (flat dk)[i * 2 + 1]? = some u := ⟨_, List.getElem?_eq_getElem (by omega)⟩
          have q1 : ∀ o1 o2, ((wr.alloc o1).alloc o2).cell? ⟨g, i * 2, none⟩ = some u1 := fun o1 o2 => ((own2 o1 o2).cellAt _ (by omega)).trans hu1
          have q2 : ∀ o1 o2, ((wr.alloc o1).alloc o2).frozen? ⟨g, i * 2, none⟩ = false := fun o1 o2 => (own2 o1 o2).frozenAt _
          have q3 : ∀ o1 o2 v, (((wr.alloc o1).alloc o2).setCell ⟨g, i * 2, none⟩ v).cell? ⟨g, i * 2 + 1, none⟩ = some u2 := fun o1 o2 v => (((own2 o1 o2).stored (i * 2) v).1.cellAt _ (by omega)).trans (by rw [List.getElem?_set_ne (by omega)]; exact hu2)
          have q4 : ∀ o1 o2 v, (((wr.alloc o1).alloc o2).setCell ⟨g, i * 2, none⟩ v).frozen? ⟨g, i * 2 + 1, none⟩ = false := fun o1 o2 v => ((own2 o1 o2).stored (i * 2) v).1.frozenAt _
          have t1 : ∀ o1 o2 w2, w2 = (((wr.alloc o1).alloc o2).setCell ⟨g, i * 2, none⟩ (.int .i64 a)).setCell ⟨g, i * 2 + 1, none⟩ (.int .u64 b) → Hid (w2.ownsRow base 54 2 (.slice (some ⟨g, 0, none⟩) N cap) N (flat (dk.set i (a, b))) ∧ RowKit.Below base w w2) := fun o1 o2 w2 e => by
            subst e
            have y1 := ((own2 o1 o2).stored (i * 2) (.int .i64 a)).1.stored (i * 2 + 1) (.int .u64 b)
            rw [hset] at y1
            exact ⟨y1.1, ((below_two hbw hb o1 o2).setCell hgb _).setCell hgb _⟩
          clear f1 f2 hat K e0 own2 hset hil hu1 hu2
          go_wp2_with (go_at_fn 166; refine (hd _).mono ?_; rintro e w' ⟨rfl, rfl⟩)
          go_roundg (N - (j + 1))
          case measure => omega
          case rel => exact ⟨i + 1, j + 1, by go_num, by go_num, by omega, by omega, by omega, ⟨_, K2.out, (t1 _ _ _ rfl).out.1, (t1 _ _ _ rfl).out.2⟩⟩
      · obtain rfl : j = N := by omega
        have e3 : dk.take i = nz l := by rw [K.head, hN.out, List.take_length]
        have e4 : (nz l).length = i := by rw [← e3, List.length_take, K.len, ← hN.out]; omega
        have fin : ∀ w', w'.ownsRow base 54 2 (.slice (some ⟨g, 0, none⟩) i cap) i (flat (dk.take i)) → RowKit.Below base w w' → DelPost w base l cap (.returned (.slice (some ⟨g, 0, none⟩) i cap)) w' := fun w' y1 y2 => by
          rw [e3] at y1
          exact ⟨_, by rw [e4], by rw [e4]; exact y1, y2⟩
        have hcl : ∀ ty, ∃ w', (Builtin.clear_ #[46] ty #[.slice (some ⟨g, i * 2, none⟩) (j - i) (cap - i)]).run Tryz.prog wr = .ok (.tuple #[]) w' ∧ w'.ownsRow base 54 2 (.slice (some ⟨g, 0, none⟩) i cap) i (flat (dk.take i)) ∧ wr.grownBy w' (some g) := fun ty => by
          have := run_clear_own (P := Tryz.prog) (ty := ty) 2 (t := 46) (by kernel_rfl) hi hz0 rfl (by simp [Value.cells, Value.oneCell']) (by omega) ho (k := i) (by omega) (i * 2) rfl (cap - i)
          rwa [flat_take] at this
        obtain ⟨w', c1, c2, c3⟩ := hcl 0
        replace fin := Lib.hid (fin w' c2 (hbw.grown c3 (Nat.le_trans hb hbw.size) (fun k hk => by cases hk; exact hgb)))
        clear c2 c3 hcl e3 e4 K ho
        go_wp2
        go_ret
        exact fin.out
end Go.Proofs.YtpiegngjpnpohaaGreat.Mg

namespace Go.Proofs.YtpiegngjpnpohaaGreat.St
open Go.RowKit Go.Sort Go.Shelf Go.Proofs Go.Lib
set_option linter.unusedVariables false
def encC (c : Cnt) : List Value := [.int .i64 c.1, .int .u64 c.2]
theorem encC_len (c : Cnt) : (encC c).length = 2 := rfl
theorem encC_one (c : Cnt) : ∀ v ∈ encC c, v.oneCell' = true := by
  intro v hv; simp [encC] at hv; rcases hv with rfl | rfl <;> rfl
section
variable {w0 W : World} {blk off : Nat} {d0 dk : Array Cnt}
theorem swk_cells (h : SWK encC 2 w0 blk off dk W) (R : RowK encC 2 w0 blk off d0) (hs : dk.size = d0.size) {i : Nat} (hi : i < dk.size) :
    (W.cell? ⟨blk, off + i * 2, none⟩ = some (.int .i64 (dk[i]!).1) ∧ W.frozen? ⟨blk, off + i * 2, none⟩ = false) ∧ (W.cell? ⟨blk, off + i * 2 + 1, none⟩ = some (.int .u64 (dk[i]!).2) ∧ W.frozen? ⟨blk, off + i * 2 + 1, none⟩ = false) := by
  have hH := h.holds R.hblk R.hH hs
  have c0 := HoldsK.cell hH hi (c := 0) (by omega)
  have c1 := HoldsK.cell hH hi (c := 1) (by omega)
  exact ⟨c0, c1⟩
theorem swk_swap (h : SWK encC 2 w0 blk off dk W) (R : RowK encC 2 w0 blk off d0) {i j : Nat} (hi : i < dk.size) (hj : j < dk.size) (x y : Cnt) (hx : x = dk[i]!) (hy : y = dk[j]!) :
    SWK encC 2 w0 blk off (swp dk i j) ((((W.drew.setCell ⟨blk, off + i * 2, none⟩ (.int .i64 y.1)).setCell ⟨blk, off + i * 2 + 1, none⟩ (.int .u64 y.2)).setCell ⟨blk, off + j * 2, none⟩ (.int .i64 x.1)).setCell ⟨blk, off + j * 2 + 1, none⟩ (.int .u64 x.2)) := by
  subst hx hy
  exact h.swapped R i j hi hj
end
theorem swapRange_any (w0 w : World) (blk off cap n a b : Nat) (d0 : Array Cnt) (X U Y V Z : List Cnt) (cv : Value) (R : RowK encC 2 w0 blk off d0) (hu : U.length = n) (hv : V.length = n) (ha : a = X.length) (hb : b = X.length + n + Y.length)
    (hs : d0.size = X.length + n + Y.length + n + Z.length) (hsz : d0.size < 4611686018427387904) (S : SWK encC 2 w0 blk off (X ++ U ++ Y ++ V ++ Z).toArray w) :
    Calls Tryz.prog 213 #[.slice (some ⟨blk, off, none⟩) d0.size cap, .int .i64 a, .int .i64 b, .int .i64 n, cv] w fun e w' => e = .returned (.tuple #[]) ∧ SWK encC 2 w0 blk off (X ++ V ++ Y ++ U ++ Z).toArray w' := by
  have hlen := fun k => swpd_len (X := X) (Y := Y) (Z := Z) hu hv k
  have hst := fun k (hk : k < n) => swpd_step (X := X) (Y := Y) (Z := Z) hu hv hk (i := a + k) (j := b + k) (by omega) (by omega)
  have hdn := swpd_done (X := X) (Y := Y) (Z := Z) hu hv
  rw [← swpd_zero] at S
  have hab : a + n ≤ b := by omega
  have hbz : b + n ≤ d0.size := by omega
  have S0 := Lib.hid S
  replace hlen := Lib.hid hlen
  replace hst := Lib.hid hst
  replace hdn := Lib.hid hdn
  replace hu := Lib.hid hu
  replace hv := Lib.hid hv
  replace ha := Lib.hid ha
  replace hb := Lib.hid hb
  replace hs := Lib.hid hs
  obtain ⟨m, hm⟩ : ∃ m, m = d0.size := ⟨_, rfl⟩
  rw [← hm] at hsz hbz ⊢
  replace hm := Lib.hid hm
  obtain ⟨F, hF⟩ : ∃ F, F = (X ++ V ++ Y ++ U ++ Z).toArray := ⟨_, rfl⟩
  rw [← hF]
  replace hF := Lib.hid hF
  clear S
  go_enter Tryz.func213, Tryz.ntmps213
  go_wp2
  go_loopg [10] n (fun kx s10 wr => ∃ k : Nat, s10 = .int .i64 (k : Int) ∧ k ≤ n ∧ n - k ≤ kx ∧ Hid (SWK encC 2 w0 blk off (swpd X U Y V Z k).toArray wr))
  case atStart => exact ⟨0, rfl, Nat.zero_le _, by omega, S0⟩
  case round =>
    clear S0
    obtain ⟨k, rfl, hk, hkx, S1⟩ := hrel
    by_cases hlt : k < n
    · have hz : (swpd X U Y V Z k).toArray.size = d0.size := by simp only [List.size_toArray]; rw [hlen.out, hs.out]
      have hz1 : (swpd X U Y V Z k).toArray.size = m := by rw [hz, hm.out]
      obtain ⟨⟨i0, j0⟩, ⟨i1, j1⟩⟩ := swk_cells S1.out R hz (i := a + k) (by rw [hz1]; omega)
      obtain ⟨⟨p0, q0⟩, ⟨p1, q1⟩⟩ := swk_cells S1.out R hz (i := b + k) (by rw [hz1]; omega)
      have S2 := swk_swap S1.out R (i := a + k) (j := b + k) (by rw [hz1]; omega) (by rw [hz1]; omega) _ _ rfl rfl
      rw [hst.out k hlt] at S2
      generalize (swpd X U Y V Z k).toArray[a + k]! = x at *
      generalize (swpd X U Y V Z k).toArray[b + k]! = y at *
      have e1 : ((a : Int) + (k : Int)).toNat = a + k := by omega
      have e2 : ((b : Int) + (k : Int)).toNat = b + k := by omega
      have g1 : (0 : Int) ≤ (a : Int) + (k : Int) := by omega
      have g2 : (0 : Int) ≤ (b : Int) + (k : Int) := by omega
      have g3 : (a : Int) + (k : Int) < (m : Int) := by omega
      have g4 : (b : Int) + (k : Int) < (m : Int) := by omega
      have g5 : (k : Int) < (n : Int) := by omega
      have r1 : IntKind.i64.wrap ((a : Int) + (k : Int)) = (a : Int) + (k : Int) := by rw [IntKind.wrap_i64]; omega
      have r2 : IntKind.i64.wrap ((b : Int) + (k : Int)) = (b : Int) + (k : Int) := by rw [IntKind.wrap_i64]; omega
      replace S2 := Lib.hid S2
      clear S1 hz hz1
      obtain ⟨x1, x2⟩ := x
      obtain ⟨y1, y2⟩ := y
      have t1 : ∀ w2 : World, w2 = (((wr.drew.setCell ⟨blk, off + (a + k) * 2, none⟩ (.int .i64 y1)).setCell ⟨blk, off + (a + k) * 2 + 1, none⟩ (.int .u64 y2)).setCell ⟨blk, off + (b + k) * 2, none⟩ (.int .i64 x1)).setCell ⟨blk, off + (b + k) * 2 + 1, none⟩ (.int .u64 x2) → Hid (SWK encC 2 w0 blk off (swpd X U Y V Z (k + 1)).toArray w2) := by
        intro w2 h; subst h; exact S2
      clear S2
      replace t1 := Lib.hid t1
      simp only at i0 i1 p0 p1
      go_wp2_with fail
      go_region
      go_wp2
      go_roundg (n - (k + 1))
      case measure => omega
      case rel => exact ⟨k + 1, by simp, by omega, Nat.le_refl _, t1.out _ rfl⟩
    · obtain rfl : k = n := by omega
      have S2 := S1.out
      rw [hdn.out, ← hF.out] at S2
      replace S2 := Lib.hid S2
      have hge : ¬ (k : Int) < (k : Int) := by omega
      clear S1
      go_wp2
      go_end0
      exact ⟨rfl, S2.out⟩
theorem rotate_any (w0 w : World) (blk off cap a m b : Nat) (d0 : Array Cnt) (X P Q Y : List Cnt) (cv : Value) (R : RowK encC 2 w0 blk off d0) (ha : a = X.length) (hm : m = X.length + P.length) (hb : b = X.length + P.length + Q.length)
    (hp : 0 < P.length) (hq : 0 < Q.length) (hs : d0.size = X.length + P.length + Q.length + Y.length) (hsz : d0.size < 4611686018427387904) (S : SWK encC 2 w0 blk off (X ++ (P ++ Q) ++ Y).toArray w) :
    Calls Tryz.prog 212 #[.slice (some ⟨blk, off, none⟩) d0.size cap, .int .i64 a, .int .i64 m, .int .i64 b, cv] w fun e w' => e = .returned (.tuple #[]) ∧ SWK encC 2 w0 blk off (X ++ (Q ++ P) ++ Y).toArray w' := by
  have call := fun (w : World) (n a b : Nat) (X U Y V Z : List Cnt) => swapRange_any w0 w blk off cap n a b d0 X U Y V Z cv R
  obtain ⟨N, hN⟩ : ∃ N, N = d0.size := ⟨_, rfl⟩
  rw [← hN] at hsz hs call ⊢
  have S0 := Lib.hid S
  obtain ⟨F, hF⟩ : ∃ F, F = (X ++ (Q ++ P) ++ Y).toArray := ⟨_, rfl⟩
  rw [← hF]
  have h0 : m - P.length = a := by omega
  have h1 : P.length ≤ m := by omega
  have h2 : m + Q.length ≤ N := by omega
  have h3 : (m : Int) - (a : Int) = (P.length : Int) := by omega
  have h4 : (b : Int) - (m : Int) = (Q.length : Int) := by omega
  have h5 : (a : Int) ≤ N ∧ (m : Int) ≤ N ∧ (b : Int) ≤ N := by omega
  have hsI : (N : Int) < 4611686018427387904 := by omega
  obtain ⟨h5, h6, h7⟩ := h5
  have eL : X.length = m - P.length := by omega
  have eF : Hid (F = (X ++ (Q ++ P) ++ Y).toArray) := hF
  replace call := Lib.hid call
  obtain ⟨pl, hpl⟩ : ∃ pl, pl = P.length := ⟨_, rfl⟩
  obtain ⟨ql, hql⟩ : ∃ ql, ql = Q.length := ⟨_, rfl⟩
  rw [← hpl] at h0 h1 h3 eL hp
  rw [← hql] at h2 h4 hq
  replace hpl := Lib.hid hpl
  replace hql := Lib.hid hql
  replace eL := Lib.hid eL
  replace hs := Lib.hid hs
  clear S hF hN hb ha
  have hmx : m = X.length + P.length := hm
  replace hmx := Lib.hid hmx
  clear hm
  clear h0 eL h1 h2
  go_enter Tryz.func212, Tryz.ntmps212
  go_wp2
  go_loopg [10, 11] (pl + ql) (fun kx s10 s11 wr => ∃ (X' P' Q' Y' : List Cnt) (i j : Nat), s10 = .int .i64 (i : Int) ∧ s11 = .int .i64 (j : Int) ∧ 0 < i ∧ 0 < j ∧ i + j ≤ kx ∧ i ≤ m ∧ m + j ≤ N ∧
    Hid (P'.length = i ∧ Q'.length = j ∧ m = X'.length + P'.length ∧ N = X'.length + P'.length + Q'.length + Y'.length ∧ F = (X' ++ (Q' ++ P') ++ Y').toArray ∧ SWK encC 2 w0 blk off (X' ++ (P' ++ Q') ++ Y').toArray wr))
  case atStart => exact ⟨X, P, Q, Y, pl, ql, rfl, rfl, hp, hq, Nat.le_refl _, by have := hmx.out; have := hpl.out; omega, by have := hmx.out; have := hpl.out; have := hql.out; have := hs.out; omega, hpl.out.symm, hql.out.symm, hmx.out, hs.out, eF.out, S0.out⟩
  case round =>
    clear S0 hpl hql eF hs hmx h3 h4 h5 h7 hp hq
    obtain ⟨X', P', Q', Y', i, j, rfl, rfl, hi, hj, hkx, him, hmj, hall⟩ := hrel
    have hd1 : (m : Int) - (i : Int) = ((m - i : Nat) : Int) := by omega
    have hd2 : (m : Int) + (j : Int) - (i : Int) = ((m + j - i : Nat) : Int) := by omega
    have g1 : (i : Int) ≤ m := by omega
    have g2 : (m : Int) + (j : Int) ≤ N := by omega
    have g3 : (0 : Int) < i := by omega
    have g4 : (0 : Int) < j := by omega
    rcases Nat.lt_trichotomy i j with hij | hij | hij
    ·
      obtain ⟨p1, p2, p3, p4, p5, p6⟩ := hall.out
      have q1 : (Q'.take (j - i)).length = j - i := by rw [List.length_take]; omega
      have q2 : (Q'.drop (j - i)).length = i := by rw [List.length_drop]; omega
      have S1 : SWK encC 2 w0 blk off (X' ++ P' ++ Q'.take (j - i) ++ Q'.drop (j - i) ++ Y').toArray wr := by
        have e : X' ++ P' ++ Q'.take (j - i) ++ Q'.drop (j - i) ++ Y' = X' ++ (P' ++ Q') ++ Y' := by
          rw [List.append_assoc (X' ++ P'), List.take_append_drop]; simp
        rw [e]; exact p6
      have c := call.out wr i (m - i) (m + j - i) X' P' (Q'.take (j - i)) (Q'.drop (j - i)) Y' p1 q2 (by omega) (by omega) (by omega) hsz S1
      have e6 : F = (X' ++ (Q'.take (j - i) ++ Q'.drop (j - i)) ++ P' ++ Y').toArray := by rw [List.take_append_drop, p5]; simp
      have f6 : m = X'.length + (Q'.drop (j - i)).length := by omega
      have f7 : N = X'.length + (Q'.drop (j - i)).length + (Q'.take (j - i)).length + (P' ++ Y').length := by simp only [List.length_append]; omega
      have hne : ((i : Int) != (j : Int)) = true := by simp; omega
      have hgt : ¬ (j : Int) < (i : Int) := by omega
      have hdj : (j : Int) - (i : Int) = ((j - i : Nat) : Int) := by omega
      replace c := Lib.hid c
      replace e6 := Lib.hid e6
      replace f6 := Lib.hid f6
      replace f7 := Lib.hid f7
      replace q1 := Lib.hid q1
      replace q2 := Lib.hid q2
      clear S1 p1 p2 p3 p4 p5 p6 hall call
      go_wp2_with fail
      refine c.out.mono ?_
      rintro e w1 ⟨rfl, S2⟩
      replace S2 := Lib.hid S2
      clear c
      go_wp2
      go_roundg (i + (j - i))
      case measure => omega
      case rel =>
        refine ⟨X', Q'.drop (j - i), Q'.take (j - i), P' ++ Y', i, j - i, rfl, by first | rfl | simp [hdj], hi, by omega, Nat.le_refl _, him, by omega, q2.out, q1.out, f6.out, f7.out, ?_, ?_⟩
        · rw [e6.out]; simp
        · have := S2.out
          simpa using this
    ·
      obtain ⟨p1, p2, p3, p4, p5, p6⟩ := hall.out
      subst hij
      have S1 : SWK encC 2 w0 blk off (X' ++ P' ++ [] ++ Q' ++ Y').toArray wr := by simpa using p6
      have c := call.out wr i (m - i) m X' P' [] Q' Y' p1 p2 (by omega) (by simp; omega) (by simp; omega) hsz S1
      have e6 : (X' ++ Q' ++ [] ++ P' ++ Y').toArray = F := by rw [p5]; simp
      rw [e6] at c
      have hne : ((i : Int) != (i : Int)) = false := by simp
      replace c := Lib.hid c
      clear S1 p1 p2 p3 p4 p5 p6 hall call e6
      go_wp2_with fail
      refine c.out.mono ?_
      rintro e w1 ⟨rfl, S2⟩
      replace S2 := Lib.hid S2
      clear c
      go_wp2
      go_end0
      exact ⟨rfl, S2.out⟩
    ·
      obtain ⟨p1, p2, p3, p4, p5, p6⟩ := hall.out
      have q1 : (P'.take j).length = j := by rw [List.length_take]; omega
      have q2 : (P'.drop j).length = i - j := by rw [List.length_drop]; omega
      have S1 : SWK encC 2 w0 blk off (X' ++ P'.take j ++ P'.drop j ++ Q' ++ Y').toArray wr := by
        have e : X' ++ P'.take j ++ P'.drop j ++ Q' ++ Y' = X' ++ (P' ++ Q') ++ Y' := by
          rw [List.append_assoc X', List.take_append_drop]; simp
        rw [e]; exact p6
      have c := call.out wr j (m - i) m X' (P'.take j) (P'.drop j) Q' Y' q1 p2 (by omega) (by omega) (by omega) hsz S1
      have e6 : F = ((X' ++ Q') ++ (P'.take j ++ P'.drop j) ++ Y').toArray := by rw [List.take_append_drop, p5]; simp
      have f6 : m = (X' ++ Q').length + (P'.drop j).length := by rw [List.length_append]; omega
      have f7 : N = (X' ++ Q').length + (P'.drop j).length + (P'.take j).length + Y'.length := by simp only [List.length_append]; omega
      have hne : ((i : Int) != (j : Int)) = true := by simp; omega
      have hgt : (j : Int) < (i : Int) := by omega
      have hdj : (i : Int) - (j : Int) = ((i - j : Nat) : Int) := by omega
      replace c := Lib.hid c
      replace e6 := Lib.hid e6
      replace f6 := Lib.hid f6
      replace f7 := Lib.hid f7
      replace q1 := Lib.hid q1
      replace q2 := Lib.hid q2
      clear S1 p1 p2 p3 p4 p5 p6 hall call
      go_wp2_with fail
      refine c.out.mono ?_
      rintro e w1 ⟨rfl, S2⟩
      replace S2 := Lib.hid S2
      clear c
      go_wp2
      go_roundg (i - j + j)
      case measure => omega
      case rel =>
        refine ⟨X' ++ Q', P'.drop j, P'.take j, Y', i - j, j, by first | rfl | simp [hdj], rfl, by omega, hj, Nat.le_refl _, by omega, hmj, q2.out, q1.out, f6.out, f7.out, ?_, ?_⟩
        · rw [e6.out]
        · have := S2.out
          simpa using this
end Go.Proofs.YtpiegngjpnpohaaGreat.St
