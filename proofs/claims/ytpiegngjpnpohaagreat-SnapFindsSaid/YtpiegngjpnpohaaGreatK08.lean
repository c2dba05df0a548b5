/- Lemmas for the laws of this seat, laid together of RkI, DivM. -/
import Derived.Test.YtpiegngjpnpohaaGreatK07
import Derived.WalkKit

namespace Go.Proofs.YtpiegngjpnpohaaGreat.Rk
open Go.RowKit Go.Proofs.YtpiegngjpnpohaaGreat.Rg
set_option linter.unusedVariables false
attribute [local go_sem] Oper.semAt_some
def lf (n : Int) (l : List (Int × Int)) (k : Nat) : Int := (l.take k).foldl (fun n c => n - min n c.2) n
def upto (n : Int) (l : List (Int × Int)) (k : Nat) : List ((Int × Int) × Int) := (List.range k).map fun i => (l.getD i (0, 0), lf n l (i + 1))
theorem upto_succ (n : Int) (l : List (Int × Int)) {k : Nat} (h : k < l.length) : upto n l (k + 1) = upto n l k ++ [(l[k], lf n l (k + 1))] := by
  unfold upto
  rw [List.range_succ, List.map_append]
  simp [List.getD, h]
theorem lf_succ (n : Int) {l : List (Int × Int)} {k : Nat} (h : k < l.length) : lf n l (k + 1) = lf n l k - min (lf n l k) l[k].2 := by
  unfold lf; rw [take_snoc h, List.foldl_append]; rfl
theorem lf_rng {n : Int} {l : List (Int × Int)} (hn : 0 ≤ n) (hl : ∀ c ∈ l, okC c) : ∀ k, 0 ≤ lf n l k ∧ lf n l k ≤ n := by
  intro k
  induction k with
  | zero => exact ⟨by simpa [lf] using hn, by simp [lf]⟩
  | succ k ih =>
    by_cases h : k < l.length
    · rw [lf_succ n h]
      have := hl l[k] (List.getElem_mem h)
      unfold okC at this
      omega
    · have e : lf n l (k + 1) = lf n l k := by
        unfold lf; rw [List.take_of_length_le (by omega), List.take_of_length_le (by omega)]
      rw [e]; exact ih
theorem upto_len (n : Int) (l : List (Int × Int)) (k : Nat) : (upto n l k).length = k := by simp [upto]
def encP (x : (Int × Int) × Int) : Array Value := #[.agg #[.int .i64 x.1.1, .int .u64 x.1.2], .int .u64 x.2]
def stp (Bn : Nat) (A B : World) : Prop := (∃ o, B = A.alloc o) ∨ (∃ v, B = A.setCell ⟨Bn, 0, none⟩ v)
def kpt (h Bl Bn : Nat) (A B : World) : Prop := ∀ k, (k < h ∨ k = Bl ∨ k = Bn) → B.heap[k]? = A.heap[k]?
theorem kpt.cell {h Bl Bn : Nat} {A B : World} (hk : kpt h Bl Bn A B) {b o : Nat} (hb : b < h ∨ b = Bl ∨ b = Bn) : B.cell? ⟨b, o, none⟩ = A.cell? ⟨b, o, none⟩ := World.cell?_of_block (hk b hb)
theorem Cs.kpt {h Bl Bn : Nat} {A B : World} {a : Option Addr} {l : List (Int × Int)} (hc : Cs A h a l) (hk : kpt h Bl Bn A B) : Cs B h a l :=
  ⟨hc.len, hc.ok, fun hl => by
    obtain ⟨b, off, e, hB, hcc⟩ := hc.cells hl
    exact ⟨b, off, e, hB, fun i c hi => ⟨(hk.cell (.inl hB)).trans (hcc i c hi).1, (hk.cell (.inl hB)).trans (hcc i c hi).2⟩⟩⟩
set_option maxRecDepth 100000 in
set_option maxHeartbeats 2000000 in
theorem shares1_in (h Bl Bn : Nat) (n0 : Int) (l : List (Int × Int)) (a : Option Addr) (cap : Nat) (w : World) (hn0 : 0 ≤ n0) (hn1 : n0 ≤ 18446744073709551615)
    (hl : Cs w h a l) (hhl : h ≤ Bl) (hlt : Bl < Bn) (bl : Boxed w Bl 46 (.slice a l.length cap)) (bn : Boxed w Bn 23 (.int .u64 n0)) :
    Iter Fence.wide 5 Tryz.prog 200 #[.pointer (some ⟨Bl, 0, none⟩), .pointer (some ⟨Bn, 0, none⟩)] encP (kpt h Bl Bn) (stp Bn) (fun xs => xs = upto n0 l l.length) (fun pre => ∃ k, k ≤ l.length ∧ pre = upto n0 l k) l.length w := by
  intro lp J Jx hJ hJx hY h0
  have hlen := hl.len
  unfold maxLen at hlen
  have hrng := lf_rng hn0 hl.ok
  refine callsIn_of_wp Tryz.func200 rfl trivial ?_ rfl
  simp only [Tryz.ntmps200, List.size_toArray, List.length_cons, List.length_nil, Nat.reduceAdd, Nat.reduceSub, Array.replicate_succ, Array.replicate_zero, List.push_toArray, List.append_toArray, List.nil_append, List.cons_append]
  have cl := bl.cell
  gi_wp2
  clear cl
  gi_loopw [8] (fun i wr => ∃ k : Nat, k ≤ l.length ∧ i = .int .i64 k ∧ Boxed wr Bl 46 (.slice a l.length cap) ∧ Boxed wr Bn 23 (.int .u64 (lf n0 l k)) ∧ Cs wr h a l ∧ J (upto n0 l k) wr ∧ h ≤ wr.heap.size) (fun i _ => l.length - (intOf i).toNat)
  case atStart => exact ⟨0, Nat.zero_le _, rfl, bl, bn, hl, h0, by have := bl.lt; omega⟩
  case round =>
    clear bl bn hl h0
    obtain ⟨k, hk, rfl, bl, bn, hl, hj, hh⟩ := hrel
    by_cases hkl : k < l.length
    · obtain ⟨b, off, rfl, hbB, hc⟩ := hl.cells (by omega)
      obtain ⟨h1, h2⟩ := hc k l[k] (List.getElem?_eq_getElem hkl)
      obtain ⟨o1, o2, o3, o4⟩ := hl.ok l[k] (List.getElem_mem hkl)
      have hs := lf_succ n0 hkl
      have hu := upto_succ n0 l hkl
      obtain ⟨g1, g2⟩ := hrng k
      clear hc
      generalize l[k] = x at *
      obtain ⟨x1, x2⟩ := x
      simp only at h1 h2 o1 o2 o3 o4 hs hu
      have hm2 := (hrng (k + 1)).1
      have hm3 := lf_succ n0 hkl
      generalize lf n0 l k = r at *
      generalize hmm : lf n0 l (k + 1) = m at *
      replace hmm := Lib.hid hmm
      have bn1 := bn.alloc (.cells #[.int .i64 x1, .int .u64 x2] 54)
      have c1 := bn.cell
      have c2 := bn1.cell
      have c3 := bn1.frozen
      have hlt1 := bn.lt
      have bn2 : Boxed ((wr.setCell ⟨Bn, 0, none⟩ (.int .u64 (r - min r x2))).alloc (.cells #[.int .i64 x1, .int .u64 x2] 54)) Bn 23 (.int .u64 (r - min r x2)) := (bn.set _).alloc _
      have bl2 : Boxed ((wr.setCell ⟨Bn, 0, none⟩ (.int .u64 (r - min r x2))).alloc (.cells #[.int .i64 x1, .int .u64 x2] 54)) Bl 46 (.slice (some ⟨b, off, none⟩) l.length cap) := (bl.other (B' := Bn) (by omega) _).alloc _
      have hl2 : Cs ((wr.setCell ⟨Bn, 0, none⟩ (.int .u64 (r - min r x2))).alloc (.cells #[.int .i64 x1, .int .u64 x2] 54)) h (some ⟨b, off, none⟩) l :=
        hl.below (((Below.refl h wr).setCell (p := ⟨Bn, 0, none⟩) (by show h ≤ Bn; omega) _).alloc (by simp [World.setCell]; omega) _)
      have hj2 : J (upto n0 l k) ((wr.setCell ⟨Bn, 0, none⟩ (.int .u64 (r - min r x2))).alloc (.cells #[.int .i64 x1, .int .u64 x2] 54)) :=
        hJ _ _ _ (hJ _ _ _ hj (.inr ⟨_, rfl⟩)) (.inl ⟨_, rfl⟩)
      have hh2 : h ≤ ((wr.setCell ⟨Bn, 0, none⟩ (.int .u64 (r - min r x2))).alloc (.cells #[.int .i64 x1, .int .u64 x2] 54)).heap.size := by simp [World.setCell]; omega
      obtain ⟨fn, tmps, assign, body, hy, hR⟩ := hY (upto n0 l k) ((x1, x2), r - min r x2) _ hj2 (by rw [upto_len]; exact hkl)
      simp only [encP] at hy
      rw [← hs, ← hu, hs] at hR
      clear hj2 hj bn1
      replace hu := Lib.hid hu
      replace hs := Lib.hid hs
      replace hm3 := Lib.hid hm3
      clear hrng hl bl
      gi_wp2
      refine hR.mono ?_
      rintro e W3 (⟨rfl, hJ3, hk3⟩ | ⟨rfl, hJx3⟩)
      · have bl3 : Boxed W3 Bl 46 (.slice (some ⟨b, off, none⟩) l.length cap) := (hk3 Bl (.inr (.inl rfl))).trans bl2
        have bn3 : Boxed W3 Bn 23 (.int .u64 (r - min r x2)) := (hk3 Bn (.inr (.inr rfl))).trans bn2
        have hl3 := hl2.kpt hk3
        have hh3 : h ≤ W3.heap.size := by have := bn3.lt; omega
        clear bl2 bn2 hl2 c1 c2 c3 bn hk3
        gi_wp2
        exact ⟨⟨k + 1, by omega, by go_num, bl3, by rw [hmm.out, hs.out]; exact bn3, hl3, hJ3, hh3⟩, by simp [intOf]; omega⟩
      · gi_wp2
        refine bodyPost_ret (results_none rfl _ _ _) rfl ?_
        exact ⟨⟨_, rfl⟩, .inr ⟨_, ⟨k + 1, by omega, rfl⟩, hJx3⟩⟩
    · gi_wp2
      go_end0
      exact ⟨⟨_, rfl⟩, .inl ⟨_, rfl, by rw [show l.length = k by omega]; exact hj⟩⟩
def atF (n : Int) : List (Int × Int) → Option Int
  | [] => none
  | c :: r => if n ≤ c.2 then some c.1 else atF (n - c.2) r
def atI (l : List (Int × Int)) (n : Int) : Int := if n = 0 then 0 else (atF n l).getD 0
def atE (l : List (Int × Int)) (n : Int) : Int := if n = 0 then 2 else if (atF n l).isSome then 0 else 2
theorem lf_cons (n : Int) (c : Int × Int) (l : List (Int × Int)) (k : Nat) : lf n (c :: l) (k + 1) = lf (n - min n c.2) l k := by simp [lf]
theorem atF_found : ∀ (l : List (Int × Int)) (n : Int) (k : Nat) (h : k < l.length), (∀ c ∈ l, okC c) → 0 ≤ n → (∀ i, i < k → lf n l (i + 1) ≠ 0) → lf n l (k + 1) = 0 → atF n l = some l[k].1
  | [], _, _, h, _, _, _, _ => absurd h (by simp)
  | c :: r, n, 0, h, hl, hn, h1, h2 => by
    rw [lf_cons] at h2
    have : n ≤ c.2 := by simp [lf] at h2; omega
    simp [atF, this]
  | c :: r, n, k + 1, h, hl, hn, h1, h2 => by
    have hc := hl c (List.mem_cons_self ..)
    unfold okC at hc
    have h0 := h1 0 (by omega)
    rw [lf_cons] at h0 h2
    have : ¬ n ≤ c.2 := by simp [lf] at h0; omega
    have e : n - min n c.2 = n - c.2 := by omega
    rw [e] at h2
    have := atF_found r (n - c.2) k (by simp at h; omega) (fun x hx => hl x (List.mem_cons_of_mem _ hx)) (by omega) (fun i hi => by have := h1 (i + 1) (by omega); rw [lf_cons, e] at this; exact this) h2
    simp only [atF, if_neg ‹¬ n ≤ c.2›, List.getElem_cons_succ]
    exact this
theorem atF_none : ∀ (l : List (Int × Int)) (n : Int), (∀ c ∈ l, okC c) → 0 ≤ n → (∀ i, i < l.length → lf n l (i + 1) ≠ 0) → atF n l = none
  | [], _, _, _, _ => rfl
  | c :: r, n, hl, hn, h1 => by
    have hc := hl c (List.mem_cons_self ..)
    unfold okC at hc
    have h0 := h1 0 (by simp)
    rw [lf_cons] at h0
    have h2 : ¬ n ≤ c.2 := by simp [lf] at h0; omega
    have e : n - min n c.2 = n - c.2 := by omega
    have := atF_none r (n - c.2) (fun x hx => hl x (List.mem_cons_of_mem _ hx)) (by omega) (fun i hi => by have := h1 (i + 1) (by simp; omega); rw [lf_cons, e] at this; exact this)
    simp only [atF, if_neg h2]
    exact this
theorem shares_any (a : Option Addr) (len cap : Nat) (n : Int) (w : World) :
    Calls Tryz.prog 174 #[.slice a len cap, .int .u64 n] w fun e w' => e = .returned (.func (.func 200) #[] #[.pointer (some ⟨w.heap.size, 0, none⟩), .pointer (some ⟨w.heap.size + 1, 0, none⟩)]) ∧
      (w.alloc (.cells #[.slice a len cap] 46)).alloc (.cells #[.int .u64 n] 23) = w' := by
  go_enter Tryz.func174, Tryz.ntmps174
  go_wp2
  go_ret
  exact ⟨rfl, rfl⟩
theorem upto_last {n : Int} {l : List (Int × Int)} {k : Nat} {pre : List ((Int × Int) × Int)} {x : (Int × Int) × Int} (h : pre ++ [x] = upto n l k) (hk : k ≤ l.length) :
    ∃ j, k = j + 1 ∧ pre = upto n l j ∧ ∃ hj : j < l.length, x = (l[j], lf n l (j + 1)) := by
  have hl := congrArg List.length h
  rw [upto_len, List.length_append] at hl
  simp at hl
  obtain ⟨j, rfl⟩ : ∃ j, k = j + 1 := ⟨k - 1, by omega⟩
  have hj : j < l.length := by omega
  rw [upto_succ n l hj] at h
  have := List.append_inj h (by rw [upto_len]; omega)
  exact ⟨j, rfl, this.1, hj, by simpa using this.2⟩
theorem upto_mem {n : Int} {l : List (Int × Int)} {k i : Nat} (h : i < k) (hk : k ≤ l.length) : (l[i]'(by omega), lf n l (i + 1)) ∈ upto n l k := by
  unfold upto
  exact List.mem_map.2 ⟨i, List.mem_range.2 h, by simp [List.getD, show i < l.length by omega]⟩
theorem stp_below {B Bn : Nat} {w X Y : World} (h : Below B w X) (hs : stp Bn X Y) (hB : B ≤ Bn) (hX : B ≤ X.heap.size) : Below B w Y := by
  rcases hs with ⟨o, rfl⟩ | ⟨v, rfl⟩
  · exact h.alloc hX o
  · exact h.setCell (p := ⟨Bn, 0, none⟩) hB v
theorem stp_boxed {b Bn : Nat} {X Y : World} {t : TypeId} {u : Value} (h : Boxed X b t u) (hs : stp Bn X Y) (hne : b ≠ Bn) : Boxed Y b t u := by
  rcases hs with ⟨o, rfl⟩ | ⟨v, rfl⟩
  · exact h.alloc o
  · exact h.other hne v
def Box2 (W : World) (B : Nat) (t : TypeId) (u v : Value) : Prop := W.heap[B]? = some (.cells #[u, v] t (0, 0))
theorem Box2.cell0 {W : World} {B : Nat} {t : TypeId} {u v : Value} (h : Box2 W B t u v) : W.cell? ⟨B, 0, none⟩ = some u := by simp [World.cell?, show W.heap[B]? = _ from h]
structure IAt (w : World) (pre : List ((Int × Int) × Int)) (W : World) : Prop where
  no : ∀ x ∈ pre, x.2 ≠ 0
  b4 : Boxed W w.heap.size 3 (.int .i64 0)
  b5 : Boxed W (w.heap.size + 1) 26 (.int .i64 0)
  bel : Below w.heap.size w W
  sz : w.heap.size + 4 ≤ W.heap.size
structure IxAt (w : World) (c : Code) (pre : List ((Int × Int) × Int)) (W : World) : Prop where
  ret : c = .ret
  ex : ∃ (pr : List ((Int × Int) × Int)) (x : (Int × Int) × Int), pre = pr ++ [x] ∧ x.2 = 0 ∧ (∀ y ∈ pr, y.2 ≠ 0) ∧ Boxed W w.heap.size 3 (.int .i64 x.1.1)
  b5 : Boxed W (w.heap.size + 1) 26 (.int .i64 0)
  bel : Below w.heap.size w W
theorem IAt.own (w : World) {B : Nat} (hB : w.heap.size ≤ B) : OwnFrom B (IAt w) := fun s X Y row hs hg hr =>
  ⟨hs.no, Own.from (boxed_own w.heap.size 3 (fun (_ : Unit) => Value.int .i64 0)) B () X Y row hs.b4 hg hr, Own.from (boxed_own (w.heap.size + 1) 26 (fun (_ : Unit) => Value.int .i64 0)) B () X Y row hs.b5 hg hr,
    ownFrom_below (β := Unit) (Nat.le_refl _) hB () X Y row hs.bel hg hr, Nat.le_trans hs.sz hg.size⟩
theorem IxAt.own (w : World) {B : Nat} (hB : w.heap.size ≤ B) (c : Code) : OwnFrom B (IxAt w c) := fun s X Y row hs hg hr =>
  ⟨hs.ret, by
    obtain ⟨pr, x, e1, e2, e3, e4⟩ := hs.ex
    exact ⟨pr, x, e1, e2, e3, Own.from (boxed_own w.heap.size 3 (fun (_ : Unit) => Value.int .i64 x.1.1)) B () X Y row e4 hg hr⟩, Own.from (boxed_own (w.heap.size + 1) 26 (fun (_ : Unit) => Value.int .i64 0)) B () X Y row hs.b5 hg hr,
    ownFrom_below (β := Unit) (Nat.le_refl _) hB () X Y row hs.bel hg hr⟩
theorem IAt.stp {w : World} {s : List ((Int × Int) × Int)} {X Y : World} (hi : IAt w s X) (hs : stp (w.heap.size + 1 + 1 + 1) X Y) : IAt w s Y :=
  ⟨hi.no, stp_boxed hi.b4 hs (by omega), stp_boxed hi.b5 hs (by omega), stp_below hi.bel hs (by omega) hi.bel.size, by
    have := hi.sz
    rcases hs with ⟨o, rfl⟩ | ⟨v, rfl⟩
    · simp; omega
    · simp [World.setCell]; omega⟩
theorem IxAt.stp {w : World} {c : Code} {s : List ((Int × Int) × Int)} {X Y : World} (hi : IxAt w c s X) (hs : Rk.stp (w.heap.size + 1 + 1 + 1) X Y) : IxAt w c s Y :=
  ⟨hi.ret, by
    obtain ⟨pr, x, e1, e2, e3, e4⟩ := hi.ex
    exact ⟨pr, x, e1, e2, e3, stp_boxed e4 hs (by omega)⟩, stp_boxed hi.b5 hs (by omega), stp_below hi.bel hs (by omega) hi.bel.size⟩
def actAt (w : World) (l : List (Int × Int)) (a : Option Addr) (cap : Nat) (n : Int) (Bx : Nat) (x : (Int × Int) × Int) : Act :=
  { tmps := #[.slice a l.length cap, .int .u64 n, undef, undef, .pointer (some ⟨w.heap.size, 0, none⟩), .pointer (some ⟨w.heap.size + 1, 0, none⟩), .pointer (some ⟨Bx, 0, none⟩), .int .u64 x.2, .int .u64 n, .bool false, .slice a l.length cap, .int .u64 n,
      .func (.func 200) #[] #[.pointer (some ⟨w.heap.size + 1 + 1, 0, none⟩), .pointer (some ⟨w.heap.size + 1 + 1 + 1, 0, none⟩)], .agg #[.int .i64 x.1.1, .int .u64 x.1.2], .int .u64 x.2, undef, undef, undef, undef], defers := [] }
set_option maxRecDepth 100000 in
theorem at_zero (a : Option Addr) (len cap : Nat) (w : World) :
    Calls Tryz.prog 121 #[.slice a len cap, .int .u64 0] w fun e w' => e = .returned (.tuple #[.int .i64 0, .int .i64 2]) ∧ Below w.heap.size w w' := by
  refine (callsIn_wide (n := 6)).1 ?_
  refine callsIn_of_wp_marks Tryz.func121 rfl trivial ?_ rfl
  simp only [Tryz.ntmps121, List.size_toArray, List.length_cons, List.length_nil, Nat.reduceAdd, Nat.reduceSub, Array.replicate_succ, Array.replicate_zero, List.push_toArray, List.append_toArray, List.nil_append, List.cons_append]
  gi_wp2
  refine ⟨.tuple #[.int .i64 0, .int .i64 2], by simp [results, Tryz.f121, go_sem], rfl, ?_⟩
  exact ((Below.refl _ w).alloc (Nat.le_refl _) _).alloc (by simp) _
set_option maxRecDepth 100000 in
set_option maxHeartbeats 2000000 in
theorem at_pos (w : World) (B : Nat) (l : List (Int × Int)) (a : Option Addr) (cap : Nat) (n : Int) (hl : Cs w B a l) (hB : B ≤ w.heap.size) (hn : 0 < n) (hn1 : n ≤ 18446744073709551615) :
    Calls Tryz.prog 121 #[.slice a l.length cap, .int .u64 n] w fun e w' => e = .returned (.tuple #[.int .i64 (atI l n), .int .i64 (atE l n)]) ∧ Below w.heap.size w w' := by
  have hz : (n == 0) = false := beq_eq_false_iff_ne.2 (by omega)
  refine (callsIn_wide (n := 6)).1 ?_
  refine callsIn_of_wp_marks Tryz.func121 rfl trivial ?_ rfl
  simp only [Tryz.ntmps121, List.size_toArray, List.length_cons, List.length_nil, Nat.reduceAdd, Nat.reduceSub, Array.replicate_succ, Array.replicate_zero, List.push_toArray, List.append_toArray, List.nil_append, List.cons_append]
  gi_wp2_with (refine ⟨trivial, ?_⟩; gi_at_call 174; refine (callsIn_wide.2 (shares_any _ _ _ _ _)).mono ?_; rintro e w' ⟨rfl, rfl⟩)
  have b4 := (((Boxed.new w 3 (.int .i64 0)).alloc (.cells #[.int .i64 0] 26)).alloc (.cells #[.slice a l.length cap] 46)).alloc (.cells #[.int .u64 n] 23)
  have b5 := ((Boxed.new (w.alloc (.cells #[.int .i64 0] 3)) 26 (.int .i64 0)).alloc (.cells #[.slice a l.length cap] 46)).alloc (.cells #[.int .u64 n] 23)
  have bl := (Boxed.new ((w.alloc (.cells #[.int .i64 0] 3)).alloc (.cells #[.int .i64 0] 26)) 46 (.slice a l.length cap)).alloc (.cells #[.int .u64 n] 23)
  have bn := Boxed.new (((w.alloc (.cells #[.int .i64 0] 3)).alloc (.cells #[.int .i64 0] 26)).alloc (.cells #[.slice a l.length cap] 46)) 23 (.int .u64 n)
  simp only [World.size_alloc] at b4 b5 bl bn
  have hB0 : Below w.heap.size w ((((w.alloc (.cells #[.int .i64 0] 3)).alloc (.cells #[.int .i64 0] 26)).alloc (.cells #[.slice a l.length cap] 46)).alloc (.cells #[.int .u64 n] 23)) :=
    ((((Below.refl _ w).alloc (Nat.le_refl _) _).alloc (by simp) _).alloc (by simp; omega) _).alloc (by simp; omega) _
  have hsz : ((((w.alloc (.cells #[.int .i64 0] 3)).alloc (.cells #[.int .i64 0] 26)).alloc (.cells #[.slice a l.length cap] 46)).alloc (.cells #[.int .u64 n] 23)).heap.size = w.heap.size + 4 := by simp
  have hl0 := (hl.below (hB0.mono hB))
  obtain ⟨W0, hW0⟩ : ∃ W0, (((w.alloc (.cells #[.int .i64 0] 3)).alloc (.cells #[.int .i64 0] 26)).alloc (.cells #[.slice a l.length cap] 46)).alloc (.cells #[.int .u64 n] 23) = W0 := ⟨_, rfl⟩
  rw [hW0] at b4 b5 bl bn hB0 hsz hl0 ⊢
  clear hW0
  have hsz1 : w.heap.size ≤ W0.heap.size := by omega
  refine range_own (α := (Int × Int) × Int) rfl (by omega) (gf := 200) (lb := #[.pointer (some ⟨w.heap.size + 1 + 1, 0, none⟩), .pointer (some ⟨w.heap.size + 1 + 1 + 1, 0, none⟩)]) rfl trivial (enters_of Tryz.func200 (by kernel_rfl) rfl)
    (encs := encP) (Kp := kpt w.heap.size (w.heap.size + 1 + 1) (w.heap.size + 1 + 1 + 1)) (Stp := stp (w.heap.size + 1 + 1 + 1)) (S := fun xs => xs = upto n l l.length) (Sp := fun pre => ∃ k, k ≤ l.length ∧ pre = upto n l k) (N := l.length)
    (fun W hb => shares1_in w.heap.size _ _ n l a cap W (by omega) hn1 ((hl.below (hB0.mono hB)).below (hb.mono (by omega)) |> fun c => ⟨c.len, c.ok, fun h => by obtain ⟨b, off, e, h1, h2⟩ := c.cells h; exact ⟨b, off, e, by omega, h2⟩⟩) (by omega) (by omega) ((hb.block _ (by omega)).trans bl) ((hb.block _ (by omega)).trans bn))
    (fun h k i hi => (k i hi).trans (h i hi))
    (fun W l' o o' hl' _ _ k hk => World.putObj_heap_other (by omega))
    (fun A B' k o hs hk ho _ => by
      rcases hs with ⟨o', rfl⟩ | ⟨v, rfl⟩
      · exact (Below.heap_alloc A o' k (Array.getElem?_eq_some_iff.1 ho).1).trans ho
      · exact (Below.heap_setCell A _ v k (by show k ≠ w.heap.size + 1 + 1 + 1; omega)).trans ho)
    (fun _ => rfl)
    (IAt w) (IxAt w) (IAt.own w hsz1) (fun c => IxAt.own w hsz1 c)
    (fun s A B' hi hs => hi.stp hs) (fun c s A B' hi hs => hi.stp hs)
    ⟨by simp, b4, b5, hB0, by omega⟩
    (fun x a' W => ∃ Bx, W0.heap.size ≤ Bx ∧ Box2 W Bx 54 (.int .i64 x.1.1) (.int .u64 x.1.2) ∧ a' = actAt w l a cap n Bx x)
    (fun x a' _ X Y row hs hg hr => by
      obtain ⟨Bx, e1, e2, e3⟩ := hs
      refine ⟨Bx, e1, (hg.block Bx (Array.getElem?_eq_some_iff.1 e2).1 (fun e => ?_)).trans e2, e3⟩
      obtain ⟨_, o, ho, hc⟩ := hr Bx e.symm
      rw [show X.heap[Bx]? = _ from e2] at ho
      cases ho
      simp [Obj.isCells] at hc)
    ?assign ?body ?done ?stop
  case assign =>
    rintro lp pre ⟨⟨x1, x2⟩, m⟩ W K hi hK
    simp only [encP]
    gi_wp2
    have hsz2 := hi.sz
    exact hK _ _ ((KeepsOthers.alloc _ _).from _) (fun k hk => Below.heap_alloc W _ k (by omega)) ⟨hi.no, hi.b4.alloc _, hi.b5.alloc _, hi.bel.alloc hi.bel.size _, by simp; omega⟩ ⟨W.heap.size, by omega, World.alloc_heap_new W _, rfl⟩
  case body =>
    rintro lp pre ⟨⟨x1, x2⟩, m⟩ a' W hlp hi ⟨Bx, hBx, bX, rfl⟩ hlen
    have c0 := bX.cell0
    have c4 := hi.b4.cell
    have c5 := hi.b5.cell
    have f4 := hi.b4.frozen
    have f5 := hi.b5.frozen
    simp only at c0
    unfold actAt
    by_cases hm : m = 0
    · subst hm
      gi_wp2
      exact ⟨((KeepsOthers.setCell _ _ _).trans (KeepsOthers.setCell _ _ _)).from _, rfl, ⟨pre, _, rfl, rfl, hi.no, (hi.b4.set _).other (by omega) _⟩, (hi.b5.other (by omega) _).set _,
        (hi.bel.setCell (p := ⟨w.heap.size, 0, none⟩) (Nat.le_refl _) _).setCell (p := ⟨w.heap.size + 1, 0, none⟩) (Nat.le_succ _) _⟩
    · have hm' : (m == 0) = false := beq_eq_false_iff_ne.2 hm
      gi_wp2
      refine ⟨KeepsFrom.refl _ _, fun _ _ => rfl, fun y hy => ?_, hi.b4, hi.b5, hi.bel, hi.sz⟩
      rcases List.mem_append.1 hy with h | h
      · exact hi.no y h
      · rw [List.mem_singleton.1 h]; exact hm
  case done =>
    rintro D xs W hD rfl hi hK
    have hnone := atF_none l n hl.ok (by omega) (fun i h => hi.no _ (upto_mem (l := l) h (Nat.le_refl _)))
    have c4 := hi.b4.cell
    have c5 := hi.b5.cell
    have f4 := hi.b4.frozen
    have f5 := hi.b5.frozen
    have v1 : atI l n = 0 := by rw [atI, if_neg (by omega), hnone]; rfl
    have v2 : atE l n = 2 := by rw [atE, if_neg (by omega), hnone]; rfl
    replace v1 := Lib.hid v1; replace v2 := Lib.hid v2; replace hnone := Lib.hid hnone
    have b4' := (hi.b4.set (.int .i64 0)).other (B' := w.heap.size + 1) (by omega) (.int .i64 2)
    have b5' := (hi.b5.other (B' := w.heap.size) (by omega) (.int .i64 0)).set (.int .i64 2)
    have hK' := ((KeepsOthers.setCell W ⟨w.heap.size, 0, none⟩ (.int .i64 0)).trans (KeepsOthers.setCell _ ⟨w.heap.size + 1, 0, none⟩ (.int .i64 2))).same D _ hK rfl
    have hb' := (hi.bel.setCell (p := ⟨w.heap.size, 0, none⟩) (Nat.le_refl _) (.int .i64 0)).setCell (p := ⟨w.heap.size + 1, 0, none⟩) (Nat.le_succ _) (.int .i64 2)
    gi_wp2
    refine ⟨by simp, .inl ⟨_, _, rfl, run_takeDeferred hK', ?_⟩⟩
    have r4 := cell_kept b4'.cell (grownBy_putObj' _ D (.deferred none)) (fun r e => by cases e; exact ⟨_, hK', rfl⟩)
    have r5 := cell_kept b5'.cell (grownBy_putObj' _ D (.deferred none)) (fun r e => by cases e; exact ⟨_, hK', rfl⟩)
    refine ⟨.tuple #[.int .i64 0, .int .i64 2], ?_, by rw [v1.out, v2.out], hb'.trans (belowK_b (w := w) (Nat.le_refl _) _ D _ _ (by omega) hK' rfl rfl)⟩
    simp [results, Tryz.f121, go_sem, r4, r5]
  case stop =>
    rintro D c pre W hD ⟨k, hk, rfl⟩ hi hK
    obtain rfl := hi.ret
    obtain ⟨pr, x, e1, e2, e3, b4'⟩ := hi.ex
    obtain ⟨j, rfl, e4, hj, e5⟩ := upto_last e1.symm hk
    have hfound := atF_found l n j hj hl.ok (by omega) (fun i h => e3 _ (by rw [e4]; exact upto_mem h (by omega))) (by rw [e5] at e2; exact e2)
    have v1 : atI l n = x.1.1 := by rw [atI, if_neg (by omega), hfound, e5]; rfl
    have v2 : atE l n = 0 := by rw [atE, if_neg (by omega), hfound]; rfl
    gi_wp2
    refine ⟨by simp, .inl ⟨_, _, rfl, run_takeDeferred hK, ?_⟩⟩
    have r4 := cell_kept b4'.cell (grownBy_putObj' _ D (.deferred none)) (fun r e => by cases e; exact ⟨_, hK, rfl⟩)
    have r5 := cell_kept hi.b5.cell (grownBy_putObj' _ D (.deferred none)) (fun r e => by cases e; exact ⟨_, hK, rfl⟩)
    refine ⟨.tuple #[.int .i64 x.1.1, .int .i64 0], ?_, by rw [v1, v2], hi.bel.trans (belowK_b (w := w) (Nat.le_refl _) W D _ _ (by omega) hK rfl rfl)⟩
    simp [results, Tryz.f121, go_sem, r4, r5]
theorem at_any (w : World) (B : Nat) (l : List (Int × Int)) (a : Option Addr) (cap : Nat) (n : Int) (hl : Cs w B a l) (hB : B ≤ w.heap.size) (hn : 0 ≤ n) (hn1 : n ≤ 18446744073709551615) :
    Calls Tryz.prog 121 #[.slice a l.length cap, .int .u64 n] w fun e w' => e = .returned (.tuple #[.int .i64 (atI l n), .int .i64 (atE l n)]) ∧ Below w.heap.size w w' := by
  rcases Int.lt_or_eq_of_le hn with h | rfl
  · exact at_pos w B l a cap n hl hB h hn1
  · exact at_zero a l.length cap w
end Go.Proofs.YtpiegngjpnpohaaGreat.Rk

namespace Go.Proofs.YtpiegngjpnpohaaGreat.DivM
set_option linter.unusedVariables false
structure Inv (B y1 y0 u32 u1 qh rh : Nat) : Prop where
  sum : qh * y1 + rh = u32
  ge : (u32 * B + u1) / (y1 * B + y0) ≤ qh
theorem quo_lt {B y1 y0 u32 u1 : Nat} (hu : u32 < y1 * B + y0) (h1 : u1 < B) : (u32 * B + u1) / (y1 * B + y0) < B := by
  rw [Nat.div_lt_iff_lt_mul (by omega)]
  have : (u32 + 1) * B ≤ (y1 * B + y0) * B := Nat.mul_le_mul_right _ (by omega)
  rw [Nat.add_mul, Nat.one_mul] at this
  rw [Nat.mul_comm B]; omega
theorem inv_start {B y1 y0 u32 u1 : Nat} (hy1 : 0 < y1) (h1 : u1 < B) (hB : 0 < B) : Inv B y1 y0 u32 u1 (u32 / y1) (u32 - u32 / y1 * y1) := by
  have hd := Nat.div_add_mod u32 y1
  rw [Nat.mul_comm] at hd
  refine ⟨by omega, ?_⟩
  have h2 : (u32 * B + u1) / (y1 * B + y0) ≤ (u32 * B + u1) / (y1 * B) := Nat.div_le_div_left (by omega) (Nat.mul_pos hy1 hB)
  have h3 : (u32 * B + u1) / (y1 * B) = u32 / y1 := by
    rw [Nat.mul_comm y1 B, ← Nat.div_div_eq_div_mul, Nat.mul_comm u32 B, Nat.mul_add_div hB, Nat.div_eq_of_lt h1, Nat.add_zero]
  omega
theorem inv_next {B y1 y0 u32 u1 qh rh : Nat} (h : Inv B y1 y0 u32 u1 qh rh) (hu : u32 < y1 * B + y0) (h1 : u1 < B) (ht : B ≤ qh ∨ B * rh + u1 < qh * y0) : 0 < qh ∧ Inv B y1 y0 u32 u1 (qh - 1) (rh + y1) := by
  have hq := quo_lt hu h1
  have hgt : (u32 * B + u1) / (y1 * B + y0) < qh := by
    rcases ht with ht | ht
    · omega
    · rw [Nat.div_lt_iff_lt_mul (by omega), Nat.mul_add, ← Nat.mul_assoc, ← h.sum, Nat.add_mul]
      rw [Nat.mul_comm B] at ht; omega
  have hpos : 0 < qh := Nat.lt_of_le_of_lt (Nat.zero_le _) hgt
  refine ⟨hpos, ?_, Nat.le_sub_one_of_lt hgt⟩
  obtain ⟨k, rfl⟩ : ∃ k, qh = k + 1 := ⟨qh - 1, by omega⟩
  have := h.sum
  rw [Nat.add_mul, Nat.one_mul] at this
  simp; omega
theorem inv_end {B y1 y0 u32 u1 qh rh : Nat} (h : Inv B y1 y0 u32 u1 qh rh) (hy : 0 < y1 * B + y0) (ht : qh * y0 ≤ B * rh + u1) : qh = (u32 * B + u1) / (y1 * B + y0) := by
  have : qh ≤ (u32 * B + u1) / (y1 * B + y0) := by
    rw [Nat.le_div_iff_mul_le hy, Nat.mul_add, ← Nat.mul_assoc, ← h.sum, Nat.add_mul]
    rw [Nat.mul_comm B] at ht; omega
  have := h.ge
  omega
theorem inv_break {B y1 y0 u32 u1 qh rh : Nat} (h : Inv B y1 y0 u32 u1 qh rh) (hy1 : 0 < y1) (hy0 : y0 < B) (hu : u32 < y1 * B + y0) (hr : B ≤ rh) : qh < B ∧ qh = (u32 * B + u1) / (y1 * B + y0) := by
  have hs := h.sum
  have hqB : qh < B := by
    apply Classical.byContradiction; intro hn
    have : B * y1 ≤ qh * y1 := Nat.mul_le_mul_right _ (by omega)
    rw [Nat.mul_comm B] at this; omega
  refine ⟨hqB, inv_end h (by have := Nat.mul_pos hy1 (show 0 < B by omega); omega) ?_⟩
  have a : qh * y0 ≤ B * B := Nat.mul_le_mul (by omega) (by omega)
  have b : B * B ≤ B * rh := Nat.mul_le_mul_left _ hr
  omega
theorem qh_le {B y1 y0 u32 u1 qh rh : Nat} (h : Inv B y1 y0 u32 u1 qh rh) (hy1 : B ≤ 2 * y1) (hy0 : y0 < B) (hB : 1 < B) (hu : u32 < y1 * B + y0) : qh ≤ B + 1 := by
  have hs := h.sum
  apply Classical.byContradiction; intro hn
  have : (B + 2) * y1 ≤ qh * y1 := Nat.mul_le_mul_right _ (by omega)
  rw [Nat.add_mul, Nat.mul_comm B] at this; omega
theorem two_steps {B y U u1 u0 : Nat} (hy : 0 < y) (hB : 0 < B) (h0 : u0 < B) :
    ((U * B + u1) * B + u0) / y = (U * B + u1) / y * B + ((U * B + u1) % y * B + u0) / y ∧ ((U * B + u1) * B + u0) % y = ((U * B + u1) % y * B + u0) % y := by
  have hd := Nat.div_add_mod (U * B + u1) y
  generalize (U * B + u1) = X at *
  have e : X * B + u0 = y * (X / y * B) + (X % y * B + u0) := by
    calc X * B + u0 = (y * (X / y) + X % y) * B + u0 := by rw [hd]
      _ = y * (X / y * B) + (X % y * B + u0) := by rw [Nat.add_mul, Nat.mul_assoc, Nat.add_assoc]
  constructor
  · rw [e, Nat.mul_add_div hy]
  · rw [e, Nat.mul_add_mod]
end Go.Proofs.YtpiegngjpnpohaaGreat.DivM
