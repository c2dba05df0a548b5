/- Lemmas for the laws of this seat, laid together of Qt, Sn2, Sn3. -/
import Derived.Test.YtpiegngjpnpohaaGreatL04
import Derived.Test.YtpiegngjpnpohaaGreatL15
import Derived.StillTailTactics

namespace Go.Proofs.YtpiegngjpnpohaaGreat.Reg
open Go.RowKit
set_option linter.unusedVariables false
section
variable {P : Program} {ops : Array Oper} {md : Region.Mode} {C : World → Prop}
def anyHead (P : Program) (md : Region.Mode) (ops : Array Oper) (C : World → Prop) (n : Nat) (L : Array Bool → Act → Prop) : Nat → Array Bool → Act → Prop
  | 0, listed, a => L listed a
  | f + 1, listed, a =>
    Region.ready md ops listed ≠ [] ∧ ∀ i ∈ Region.ready md ops listed, i < n ∧ qOp P ops C i (anyHead P md ops C n L f (listed.setIfInBounds i true)) a
theorem any_of_head {n g : Nat} {L : Array Bool → Act → Prop} {Q' : Exit → Act → World → Prop} (hL : ∀ listed a w, C w → L listed a → wpAny P md ops Q' g listed a w) :
    ∀ (f : Nat) (listed : Array Bool) (a : Act) (w : World), C w → anyHead P md ops C n L f listed a → wpAny P md ops Q' (f + g) listed a w
  | 0, listed, a, w, hw, h => by rw [Nat.zero_add]; exact hL _ _ _ hw h
  | f + 1, listed, a, w, hw, h => by
    rw [show f + 1 + g = (f + g) + 1 by omega]
    exact ⟨fun h0 => absurd h0 h.1, fun i hi => wpOp_of_qOp hw (fun a' w' hw' h' => any_of_head hL f _ a' w' hw' h') (h.2 i hi).2⟩
theorem head_first {n i : Nat} {oi : Oper} {v : Value} {L : Array Bool → Act → Prop} (hi : ops[i]? = some oi) (hsel : ∀ (j : Nat) (o : Oper) cs b, ops[j]? = some o → o.op ≠ .select cs b)
    (hs : Region.sinkB md ops n = true) (hc : Region.chainB md ops n = true) (hn : n < ops.size) (hin : i < n)
    (hdone : ∀ listed a, L listed a → ∀ j ∈ Region.ready md ops listed, n ≤ j) :
    ∀ (f : Nat) (listed : Array Bool) (a : Act), HeadInv md ops n listed →
      (∀ j oj, ops[j]? = some oj → j ≠ i → listed.getD j true = false → (∀ e ∈ oj.after, Region.binds md e = true → e.on ≠ i) → oi.apart ops oj = true) →
      i ∈ Region.ready md ops listed → YieldsIn P ops C oi v a →
      anyHead P md ops C n L f (listed.setIfInBounds i true) (a.put oi.dst v) → anyHead P md ops C n L (f + 1) listed a := by
  intro f
  induction f with
  | zero =>
    intro listed a inv _ hr hy H
    have hun := (mem_ready.1 hr).1
    refine ⟨fun h => (by rw [h] at hr; cases hr), fun j hj => ?_⟩
    have hjn : j < n := by
      rcases Nat.lt_or_ge j n with h | h
      · exact h
      · exact absurd hj (tail_waits hs hc hn inv _ i rfl hin hun j h)
    refine ⟨hjn, ?_⟩
    by_cases hji : j = i
    · subst hji; exact hy.qOp hi H
    · have := hdone _ _ H j (ready_mono hj hji)
      omega
  | succ f ih =>
    intro listed a inv hfree hr hy H
    have hun := (mem_ready.1 hr).1
    refine ⟨fun h => (by rw [h] at hr; cases hr), fun j hj => ?_⟩
    have hjn : j < n := by
      rcases Nat.lt_or_ge j n with h | h
      · exact h
      · exact absurd hj (tail_waits hs hc hn inv _ i rfl hin hun j h)
    refine ⟨hjn, ?_⟩
    by_cases hji : j = i
    · subst hji; exact hy.qOp hi H
    · have h1 := (H.2 j (ready_mono hj hji)).2
      obtain ⟨hjun, oj, hoj, hall⟩ := mem_ready.1 hj
      have hnot : ∀ e ∈ oj.after, Region.binds md e = true → e.on ≠ i := fun e he hb heq => by
        have h1 := hall e he hb
        rw [heq, getD_both hun] at h1
        cases h1
      have h2 := qOp_put hoj (hfree j oj hoj hji hjun hnot) (fun cs b => hsel i oi cs b hi) (fun cs b => hsel j oj cs b hoj) hy h1
      have hfree' : ∀ k ok, ops[k]? = some ok → k ≠ i → (listed.setIfInBounds j true).getD k true = false →
          (∀ e ∈ ok.after, Region.binds md e = true → e.on ≠ i) → oi.apart ops ok = true := fun k ok hk hki hun hno => by
        refine hfree k ok hk hki ?_ hno
        by_cases hjk : j = k
        · subst hjk; exact hjun
        · rw [getD_set_ne true hjk] at hun; exact hun
      refine qOp_mono (fun a' h3 => ih (listed.setIfInBounds j true) a' (inv.set hj hjn) hfree' (ready_mono hr (Ne.symm hji)) h3.1 ?_) h2
      rw [Array.setIfInBounds_comm _ _ hji]
      exact h3.2
theorem head_lex {n g : Nat} {Lq : Act → Prop} (hsel : Region.noSelect ops = true) (hs : Region.sinkB md ops n = true) (hc : Region.chainB md ops n = true) (hn : n < ops.size) :
    ∀ (l : List Oper) (k : Nat) (listed : Array Bool) (a : Act), (∀ j, j < l.length → l[j]? = ops[k + j]?) → k + l.length = n → HeadInv md ops n listed →
    Region.lexHead md ops g l.length k listed = true → wpQuiet P ops C Lq l a →
    anyHead P md ops C n (fun listed' a' => Region.seqB md ops g n listed' = true ∧ Lq a') l.length listed a
  | [], k, listed, a, _, hk, _, hB, h => by
    have : k = n := by simpa using hk
    subst this
    exact ⟨by simpa [Region.lexHead] using hB, h⟩
  | o :: l, k, listed, a, hl, hk, inv, hB, h => by
    have h0 : ops[k]? = some o := by simpa using (hl 0 (by simp)).symm
    simp only [List.length_cons, Region.lexHead, Bool.and_eq_true] at hB
    obtain ⟨⟨hr, hf⟩, hB'⟩ := hB
    have hkn : k < n := by simp only [List.length_cons] at hk; omega
    have hr' : k ∈ Region.ready md ops listed := by simpa using hr
    have hst : qOp P ops C k (wpQuiet P ops C Lq l) a := by unfold qOp; simp only [h0]; exact h
    obtain ⟨v, hy, hK⟩ := yieldsIn_of_qOp h0 hst
    exact head_first h0 (Region.noSelect_spec hsel) hs hc hn hkn (fun listed' a' hL => seqB_ready hL.1) l.length listed a inv (Region.free_spec h0 hf) hr' hy
      (head_lex hsel hs hc hn l (k + 1) _ _ (fun j hj => by have := hl (j + 1) (by simp; omega); simpa [Nat.add_assoc, Nat.add_comm 1 j] using this) (by simp only [List.length_cons] at hk; omega) (inv.set hr' hkn) hB' hK)
end
theorem region_quiet_tail {P : Program} {C : World → Prop} {id : Nat} {Q : Exit → Act → World → Prop} {a : Act} {w : World} {l : List Oper} (n : Nat) (hm : P.follows .mixedOrders = true) (hB : Region.lexTailB .any l.toArray n = true)
    (hC : C { w with drawn := w.drawn + 1 })
    (h : wpQuiet P l.toArray C (fun a' => ∀ w', C w' → wpList P l.toArray Q (l.drop n) a' w') (l.take n) a) : (Code.region id l.toArray true).wp P Q a w := by
  simp only [Region.lexTailB, Bool.and_eq_true, decide_eq_true_eq] at hB
  obtain ⟨⟨⟨⟨hsel, hn⟩, hs⟩, hc⟩, hlex⟩ := hB
  have hn' : n < l.length := by simpa using hn
  have htl : (l.take n).length = n := by simp; omega
  have hdl : (l.drop n).length = l.toArray.size - n := by simp
  have inv0 : HeadInv .any l.toArray n (Array.replicate l.toArray.size false) :=
    ⟨by simp, fun j oj _ hl => (by rw [getD_replicate_false] at hl; cases hl), fun t _ ht => getD_in (by simpa using ht) (getD_replicate_false _ _)⟩
  have H := head_lex (md := .any) (C := C) (g := l.toArray.size - n) hsel hs hc hn (l.take n) 0 _ a (fun j hj => by
    have hj' : j < n := by rw [htl] at hj; exact hj
    simp [hj']) (by simpa using htl) inv0 (by rw [htl]; exact hlex) h
  refine wp_region_any hm ?_
  have := any_of_head (Q' := Q) (g := l.toArray.size - n) (fun listed a' w' hw' hL => by
    have := wpAny_of_seq (md := .any) (Q' := Q) (l.drop n) n listed a' w' (fun j => by simp [List.getElem?_drop]) (by rw [hdl]; exact hL.1) (hL.2 w' hw')
    rwa [hdl] at this) _ _ _ _ hC H
  rw [htl, show n + (l.toArray.size - n) = l.toArray.size by omega] at this
  exact this
theorem region_below_tail {P : Program} {id : Nat} {Q : Exit → Act → World → Prop} {a : Act} {w : World} {l : List Oper} (n : Nat) (hm : P.follows .mixedOrders = true) (hB : Region.lexTailB .any l.toArray n = true)
    (h : ∀ (S : Type) [Nonempty S] (f : S → World), (∀ s, Below w.heap.size w (f s)) → (∀ s w', Below (f s).heap.size (f s) w' → ∃ s', w' = f s') →
      wpQuiet P l.toArray (fun w' => ∃ s, w' = f s) (fun a' => ∀ s, wpList P l.toArray Q (l.drop n) a' (f s)) (l.take n) a) : (Code.region id l.toArray true).wp P Q a w := by
  refine region_quiet_tail (C := fun w' => ∃ s : { w' // Below w.heap.size w w' }, w' = s.1) n hm hB ⟨⟨_, below_drewN (Below.refl _ w) 1⟩, rfl⟩ ?_
  have hne : Nonempty { w' // Below w.heap.size w w' } := ⟨⟨w, Below.refl _ w⟩⟩
  have hh := h { w' // Below w.heap.size w w' } Subtype.val (fun s => s.2) (fun s w' hb => ⟨⟨w', s.2.trans (hb.mono s.2.size)⟩, rfl⟩)
  have e : (fun a' => ∀ w', (∃ s : { w' // Below w.heap.size w w' }, w' = s.1) → wpList P l.toArray Q (l.drop n) a' w') = (fun a' => ∀ s : { w' // Below w.heap.size w w' }, wpList P l.toArray Q (l.drop n) a' s.1) := by
    funext a'
    apply propext
    constructor
    · intro g s; exact g _ ⟨s, rfl⟩
    · rintro g w' ⟨s, rfl⟩; exact g s
  rw [e]
  exact hh
section
variable {P : Program} {ops : Array Oper} {md : Region.Mode} {C : World → Prop}
def sinkL (md : Region.Mode) (ops : Array Oper) (t0 : Nat) : List Nat → Bool
  | [] => true
  | i :: r => ((r ++ [t0]).any fun j => Region.waitsFor md ops j i) && sinkL md ops t0 r
def chainL (md : Region.Mode) (ops : Array Oper) : List Nat → Bool
  | t :: u :: r => Region.waitsFor md ops u t && chainL md ops (u :: r)
  | _ => true
structure InvL (md : Region.Mode) (ops : Array Oper) (ts : List Nat) (listed : Array Bool) : Prop where
  size : listed.size = ops.size
  closed : ∀ j oj, ops[j]? = some oj → listed.getD j false = true → ∀ e ∈ oj.after, Region.binds md e = true → listed.getD e.on false = true
  tail : ∀ t ∈ ts, t < ops.size → listed.getD t true = false
theorem InvL.set {ts : List Nat} {i : Nat} {listed : Array Bool} (inv : InvL md ops ts listed) (hi : i ∈ Region.ready md ops listed) (hin : i ∉ ts) : InvL md ops ts (listed.setIfInBounds i true) := by
  obtain ⟨_, oi, hoi, hall⟩ := mem_ready.1 hi
  refine ⟨by simp [inv.size], fun j oj hj hl e he hb => ?_, fun t ht ht' => by rw [getD_set_ne true (fun e => hin (by rw [e]; exact ht))]; exact inv.tail t ht ht'⟩
  by_cases hij : i = j
  · subst hij
    have : oj = oi := Option.some.inj (hj.symm.trans hoi)
    subst this
    exact getD_set_true (hall e he hb)
  · rw [getD_set_ne false hij] at hl
    exact getD_set_true (inv.closed j oj hj hl e he hb)
def seqI (md : Region.Mode) (ops : Array Oper) : List Nat → Array Bool → Bool
  | [], listed => (Region.ready md ops listed).isEmpty
  | k :: r, listed => decide (Region.ready md ops listed = [k]) && seqI md ops r (listed.setIfInBounds k true)
def lexI (md : Region.Mode) (ops : Array Oper) (ts : List Nat) : List Nat → Array Bool → Bool
  | [], listed => seqI md ops ts listed
  | k :: r, listed => (Region.ready md ops listed).contains k && Region.free md ops listed k && lexI md ops ts r (listed.setIfInBounds k true)
def tailB (md : Region.Mode) (ops : Array Oper) (is : List Nat) (t0 : Nat) (tr : List Nat) : Bool :=
  Region.noSelect ops && sinkL md ops t0 is && chainL md ops (t0 :: tr) && (is ++ t0 :: tr).all (fun i => decide (i < ops.size)) && is.all (fun i => !(t0 :: tr).contains i) && decide (is.length + (t0 :: tr).length = ops.size) &&
    lexI md ops (t0 :: tr) is (Array.replicate ops.size false)
end
end Go.Proofs.YtpiegngjpnpohaaGreat.Reg

namespace Go.Proofs.YtpiegngjpnpohaaGreat.Sn
open Go.RowKit Go.Proofs.YtpiegngjpnpohaaGreat.La Go.Proofs.YtpiegngjpnpohaaGreat.Sl Go.Proofs.YtpiegngjpnpohaaGreat.Ck Go.Proofs.YtpiegngjpnpohaaGreat.Rc Go.Proofs.YtpiegngjpnpohaaGreat.Rk Go.Proofs.YtpiegngjpnpohaaGreat.Wi Go.Proofs.YtpiegngjpnpohaaGreat.Fb
set_option linter.unusedVariables false
theorem prod_words (a b : Nat) (ha : a ≤ 9223372036854775807) (hb : b ≤ 18446744073709551615) :
    wrap64 ((WdP.hiM a b : Nat) : Int) = hiI ((a * b : Nat) : Int) ∧ ((WdP.loM a b : Nat) : Int) = loI ((a * b : Nat) : Int) := by
  have hab : a * b ≤ 9223372036854775807 * 18446744073709551615 := Nat.mul_le_mul ha hb
  unfold WdP.hiM WdP.loM hiI loI wrap64
  generalize a * b = c at *
  omega
theorem times_any (a b : Nat) (ha : a ≤ 9223372036854775807) (hb : b ≤ 18446744073709551615) (w : World) :
    Calls Tryz.prog 146 #[.int .i64 a, .int .u64 b] w fun e w' => e = .returned (I128 ((a * b : Nat) : Int)) ∧ Below w.heap.size w w' := by
  have c1 := WdP.mul_any a b (by omega) hb
  obtain ⟨e1, e2⟩ := prod_words a b ha hb
  have haI : (a : Int) ≤ 9223372036854775807 := by omega
  obtain ⟨h, hh⟩ : ∃ h, h = hiI ((a * b : Nat) : Int) := ⟨_, rfl⟩
  unfold I128
  rw [← hh] at e1 ⊢
  rw [e2] at c1
  generalize loI ((a * b : Nat) : Int) = l at *
  generalize WdP.hiM a b = q at *
  clear ha hb hh e2
  go_enter Tryz.func146, Tryz.ntmps146
  go_wp2_with (go_at_call 172; refine (c1 _).mono ?_; rintro e w' ⟨rfl, n, rfl⟩)
  go_returns
  refine ⟨rfl, ?_⟩
  have hb := below_drewN ((Below.refl w.heap.size w).alloc (Nat.le_refl _) (.cells #[.int .i64 0, .int .u64 0] 45)) n
  go_grown
theorem product_any (a b : Nat) (ha : a ≤ 9223372036854775807) (hb : b ≤ 18446744073709551615) (w : World) :
    Calls Tryz.prog 157 #[.int .u64 a, .int .u64 b] w fun e w' => e = .returned (I128 ((a * b : Nat) : Int)) ∧ Below w.heap.size w w' := by
  have c1 := WdP.rmul_any a b (by omega) hb
  obtain ⟨e1, e2⟩ := prod_words a b ha hb
  have haI : (a : Int) ≤ 9223372036854775807 := by omega
  obtain ⟨h, hh⟩ : ∃ h, h = hiI ((a * b : Nat) : Int) := ⟨_, rfl⟩
  unfold I128
  rw [← hh] at e1 ⊢
  rw [e2] at c1
  generalize loI ((a * b : Nat) : Int) = l at *
  generalize WdP.hiM a b = q at *
  clear ha hb hh e2
  go_enter Tryz.func157, Tryz.ntmps157
  go_wp2_with (go_at_call 176; refine (c1 _).mono ?_; rintro e w' ⟨rfl, n, rfl⟩)
  go_returns
  refine ⟨rfl, ?_⟩
  have hb := below_drewN ((Below.refl w.heap.size w).alloc (Nat.le_refl _) (.cells #[.int .i64 0, .int .u64 0] 45)) n
  go_grown
def lowS (p : Int) (l : List Cnt) : Int := (l.map fun c => Bk.lowI p c.1 * c.2).sum
def higS (p : Int) (l : List Cnt) : Int := (l.map fun c => Bk.higI p c.1 * c.2).sum
theorem lowS_snoc (p : Int) {l : List Cnt} {k : Nat} (h : k < l.length) : lowS p (l.take (k + 1)) = lowS p (l.take k) + Bk.lowI p l[k].1 * l[k].2 := by
  simp only [lowS, take_snoc h, List.map_append, List.map_cons, List.map_nil, List.sum_append, List.sum_cons, List.sum_nil, Int.add_zero]
theorem higS_snoc (p : Int) {l : List Cnt} {k : Nat} (h : k < l.length) : higS p (l.take (k + 1)) = higS p (l.take k) + Bk.higI p l[k].1 * l[k].2 := by
  simp only [higS, take_snoc h, List.map_append, List.map_cons, List.map_nil, List.sum_append, List.sum_cons, List.sum_nil, Int.add_zero]
theorem sums_rng (p : Int) : ∀ (l : List Cnt), (∀ c ∈ l, okC c) → 0 ≤ lowS p l ∧ lowS p l ≤ higS p l ∧ higS p l ≤ 9223372036854775807 * sumN l ∧ 0 ≤ sumN l
  | [], _ => by simp [lowS, higS, sumN]
  | c :: l, h => by
    have ih := sums_rng p l fun x hx => h x (by simp [hx])
    have hc := h c (by simp)
    obtain ⟨r1, r2, r3⟩ := Bk.lo_rng (p := p) (i := c.1)
    unfold okC at hc
    simp only [lowS, higS, sumN, List.map_cons, List.sum_cons] at ih ⊢
    have a1 : 0 ≤ Bk.lowI p c.1 * c.2 := Int.mul_nonneg r1 hc.2.2.1
    have a2 : Bk.lowI p c.1 * c.2 ≤ Bk.higI p c.1 * c.2 := Int.mul_le_mul_of_nonneg_right (by unfold Bk.higI; omega) hc.2.2.1
    have a3 : Bk.higI p c.1 * c.2 ≤ 9223372036854775807 * c.2 := Int.mul_le_mul_of_nonneg_right (by unfold Bk.higI; omega) hc.2.2.1
    omega
theorem may_sum {p : Int} {l : List Cnt} (h : mayE p l = 0) : Bk.good p ∧ sumN l ≤ 9223372036854775807 := by
  unfold mayE at h
  split at h
  · cases h
  · rename_i hp
    split at h
    · rename_i h2; exact absurd h h2
    · split at h
      · cases h
      · exact ⟨Decidable.not_not.1 hp, by omega⟩
def histB (p : Int) (v : Vv) : Bool := decide (mayE p v.cs = 0 ∧ v.n = totF 0 v.cs ∧ lowS p v.cs ≤ v.t ∧ v.t ≤ higS p v.cs)
def T2 (w : World) (g : Nat) (n : Int) : Prop :=
  w.cell? ⟨g, 0, none⟩ = some (.int .i64 (hiI n)) ∧ w.cell? ⟨g, 1, none⟩ = some (.int .u64 (loI n)) ∧ w.frozen? ⟨g, 0, none⟩ = false ∧ w.frozen? ⟨g, 1, none⟩ = false
set_option maxRecDepth 100000 in
set_option maxHeartbeats 4000000 in
theorem hist_no (p : Int) (v : Vv) (w : World) (h : VAt v w w.heap.size) (hno : mayE p v.cs ≠ 0 ∨ v.n ≠ totF 0 v.cs) :
    Calls Tryz.prog 90 #[.int .i64 p, v.v] w fun e w' => e = .returned (.bool false) ∧ Below w.heap.size w w' := by
  have cm := fun w' (k : Below w.heap.size w w') => may_any w' w.heap.size p v.cs v.CA v.cc (h.cs.below k) k.size
  have ct := fun w' (k : Below w.heap.size w w') => total_any w' w.heap.size v.CA v.cs v.cc (h.cs.below k) k.size
  unfold Vv.v
  obtain ⟨⟨k0, n0, h0, A0, c0, l0⟩, tt, CA, cc, cs, n, sm, mn, mx⟩ := v
  dsimp only at *
  generalize l0.length = ln at *
  generalize cs.length = cn at *
  generalize hiI tt = hi at *
  generalize loI tt = lo at *
  clear h
  obtain ⟨me, hme⟩ : ∃ me, me = mayE p cs := ⟨_, rfl⟩
  obtain ⟨tf, htf⟩ : ∃ tf, tf = totF 0 cs := ⟨_, rfl⟩
  rw [← hme] at cm hno
  rw [← htf] at ct hno
  clear hme htf
  replace cm := Lib.hid cm
  replace ct := Lib.hid ct
  go_enter Tryz.func90, Tryz.ntmps90
  go_upto_region 1 with fail
  obtain ⟨w1, hw1⟩ : ∃ w1, w1 = w.alloc (.cells #[.int .i64 k0, .string n0, .string h0, .slice A0 ln c0, .int .i64 hi, .int .u64 lo, .slice CA cn cc, .int .u64 n, .float .f64 sm, .float .f64 mn, .float .f64 mx] 49) := ⟨_, rfl⟩
  rw [← hw1]
  have hb1 : Below w.heap.size w w1 := by rw [hw1]; exact (Below.refl _ w).alloc (Nat.le_refl _) _
  have hlt : w.heap.size < w1.heap.size := by rw [hw1]; simp
  have z6 : w1.cell? ⟨w.heap.size, 6, none⟩ = some (.slice CA cn cc) := by rw [hw1, Mg.cell_new]; rfl
  have z7 : w1.cell? ⟨w.heap.size, 7, none⟩ = some (.int .u64 n) := by rw [hw1, Mg.cell_new]; rfl
  clear hw1
  by_cases hm : me = 0
  · have hn : (n != tf) = true := by
      rcases hno with h | h
      · exact absurd hm h
      · simpa using h
    subst hm
    clear hno
    refine Reg.region_below (by kernel_rfl) (by kernel_rfl) ?_
    intro Sx _ f hf hs
    have y6 := Reg.keepc hf hlt z6
    have y7 := Reg.keepc hf hlt z7
    have kk := fun s => hb1.trans ((hf s).mono hb1.size)
    have q1 := fun s => cm.out (f s) (kk s)
    have q2 := fun s => ct.out (f s) (kk s)
    clear z6 z7
    repeat (go_big_quiet_step ((first | (go_at_call 118; with_reducible exact Reg.met hs (q1 _)) | (go_at_call 120; with_reducible exact Reg.met hs (q2 _)))))
    refine wpQuiet_nil ?_
    intro s
    have hb2 := hf s
    go_wp2
    go_ret
    exact ⟨rfl, hb1.trans (hb2.mono hb1.size)⟩
  · have hm' : (me != 0) = true := by simpa using hm
    clear hno hm
    refine Reg.region_below (by kernel_rfl) (by kernel_rfl) ?_
    intro Sx _ f hf hs
    have y6 := Reg.keepc hf hlt z6
    have y7 := Reg.keepc hf hlt z7
    have kk := fun s => hb1.trans ((hf s).mono hb1.size)
    have q1 := fun s => cm.out (f s) (kk s)
    clear z6 z7
    repeat (go_big_quiet_step ((first | (go_at_call 118; with_reducible exact Reg.met hs (q1 _)))))
    refine wpQuiet_nil ?_
    intro s
    have hb2 := hf s
    go_wp2
    go_ret
    exact ⟨rfl, hb1.trans (hb2.mono hb1.size)⟩
theorem T2.stays {w w' : World} {g B : Nat} {n : Int} (h : T2 w g n) (b : Below B w w') (hg : g < B) : T2 w' g n := kept2 b _ _ hg h.1 h.2.1 h.2.2.1 h.2.2.2
theorem T2.other {w : World} {g b : Nat} {n : Int} (h : T2 w g n) (hb : b ≠ g) (u v : Value) : T2 ((w.setCell ⟨b, 0, none⟩ u).setCell ⟨b, 1, none⟩ v) g n := by
  refine ⟨?_, ?_, by simp [h.2.2.1], by simp [h.2.2.2]⟩
  · rw [World.cell?_setCell_other _ _ _ _ (fun e => hb (congrArg Addr.block e)), World.cell?_setCell_other _ _ _ _ (fun e => hb (congrArg Addr.block e))]; exact h.1
  · rw [World.cell?_setCell_other _ _ _ _ (fun e => hb (congrArg Addr.block e)), World.cell?_setCell_other _ _ _ _ (fun e => hb (congrArg Addr.block e))]; exact h.2.1
theorem T2.new (w : World) (T : TypeId) : T2 (w.alloc (.cells #[.int .i64 0, .int .u64 0] T)) w.heap.size 0 := by
  refine ⟨?_, ?_, World.frozen?_alloc_new _ _ _ _, World.frozen?_alloc_new _ _ _ _⟩
  · rw [World.cell?_alloc_new]; rfl
  · rw [World.cell?_alloc_new]; rfl
theorem T2.set {w : World} {g : Nat} {n : Int} (h : T2 w g n) (x : Int) : T2 ((w.setCell ⟨g, 0, none⟩ (.int .i64 (hiI x))).setCell ⟨g, 1, none⟩ (.int .u64 (loI x))) g x := by
  obtain ⟨l1, l2⟩ := set2 h.1 h.2.1 (.int .i64 (hiI x)) (.int .u64 (loI x))
  exact ⟨l1, l2, by simp [h.2.2.1], by simp [h.2.2.2]⟩
theorem times_int (a b : Int) (ha : 0 ≤ a ∧ a ≤ 9223372036854775807) (hb : 0 ≤ b ∧ b ≤ 18446744073709551615) (w : World) :
    Calls Tryz.prog 146 #[.int .i64 a, .int .u64 b] w fun e w' => e = .returned (I128 (a * b)) ∧ Below w.heap.size w w' := by
  obtain ⟨x, rfl⟩ := Int.eq_ofNat_of_zero_le ha.1
  obtain ⟨y, rfl⟩ := Int.eq_ofNat_of_zero_le hb.1
  have := times_any x y (by omega) (by omega) w
  rwa [Int.natCast_mul] at this
theorem product_int (a b : Int) (ha : 0 ≤ a ∧ a ≤ 9223372036854775807) (hb : 0 ≤ b ∧ b ≤ 18446744073709551615) (w : World) :
    Calls Tryz.prog 157 #[.int .u64 a, .int .u64 b] w fun e w' => e = .returned (I128 (a * b)) ∧ Below w.heap.size w w' := by
  obtain ⟨x, rfl⟩ := Int.eq_ofNat_of_zero_le ha.1
  obtain ⟨y, rfl⟩ := Int.eq_ofNat_of_zero_le hb.1
  have := product_any x y (by omega) (by omega) w
  rwa [Int.natCast_mul] at this
structure HI (w wr : World) (g : Nat) (a b : Int) : Prop where
  bel : Below g w wr
  size : g + 2 ≤ wr.heap.size
  one : T2 wr g a
  two : T2 wr (g + 1) b
theorem HI.below {w wr wx : World} {g : Nat} {a b : Int} (h : HI w wr g a b) (k : Below wr.heap.size wr wx) : HI w wx g a b :=
  ⟨h.bel.trans (k.mono (by have := h.size; omega)), Nat.le_trans h.size k.size, h.one.stays k (by have := h.size; omega), h.two.stays k (by have := h.size; omega)⟩
theorem HI.set1 {w wr : World} {g : Nat} {a b : Int} (h : HI w wr g a b) (x : Int) : HI w ((wr.setCell ⟨g, 0, none⟩ (.int .i64 (hiI x))).setCell ⟨g, 1, none⟩ (.int .u64 (loI x))) g x b := by
  have s := h.size
  refine ⟨?_, by simp only [World.size_setCell]; exact s, h.one.set x, h.two.other (by omega) _ _⟩
  have := h.bel
  go_grown
theorem HI.set2 {w wr : World} {g : Nat} {a b : Int} (h : HI w wr g a b) (y : Int) : HI w ((wr.setCell ⟨g + 1, 0, none⟩ (.int .i64 (hiI y))).setCell ⟨g + 1, 1, none⟩ (.int .u64 (loI y))) g a y := by
  have s := h.size
  refine ⟨?_, by simp only [World.size_setCell]; exact s, h.one.other (by omega) _ _, h.two.set y⟩
  have := h.bel
  go_grown
theorem HI.new (w : World) (T : TypeId) : HI w ((w.alloc (.cells #[.int .i64 0, .int .u64 0] T)).alloc (.cells #[.int .i64 0, .int .u64 0] T)) w.heap.size 0 0 := by
  refine ⟨((Below.refl _ w).alloc (Nat.le_refl _) _).alloc (by simp) _, by simp, ?_, ?_⟩
  · exact (T2.new w T).stays ((Below.refl _ _).alloc (Nat.le_refl _) _) (by simp)
  · have := T2.new (w.alloc (.cells #[.int .i64 0, .int .u64 0] T)) T
    rw [World.size_alloc] at this
    exact this
end Go.Proofs.YtpiegngjpnpohaaGreat.Sn

namespace Go.Proofs.YtpiegngjpnpohaaGreat.Sn
open Go.RowKit Go.Proofs.YtpiegngjpnpohaaGreat.La Go.Proofs.YtpiegngjpnpohaaGreat.Sl Go.Proofs.YtpiegngjpnpohaaGreat.Ck Go.Proofs.YtpiegngjpnpohaaGreat.Rc Go.Proofs.YtpiegngjpnpohaaGreat.Rk Go.Proofs.YtpiegngjpnpohaaGreat.Wi Go.Proofs.YtpiegngjpnpohaaGreat.Fb
set_option linter.unusedVariables false
set_option maxRecDepth 100000 in
set_option maxHeartbeats 4000000 in
theorem hist_yes (p : Int) (v : Vv) (w : World) (h : VAt v w w.heap.size) (hm : mayE p v.cs = 0) (hn : v.n = totF 0 v.cs) :
    Calls Tryz.prog 90 #[.int .i64 p, v.v] w fun e w' => e = .returned (.bool (decide (lowS p v.cs ≤ v.t ∧ v.t ≤ higS p v.cs))) ∧ Below w.heap.size w w' := by
  have cm := fun w' (k : Below w.heap.size w w') => may_any w' w.heap.size p v.cs v.CA v.cc (h.cs.below k) k.size
  have ct := fun w' (k : Below w.heap.size w w') => total_any w' w.heap.size v.CA v.cs v.cc (h.cs.below k) k.size
  obtain ⟨hg, hsum⟩ := may_sum hm
  have hcs := h.cs
  have hlen := h.cs.len
  have htot := h.tot
  unfold maxLen at hlen
  have hcap := h.cap
  have hclen := h.clen
  unfold Vv.v
  obtain ⟨⟨k0, n0, h0, A0, c0, l0⟩, tt, CA, cc, cs, n, sm, mn, mx⟩ := v
  dsimp only at *
  rw [hm] at cm
  rw [← hn] at ct
  have hb0 := sums_rng p cs hcs.ok
  have cc1 := fun w => compare_any (a := tt) (b := lowS p cs) htot (by unfold In; omega) w
  have cc2 := fun w => compare_any (a := tt) (b := higS p cs) htot (by unfold In; omega) w
  unfold I128 at cc1 cc2
  have hI : ((cs.length : Nat) : Int) ≤ 9223372036854775807 := by omega
  clear h hm hn hsum hb0 htot hlen hclen hcap
  obtain ⟨res, hres⟩ : ∃ res, res = decide (lowS p cs ≤ tt ∧ tt ≤ higS p cs) := ⟨_, rfl⟩
  rw [← hres]
  replace hres := Lib.hid hres
  replace hcs := Lib.hid hcs
  replace cc1 := Lib.hid cc1
  replace cc2 := Lib.hid cc2
  generalize l0.length = ln at *
  obtain ⟨cn, hcn⟩ : ∃ cn, cn = cs.length := ⟨_, rfl⟩
  rw [← hcn] at cm ct hI ⊢
  replace hcn := Lib.hid hcn
  replace cm := Lib.hid cm
  replace ct := Lib.hid ct
  go_enter Tryz.func90, Tryz.ntmps90
  go_upto_region 1 with fail
  obtain ⟨w1, hw1⟩ : ∃ w1, w1 = w.alloc (.cells #[.int .i64 k0, .string n0, .string h0, .slice A0 ln c0, .int .i64 (hiI tt), .int .u64 (loI tt), .slice CA cn cc, .int .u64 n, .float .f64 sm, .float .f64 mn, .float .f64 mx] 49) := ⟨_, rfl⟩
  rw [← hw1]
  have hb1 : Below w.heap.size w w1 := by rw [hw1]; exact (Below.refl _ w).alloc (Nat.le_refl _) _
  have hlt : w.heap.size < w1.heap.size := by rw [hw1]; simp
  have z4 : w1.cell? ⟨w.heap.size, 4, none⟩ = some (.int .i64 (hiI tt)) := by rw [hw1, Mg.cell_new]; rfl
  have z5 : w1.cell? ⟨w.heap.size, 5, none⟩ = some (.int .u64 (loI tt)) := by rw [hw1, Mg.cell_new]; rfl
  have z6 : w1.cell? ⟨w.heap.size, 6, none⟩ = some (.slice CA cn cc) := by rw [hw1, Mg.cell_new]; rfl
  have z7 : w1.cell? ⟨w.heap.size, 7, none⟩ = some (.int .u64 n) := by rw [hw1, Mg.cell_new]; rfl
  clear hw1
  refine Reg.region_below (by kernel_rfl) (by kernel_rfl) ?_
  intro Sx _ f hf hs
  have y4 := Reg.keepc hf hlt z4
  have y5 := Reg.keepc hf hlt z5
  have y6 := Reg.keepc hf hlt z6
  have y7 := Reg.keepc hf hlt z7
  have kk := fun s => hb1.trans ((hf s).mono hb1.size)
  have q1 := fun s => cm.out (f s) (kk s)
  have q2 := fun s => ct.out (f s) (kk s)
  clear z4 z5 z6 z7
  repeat (go_big_quiet_step ((first | (go_at_call 118; with_reducible exact Reg.met hs (q1 _)) | (go_at_call 120; with_reducible exact Reg.met hs (q2 _)))))
  refine wpQuiet_nil ?_
  intro s
  obtain ⟨w2, hw2⟩ : ∃ w2, w2 = f s := ⟨_, rfl⟩
  have hb2 := kk s
  have z4 := y4 s
  have z5 := y5 s
  have z6 := y6 s
  have hlt2 : w.heap.size < w2.heap.size := by rw [hw2]; exact Nat.lt_of_lt_of_le hlt (hf s).size
  rw [← hw2] at hb2 z4 z5 z6 ⊢
  clear hw2 y4 y5 y6 y7 q1 q2 kk hf hs hb1 hlt cm ct
  go_upto_region 4 with fail
  have hi0 := HI.new w2 45
  obtain ⟨w3, hw3⟩ : ∃ w3, w3 = (w2.alloc (.cells #[.int .i64 0, .int .u64 0] 45)).alloc (.cells #[.int .i64 0, .int .u64 0] 45) := ⟨_, rfl⟩
  rw [← hw3] at hi0 ⊢
  clear hw3
  have y6 : w3.cell? ⟨w.heap.size, 6, none⟩ = some (.slice CA cn cc) := (hi0.bel.cell (p := ⟨w.heap.size, 6, none⟩) hlt2).trans z6
  go_wp2
  go_loopw [29] (fun v wr => ∃ k : Nat, v = .int .i64 (k : Int) ∧ k ≤ cn ∧ HI w2 wr w2.heap.size (lowS p (cs.take k)) (higS p (cs.take k))) (fun v _ => cn - (intOf v).toNat)
  case atStart => exact ⟨0, rfl, Nat.zero_le _, hi0⟩
  case round =>
    obtain ⟨k, rfl, hk, hr⟩ := hrel
    by_cases hlt : k < cn
    · have hil : k < cs.length := by rw [← hcn.out]; exact hlt
      obtain ⟨b, off, hA, hbB, hcells⟩ := (hcs.out.below (hb2.trans (hr.bel.mono (by omega)))).cells (by omega)
      obtain ⟨c1, c2⟩ := hcells k cs[k] (List.getElem?_eq_getElem hil)
      have hokc := hcs.out.ok _ (List.getElem_mem hil)
      have e1 := lowS_snoc p hil
      have e2 := higS_snoc p hil
      subst hA
      generalize cs[k] = c at *
      obtain ⟨cx, cy⟩ := c
      dsimp only at c1 c2 e1 e2
      unfold okC at hokc
      obtain ⟨o1, o2, o3, o4⟩ := hokc
      have cl := Bk.low_any p cx o1 o2
      have ch := Bk.high_any p cx o1 o2
      obtain ⟨r1, r2, r3⟩ := Bk.lo_rng (p := p) (i := cx)
      have ct1 := times_int (Bk.lowI p cx) cy ⟨r1, by omega⟩ ⟨o3, o4⟩
      have ct2 := times_int (Bk.higI p cx) cy ⟨by unfold Bk.higI; omega, by unfold Bk.higI; omega⟩ ⟨o3, o4⟩
      generalize Bk.lowI p cx = lx at *
      generalize Bk.higI p cx = hx at *
      generalize Bk.lowE p cx = ex at *
      have ca1 := add_any (lowS p (cs.take k)) (lx * cy)
      have ca2 := add_any (higS p (cs.take k)) (hx * cy)
      rw [← e1] at ca1
      rw [← e2] at ca2
      unfold I128 at ct1 ct2 ca1 ca2
      generalize lx * cy = la at *
      generalize hx * cy = ha at *
      generalize hL : lowS p (cs.take (k + 1)) = L' at *
      generalize hH : higS p (cs.take (k + 1)) = H' at *
      replace hL := Lib.hid hL
      replace hH := Lib.hid hH
      generalize lowS p (cs.take k) = L at *
      generalize higS p (cs.take k) = H at *
      clear hcells r1 r2 r3 o1 o2 o3 o4 e1 e2 hil
      have gI : (k : Int) < (cn : Int) := by omega
      replace hr := Lib.hid hr
      go_upto_region 9 with (first
        | (go_at_call 145; refine (cl _).mono ?_; rintro e w' ⟨rfl, n1, rfl⟩)
        | (go_at_call 122; refine (ch _).mono ?_; rintro e w' ⟨rfl, n2, rfl⟩))
      have hw4 := Lib.hid (hr.out.below (below_drewN ((Below.refl wr.heap.size wr).alloc (Nat.le_refl _) (.cells #[.int .i64 cx, .int .u64 cy] 54)) (n1 + n2)))
      have x1 : ((wr.alloc (.cells #[.int .i64 cx, .int .u64 cy] 54)).drewN (n1 + n2)).cell? ⟨wr.heap.size, 1, none⟩ = some (.int .u64 cy) := by
        rw [show ((wr.alloc (.cells #[.int .i64 cx, .int .u64 cy] 54)).drewN (n1 + n2)).cell? ⟨wr.heap.size, 1, none⟩ = (wr.alloc (.cells #[.int .i64 cx, .int .u64 cy] 54)).cell? ⟨wr.heap.size, 1, none⟩ from rfl, Mg.cell_new]; rfl
      have hsz : wr.heap.size < ((wr.alloc (.cells #[.int .i64 cx, .int .u64 cy] 54)).drewN (n1 + n2)).heap.size := by simp
      obtain ⟨w4, hW⟩ : ∃ w4, w4 = (wr.alloc (.cells #[.int .i64 cx, .int .u64 cy] 54)).drewN (n1 + n2) := ⟨_, rfl⟩
      rw [← hW] at hw4 x1 hsz ⊢
      clear hW hr c1 c2 cl ch
      obtain ⟨hbel, hsz4, ⟨t1, t2, t3, t4⟩, ⟨t5, t6, t7, t8⟩⟩ := hw4.out
      refine Reg.region_below_tail 12 (by kernel_rfl) (by kernel_rfl) ?_
      intro Sx _ f hf hs
      have y1 := Reg.keepc hf hsz x1
      have y2 := Reg.keepc hf (by omega) t1
      have y3 := Reg.keepc hf (by omega) t2
      have y4 := Reg.keepc hf (by omega) t5
      have y5 := Reg.keepc hf (by omega) t6
      have q1 := fun s => ct1 (f s)
      have q2 := fun s => ct2 (f s)
      have q3 := fun s => ca1 (f s)
      have q4 := fun s => ca2 (f s)
      clear t1 t2 t3 t4 t5 t6 t7 t8 x1
      simp only [List.take_succ_cons, List.take_zero, List.drop_succ_cons, List.drop_zero]
      repeat (go_big_quiet_step ((first | (go_at_call 146; with_reducible exact Reg.met hs (q1 _)) | (go_at_call 146; with_reducible exact Reg.met hs (q2 _)) | (go_at_call 112; with_reducible exact Reg.met hs (q3 _)) | (go_at_call 112; with_reducible exact Reg.met hs (q4 _)))))
      refine wpQuiet_nil ?_
      intro s
      have hw5 := hw4.out.below (hf s)
      obtain ⟨w5, hW5⟩ : ∃ w5, w5 = f s := ⟨_, rfl⟩
      rw [← hW5] at hw5 ⊢
      clear hW5 q1 q2 q3 q4 y1 y2 y3 y4 y5 hf hs
      replace hw5 := Lib.hid hw5
      obtain ⟨_, _, ⟨t1, t2, t3, t4⟩, ⟨t5, t6, t7, t8⟩⟩ := hw5.out
      go_wp2
      exact ⟨⟨k + 1, by go_num, hlt, by rw [hL.out, hH.out]; exact (hw5.out.set1 L').set2 H'⟩, by simp [intOf]; omega⟩
    · obtain rfl : k = cn := by omega
      have hall : cs.take k = cs := List.take_of_length_le (by rw [hcn.out]; exact Nat.le_refl _)
      rw [hall] at hr
      have x4 := (hr.bel.cell (p := ⟨w.heap.size, 4, none⟩) hlt2).trans z4
      have x5 := (hr.bel.cell (p := ⟨w.heap.size, 5, none⟩) hlt2).trans z5
      have hbw : Below w.heap.size w wr := hb2.trans (hr.bel.mono (by omega))
      have hszr := hr.size
      obtain ⟨_, _, ⟨t1, t2, t3, t4⟩, ⟨t5, t6, t7, t8⟩⟩ := hr
      have k1 : (0 ≤ cmpI tt (lowS p cs)) = (lowS p cs ≤ tt) := by unfold cmpI; apply propext; split <;> (try split) <;> omega
      have k2 : (cmpI tt (higS p cs) ≤ 0) = (tt ≤ higS p cs) := by unfold cmpI; apply propext; split <;> (try split) <;> omega
      generalize cmpI tt (lowS p cs) = g1 at *
      generalize cmpI tt (higS p cs) = g2 at *
      have hr' := hres.out
      clear hcs hres z4 z5 z6 y6 hi0 hI hg hall t3 t4 t7 t8
      by_cases hl1 : lowS p cs ≤ tt
      · have d1 : decide ((0 : Int) ≤ g1) = true := decide_eq_true (by rw [k1]; exact hl1)
        have d2 : decide (g2 ≤ 0) = res := by rw [hr', decide_eq_decide, k2]; exact ⟨fun h => ⟨hl1, h⟩, fun h => h.2⟩
        clear k1 k2 hl1 hr'
        generalize lowS p cs = L at *
        generalize higS p cs = H at *
        go_wp2_with fail
        refine (cc1.out _).mono ?_
        rintro e w5 ⟨rfl, hb5⟩
        have y3 := kc hb5 (by omega) t5
        have y4 := kc hb5 (by omega) t6
        have y5 := kc hb5 (by omega) x4
        have y6 := kc hb5 (by omega) x5
        clear t1 t2 t5 t6 x4 x5
        go_wp2_with (go_at_call 144; refine (cc2.out _).mono ?_; rintro e w6 ⟨rfl, hb6⟩)
        go_ret
        exact ⟨rfl, hbw.trans ((hb5.trans (hb6.mono hb5.size)).mono hbw.size)⟩
      · have d1 : decide ((0 : Int) ≤ g1) = false := decide_eq_false (by rw [k1]; exact hl1)
        have d2 : res = false := by rw [hr']; simp only [hl1, false_and, decide_false]
        subst d2
        clear k1 k2 hl1 hr'
        generalize lowS p cs = L at *
        generalize higS p cs = H at *
        go_wp2_with fail
        refine (cc1.out _).mono ?_
        rintro e w5 ⟨rfl, hb5⟩
        clear t1 t2 t5 t6 x4 x5
        go_wp2
        go_ret
        exact ⟨rfl, hbw.trans (hb5.mono hbw.size)⟩
theorem histogram_any (p : Int) (v : Vv) (w : World) (h : VAt v w w.heap.size) :
    Calls Tryz.prog 90 #[.int .i64 p, v.v] w fun e w' => e = .returned (.bool (histB p v)) ∧ Below w.heap.size w w' := by
  by_cases h1 : mayE p v.cs = 0 ∧ v.n = totF 0 v.cs
  · have := hist_yes p v w h h1.1 h1.2
    rwa [show histB p v = decide (lowS p v.cs ≤ v.t ∧ v.t ≤ higS p v.cs) by unfold histB; simp only [h1.1, h1.2, true_and]]
  · have := hist_no p v w h (by
      by_cases h2 : mayE p v.cs = 0
      · exact .inr fun h3 => h1 ⟨h2, h3⟩
      · exact .inl h2)
    rwa [show histB p v = false by unfold histB; exact decide_eq_false fun h => h1 ⟨h.1, h.2.1⟩]
end Go.Proofs.YtpiegngjpnpohaaGreat.Sn
