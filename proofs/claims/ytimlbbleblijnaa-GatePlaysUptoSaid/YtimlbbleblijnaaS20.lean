/- Lemmas for the laws of this seat, laid together of PGeb, PGec, PGed. -/
import Derived.Test.YtimlbbleblijnaaS19
import Derived.Deep.RegionHeld3
import Derived.Deep.AppendLies
import Derived.Laws.CopyOwn

namespace Go.Proofs.Ytimlbbleblijnaa.Co
open Go Go.Conc Go.RowKit
open Go.ConcN (sumTo upd sumTo_upd upd_ne upd_same sumTo_congr le_sumTo)
set_option linter.unusedVariables false
set_option linter.unusedSimpArgs false
structure OpsX (x : World) (ta : Option Addr) (ba bo : Nat) (LA : Nat → Option Addr) (LC : Nat → Nat) (ts : List (List Op3)) : Prop where
  ta : 0 < ts.length → ta = some ⟨ba, bo, none⟩
  row : ∀ i l, ts[i]? = some l → x.cell? ⟨ba, bo + i, none⟩ = some (.slice (LA i) l.length (LC i))
  ops : ∀ i l, ts[i]? = some l → l ≠ [] → ∃ la lo, LA i = some ⟨la, lo, none⟩ ∧ ∀ j op, l[j]? = some op → x.cell? ⟨la, lo + j * 3, none⟩ = some (.int .i64 op.1) ∧ x.cell? ⟨la, lo + j * 3 + 1, none⟩ = some (.int .i64 op.2.1) ∧ x.cell? ⟨la, lo + j * 3 + 2, none⟩ = some (.int .i64 op.2.2)
structure RP (B rb ab eb : Nat) (pv : Value) (drain : Bool) (ts : List (List Op3)) (a : PA) (K nxt : Nat) (ov : Value) (x : World) : Prop where
  run : x.heap[rb]? = some (runCells pv drain K nxt)
  at_ : x.heap[ab]? = some (.cells ((List.range ts.length).map fun t => .int .i64 (a.cnt t : Int)).toArray 3)
  en : x.heap[eb]? = some (.cells ((List.range ts.length).map fun t => .bool (!(playG ts).alive a t)).toArray 4)
  out : x.ownsRow B 37 4 ov a.ms.length (mksV a.ms)
  n1 : ov.ownBlock ≠ some rb
  n2 : ov.ownBlock ≠ some ab
  n3 : ov.ownBlock ≠ some eb
def RF (ts : List (List Op3)) (picks : List Int) (drain : Bool) (a : PA) (K nxt : Nat) (z : PA × Int) : Prop :=
  (0 < ts.length ∧ ((K ≤ picks.length ∧ nxt = 0 ∧ (if drain then (playG ts).Drn ((playG ts).picks (a, (K : Int)) (picks.drop K)) 0 z else z = (playG ts).picks (a, (K : Int)) (picks.drop K))) ∨ (picks.length ≤ K ∧ drain = true ∧ nxt < ts.length ∧ (playG ts).Drn (a, (K : Int)) nxt z))) ∨ (ts.length = 0 ∧ z = (a, (K : Int)))
theorem rf_start {ts : List (List Op3)} {picks : List Int} {drain : Bool} {z : PA × Int} (h : (playG ts).Run picks drain pa0 z) : RF ts picks drain pa0 0 0 z := by
  unfold Game.Run at h
  by_cases hn : (playG ts).n = 0
  · rw [if_pos hn] at h
    exact .inr ⟨hn, h⟩
  · rw [if_neg hn] at h
    exact .inl ⟨Nat.pos_of_ne_zero hn, .inl ⟨Nat.zero_le _, rfl, by simpa using h⟩⟩
theorem rf_next {ts : List (List Op3)} {picks : List Int} {drain : Bool} {a : PA} {K nxt : Nat} {z : PA × Int} (h : RF ts picks drain a K nxt z) {r : Int} {K' nxt' : Nat} (hr : (r, K', nxt') = nextF picks drain ts.length ((playG ts).alive a) K nxt) :
    (r = -2 ∧ z = (a, (K : Int)) ∧ K' = K) ∨ (r = -1 ∧ K' = K + 1 ∧ K < picks.length ∧ RF ts picks drain a K' nxt' z) ∨ (∃ t : Nat, r = (t : Int) ∧ t < ts.length ∧ (playG ts).alive a t = true ∧ K' = K + 1 ∧ RF ts picks drain ((playG ts).pick a t ((K : Int) + 1)) K' nxt' z) := by
  unfold nextF at hr
  rcases h with ⟨hn, h⟩ | ⟨hn, rfl⟩
  · rw [if_neg (by omega)] at hr
    rcases h with ⟨h1, h2, h3⟩ | ⟨h1, h2, h3, h4⟩
    · subst h2
      cases hp : picks[K]? with
      | some p =>
        rw [hp] at hr
        have hlt := (List.getElem?_eq_some_iff.1 hp).1
        have hdrop : picks.drop K = p :: picks.drop (K + 1) := by
          rw [List.drop_eq_getElem_cons hlt]
          obtain ⟨_, e⟩ := List.getElem?_eq_some_iff.1 hp
          rw [e]
        have hpk : (playG ts).picks (a, (K : Int)) (picks.drop K) = (playG ts).picks ((if (playG ts).alive a (pickIx p ts.length) = true then (playG ts).pick a (pickIx p ts.length) ((K : Int) + 1) else a), ((K + 1 : Nat) : Int)) (picks.drop (K + 1)) := by
          rw [hdrop]
          unfold Game.picks
          rw [List.foldl_cons]
          rfl
        rw [hpk] at h3
        dsimp only at hr
        by_cases ha : (playG ts).alive a (pickIx p ts.length) = true
        · rw [if_pos ha] at hr h3
          simp only [Prod.mk.injEq] at hr
          obtain ⟨rfl, rfl, rfl⟩ := hr
          exact .inr (.inr ⟨_, rfl, pickIx_lt p hn, ha, rfl, .inl ⟨hn, .inl ⟨by omega, rfl, h3⟩⟩⟩)
        · rw [if_neg ha] at hr h3
          simp only [Prod.mk.injEq] at hr
          obtain ⟨rfl, rfl, rfl⟩ := hr
          exact .inr (.inl ⟨rfl, rfl, hlt, .inl ⟨hn, .inl ⟨by omega, rfl, h3⟩⟩⟩)
      | none =>
        rw [hp] at hr
        have hle := List.getElem?_eq_none_iff.1 hp
        have hdrop : picks.drop K = [] := List.drop_eq_nil_of_le hle
        rw [hdrop] at h3
        have hz : (playG ts).picks (a, (K : Int)) [] = (a, (K : Int)) := rfl
        rw [hz] at h3
        dsimp only at hr
        cases drain with
        | false =>
          simp only [Bool.false_eq_true, if_false] at hr h3
          simp only [Prod.mk.injEq] at hr
          obtain ⟨rfl, rfl, rfl⟩ := hr
          exact .inl ⟨rfl, h3, rfl⟩
        | true =>
          simp only [if_true] at hr h3
          cases h3 with
          | stop h =>
            have h' : nx ((playG ts).alive a) ts.length ts.length 0 = none := h
            rw [h'] at hr
            simp only [Prod.mk.injEq] at hr
            obtain ⟨rfl, rfl, rfl⟩ := hr
            exact .inl ⟨rfl, rfl, rfl⟩
          | @go _ _ t _ h d =>
            have h' : nx ((playG ts).alive a) ts.length ts.length 0 = some t := h
            obtain ⟨b1, b2⟩ := nx_some hn h'
            rw [h'] at hr
            simp only [Prod.mk.injEq] at hr
            obtain ⟨rfl, rfl, rfl⟩ := hr
            exact .inr (.inr ⟨t, rfl, b1, b2, rfl, .inl ⟨hn, .inr ⟨by omega, rfl, Nat.mod_lt _ hn, d⟩⟩⟩)
    · subst h2
      rw [List.getElem?_eq_none h1] at hr
      simp only [if_true] at hr
      cases h4 with
      | stop h =>
        have h' : nx ((playG ts).alive a) ts.length ts.length nxt = none := h
        rw [h'] at hr
        simp only [Prod.mk.injEq] at hr
        obtain ⟨rfl, rfl, rfl⟩ := hr
        exact .inl ⟨rfl, rfl, rfl⟩
      | @go _ _ t _ h d =>
        have h' : nx ((playG ts).alive a) ts.length ts.length nxt = some t := h
        obtain ⟨b1, b2⟩ := nx_some h3 h'
        rw [h'] at hr
        simp only [Prod.mk.injEq] at hr
        obtain ⟨rfl, rfl, rfl⟩ := hr
        exact .inr (.inr ⟨t, rfl, b1, b2, rfl, .inl ⟨hn, .inr ⟨by omega, rfl, Nat.mod_lt _ hn, d⟩⟩⟩)
  · rw [if_pos hn] at hr
    simp only [Prod.mk.injEq] at hr
    obtain ⟨rfl, rfl, rfl⟩ := hr
    exact .inl ⟨rfl, rfl, rfl⟩
theorem rf_nxt {ts : List (List Op3)} {picks : List Int} {drain : Bool} {a : PA} {K nxt : Nat} {z : PA × Int} (h : RF ts picks drain a K nxt z) (hn : 0 < ts.length) : nxt < ts.length := by
  rcases h with ⟨_, ⟨_, rfl, _⟩ | ⟨_, _, h, _⟩⟩ | ⟨h, _⟩
  · exact hn
  · exact h
  · omega
#print axioms rf_next
end Go.Proofs.Ytimlbbleblijnaa.Co

namespace Go.Proofs.Ytimlbbleblijnaa.Co
open Go Go.Conc Go.RowKit
open Go.ConcN (sumTo upd sumTo_upd upd_ne upd_same sumTo_congr le_sumTo)
set_option linter.unusedVariables false
set_option linter.unusedSimpArgs false
theorem picks_k {ts : List (List Op3)} : ∀ (l : List Int) (a : PA × Int), ((playG ts).picks a l).2 = a.2 + l.length
  | [], a => by simp [Game.picks]
  | p :: l, a => by
    have e : (playG ts).picks a (p :: l) = (playG ts).picks ((playG ts).pk a (pickIx p (playG ts).n)) l := by
      unfold Game.picks
      rw [List.foldl_cons]
    rw [e, picks_k l]
    show a.2 + 1 + _ = _
    rw [List.length_cons]
    push_cast
    omega
theorem drn_k {ts : List (List Op3)} {a z : PA × Int} {x : Nat} (h : (playG ts).Drn a x z) : a.2 ≤ z.2 := by
  induction h with
  | stop _ => exact Int.le_refl _
  | go _ _ ih => dsimp only at ih; omega
theorem rf_le {ts : List (List Op3)} {picks : List Int} {drain : Bool} {a : PA} {K nxt : Nat} {z : PA × Int} (h : RF ts picks drain a K nxt z) : (K : Int) ≤ z.2 := by
  rcases h with ⟨_, ⟨_, _, h⟩ | ⟨_, _, _, h⟩⟩ | ⟨_, rfl⟩
  · have h1 := picks_k (ts := ts) (picks.drop K) (a, (K : Int))
    dsimp only at h1
    cases drain with
    | true =>
      simp only [if_true] at h
      have := drn_k h
      omega
    | false =>
      simp only [Bool.false_eq_true, if_false] at h
      rw [h]
      omega
  · exact drn_k h
  · exact Int.le_refl _
theorem picks_ms {ts : List (List Op3)} : ∀ (l : List Int) (a : PA × Int), a.1.ms.length ≤ ((playG ts).picks a l).1.ms.length
  | [], a => Nat.le_refl _
  | p :: l, a => by
    have e : (playG ts).picks a (p :: l) = (playG ts).picks ((playG ts).pk a (pickIx p (playG ts).n)) l := by
      unfold Game.picks
      rw [List.foldl_cons]
    rw [e]
    refine Nat.le_trans ?_ (picks_ms l _)
    unfold Game.pk
    split
    · show _ ≤ (_ ++ [_]).length
      rw [List.length_append]
      omega
    · exact Nat.le_refl _
theorem drn_ms {ts : List (List Op3)} {a z : PA × Int} {x : Nat} (h : (playG ts).Drn a x z) : a.1.ms.length ≤ z.1.ms.length := by
  induction h with
  | stop _ => exact Nat.le_refl _
  | go _ _ ih =>
    refine Nat.le_trans ?_ ih
    show _ ≤ (_ ++ [_]).length
    rw [List.length_append]
    omega
theorem rf_ms {ts : List (List Op3)} {picks : List Int} {drain : Bool} {a : PA} {K nxt : Nat} {z : PA × Int} (h : RF ts picks drain a K nxt z) : a.ms.length ≤ z.1.ms.length := by
  rcases h with ⟨_, ⟨_, _, h⟩ | ⟨_, _, _, h⟩⟩ | ⟨_, rfl⟩
  · have h1 := picks_ms (ts := ts) (picks.drop K) (a, (K : Int))
    dsimp only at h1
    cases drain with
    | true =>
      simp only [if_true] at h
      exact Nat.le_trans h1 (drn_ms h)
    | false =>
      simp only [Bool.false_eq_true, if_false] at h
      rw [h]
      exact h1
  · exact drn_ms h
  · exact Nat.le_refl _
theorem info4 : ∃ i : TypeInfo, Try.prog.info? 4 = some i ∧ i.zero = some (.bool false) ∧ i.size = 1 ∧ i.bytes = 1 := by
  have h : (Try.prog.info? 4).isSome = true := by kernel_rfl
  obtain ⟨i, hi⟩ := Option.isSome_iff_exists.1 h
  have h2 : (Try.prog.info? 4).map (fun i => (i.zero, i.size, i.bytes)) = some (some (.bool false), 1, 1) := by kernel_rfl
  rw [hi] at h2
  simp only [Option.map_some, Option.some.injEq, Prod.mk.injEq] at h2
  exact ⟨i, hi, h2.1, h2.2.1, h2.2.2⟩
theorem made_b (n : Nat) : madeCells (Value.bool false).cells n = ((List.range n).map fun _ => Value.bool false).toArray := by
  apply Array.ext
  · simp [madeCells]
  · intro i h1 h2
    simp [madeCells, Value.cells, Nat.mod_one]
theorem make_b (n : Nat) (hn : n ≤ 8) (x : World) : (Instr.makeSlice 90 (.int .i64 (n : Int)) (.int .i64 (n : Int))).run Try.prog x = .ok (.slice (some ⟨x.heap.size, 0, none⟩) n n) (x.alloc (.cells ((List.range n).map fun _ => Value.bool false).toArray 4)) := by
  obtain ⟨i0, hi, hz, hs, hb⟩ := info4
  have h := run_makeSlice (P := Try.prog) (w := x) 90 4 i0 _ Try.underlying90 hi hz .i64 .i64 (n : Int) (n : Int) (by omega) (Int.le_refl _) (by rw [hs, Int.toNat_natCast]; omega) (by rw [hb]; push_cast; omega) (by omega)
  rw [Int.toNat_natCast, hs, Nat.mul_one, made_b n] at h
  exact h
theorem row_set {x : World} {b n t : Nat} {e : TypeId} {g g' : Nat → Value} {v : Value} (h : x.heap[b]? = some (.cells ((List.range n).map g).toArray e)) (ht : t < n) (h1 : g' t = v) (h2 : ∀ s, s ≠ t → g' s = g s) : (x.setCell ⟨b, t, none⟩ v).heap[b]? = some (.cells ((List.range n).map g').toArray e) := by
  have e1 : (x.setCell ⟨b, t, none⟩ v).heap[b]? = some (.cells ((((List.range n).map g).toArray).setIfInBounds t v) e) := heap_set (a := ⟨b, t, none⟩) (w := x) rfl h
  rw [e1]
  congr 2
  refine Array.ext_getElem? fun i => ?_
  rw [Array.getElem?_setIfInBounds]
  by_cases hi : t = i
  · subst hi
    simp [ht, h1]
  · rw [if_neg hi]
    by_cases hin : i < n
    · simp [hin, h2 i (fun e => hi e.symm)]
    · simp [hin]
theorem row_cell {x : World} {b n t : Nat} {e : TypeId} {g : Nat → Value} (h : x.heap[b]? = some (.cells ((List.range n).map g).toArray e)) (ht : t < n) : x.cell? ⟨b, t, none⟩ = some (g t) := by
  refine obj_cell h ?_
  simp [ht]
def NxtR (ts : List (List Op3)) (picks : List Int) (drain : Bool) (a : PA) (r : Int) (K nxt : Nat) (z : PA × Int) : Prop :=
  (r = -2 ∧ z = (a, (K : Int))) ∨ (r = -1 ∧ RF ts picks drain a K nxt z) ∨ ∃ t : Nat, r = (t : Int) ∧ t < ts.length ∧ (playG ts).alive a t = true ∧ RF ts picks drain ((playG ts).pick a t (K : Int)) K nxt z
def rWt : Value → Nat
  | .int _ i => if i = -2 then 0 else 1
  | _ => 0
theorem meas {z : PA × Int} {r2 : Int} {K K2 : Nat} (hk : r2 ≠ -2 → K2 = K + 1) (hk2 : K ≤ K2) (hle : (K : Int) ≤ z.2) : 2 * (z.2.toNat + 1 - K2) + rWt (.int .i64 r2) < 2 * (z.2.toNat + 1 - K) + 1 := by
  unfold rWt
  by_cases h : r2 = -2
  · dsimp only
    rw [if_pos h]
    omega
  · dsimp only
    rw [if_neg h, hk h]
    omega
def kOf (rb : Nat) (w : World) : Nat := natOfV ((w.cell? ⟨rb, 2, none⟩).getD undef)
set_option maxRecDepth 100000 in
set_option maxHeartbeats 4000000 in
theorem rplay_many {x : World} {n cap : Nat} {ta : Option Addr} {pv dv : Value} (hn : 8 < n) : Calls Try.prog 20 #[.slice ta n cap, pv, dv] x fun e x' => e = .returned (.slice none 0 0) ∧ x' = x := by
  have q : (8 : Int) < (n : Int) := by omega
  go_enter Try.func20, Try.ntmps20
  go_wp2
  go_ret
  exact ⟨rfl, rfl⟩
theorem RP.kOf {B rb ab eb K nxt : Nat} {pv ov : Value} {ts : List (List Op3)} {drain : Bool} {a : PA} {x : World} (h : RP B rb ab eb pv drain ts a K nxt ov x) : Co.kOf rb x = K := by
  unfold Co.kOf
  rw [obj_cell h.run (o := 2) rfl]
  simp [natOfV]
theorem RP.next {B rb ab eb pcap pb po K nxt : Nat} {pa : Option Addr} {ts : List (List Op3)} {picks : List Int} {drain : Bool} {a : PA} {ov : Value} {x y : World} {z : PA × Int} (h : RP B rb ab eb (.slice pa picks.length pcap) drain ts a K nxt ov y) (hb : Below B x y) (hrb : B ≤ rb) (hf : RF ts picks drain a K nxt z) (hz2 : z.2 ≤ 100000000000000) (hn : ts.length ≤ 8) (hnp : picks.length ≤ 100000000000) (hp64 : ∀ p ∈ picks, -9223372036854775808 ≤ p ∧ p ≤ 9223372036854775807)
    (hpa : picks ≠ [] → pa = some ⟨pb, po, none⟩) (hps : ∀ i p, picks[i]? = some p → y.cell? ⟨pb, po + i, none⟩ = some (.int .i64 p)) (d1 : rb ≠ ab) (d2 : rb ≠ eb) :
    Calls Try.prog 66 #[.pointer (some ⟨rb, 0, none⟩), .slice (some ⟨eb, 0, none⟩) ts.length ts.length] y fun e y' => ∃ r K' nxt', e = .returned (.int .i64 r) ∧ RP B rb ab eb (.slice pa picks.length pcap) drain ts a K' nxt' ov y' ∧ NxtR ts picks drain a r K' nxt' z ∧ (r ≠ -2 → K' = K + 1) ∧ K ≤ K' ∧ Below B x y' ∧ y'.heap.size = y.heap.size := by
  have hle := rf_le hf
  refine (next_any (alive := (playG ts).alive a) hn (by omega) (by omega) hp64 (rf_nxt hf) h.run hpa hps (fun t ht => row_cell h.en ht) d2).mono ?_
  rintro e y' ⟨rfl, hr⟩
  obtain ⟨r, K', nxt', hres⟩ : ∃ r K' nxt', (r, K', nxt') = nextF picks drain ts.length ((playG ts).alive a) K nxt := ⟨_, _, _, rfl⟩
  rw [← hres] at hr ⊢
  have hs := rf_next hf hres
  refine ⟨r, K', nxt', rfl, ⟨hr.run, (hr.old ab (fun e => d1 e.symm)).trans h.at_, (hr.old eb (fun e => d2 e.symm)).trans h.en, ownsRow_same h.out (fun g hg => hr.old g (fun e => h.n1 (by rw [← e]; exact hg))), h.n1, h.n2, h.n3⟩, ?_, fun hne => ?_, ?_, ⟨?_, ?_, ?_, ?_, ?_⟩, hr.size⟩
  · rcases hs with ⟨e1, e2, e3⟩ | ⟨e1, _, _, e2⟩ | ⟨t, e1, e2, e3, e4, e5⟩
    · exact .inl ⟨e1, by rw [e2, e3]⟩
    · exact .inr (.inl ⟨e1, e2⟩)
    · refine .inr (.inr ⟨t, e1, e2, e3, ?_⟩)
      rw [e4] at e5 ⊢
      push_cast
      exact e5
  · rcases hs with ⟨e1, _⟩ | ⟨_, e2, _⟩ | ⟨t, _, _, _, e4, _⟩
    · exact absurd e1 hne
    · exact e2
    · exact e4
  · rcases hs with ⟨_, _, e3⟩ | ⟨_, e2, _⟩ | ⟨t, _, _, _, e4, _⟩ <;> omega
  · exact hr.io.1.trans hb.os
  · exact hr.io.2.1.trans hb.tape
  · exact hr.io.2.2.trans hb.output
  · have := hb.size
    have := hr.size
    omega
  · intro b hbb
    rw [hr.old b (by omega)]
    exact hb.block b hbb
set_option maxRecDepth 100000 in
set_option maxHeartbeats 4000000 in
theorem rplay_few {x : World} {ba bo cap pb po pcap : Nat} {ta pa : Option Addr} {LA : Nat → Option Addr} {LC : Nat → Nat} {ts : List (List Op3)} {picks : List Int} {drain : Bool} {z : PA × Int} (hn : ts.length ≤ 8) (hz : (playG ts).Run picks drain pa0 z)
    (hT : OpsX x ta ba bo LA LC ts) (hpa : picks ≠ [] → pa = some ⟨pb, po, none⟩) (hps : ∀ i p, picks[i]? = some p → x.cell? ⟨pb, po + i, none⟩ = some (.int .i64 p)) (hnp : picks.length ≤ 100000000000) (hll : ∀ l ∈ ts, l.length ≤ 100000000000) (hp64 : ∀ p ∈ picks, -9223372036854775808 ≤ p ∧ p ≤ 9223372036854775807) (hz2 : z.2 ≤ 100000000000000) (hms : z.1.ms.length ≤ 1000000000000) :
    Calls Try.prog 20 #[.slice ta ts.length cap, .slice pa picks.length pcap, .bool drain] x fun e x' => ∃ mv, e = .returned mv ∧ Below x.heap.size x x' ∧ x'.ownsRow x.heap.size 37 4 mv z.1.ms.length (mksV z.1.ms) := by
  have q : ¬ (8 : Int) < (ts.length : Int) := by omega
  have hm1 := make_at ts.length hn
  have hm2 := make_b ts.length hn
  obtain ⟨R1, hR1⟩ : ∃ R : Array Value, R = ((List.range ts.length).map fun _ => Value.int .i64 0).toArray := ⟨_, rfl⟩
  obtain ⟨R2, hR2⟩ : ∃ R : Array Value, R = ((List.range ts.length).map fun _ => Value.bool false).toArray := ⟨_, rfl⟩
  rw [← hR1] at hm1
  rw [← hR2] at hm2
  replace hR1 := Lib.hid hR1
  replace hR2 := Lib.hid hR2
  replace hT := Lib.hid hT
  replace hz := Lib.hid hz
  obtain ⟨B, hB⟩ : ∃ B, B = x.heap.size := ⟨_, rfl⟩
  rw [← hB]
  have h3r : (((x.alloc (.cells #[.slice pa picks.length pcap, .bool drain, .int .i64 0, .int .i64 0] 89)).alloc (.cells R1 3)).alloc (.cells R2 4)).heap[B]? = some (runCells (.slice pa picks.length pcap) drain 0 0) := by
    rw [alloc_old (by rw [alloc_size, alloc_size]; omega), alloc_old (by rw [alloc_size]; omega), hB]; exact alloc_new
  have h3a : (((x.alloc (.cells #[.slice pa picks.length pcap, .bool drain, .int .i64 0, .int .i64 0] 89)).alloc (.cells R1 3)).alloc (.cells R2 4)).heap[B + 1]? = some (.cells R1 3) := by
    rw [alloc_old (by rw [alloc_size, alloc_size]; omega)]
    have := @alloc_new (x.alloc (.cells #[.slice pa picks.length pcap, .bool drain, .int .i64 0, .int .i64 0] 89)) (.cells R1 3)
    rw [alloc_size, ← hB] at this
    exact this
  have h3e : (((x.alloc (.cells #[.slice pa picks.length pcap, .bool drain, .int .i64 0, .int .i64 0] 89)).alloc (.cells R1 3)).alloc (.cells R2 4)).heap[B + 1 + 1]? = some (.cells R2 4) := by
    have := @alloc_new ((x.alloc (.cells #[.slice pa picks.length pcap, .bool drain, .int .i64 0, .int .i64 0] 89)).alloc (.cells R1 3)) (.cells R2 4)
    rw [alloc_size, alloc_size, ← hB] at this
    exact this
  have h3b : Below B x (((x.alloc (.cells #[.slice pa picks.length pcap, .bool drain, .int .i64 0, .int .i64 0] 89)).alloc (.cells R1 3)).alloc (.cells R2 4)) := (((Below.refl _ _).alloc (by omega) _).alloc (by rw [alloc_size]; omega) _).alloc (by rw [alloc_size, alloc_size]; omega) _
  have h3s : B + 3 ≤ (((x.alloc (.cells #[.slice pa picks.length pcap, .bool drain, .int .i64 0, .int .i64 0] 89)).alloc (.cells R1 3)).alloc (.cells R2 4)).heap.size := by rw [alloc_size, alloc_size, alloc_size]; omega
  replace h3r := Lib.hid h3r
  replace h3a := Lib.hid h3a
  replace h3e := Lib.hid h3e
  replace h3b := Lib.hid h3b
  replace h3s := Lib.hid h3s
  go_enter Try.func20, Try.ntmps20
  go_wp2_with fail
  rw [← hB]
  replace hB := Lib.hid hB
  go_loopw [10] (fun v wr => ∃ i : Nat, v = .int .i64 (i : Int) ∧ i ≤ ts.length ∧ Hid (wr.heap[B]? = some (runCells (.slice pa picks.length pcap) drain 0 0)) ∧ Hid (wr.heap[B + 1]? = some (.cells R1 3)) ∧ Hid (wr.heap[B + 1 + 1]? = some (.cells ((List.range ts.length).map fun t => .bool (if t < i then !(playG ts).alive pa0 t else false)).toArray 4)) ∧ Below B x wr ∧ B + 3 ≤ wr.heap.size) (fun v _ => ts.length + 1 - natOfV v)
  case atStart =>
    refine ⟨0, rfl, Nat.zero_le _, h3r.out, h3a.out, ?_, h3b.out, h3s.out⟩
    have e0 : (fun t => Value.bool (if t < 0 then !(playG ts).alive pa0 t else false)) = fun _ => Value.bool false := by
      funext t
      rw [if_neg (Nat.not_lt_zero _)]
    show _ = _
    rw [e0, ← hR2.out]
    exact h3e.out
  case round =>
    obtain ⟨i, rfl, hi, r1, r2, r3, hb, hbs⟩ := hrel
    by_cases hlt : i < ts.length
    · obtain rfl := hT.out.ta (by omega)
      have g1 : (i : Int) < (ts.length : Int) := by omega
      have g2 : (0 : Int) ≤ (i : Int) := by omega
      obtain ⟨l, hl⟩ : ∃ l, ts[i]? = some l := ⟨_, List.getElem?_eq_getElem hlt⟩
      have c1 : wr.cell? ⟨ba, bo + i, none⟩ = some (.slice (LA i) l.length (LC i)) := (hb.cell (by rw [hB.out]; exact World.block_lt_of_cell? x _ (hT.out.row i l hl))).trans (hT.out.row i l hl)
      have hz2 : wr.frozen? ⟨B + 1 + 1, i, none⟩ = false := obj_thaw r3.out i
      have hc2 : wr.cell? ⟨B + 1 + 1, i, none⟩ = some (.bool false) := by
        have := row_cell r3.out hlt
        rw [if_neg (Nat.lt_irrefl _)] at this
        exact this
      have hal : ((l.length : Int) == 0) = (!(playG ts).alive pa0 i) := by
        have e1 : (playG ts).alive pa0 i = decide (0 < l.length) := by
          show decide (0 < lenOf ts i) = _
          unfold lenOf
          rw [hl]
          rfl
        rw [e1]
        by_cases h0 : 0 < l.length
        · simp only [h0, decide_true, Bool.not_true, beq_eq_false_iff_ne]
          omega
        · simp only [h0, decide_false, Bool.not_false, beq_iff_eq]
          omega
      obtain ⟨av, hav⟩ : ∃ av, av = (!(playG ts).alive pa0 i) := ⟨_, rfl⟩
      rw [← hav] at hal
      have hset : (wr.setCell ⟨B + 1 + 1, i, none⟩ (.bool av)).heap[B + 1 + 1]? = some (.cells ((List.range ts.length).map fun t => .bool (if t < i + 1 then !(playG ts).alive pa0 t else false)).toArray 4) := row_set r3.out hlt (by rw [if_pos (by omega), hav]) (fun s hs => by
        by_cases h1 : s < i
        · rw [if_pos h1, if_pos (by omega)]
        · rw [if_neg h1, if_neg (by omega)])
      have hb2 : Below B x (wr.setCell ⟨B + 1 + 1, i, none⟩ (.bool av)) := hb.setCell (by dsimp only; omega) _
      have ho : ∀ b, b ≠ B + 1 + 1 → (wr.setCell ⟨B + 1 + 1, i, none⟩ (.bool av)).heap[b]? = wr.heap[b]? := fun b hb' => heap_setCell_ne (a := ⟨B + 1 + 1, i, none⟩) (fun e => hb' e.symm)
      have hs2 : (wr.setCell ⟨B + 1 + 1, i, none⟩ (.bool av)).heap.size = wr.heap.size := by simp [World.setCell]
      have hiw : IntKind.i64.wrap ((i : Int) + 1) = ((i + 1 : Nat) : Int) := by rw [IntKind.wrap_i64]; omega
      have hfin : ∃ i' : Nat, Value.int .i64 ((i + 1 : Nat) : Int) = Value.int .i64 (i' : Int) ∧ i' ≤ ts.length ∧ Hid ((wr.setCell ⟨B + 1 + 1, i, none⟩ (.bool av)).heap[B]? = some (runCells (.slice pa picks.length pcap) drain 0 0)) ∧ Hid ((wr.setCell ⟨B + 1 + 1, i, none⟩ (.bool av)).heap[B + 1]? = some (.cells R1 3)) ∧ Hid ((wr.setCell ⟨B + 1 + 1, i, none⟩ (.bool av)).heap[B + 1 + 1]? = some (.cells ((List.range ts.length).map fun t => .bool (if t < i' then !(playG ts).alive pa0 t else false)).toArray 4)) ∧ Below B x (wr.setCell ⟨B + 1 + 1, i, none⟩ (.bool av)) ∧ B + 3 ≤ (wr.setCell ⟨B + 1 + 1, i, none⟩ (.bool av)).heap.size :=
        ⟨i + 1, rfl, by omega, (ho B (by omega)).trans r1.out, (ho (B + 1) (by omega)).trans r2.out, hset, hb2, by omega⟩
      replace hfin := Lib.hid hfin
      replace hset := Lib.hid hset
      replace hav := Lib.hid hav
      replace hs2 := Lib.hid hs2
      replace ho := Lib.hid ho
      clear hps
      go_wp2_with fail
      exact ⟨hfin.out, by simp [natOfV]; omega⟩
    · obtain rfl : i = ts.length := by omega
      have g1 : ¬ (ts.length : Int) < (ts.length : Int) := by omega
      have e3 : wr.heap[B + 1 + 1]? = some (.cells ((List.range ts.length).map fun t => .bool (!(playG ts).alive pa0 t)).toArray 4) := by
        rw [r3.out]
        congr 3
        refine List.map_congr_left fun t ht => ?_
        rw [if_pos (List.mem_range.1 ht)]
      have hRP0 : RP B B (B + 1) (B + 1 + 1) (.slice pa picks.length pcap) drain ts pa0 0 0 (.slice (some ⟨wr.heap.size, 0, none⟩) 0 0) (wr.alloc (.cells #[] 37)) :=
        ⟨(alloc_old (by omega)).trans r1.out, (alloc_old (by omega)).trans (by rw [r2.out, hR1.out]; rfl), (alloc_old (by omega)).trans e3, World.ownsRow_made (e := 37) (size := 4) wr #[] 0 (base := B) (by omega) (by decide) (by simp), fun e => by simp [Value.ownBlock] at e; omega, fun e => by simp [Value.ownBlock] at e; omega, fun e => by simp [Value.ownBlock] at e; omega⟩
      have hb0 : Below B x (wr.alloc (.cells #[] 37)) := hb.alloc (by omega) _
      have hps0 : ∀ y : World, Below B x y → ∀ i p, picks[i]? = some p → y.cell? ⟨pb, po + i, none⟩ = some (.int .i64 p) := fun y hy i p hi => (hy.cell (by rw [hB.out]; exact World.block_lt_of_cell? x _ (hps i p hi))).trans (hps i p hi)
      have hnext := (RP.next hRP0 hb0 (Nat.le_refl _) (rf_start hz.out) hz2 hn hnp hp64 hpa (hps0 _ hb0) (by omega) (by omega))
      replace hnext := Lib.hid hnext
      replace hps0 := Lib.hid hps0
      clear hRP0 hb0 e3 hps r1 r2 r3
      go_wp2_with fail
      refine hnext.out.mono ?_
      rintro e w2 ⟨r, K', nxt', rfl, hrp, hnx, hk, -, hb2, hsz2⟩
      have hbs2 : B + 3 ≤ w2.heap.size := by rw [hsz2, alloc_size]; omega
      replace hrp := Lib.hid hrp
      replace hnx := Lib.hid hnx
      replace hb2 := Lib.hid hb2
      clear hnext hk hsz2
      go_wp2_with fail
      go_loopw [11, 12] (fun ov tv wx => ∃ (a : PA) (r : Int) (K nxt : Nat), tv = .int .i64 r ∧ Hid (RP B B (B + 1) (B + 1 + 1) (.slice pa picks.length pcap) drain ts a K nxt ov wx) ∧ Hid (NxtR ts picks drain a r K nxt z) ∧ Hid (Below B x wx) ∧ Hid (B + 3 ≤ wx.heap.size)) (fun _ tv wx => 2 * (z.2.toNat + 1 - kOf B wx) + rWt tv)
      case atStart => exact ⟨pa0, r, K', nxt', rfl, hrp.out, hnx.out, hb2.out, hbs2⟩
      case round =>
        clear hrp hnx hb2 hbs2
        obtain ⟨a, r, K, nxt, rfl, hrp, hnx, hbx, hbs⟩ := hrel
        rcases hnx.out with ⟨rfl, hzz⟩ | ⟨rfl, hrf⟩ | ⟨t, rfl, ht, hal, hrf⟩
        · have g2 : ((-2 : Int) == -2) = true := by decide
          have hfinal : ∃ mv, (Ending.returned u11 : Ending) = .returned mv ∧ Below B x wr ∧ wr.ownsRow B 37 4 mv z.1.ms.length (mksV z.1.ms) := ⟨u11, rfl, hbx.out, by rw [hzz]; exact hrp.out.out⟩
          replace hfinal := Lib.hid hfinal
          clear hps0 hrp hnx hbx hbs hzz
          go_wp2_with fail
          go_ret
          exact hfinal.out
        · have g2 : ((-1 : Int) == -2) = false := by decide
          have g3 : (-1 : Int) < 0 := by decide
          have hnext := RP.next hrp.out hbx.out (Nat.le_refl _) hrf hz2 hn hnp hp64 hpa (hps0.out _ hbx.out) (by omega) (by omega)
          have hK0 := hrp.out.kOf
          have hle := rf_le hrf
          replace hnext := Lib.hid hnext
          replace hK0 := Lib.hid hK0
          have hbs' := hbs.out
          clear hps0 hrp hnx hbx hbs hrf
          go_wp2_with fail
          refine hnext.out.mono ?_
          rintro e w2 ⟨r2, K2, nxt2, rfl, hrp2, hnx2, hk2, hk2', hb2', hsz3⟩
          have hK2 := hrp2.kOf
          replace hrp2 := Lib.hid hrp2
          replace hnx2 := Lib.hid hnx2
          replace hb2' := Lib.hid hb2'
          replace hK2 := Lib.hid hK2
          have hm := meas hk2 hk2' hle
          replace hm := Lib.hid hm
          clear hnext hk2 hk2'
          go_wp2_with fail
          exact ⟨⟨a, r2, K2, nxt2, rfl, hrp2, hnx2, hb2', by show _ ≤ _; omega⟩, by rw [hK2.out, hK0.out]; exact hm.out⟩
        · have g2 : ((t : Int) == -2) = false := by rw [beq_eq_false_iff_ne]; omega
          have g3 : ¬ (t : Int) < 0 := by omega
          obtain rfl := hT.out.ta (by omega)
          obtain ⟨l, hl⟩ : ∃ l, ts[t]? = some l := ⟨_, List.getElem?_eq_getElem ht⟩
          have hle := rf_le hrf
          have hcl : a.cnt t < l.length := by
            have := of_decide_eq_true hal
            unfold lenOf at this
            rw [hl] at this
            exact this
          have hlb := hll l (List.mem_of_getElem? hl)
          obtain ⟨op, hop⟩ : ∃ op, l[a.cnt t]? = some op := ⟨_, List.getElem?_eq_getElem hcl⟩
          obtain ⟨la, lo, hLA, hops⟩ := hT.out.ops t l hl (fun e => by rw [e] at hcl; exact absurd hcl (Nat.not_lt_zero _))
          have hxl := hT.out.row t l hl
          rw [hLA] at hxl
          have hxo := (hops _ op hop).2.2
          have hxlb := World.block_lt_of_cell? x _ hxl
          have hxob := World.block_lt_of_cell? x _ hxo
          have c1 := (hbx.out.cell (by rw [hB.out]; exact hxlb)).trans hxl
          have c2 := (hbx.out.cell (by rw [hB.out]; exact hxob)).trans hxo
          rw [← hB.out] at hxlb hxob
          dsimp only at hxlb hxob
          have c3 := obj_cell hrp.out.run (o := 2) rfl
          have c4 := row_cell hrp.out.at_ ht
          have hK0 := hrp.out.kOf
          have hnO : nOf ts t (a.cnt t) = op.2.2 := by unfold nOf; rw [hl, Option.bind_some, hop]; rfl
          obtain ⟨cn, hcn⟩ : ∃ c, c = a.cnt t := ⟨_, rfl⟩
          rw [← hcn] at hcl hop c2 c4 hnO
          obtain ⟨nn, hnn⟩ : ∃ n, n = op.2.2 := ⟨_, rfl⟩
          rw [← hnn] at c2 hnO
          have g4 : (t : Int) < (ts.length : Int) := by omega
          have g5 : (0 : Int) ≤ (t : Int) := by omega
          have g6 : (cn : Int) < (l.length : Int) := by omega
          have g7 : (0 : Int) ≤ (cn : Int) := by omega
          obtain ⟨i0, hinf, hz0, hz1, hz2'⟩ := info37
          obtain ⟨hrun, hat0, hen0, ho, n1, n2, n3⟩ := hrp.out
          have nA : u11.ownBlock ≠ some ba := fun e => by have := (ho.lt _ e).1; omega
          have nL : u11.ownBlock ≠ some la := fun e => by have := (ho.lt _ e).1; omega
          have hup : ∀ k, u11.ownBlock = some k → B ≤ k := fun k hk => (ho.lt _ hk).1
          have hms' : a.ms.length < z.1.ms.length := by
            have := rf_ms hrf
            have e : ((playG ts).pick a t (K : Int)).ms.length = a.ms.length + 1 := by
              show (_ ++ [_]).length = _
              rw [List.length_append]
              rfl
            omega
          have hbs' := hbs.out
          have hwt : ∀ c o : Nat, ∀ v : Value, wr.cell? ⟨c, o, none⟩ = some v → c ≠ wr.heap.size := fun c o v h => Nat.ne_of_lt (World.block_lt_of_cell? wr _ h)
          have w1 := hwt _ _ _ c1
          have w2' := hwt _ _ _ c2
          have w3 := hwt _ _ _ c3
          have w4 := hwt _ _ _ c4
          replace hrun := Lib.hid hrun
          replace hat0 := Lib.hid hat0
          replace hen0 := Lib.hid hen0
          replace hrf := Lib.hid hrf
          replace hK0 := Lib.hid hK0
          replace hnn := Lib.hid hnn
          replace hnO := Lib.hid hnO
          replace hcn := Lib.hid hcn
          replace hms' := Lib.hid hms'
          replace hms := Lib.hid hms
          clear hwt hrp hops hnx hbs hxl hxo hal
          go_wp2
          go_region_held3 (fun w' => w'.cell? ⟨B, 2, none⟩ = some (.int .i64 (K : Int)) ∧ w'.cell? ⟨B + 1, t, none⟩ = some (.int .i64 (cn : Int)) ∧ w'.cell? ⟨ba, bo + t, none⟩ = some (.slice (some ⟨la, lo, none⟩) l.length (LC t)) ∧ w'.cell? ⟨la, lo + cn * 3 + 2, none⟩ = some (.int .i64 nn)) (first | go_keep | (go_split_ands; refine ⟨?_, ?_, ?_, ?_⟩ <;> first | (rw [hgrow.cell_far _ (by simp; omega) (Ne.symm n1)]; assumption) | (rw [hgrow.cell_far _ (by simp; omega) (Ne.symm n2)]; assumption) | (rw [hgrow.cell_far _ (by simp; omega) (Ne.symm nA)]; assumption) | (rw [hgrow.cell_far _ (by simp; omega) (Ne.symm nL)]; assumption)))
            ((refine step_append_lies _ (by rfl) _ _ _ (by rfl) B 37 i0 _ 4 32 Try.underlying27 hinf hz0 hz1 hz2' rfl (by decide) u11 a.ms.length (mksV a.ms) (by rfl) ((ho.alloc _).drew) ⟨wr.heap.size, 0, none⟩ 1 1 (mkV ((t : Int), (K : Int), (cn : Int), nn)) (by rfl) (by rfl) (World.news_of_block (cs := #[.int .i64 (t : Int), .int .i64 (K : Int), .int .i64 (cn : Int), .int .i64 nn]) (t := 37) (fr := (0, 0)) (heap_alloc_new _ _)) (by simp [mkV, Value.oneCell']) (by omega) (by have := hms'.out; have := hms.out; unfold maxLen; omega) (by have := hms'.out; have := hms.out; omega) (by simp; omega) _ rfl ?_; intro gg cap w1 hown1 hgrow hat hlt1))
          rename_i hHeld
          obtain ⟨q1, q2, q3, q4⟩ := hHeld
          have hgn : gg ≠ B ∧ gg ≠ B + 1 ∧ gg ≠ B + 1 + 1 ∧ B ≤ gg := by
            rcases hat with e | e
            · exact ⟨fun h => n1 (by rw [← h]; exact e), fun h => n2 (by rw [← h]; exact e), fun h => n3 (by rw [← h]; exact e), hup _ e⟩
            · have : gg = wr.heap.size + 1 := by rw [e]; simp
              omega
          have hblk : ∀ (b : Nat) (ob : Obj), u11.ownBlock ≠ some b → wr.heap[b]? = some ob → w1.heap[b]? = some ob := fun b ob h1 h2 => by
            have hlb := (Array.getElem?_eq_some_iff.1 h2).1
            rw [hgrow.block b (by simp; omega) (Ne.symm h1)]
            exact (alloc_old hlb).trans h2
          have hrun1 := hblk _ _ n1 hrun.out
          have hat1 := hblk _ _ n2 hat0.out
          have hen1 := hblk _ _ n3 hen0.out
          have hb1 : Below B x w1 := ((hbx.out.alloc (by omega) _).drew).grown hgrow (by simp; omega) hup
          have hs1 : B + 3 ≤ w1.heap.size := by have := hgrow.size; simp at this; omega
          clear hblk hgrow hat hbx hrun hat0 hen0 c1 c2 c3 c4 w2' w3 w4 ho n1 n2 n3 nA nL hup hbs'
          have hz0f := obj_thaw hat1 t
          have hiw : IntKind.i64.wrap ((cn : Int) + 1) = ((cn + 1 : Nat) : Int) := by rw [IntKind.wrap_i64]; omega
          obtain ⟨W2, hW2⟩ : ∃ W, W = w1.setCell ⟨B + 1, t, none⟩ (.int .i64 ((cn + 1 : Nat) : Int)) := ⟨_, rfl⟩
          have ho2 : ∀ b, b ≠ B + 1 → W2.heap[b]? = w1.heap[b]? := fun b hb' => by rw [hW2]; exact heap_setCell_ne (a := ⟨B + 1, t, none⟩) (fun e => hb' e.symm)
          have hrun2 := (ho2 B (by omega)).trans hrun1
          have hen2 := (ho2 (B + 1 + 1) (by omega)).trans hen1
          have hat2 : W2.heap[B + 1]? = some (.cells ((List.range ts.length).map fun s => .int .i64 (((playG ts).pick a t (K : Int)).cnt s : Int)).toArray 3) := by
            rw [hW2]
            refine row_set hat1 ht ?_ fun s hs => ?_
            · show Value.int .i64 (upd a.cnt t (a.cnt t + 1) t : Nat) = _
              rw [upd_same, ← hcn.out]
            · show Value.int .i64 (upd a.cnt t (a.cnt t + 1) s : Nat) = _
              rw [upd_ne _ _ hs]
          have hb2 : Below B x W2 := by rw [hW2]; exact hb1.setCell (by dsimp only; omega) _
          have hs2 : B + 3 ≤ W2.heap.size := by rw [hW2]; simpa [World.setCell] using hs1
          have hown2 : W2.ownsRow B 37 4 (.slice (some ⟨gg, 0, none⟩) (a.ms.length + 1) cap) (a.ms.length + 1) (mksV a.ms ++ mkV ((t : Int), (K : Int), (cn : Int), nn)) := ownsRow_same hown1 fun g hg => ho2 g (by simp [Value.ownBlock] at hg; omega)
          have q5 : W2.cell? ⟨B + 1, t, none⟩ = some (.int .i64 ((cn + 1 : Nat) : Int)) := by
            have := row_cell hat2 ht
            rw [this]
            show some (Value.int .i64 (upd a.cnt t (a.cnt t + 1) t : Nat)) = _
            rw [upd_same, ← hcn.out]
          have q6 : W2.cell? ⟨ba, bo + t, none⟩ = some (.slice (some ⟨la, lo, none⟩) l.length (LC t)) := (World.cell?_of_block (ho2 ba (by omega))).trans q3
          have q7 := obj_thaw hen2 t
          have q8 := row_cell hen2 ht
          clear q3 q4
          replace hrun1 := Lib.hid hrun1
          replace hat1 := Lib.hid hat1
          replace hen1 := Lib.hid hen1
          replace hb1 := Lib.hid hb1
          replace hown1 := Lib.hid hown1
          replace hrun2 := Lib.hid hrun2
          replace hat2 := Lib.hid hat2
          replace hen2 := Lib.hid hen2
          replace hb2 := Lib.hid hb2
          replace hown2 := Lib.hid hown2
          replace ho2 := Lib.hid ho2
          go_wp2_with fail
          have hW3 : w1.setCell ⟨B + 1, t, none⟩ (.int .i64 ((cn : Int) + 1)) = W2 := hW2.symm
          rw [hW3]
          clear hW3 hz0f q1 q2
          replace hW2 := Lib.hid hW2
          obtain ⟨bv, hbv⟩ : ∃ b, b = (((cn + 1 : Nat) : Int) == (l.length : Int)) := ⟨_, rfl⟩
          have hbv' := hbv.symm
          replace hbv := Lib.hid hbv
          have kb : ∀ v, (W2.setCell ⟨B + 1 + 1, t, none⟩ v).cell? ⟨ba, bo + t, none⟩ = some (.slice (some ⟨la, lo, none⟩) l.length (LC t)) := fun v => (World.cell?_of_block (heap_setCell_ne (a := ⟨B + 1 + 1, t, none⟩) (by dsimp only; omega))).trans q6
          have ki : ∀ v, ((W2.setCell ⟨B + 1 + 1, t, none⟩ v).cell? ⟨B + 1 + 1, t, none⟩).isSome = true := fun v => by
            have h1 := heap_set (a := ⟨B + 1 + 1, t, none⟩) (v := v) (w := W2) rfl hen2.out
            rw [obj_cell (o := t) (v := v) h1 (by simp [ht])]
            rfl
          go_region_held3 (fun w' => w'.cell? ⟨B + 1, t, none⟩ = some (.int .i64 ((cn + 1 : Nat) : Int)) ∧ w'.cell? ⟨ba, bo + t, none⟩ = some (.slice (some ⟨la, lo, none⟩) l.length (LC t)) ∧ w'.frozen? ⟨B + 1 + 1, t, none⟩ = false ∧ (w'.cell? ⟨B + 1 + 1, t, none⟩).isSome = true) (first | go_keep | (go_split_ands; refine ⟨?_, ?_, ?_, ?_⟩ <;> first | assumption | exact kb _ | exact ki _ | skip)) ((fail))
          obtain ⟨W3, hW3⟩ : ∃ W, (W2.setCell ⟨B + 1 + 1, t, none⟩ (.bool ((cn : Int) + 1 == (l.length : Int)))).drew = W := ⟨_, rfl⟩
          rw [hW3]
          have ho3 : ∀ b, b ≠ B + 1 + 1 → W3.heap[b]? = W2.heap[b]? := fun b hb' => by rw [← hW3]; exact heap_setCell_ne (a := ⟨B + 1 + 1, t, none⟩) (fun e => hb' e.symm)
          have hen3 : W3.heap[B + 1 + 1]? = some (.cells ((List.range ts.length).map fun s => .bool (!(playG ts).alive ((playG ts).pick a t (K : Int)) s)).toArray 4) := by
            rw [← hW3]
            refine row_set hen2.out ht ?_ fun s hs => ?_
            · have e : (playG ts).alive ((playG ts).pick a t (K : Int)) t = decide (cn + 1 < l.length) := by
                show decide (upd a.cnt t (a.cnt t + 1) t < lenOf ts t) = _
                rw [upd_same, ← hcn.out]
                unfold lenOf
                rw [hl]
                rfl
              rw [e]
              congr 1
              by_cases h : cn + 1 < l.length
              · simp only [h, decide_true, Bool.not_true]
                rw [eq_comm, beq_eq_false_iff_ne]
                omega
              · simp only [h, decide_false, Bool.not_false]
                rw [eq_comm, beq_iff_eq]
                omega
            · have e : (playG ts).alive ((playG ts).pick a t (K : Int)) s = (playG ts).alive a s := by
                show decide (upd a.cnt t (a.cnt t + 1) s < lenOf ts s) = decide (a.cnt s < lenOf ts s)
                rw [upd_ne _ _ hs]
              rw [e]
          have hb3 : Below B x W3 := by rw [← hW3]; exact (hb2.out.setCell (by dsimp only; omega) _).drew
          have hs3 : B + 3 ≤ W3.heap.size := by rw [← hW3]; simpa [World.setCell] using hs2
          have hown3 : W3.ownsRow B 37 4 (.slice (some ⟨gg, 0, none⟩) (a.ms.length + 1) cap) (((playG ts).pick a t (K : Int)).ms.length) (mksV ((playG ts).pick a t (K : Int)).ms) := by
            have e1 : ((playG ts).pick a t (K : Int)).ms = a.ms ++ [((t : Int), (K : Int), (cn : Int), nn)] := by
              show a.ms ++ [((t : Int), (K : Int), (a.cnt t : Int), nOf ts t (a.cnt t))] = _
              rw [← hcn.out, hnO.out]
            rw [e1, mksV_snoc, List.length_append]
            exact ownsRow_same hown2.out fun g hg => ho3 g (by simp [Value.ownBlock] at hg; omega)
          have hrp3 : RP B B (B + 1) (B + 1 + 1) (.slice pa picks.length pcap) drain ts ((playG ts).pick a t (K : Int)) K nxt (.slice (some ⟨gg, 0, none⟩) (a.ms.length + 1) cap) W3 :=
            ⟨(ho3 B (by omega)).trans hrun2.out, (ho3 (B + 1) (by omega)).trans hat2.out, hen3, hown3, fun e => by simp [Value.ownBlock] at e; omega, fun e => by simp [Value.ownBlock] at e; omega, fun e => by simp [Value.ownBlock] at e; omega⟩
          have hnext := RP.next hrp3 hb3 (Nat.le_refl _) hrf.out hz2 hn hnp hp64 hpa (hps0.out _ hb3) (by omega) (by omega)
          replace hnext := Lib.hid hnext
          clear hps0 hrp3 hb3 hown3 hen3 ho3 hrun1 hat1 hen1 hb1 hown1 hrun2 hat2 hen2 hb2 hown2 ho2 hW2 hW3 kb ki q5 q6 q7 q8 hbv hbv' hrf hnn hnO hcn hms' hms hs1
          go_wp2_with fail
          refine hnext.out.mono ?_
          rintro e w2 ⟨r2, K2, nxt2, rfl, hrp2, hnx2, hk2, hk2', hb2', hsz3⟩
          have hK2 := hrp2.kOf
          replace hrp2 := Lib.hid hrp2
          replace hnx2 := Lib.hid hnx2
          replace hb2' := Lib.hid hb2'
          replace hK2 := Lib.hid hK2
          have hm := meas hk2 hk2' hle
          replace hm := Lib.hid hm
          have hwt : rWt (.int .i64 (t : Int)) = 1 := by
            unfold rWt
            dsimp only
            rw [if_neg (by omega)]
          replace hwt := Lib.hid hwt
          clear hnext hk2 hk2'
          go_wp2_with fail
          exact ⟨⟨_, r2, K2, nxt2, rfl, hrp2, hnx2, hb2', by show _ ≤ _; omega⟩, by rw [hK2.out, hK0.out, hwt.out]; exact hm.out⟩
#print axioms rplay_few
end Go.Proofs.Ytimlbbleblijnaa.Co

namespace Go.Proofs.Ytimlbbleblijnaa.Co
open Go Go.Conc Go.RowKit
open Go.ConcN (sumTo upd sumTo_upd upd_ne upd_same sumTo_congr le_sumTo)
set_option linter.unusedVariables false
set_option linter.unusedSimpArgs false
def MksAt (x : World) (v : Value) (ms : List Mk) : Prop := ∃ (A : Option Addr) (g cap : Nat), v = .slice A ms.length cap ∧ (0 < ms.length → A = some ⟨g, 0, none⟩) ∧ ∀ i u, (mksV ms)[i]? = some u → x.cell? ⟨g, i, none⟩ = some u
theorem MksAt.same {x x' : World} {v : Value} {ms : List Mk} (h : MksAt x v ms) (hs : ∀ g, v.ownBlock = some g → x'.heap[g]? = x.heap[g]?) : MksAt x' v ms := by
  obtain ⟨A, g, cap, rfl, h1, h2⟩ := h
  refine ⟨A, g, cap, rfl, h1, fun i u hu => ?_⟩
  have hp : 0 < ms.length := by
    cases ms with
    | nil => cases i <;> cases hu
    | cons m ms => exact Nat.succ_pos _
  rw [h1 hp] at hs
  exact (World.cell?_of_block (hs g rfl)).trans (h2 i u hu)
theorem MksAt.of_owns {x : World} {B : Nat} {v : Value} {ms : List Mk} (h : x.ownsRow B 37 4 v ms.length (mksV ms)) : MksAt x v ms := by
  obtain ⟨h1, h2⟩ := h
  rcases h2 with ⟨rfl, h0⟩ | ⟨g, cap, cur, rfl, hb, hg, _, _, _, ht⟩
  · have : ms = [] := List.eq_nil_of_length_eq_zero h0
    subst this
    exact ⟨none, 0, 0, rfl, fun h => absurd h (Nat.lt_irrefl _), fun i u hu => by simp [mksV] at hu⟩
  · refine ⟨_, g, cap, rfl, fun _ => rfl, fun i u hu => ?_⟩
    rw [← ht] at hu
    refine obj_cell hg ?_
    rw [← Array.getElem?_toList]
    have hl : i < (cur.toList.take (ms.length * 4)).length := (List.getElem?_eq_some_iff.1 hu).1
    rw [List.getElem?_take] at hu
    split at hu
    · exact hu
    · cases hu
theorem MksAt.mark {x : World} {g : Nat} {ms : List Mk} (h : ∀ i u, (mksV ms)[i]? = some u → x.cell? ⟨g, i, none⟩ = some u) {i : Nat} {m : Mk} (hm : ms[i]? = some m) : x.cell? ⟨g, i * 4, none⟩ = some (.int .i64 m.1) ∧ x.cell? ⟨g, i * 4 + 1, none⟩ = some (.int .i64 m.2.1) ∧ x.cell? ⟨g, i * 4 + 2, none⟩ = some (.int .i64 m.2.2.1) ∧ x.cell? ⟨g, i * 4 + 3, none⟩ = some (.int .i64 m.2.2.2) := by
  have hmk : ∀ j, j < 4 → (mksV ms)[i * 4 + j]? = (mkV m)[j]? := fun j hj => mksV_get hm hj
  exact ⟨h _ _ (by have := hmk 0 (by decide); simpa [mkV] using this), h _ _ (by have := hmk 1 (by decide); simpa [mkV] using this), h _ _ (by have := hmk 2 (by decide); simpa [mkV] using this), h _ _ (by have := hmk 3 (by decide); simpa [mkV] using this)⟩
set_option maxRecDepth 100000 in
set_option maxHeartbeats 4000000 in
theorem same_wp {x : World} {av bv : Value} {ms : List Mk} (ha : MksAt x av ms) (hb : MksAt x bv ms) (hml : ms.length ≤ 1000000000000) :
    Calls Try.prog 22 #[av, bv] x fun e x' => e = .returned (.bool true) ∧ ∃ k, x' = x.drewN k := by
  obtain ⟨A, g, cap, rfl, ha1, ha2⟩ := ha
  obtain ⟨A', g', cap', rfl, hb1, hb2⟩ := hb
  replace ha2 := Lib.hid ha2
  replace hb2 := Lib.hid hb2
  go_enter Try.func22, Try.ntmps22
  go_wp2
  go_loopw [5] (fun v wr => ∃ i : Nat, v = .int .i64 (i : Int) ∧ i ≤ ms.length ∧ ∃ k, wr = x.drewN k) (fun v _ => ms.length + 1 - natOfV v)
  case atStart => exact ⟨0, rfl, Nat.zero_le _, 0, rfl⟩
  case round =>
    obtain ⟨i, rfl, hi, k, rfl⟩ := hrel
    by_cases hlt : i < ms.length
    · obtain rfl := ha1 (by omega)
      obtain rfl := hb1 (by omega)
      obtain ⟨⟨m1, m2, m3, m4⟩, hm⟩ : ∃ m, ms[i]? = some m := ⟨_, List.getElem?_eq_getElem hlt⟩
      obtain ⟨a1, a2, a3, a4⟩ := MksAt.mark ha2.out hm
      obtain ⟨b1, b2, b3, b4⟩ := MksAt.mark hb2.out hm
      dsimp only at a1 a2 a3 a4 b1 b2 b3 b4
      have g1 : (i : Int) < (ms.length : Int) := by omega
      have g2 : (0 : Int) ≤ (i : Int) := by omega
      have hiw : IntKind.i64.wrap ((i : Int) + 1) = ((i + 1 : Nat) : Int) := by rw [IntKind.wrap_i64]; omega
      go_wp2
      go_quiet (fail)
      go_wp2
      exact ⟨⟨i + 1, by rw [Int.natCast_add]; rfl, by omega, _, rfl⟩, by have e : natOfV (.int .i64 ((i : Int) + 1)) = i + 1 := by simp [natOfV]
                                                                         rw [e]; simp [natOfV]; omega⟩
    · obtain rfl : i = ms.length := by omega
      have g1 : ¬ (ms.length : Int) < (ms.length : Int) := by omega
      go_wp2
      go_ret
      exact ⟨rfl, k, rfl⟩
def IntsX (x : World) (v : Value) (ps : List Int) : Prop := ∃ (pa : Option Addr) (pb po cap : Nat), v = .slice pa ps.length cap ∧ (ps ≠ [] → pa = some ⟨pb, po, none⟩) ∧ ∀ i p, ps[i]? = some p → x.cell? ⟨pb, po + i, none⟩ = some (.int .i64 p)
def ownI (ps : List Int) : List Value := ps.map (fun p => .int .i64 p) ++ [.int .i64 (-91), .int .i64 (-92)]
theorem ownI_get {ps : List Int} {i : Nat} {p : Int} (h : ps[i]? = some p) : (ownI ps)[i]? = some (.int .i64 p) := by
  unfold ownI
  rw [List.getElem?_append_left (by simpa using (List.getElem?_eq_some_iff.1 h).1), List.getElem?_map, h]
  rfl
theorem ownI_91 (ps : List Int) : (ownI ps)[ps.length]? = some (.int .i64 (-91)) := by
  unfold ownI
  rw [List.getElem?_append_right (by simp)]
  simp
theorem ownI_92 (ps : List Int) : (ownI ps)[ps.length + 1]? = some (.int .i64 (-92)) := by
  unfold ownI
  rw [List.getElem?_append_right (by simp)]
  simp
set_option maxRecDepth 100000 in
set_option maxHeartbeats 4000000 in
theorem kept_wp {x : World} {pv : Value} {ps : List Int} {b : Nat} (hP : IntsX x pv ps) (hown : x.heap[b]? = some (.cells (ownI ps).toArray 3)) (hpl : ps.length ≤ 1000000000000) :
    Calls Try.prog 24 #[.slice (some ⟨b, 0, none⟩) ps.length (ps.length + 2), pv] x fun e x' => e = .returned (.bool true) ∧ ∃ k, x' = x.drewN k := by
  obtain ⟨pa, pb, po, cap, rfl, h1, h2⟩ := hP
  have oc : ∀ i u, (ownI ps)[i]? = some u → x.cell? ⟨b, i, none⟩ = some u := fun i u hu => obj_cell hown (by rw [← Array.getElem?_toList]; exact hu)
  replace h2 := Lib.hid h2
  replace oc := Lib.hid oc
  replace hown := Lib.hid hown
  have q1 : IntKind.i64.wrap ((ps.length : Int) + 2) = ((ps.length + 2 : Nat) : Int) := by rw [IntKind.wrap_i64]; omega
  have q2 : (0 : Int) ≤ ((ps.length + 2 : Nat) : Int) := by omega
  go_enter Try.func24, Try.ntmps24
  go_wp2
  go_loopw [6] (fun v wr => ∃ i : Nat, v = .int .i64 (i : Int) ∧ i ≤ ps.length ∧ ∃ k, wr = x.drewN k) (fun v _ => ps.length + 1 - natOfV v)
  case atStart => exact ⟨0, rfl, Nat.zero_le _, 0, rfl⟩
  case round =>
    obtain ⟨i, rfl, hi, k, rfl⟩ := hrel
    by_cases hlt : i < ps.length
    · obtain rfl := h1 (fun e => by rw [e] at hlt; exact absurd hlt (Nat.not_lt_zero _))
      obtain ⟨p, hp⟩ : ∃ p, ps[i]? = some p := ⟨_, List.getElem?_eq_getElem hlt⟩
      have c1 := oc.out i _ (ownI_get hp)
      have c2 := h2.out i p hp
      have g1 : (i : Int) < (ps.length : Int) := by omega
      have g2 : (0 : Int) ≤ (i : Int) := by omega
      have g3 : (i : Int) < ((ps.length + 2 : Nat) : Int) := by omega
      have g4 : (i : Int) < (ps.length : Int) + 2 := by omega
      have hiw : IntKind.i64.wrap ((i : Int) + 1) = ((i + 1 : Nat) : Int) := by rw [IntKind.wrap_i64]; omega
      go_wp2
      go_quiet (fail)
      go_wp2
      exact ⟨⟨i + 1, by rw [Int.natCast_add]; rfl, by omega, _, rfl⟩, by have e : natOfV (.int .i64 ((i : Int) + 1)) = i + 1 := by simp [natOfV]
                                                                         rw [e]; simp [natOfV]; omega⟩
    · obtain rfl : i = ps.length := by omega
      have c1 := oc.out _ _ (ownI_91 ps)
      have c2 := oc.out _ _ (ownI_92 ps)
      have g1 : ¬ (ps.length : Int) < (ps.length : Int) := by omega
      have g2 : (0 : Int) ≤ (ps.length : Int) := by omega
      have g3 : (ps.length : Int) < (ps.length : Int) + 2 := by omega
      have g4 : (ps.length : Int) + 1 < (ps.length : Int) + 2 := by omega
      have g5 : (0 : Int) ≤ (ps.length : Int) + 1 := by omega
      have g6 : ((ps.length : Int) + 1).toNat = ps.length + 1 := by omega
      have g7 : IntKind.i64.wrap ((ps.length : Int) + 1) = (ps.length : Int) + 1 := by rw [IntKind.wrap_i64]; omega
      go_wp2
      go_ret
      exact ⟨rfl, k, rfl⟩
theorem copy_run {P : Program} {w : World} {dT sT ty elem : TypeId} {g dLen dCap sLen sCap : Nat} {sp : Option Addr} {i : TypeInfo} {cur cs : List Value} {t : TypeId} (hu : P.underlying dT = some (.slice elem)) (hi : P.info? elem = some i)
    (hg : w.heap[g]? = some (.cells cur.toArray t (0, 0))) (hn : cs.length = Nat.min sLen dLen * i.size) (hnil : sp = none → cs = []) (hsrc : ∀ ad, sp = some ad → ∀ j v, cs[j]? = some v → w.cell? (ad.add j) = some v) (hfit : cs.length ≤ cur.length) (h1 : ∀ v ∈ cs, v.oneCell' = true) :
    (Builtin.copy_ #[dT, sT] ty #[.slice (some ⟨g, 0, none⟩) dLen dCap, .slice sp sLen sCap]).run P w = .ok (goInt (Nat.min sLen dLen : Nat)) (w.setRow g (cs ++ cur.drop cs.length).toArray) := by
  have hst := run_storeCells_at P g 0 t cs 0 cur.toArray w hg (by simpa using hfit) h1
  cases sp with
  | none =>
    obtain rfl := hnil rfl
    simp only [Nat.add_zero, List.take_zero, List.nil_append, Nat.zero_add, List.length_nil, List.drop_zero] at hst ⊢
    simp [Builtin.copy_, run_underlying hu, Builtin.lenOf, Builtin.firstCells, sizeOf, typeInfo, hi, hst]
  | some ad =>
    have hl := run_loadCells_list (P := P) w ad cs (hsrc ad rfl)
    simp only [Nat.add_zero, List.take_zero, List.nil_append, Nat.zero_add] at hst
    simp [Builtin.copy_, run_underlying hu, Builtin.lenOf, Builtin.firstCells, sizeOf, typeInfo, hi, ← hn, hl, hst]
set_option maxRecDepth 100000 in
set_option maxHeartbeats 4000000 in
theorem ints_wp {x : World} {pv : Value} {ps : List Int} (hP : IntsX x pv ps) (hpl : ps.length ≤ 1000000000000) :
    Calls Try.prog 19 #[pv] x fun e x' => e = .returned (.slice (some ⟨x.heap.size, 0, none⟩) ps.length (ps.length + 2)) ∧ Below x.heap.size x x' ∧ x'.heap[x.heap.size]? = some (.cells (ownI ps).toArray 3) := by
  obtain ⟨pa, pb, po, cap, rfl, h1, h2⟩ := hP
  replace h2 := Lib.hid h2
  obtain ⟨i0, hi, hz, hs, hb⟩ := info3
  obtain ⟨Z, hZ⟩ : ∃ Z, Z = List.replicate (ps.length + 2) (Value.int .i64 0) := ⟨_, rfl⟩
  have hm : ∀ x : World, (Instr.makeSlice 23 (.int .i64 ((ps.length : Int) + 2)) (.int .i64 ((ps.length : Int) + 2))).run Try.prog x = .ok (.slice (some ⟨x.heap.size, 0, none⟩) (ps.length + 2) (ps.length + 2)) (x.alloc (.cells Z.toArray 3)) := fun x => by
    have h := run_make (P := Try.prog) x 23 3 i0 _ Try.underlying23 hi hz .i64 .i64 ((ps.length : Int) + 2) ((ps.length : Int) + 2) (by omega) (Int.le_refl _) (by rw [hb]; push_cast; omega) (by omega)
    have e : ((ps.length : Int) + 2).toNat = ps.length + 2 := by omega
    rw [e, hs, Nat.mul_one] at h
    rw [h, hZ]
    congr 3
    apply Array.ext
    · simp [madeCells]
    · intro i h1 h2
      simp [madeCells, Value.cells, Nat.mod_one]
  have q1 : IntKind.i64.wrap ((ps.length : Int) + 2) = (ps.length : Int) + 2 := by rw [IntKind.wrap_i64]; omega
  have hZl : Z.length = ps.length + 2 := by rw [hZ, List.length_replicate]
  obtain ⟨X1, hX1⟩ : ∃ X1, X1 = ps.map (fun p => Value.int .i64 p) := ⟨_, rfl⟩
  have hX1l : X1.length = ps.length := by rw [hX1, List.length_map]
  have hX1g : ∀ j v, X1[j]? = some v → ∃ p, ps[j]? = some p ∧ v = Value.int .i64 p := fun j v h => by
    rw [hX1, List.getElem?_map] at h
    cases hp : ps[j]? with
    | none => rw [hp] at h; cases h
    | some p => rw [hp] at h; exact ⟨p, hp, (Option.some.inj h).symm⟩
  obtain ⟨B, hB⟩ : ∃ B, B = x.heap.size := ⟨_, rfl⟩
  rw [← hB]
  have hZ0 : (x.alloc (.cells Z.toArray 3)).heap[B]? = some (.cells Z.toArray 3) := by rw [hB]; exact alloc_new
  have hb0 : Below B x (x.alloc (.cells Z.toArray 3)) := (Below.refl _ _).alloc (by omega) _
  have hsrc : ∀ ad, pa = some ad → ∀ j v, X1[j]? = some v → (x.alloc (.cells Z.toArray 3)).cell? (ad.add j) = some v := fun ad ha j v hv => by
    obtain ⟨p, hp, hpv⟩ := hX1g j v hv
    subst hpv
    have := h1 (fun e => by rw [e] at hp; cases hp)
    rw [ha] at this
    cases this
    have e : (⟨pb, po, none⟩ : Addr).add j = ⟨pb, po + j, none⟩ := by unfold Addr.add; split <;> simp_all
    rw [e]
    have h := h2.out j p hp
    exact (World.cell?_alloc_some x _ _ (by rw [h]; rfl)).trans h
  have hrun := copy_run (P := Try.prog) (sT := 23) (ty := 3) (dLen := ps.length + 2) (dCap := ps.length + 2) (sLen := ps.length) (sCap := cap) (cs := X1) Try.underlying23 hi hZ0 (by rw [hX1l, hs, Nat.mul_one]; exact (Nat.min_eq_left (by omega)).symm) (fun e => by
    by_cases h : ps = []
    · exact List.eq_nil_of_length_eq_zero (by rw [hX1l, h]; rfl)
    · rw [h1 h] at e; cases e) hsrc (by omega) (fun v hv => by
    obtain ⟨j, hj⟩ := List.getElem?_of_mem hv
    obtain ⟨p, _, hpv⟩ := hX1g j v hj
    subst hpv
    rfl)
  obtain ⟨W2, hW2⟩ : ∃ W, W = (x.alloc (.cells Z.toArray 3)).setRow B (X1 ++ Z.drop X1.length).toArray := ⟨_, rfl⟩
  rw [← hW2] at hrun
  have hr2 : W2.heap[B]? = some (.cells (X1 ++ Z.drop X1.length).toArray 3) := by rw [hW2]; exact setRow_heap _ _ _ _ _ _ hZ0
  have hb2 : Below B x W2 := by rw [hW2]; exact below_setRow hb0 (Nat.le_refl _) _
  have hl2 : Z.drop X1.length = [.int .i64 0, .int .i64 0] := by
    rw [hX1l, hZ, List.drop_replicate]
    have : ps.length + 2 - ps.length = 2 := by omega
    rw [this]
    rfl
  rw [hl2] at hr2
  have hf1 := obj_thaw hr2 ps.length
  have hf2 := obj_thaw hr2 (ps.length + 1)
  have hc1 : W2.cell? ⟨B, ps.length, none⟩ = some (.int .i64 0) := obj_cell hr2 (by rw [← Array.getElem?_toList, List.getElem?_append_right (by omega), hX1l]; simp)
  have hc2 : W2.cell? ⟨B, ps.length + 1, none⟩ = some (.int .i64 0) := obj_cell hr2 (by rw [← Array.getElem?_toList, List.getElem?_append_right (by omega), hX1l]; simp)
  have hfin : ((W2.setCell ⟨B, ps.length, none⟩ (.int .i64 (-91))).setCell ⟨B, ps.length + 1, none⟩ (.int .i64 (-92))).heap[B]? = some (.cells (ownI ps).toArray 3) := by
    have e1 := heap_set (a := ⟨B, ps.length, none⟩) (v := .int .i64 (-91)) (w := W2) rfl hr2
    have e2 := heap_set (a := ⟨B, ps.length + 1, none⟩) (v := .int .i64 (-92)) (w := W2.setCell ⟨B, ps.length, none⟩ (.int .i64 (-91))) rfl e1
    rw [e2]
    congr 2
    unfold ownI
    rw [← hX1]
    apply Array.ext'
    simp only [Array.toList_setIfInBounds, List.toList_toArray]
    rw [← hX1l, List.set_append_right _ _ (Nat.le_refl _), Nat.sub_self, List.set_append_right _ _ (by omega)]
    have : X1.length + 1 - X1.length = 1 := by omega
    rw [this]
    rfl
  have hbf : Below B x ((W2.setCell ⟨B, ps.length, none⟩ (.int .i64 (-91))).setCell ⟨B, ps.length + 1, none⟩ (.int .i64 (-92))) := (hb2.setCell (Nat.le_refl _) _).setCell (Nat.le_refl _) _
  rw [hB] at hf1 hf2 hc1 hc2 hrun
  replace hfin := Lib.hid hfin
  replace hbf := Lib.hid hbf
  replace hr2 := Lib.hid hr2
  replace hb2 := Lib.hid hb2
  replace hW2 := Lib.hid hW2
  replace hB := Lib.hid hB
  replace hZ := Lib.hid hZ
  replace hX1 := Lib.hid hX1
  replace hZ0 := Lib.hid hZ0
  replace hb0 := Lib.hid hb0
  replace hsrc := Lib.hid hsrc
  replace hl2 := Lib.hid hl2
  have g2 : (0 : Int) ≤ (ps.length : Int) := by omega
  have g3 : (ps.length : Int) < (ps.length : Int) + 2 := by omega
  have g4 : (ps.length : Int) + 1 < (ps.length : Int) + 2 := by omega
  have g5 : (0 : Int) ≤ (ps.length : Int) + 1 := by omega
  have g6 : ((ps.length : Int) + 1).toNat = ps.length + 1 := by omega
  have g7 : IntKind.i64.wrap ((ps.length : Int) + 1) = (ps.length : Int) + 1 := by rw [IntKind.wrap_i64]; omega
  go_enter Try.func19, Try.ntmps19
  go_wp2
  go_ret
  have hf := hfin.out
  have hb := hbf.out
  rw [hB.out] at hf hb ⊢
  exact ⟨rfl, hb, hf⟩
#print axioms ints_wp
end Go.Proofs.Ytimlbbleblijnaa.Co
