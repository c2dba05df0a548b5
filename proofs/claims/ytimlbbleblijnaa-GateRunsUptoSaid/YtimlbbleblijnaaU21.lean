/- Lemmas for the laws of this seat, laid together of PGea, PGdc, PGeb, PGec, PGed, PGee. -/
import Derived.Test.YtimlbbleblijnaaU20
import Derived.Deep.RegionHeld3
import Derived.Deep.AppendLies
import Derived.Laws.CopyOwn

set_option linter.unusedVariables false
set_option linter.unusedSimpArgs false
namespace Go.Proofs.Ytimlbbleblijnaa.Co
open Go Go.Conc Go.RowKit
def nextF (picks : List Int) (drain : Bool) (n : Nat) (alive : Nat → Bool) (K nxt : Nat) : Int × Nat × Nat :=
  if n = 0 then (-2, K, nxt) else
  match picks[K]? with
  | some p => (if alive (pickIx p n) then (pickIx p n : Int) else -1, K + 1, nxt)
  | none => if drain then (match nx alive n n nxt with
    | some t => ((t : Int), K + 1, (t + 1) % n)
    | none => (-2, K, nxt)) else (-2, K, nxt)
def runCells (pv : Value) (drain : Bool) (K nxt : Nat) : Obj := .cells #[pv, .bool drain, .int .i64 (K : Int), .int .i64 (nxt : Int)] 89
structure RunTo (rb : Nat) (pv : Value) (drain : Bool) (K nxt : Nat) (x x' : World) : Prop where
  size : x'.heap.size = x.heap.size
  old : ∀ b, b ≠ rb → x'.heap[b]? = x.heap[b]?
  run : x'.heap[rb]? = some (runCells pv drain K nxt)
  io : x'.os = x.os ∧ x'.tape = x.tape ∧ x'.output = x.output
theorem RunTo.set2 {rb : Nat} {pv : Value} {drain : Bool} {K nxt : Nat} {x x' : World} (h : RunTo rb pv drain K nxt x x') (K' : Nat) : RunTo rb pv drain K' nxt x (x'.setCell ⟨rb, 2, none⟩ (.int .i64 (K' : Int))) := by
  refine ⟨by rw [← h.size]; simp [World.setCell], fun b hb => by rw [heap_setCell_ne (a := ⟨rb, 2, none⟩) (fun e => hb e.symm)]; exact h.old b hb, ?_, h.io⟩
  exact heap_set (a := ⟨rb, 2, none⟩) (w := x') rfl h.run
theorem RunTo.set3 {rb : Nat} {pv : Value} {drain : Bool} {K nxt : Nat} {x x' : World} (h : RunTo rb pv drain K nxt x x') (n' : Nat) : RunTo rb pv drain K n' x (x'.setCell ⟨rb, 3, none⟩ (.int .i64 (n' : Int))) := by
  refine ⟨by rw [← h.size]; simp [World.setCell], fun b hb => by rw [heap_setCell_ne (a := ⟨rb, 3, none⟩) (fun e => hb e.symm)]; exact h.old b hb, ?_, h.io⟩
  exact heap_set (a := ⟨rb, 3, none⟩) (w := x') rfl h.run
theorem RunTo.drewN {rb : Nat} {pv : Value} {drain : Bool} {K nxt : Nat} {x x' : World} (h : RunTo rb pv drain K nxt x x') (n : Nat) : RunTo rb pv drain K nxt x (x'.drewN n) := ⟨h.size, h.old, h.run, h.io⟩
theorem RunTo.drew {rb : Nat} {pv : Value} {drain : Bool} {K nxt : Nat} {x x' : World} (h : RunTo rb pv drain K nxt x x') : RunTo rb pv drain K nxt x x'.drew := ⟨h.size, h.old, h.run, h.io⟩
set_option maxRecDepth 100000 in
set_option maxHeartbeats 2000000 in
theorem next_none {x : World} {rb eb K nxt : Nat} {pv : Value} {drain : Bool} (hr : x.heap[rb]? = some (runCells pv drain K nxt)) :
    Calls Try.prog 66 #[.pointer (some ⟨rb, 0, none⟩), .slice (some ⟨eb, 0, none⟩) 0 0] x fun e x' => e = .returned (.int .i64 (-2)) ∧ RunTo rb pv drain K nxt x x' := by
  have hR : RunTo rb pv drain K nxt x x := ⟨rfl, fun _ _ => rfl, hr, rfl, rfl, rfl⟩
  replace hR := Lib.hid hR
  clear hr
  go_enter Try.func66, Try.ntmps66
  go_wp2
  go_ret
  exact ⟨rfl, hR.out⟩
set_option maxRecDepth 100000 in
set_option maxHeartbeats 2000000 in
theorem next_pick {x : World} {rb eb K nxt n np pcap pb po : Nat} {p : Int} {a : Bool} {drain : Bool} (hn0 : 0 < n) (hn : n ≤ 8) (hK : K < np) (hnp : np ≤ 1000000000000) (hp : -9223372036854775808 ≤ p ∧ p ≤ 9223372036854775807)
    (hr : x.heap[rb]? = some (runCells (.slice (some ⟨pb, po, none⟩) np pcap) drain K nxt)) (hc : x.cell? ⟨pb, po + K, none⟩ = some (.int .i64 p)) (he : x.cell? ⟨eb, pickIx p n, none⟩ = some (.bool (!a))) (d1 : rb ≠ eb) :
    Calls Try.prog 66 #[.pointer (some ⟨rb, 0, none⟩), .slice (some ⟨eb, 0, none⟩) n n] x fun e x' => e = .returned (.int .i64 (if a then (pickIx p n : Int) else -1)) ∧ RunTo rb (.slice (some ⟨pb, po, none⟩) np pcap) drain (K + 1) nxt x x' := by
  have hR : RunTo rb (.slice (some ⟨pb, po, none⟩) np pcap) drain K nxt x x := ⟨rfl, fun _ _ => rfl, hr, rfl, rfl, rfl⟩
  have hlt := pickIx_lt p hn0
  have cl := fun W => round_any p n hn0 (by omega) hp W
  obtain ⟨t, ht⟩ : ∃ t, t = pickIx p n := ⟨_, rfl⟩
  rw [← ht] at he hlt cl ⊢
  have c0 : x.cell? ⟨rb, 0, none⟩ = some (.slice (some ⟨pb, po, none⟩) np pcap) := obj_cell hr rfl
  have c2 : x.cell? ⟨rb, 2, none⟩ = some (.int .i64 (K : Int)) := obj_cell hr rfl
  have hz : x.frozen? ⟨rb, 2, none⟩ = false := obj_thaw hr 2
  have q0 : ¬ (n : Int) = 0 := by omega
  have q0' : ((n : Int) == 0) = false := by simp; omega
  have q1 : (K : Int) < (np : Int) := by omega
  have q2 : (0 : Int) ≤ (K : Int) := by omega
  have q3 : (0 : Int) ≤ (t : Int) := by omega
  have q4 : (t : Int) < (n : Int) := by omega
  have p1 : decide ((K : Int) < (np : Int)) = true := decide_eq_true q1
  have hw : IntKind.i64.wrap ((K : Int) + 1) = ((K + 1 : Nat) : Int) := by rw [IntKind.wrap_i64]; omega
  have hfin : ∀ nq : Nat, RunTo rb (.slice (some ⟨pb, po, none⟩) np pcap) drain (K + 1) nxt x ((x.drewN nq).setCell ⟨rb, 2, none⟩ (.int .i64 ((K + 1 : Nat) : Int))) := fun nq => (hR.drewN nq).set2 (K + 1)
  replace ht := Lib.hid ht
  replace hR := Lib.hid hR
  replace hr := Lib.hid hr
  replace hfin := Lib.hid hfin
  have hd1 : eb ≠ rb := fun e => d1 e.symm
  cases a with
  | true =>
    go_enter Try.func66, Try.ntmps66
    go_wp2_with fail
    go_quiet (fail)
    go_wp2_with fail
    go_quiet ((go_at_call 26; exact (cl _).mono (fun _ _ h => ⟨h.1, _, h.2⟩)))
    go_wp2_with fail
    go_ret
    exact ⟨rfl, hfin.out _⟩
  | false =>
    go_enter Try.func66, Try.ntmps66
    go_wp2_with fail
    go_quiet (fail)
    go_wp2_with fail
    go_quiet ((go_at_call 26; exact (cl _).mono (fun _ _ h => ⟨h.1, _, h.2⟩)))
    go_wp2_with fail
    go_ret
    exact ⟨rfl, hfin.out _⟩
theorem nx_stop {alive : Nat → Bool} {n : Nat} : ∀ {m x : Nat}, x < n → (∀ j, j < m → alive ((x + j) % n) = false) → nx alive n m x = none
  | 0, _, _, _ => rfl
  | m + 1, x, hx, h => by
    have h0 := h 0 (by omega)
    rw [Nat.add_zero, Nat.mod_eq_of_lt hx] at h0
    rw [nx, h0]
    simp only [Bool.false_eq_true, if_false]
    refine nx_stop (Nat.mod_lt _ (by omega)) fun j hj => ?_
    rw [Nat.mod_add_mod, show x + 1 + j = x + (j + 1) by omega]
    exact h (j + 1) (by omega)
theorem nx_first {alive : Nat → Bool} {n : Nat} : ∀ {m i x : Nat}, x < n → i < m → (∀ j, j < i → alive ((x + j) % n) = false) → alive ((x + i) % n) = true → nx alive n m x = some ((x + i) % n)
  | 0, _, _, _, h, _, _ => absurd h (by omega)
  | m + 1, 0, x, hx, _, _, ha => by
    have e : (x + 0) % n = x := by rw [Nat.add_zero, Nat.mod_eq_of_lt hx]
    rw [e] at ha ⊢
    rw [nx, if_pos ha]
  | m + 1, i + 1, x, hx, hi, h, ha => by
    have h0 := h 0 (by omega)
    rw [Nat.add_zero, Nat.mod_eq_of_lt hx] at h0
    rw [nx, h0]
    simp only [Bool.false_eq_true, if_false]
    rw [nx_first (i := i) (Nat.mod_lt _ (by omega)) (by omega) (fun j hj => by
      rw [Nat.mod_add_mod, show x + 1 + j = x + (j + 1) by omega]
      exact h (j + 1) (by omega)) (by
      rw [Nat.mod_add_mod, show x + 1 + i = x + (i + 1) by omega]
      exact ha), Nat.mod_add_mod, show x + 1 + i = x + (i + 1) by omega]
theorem tmod_next (t n : Nat) : (((t : Int) + 1).tmod (n : Int)) = (((t + 1) % n : Nat) : Int) := by
  rw [Int.tmod_eq_emod_of_nonneg (by omega)]
  push_cast
  rfl
set_option maxRecDepth 100000 in
set_option maxHeartbeats 4000000 in
theorem next_drain {x : World} {rb eb K nxt n np pcap : Nat} {pa : Option Addr} {alive : Nat → Bool} {drain : Bool} (hn0 : 0 < n) (hn : n ≤ 8) (hK : np ≤ K) (hK2 : K ≤ 1000000000000000000) (hx : nxt < n)
    (hr : x.heap[rb]? = some (runCells (.slice pa np pcap) drain K nxt)) (he : ∀ t, t < n → x.cell? ⟨eb, t, none⟩ = some (.bool (!alive t))) (d1 : rb ≠ eb) :
    Calls Try.prog 66 #[.pointer (some ⟨rb, 0, none⟩), .slice (some ⟨eb, 0, none⟩) n n] x fun e x' => ∃ r K' nxt', (r, K', nxt') = (if drain then (match nx alive n n nxt with | some t => ((t : Int), K + 1, (t + 1) % n) | none => (-2, K, nxt)) else (-2, K, nxt)) ∧ e = .returned (.int .i64 r) ∧ RunTo rb (.slice pa np pcap) drain K' nxt' x x' := by
  have hR : RunTo rb (.slice pa np pcap) drain K nxt x x := ⟨rfl, fun _ _ => rfl, hr, rfl, rfl, rfl⟩
  have c0 : x.cell? ⟨rb, 0, none⟩ = some (.slice pa np pcap) := obj_cell hr rfl
  have c1 : x.cell? ⟨rb, 1, none⟩ = some (.bool drain) := obj_cell hr rfl
  have c2 : x.cell? ⟨rb, 2, none⟩ = some (.int .i64 (K : Int)) := obj_cell hr rfl
  obtain ⟨res, hres⟩ : ∃ res : Int × Nat × Nat, res = (if drain then (match nx alive n n nxt with | some t => ((t : Int), K + 1, (t + 1) % n) | none => (-2, K, nxt)) else (-2, K, nxt)) := ⟨_, rfl⟩
  rw [← hres]
  replace hres := Lib.hid hres
  have q0 : ¬ (n : Int) = 0 := by omega
  have q0' : ((n : Int) == 0) = false := by simp; omega
  have q1 : ¬ (K : Int) < (np : Int) := by omega
  have p1 : decide ((K : Int) < (np : Int)) = false := decide_eq_false q1
  replace hr := Lib.hid hr
  replace he := Lib.hid he
  replace hR := Lib.hid hR
  replace hx := Lib.hid hx
  go_enter Try.func66, Try.ntmps66
  go_wp2_with fail
  go_quiet (fail)
  go_wp2_with fail
  go_loopw [7, 8] (fun iv tv wr => ∃ i : Nat, iv = .int .i64 (i : Int) ∧ i ≤ n ∧ (drain = false → i = 0) ∧ Hid (∀ j, j < i → alive ((nxt + j) % n) = false) ∧ Hid (RunTo rb (.slice pa np pcap) drain K ((nxt + i) % n) x wr)) (fun iv _ _ => n + 1 - natOfV iv)
  case atStart =>
    refine ⟨0, rfl, Nat.zero_le _, fun _ => rfl, fun j hj => absurd hj (by omega), ?_⟩
    show RunTo rb (.slice pa np pcap) drain K ((nxt + 0) % n) x _
    rw [Nat.add_zero, Nat.mod_eq_of_lt hx.out]
    exact hR.out.drewN _
  case round =>
    obtain ⟨i, rfl, hi, hi0, hal, hrun⟩ := hrel
    have d1' : wr.cell? ⟨rb, 1, none⟩ = some (.bool drain) := obj_cell hrun.out.run rfl
    have d2' : wr.cell? ⟨rb, 2, none⟩ = some (.int .i64 (K : Int)) := obj_cell hrun.out.run rfl
    have d3' : wr.cell? ⟨rb, 3, none⟩ = some (.int .i64 (((nxt + i) % n : Nat) : Int)) := obj_cell hrun.out.run rfl
    have hz2 : wr.frozen? ⟨rb, 2, none⟩ = false := obj_thaw hrun.out.run 2
    have hz3 : wr.frozen? ⟨rb, 3, none⟩ = false := obj_thaw hrun.out.run 3
    obtain ⟨t, ht⟩ : ∃ t, t = (nxt + i) % n := ⟨_, rfl⟩
    have htn : t < n := by rw [ht]; exact Nat.mod_lt _ hn0
    rw [← ht] at d3'
    have hct : wr.cell? ⟨eb, t, none⟩ = some (.bool (!alive t)) := (World.cell?_of_block (hrun.out.old eb (fun e => d1 e.symm))).trans (he.out t htn)
    have htm := tmod_next t n
    obtain ⟨t1, ht1⟩ : ∃ t1, t1 = (t + 1) % n := ⟨_, rfl⟩
    rw [← ht1] at htm
    have hw1 : IntKind.i64.wrap ((t : Int) + 1) = (t : Int) + 1 := by rw [IntKind.wrap_i64]; omega
    have hw2 : IntKind.i64.wrap ((K : Int) + 1) = ((K + 1 : Nat) : Int) := by rw [IntKind.wrap_i64]; omega
    have ht1' : t1 = (nxt + (i + 1)) % n := by rw [ht1, ht, Nat.mod_add_mod, Nat.add_assoc]
    replace ht := Lib.hid ht
    replace ht1 := Lib.hid ht1
    replace ht1' := Lib.hid ht1'
    cases drain with
    | false =>
      obtain rfl := hi0 rfl
      have e0 := hrun.out
      rw [Nat.add_zero, Nat.mod_eq_of_lt hx.out] at e0
      replace e0 := Lib.hid e0
      go_wp2_with fail
      go_ret
      exact ⟨-2, K, nxt, by rw [hres.out]; rfl, rfl, e0.out⟩
    | true =>
      by_cases hlt : i < n
      · have g1 : (i : Int) < (n : Int) := by omega
        have g2 : (0 : Int) ≤ (t : Int) := by omega
        have g3 : (t : Int) < (n : Int) := by omega
        have g4 : decide ((i : Int) < (n : Int)) = true := decide_eq_true g1
        have hS3 : RunTo rb (.slice pa np pcap) true K t1 x (wr.setCell ⟨rb, 3, none⟩ (.int .i64 (t1 : Int))) := hrun.out.set3 t1
        have hS2 : RunTo rb (.slice pa np pcap) true (K + 1) t1 x ((wr.setCell ⟨rb, 3, none⟩ (.int .i64 (t1 : Int))).setCell ⟨rb, 2, none⟩ (.int .i64 ((K + 1 : Nat) : Int))) := hS3.set2 (K + 1)
        replace hS3 := Lib.hid hS3
        replace hS2 := Lib.hid hS2
        have hd1 : eb ≠ rb := fun e => d1 e.symm
        cases hav : alive t with
        | true =>
          rw [hav] at hct
          replace hav := Lib.hid hav
          go_wp2_with fail
          go_ret
          refine ⟨(t : Int), K + 1, t1, ?_, rfl, hS2.out⟩
          simp only [hres.out, if_true]
          rw [nx_first (i := i) hx.out hlt hal.out (by rw [← ht.out]; exact hav.out), ← ht.out, ht1.out]
        | false =>
          rw [hav] at hct
          replace hav := Lib.hid hav
          have hiw : IntKind.i64.wrap ((i : Int) + 1) = ((i + 1 : Nat) : Int) := by rw [IntKind.wrap_i64]; omega
          go_wp2_with fail
          refine ⟨⟨i + 1, by rw [Int.natCast_add]; rfl, by omega, fun h => (by cases h), fun j hj => ?_, ?_⟩, by simp [natOfV]; omega⟩
          · by_cases hji : j < i
            · exact hal.out j hji
            · rw [show j = i by omega, ← ht.out]; exact hav.out
          · show RunTo _ _ _ _ _ _ _
            rw [← ht1'.out]
            exact hS3.out
      · obtain rfl : i = n := by omega
        have g1 : ¬ (i : Int) < (i : Int) := by omega
        have e0 := hrun.out
        rw [Nat.add_mod_right, Nat.mod_eq_of_lt hx.out] at e0
        replace e0 := Lib.hid e0
        go_wp2_with fail
        go_ret
        refine ⟨-2, K, nxt, ?_, rfl, e0.out⟩
        simp only [hres.out, if_true]
        rw [nx_stop hx.out hal.out]
theorem next_any {x : World} {rb eb K nxt n pcap pb po : Nat} {pa : Option Addr} {picks : List Int} {alive : Nat → Bool} {drain : Bool} (hn : n ≤ 8) (hK2 : K ≤ 1000000000000000000) (hnp : picks.length ≤ 1000000000000) (hp64 : ∀ p ∈ picks, -9223372036854775808 ≤ p ∧ p ≤ 9223372036854775807) (hx : 0 < n → nxt < n)
    (hr : x.heap[rb]? = some (runCells (.slice pa picks.length pcap) drain K nxt)) (hpa : picks ≠ [] → pa = some ⟨pb, po, none⟩) (hps : ∀ i p, picks[i]? = some p → x.cell? ⟨pb, po + i, none⟩ = some (.int .i64 p)) (he : ∀ t, t < n → x.cell? ⟨eb, t, none⟩ = some (.bool (!alive t))) (d1 : rb ≠ eb) :
    Calls Try.prog 66 #[.pointer (some ⟨rb, 0, none⟩), .slice (some ⟨eb, 0, none⟩) n n] x fun e x' => e = .returned (.int .i64 (nextF picks drain n alive K nxt).1) ∧ RunTo rb (.slice pa picks.length pcap) drain (nextF picks drain n alive K nxt).2.1 (nextF picks drain n alive K nxt).2.2 x x' := by
  unfold nextF
  by_cases hn0 : n = 0
  · subst hn0
    rw [if_pos rfl]
    exact next_none hr
  · rw [if_neg hn0]
    cases hp : picks[K]? with
    | some p =>
      have hlt := (List.getElem?_eq_some_iff.1 hp).1
      obtain rfl := hpa (by intro e; rw [e] at hlt; exact absurd hlt (Nat.not_lt_zero _))
      dsimp only
      exact next_pick (Nat.pos_of_ne_zero hn0) hn hlt hnp (hp64 p (List.mem_of_getElem? hp)) hr (hps K p hp) (he _ (pickIx_lt p (Nat.pos_of_ne_zero hn0))) d1
    | none =>
      dsimp only
      refine (next_drain (alive := alive) (Nat.pos_of_ne_zero hn0) hn (List.getElem?_eq_none_iff.1 hp) hK2 (hx (Nat.pos_of_ne_zero hn0)) hr he d1).mono ?_
      rintro e x' ⟨r, K', nxt', h1, rfl, h2⟩
      rw [← h1]
      exact ⟨rfl, h2⟩
theorem info3 : ∃ i : TypeInfo, Try.prog.info? 3 = some i ∧ i.zero = some (.int .i64 0) ∧ i.size = 1 ∧ i.bytes = 8 := by
  have h : (Try.prog.info? 3).isSome = true := by kernel_rfl
  obtain ⟨i, hi⟩ := Option.isSome_iff_exists.1 h
  have h2 : (Try.prog.info? 3).map (fun i => (i.zero, i.size, i.bytes)) = some (some (.int .i64 0), 1, 8) := by kernel_rfl
  rw [hi] at h2
  simp only [Option.map_some, Option.some.injEq, Prod.mk.injEq] at h2
  exact ⟨i, hi, h2.1, h2.2.1, h2.2.2⟩
end Go.Proofs.Ytimlbbleblijnaa.Co

namespace Go.Proofs.Ytimlbbleblijnaa.Co
open Go Go.Conc Go.RowKit
open Go.ConcN (sumTo upd sumTo_upd upd_ne upd_same sumTo_congr le_sumTo)
structure OpsX (x : World) (ta : Option Addr) (ba bo : Nat) (LA : Nat → Option Addr) (LC : Nat → Nat) (ts : List (List Op3)) : Prop where
  ta : 0 < ts.length → ta = some ⟨ba, bo, none⟩
  row : ∀ i l, ts[i]? = some l → x.cell? ⟨ba, bo + i, none⟩ = some (.slice (LA i) l.length (LC i))
  ops : ∀ i l, ts[i]? = some l → l ≠ [] → ∃ la lo, LA i = some ⟨la, lo, none⟩ ∧ ∀ j op, l[j]? = some op → x.cell? ⟨la, lo + j * 3, none⟩ = some (.int .i64 op.1) ∧ x.cell? ⟨la, lo + j * 3 + 1, none⟩ = some (.int .i64 op.2.1) ∧ x.cell? ⟨la, lo + j * 3 + 2, none⟩ = some (.int .i64 op.2.2)
structure RP (B rb ab eb : Nat) (pv : Value) (drain : Bool) (ts : List (List Op3)) (a : PA) (K nxt : Nat) (ov : Value) (x : World) : Prop where
  run : x.heap[rb]? = some (runCells pv drain K nxt)
  at_ : x.heap[ab]? = some (.cells ((List.range ts.length).map fun t => .int .i64 (a.cnt t : Int)).toArray 3)
  en : x.heap[eb]? = some (.cells ((List.range ts.length).map fun t => .bool (!(playG ts).alive a t)).toArray 4)
  out : x.ownsRow B 37 4 ov a.ms.length (mksV a.ms)
  n1 : ov.ownBlock ≠ some rb
  n2 : ov.ownBlock ≠ some ab
  n3 : ov.ownBlock ≠ some eb
def RF (ts : List (List Op3)) (picks : List Int) (drain : Bool) (a : PA) (K nxt : Nat) (z : PA × Int) : Prop :=
  (0 < ts.length ∧ ((K ≤ picks.length ∧ nxt = 0 ∧ (if drain then (playG ts).Drn ((playG ts).picks (a, (K : Int)) (picks.drop K)) 0 z else z = (playG ts).picks (a, (K : Int)) (picks.drop K))) ∨ (picks.length ≤ K ∧ drain = true ∧ nxt < ts.length ∧ (playG ts).Drn (a, (K : Int)) nxt z))) ∨ (ts.length = 0 ∧ z = (a, (K : Int)))
theorem rf_next {ts : List (List Op3)} {picks : List Int} {drain : Bool} {a : PA} {K nxt : Nat} {z : PA × Int} (h : RF ts picks drain a K nxt z) {r : Int} {K' nxt' : Nat} (hr : (r, K', nxt') = nextF picks drain ts.length ((playG ts).alive a) K nxt) :
    (r = -2 ∧ z = (a, (K : Int)) ∧ K' = K) ∨ (r = -1 ∧ K' = K + 1 ∧ K < picks.length ∧ RF ts picks drain a K' nxt' z) ∨ (∃ t : Nat, r = (t : Int) ∧ t < ts.length ∧ (playG ts).alive a t = true ∧ K' = K + 1 ∧ RF ts picks drain ((playG ts).pick a t ((K : Int) + 1)) K' nxt' z) := by
  unfold nextF at hr
  rcases h with ⟨hn, h⟩ | ⟨hn, rfl⟩
  · rw [if_neg (by omega)] at hr
    rcases h with ⟨h1, h2, h3⟩ | ⟨h1, h2, h3, h4⟩
    · subst h2
      cases hp : picks[K]? with
      | some p =>
        rw [hp] at hr
        have hlt := (List.getElem?_eq_some_iff.1 hp).1
        have hdrop : picks.drop K = p :: picks.drop (K + 1) := by
          rw [List.drop_eq_getElem_cons hlt]
          obtain ⟨_, e⟩ := List.getElem?_eq_some_iff.1 hp
          rw [e]
        have hpk : (playG ts).picks (a, (K : Int)) (picks.drop K) = (playG ts).picks ((if (playG ts).alive a (pickIx p ts.length) = true then (playG ts).pick a (pickIx p ts.length) ((K : Int) + 1) else a), ((K + 1 : Nat) : Int)) (picks.drop (K + 1)) := by
          rw [hdrop]
          unfold Game.picks
          rw [List.foldl_cons]
          rfl
        rw [hpk] at h3
        dsimp only at hr
        by_cases ha : (playG ts).alive a (pickIx p ts.length) = true
        · rw [if_pos ha] at hr h3
          simp only [Prod.mk.injEq] at hr
          obtain ⟨rfl, rfl, rfl⟩ := hr
          exact .inr (.inr ⟨_, rfl, pickIx_lt p hn, ha, rfl, .inl ⟨hn, .inl ⟨by omega, rfl, h3⟩⟩⟩)
        · rw [if_neg ha] at hr h3
          simp only [Prod.mk.injEq] at hr
          obtain ⟨rfl, rfl, rfl⟩ := hr
          exact .inr (.inl ⟨rfl, rfl, hlt, .inl ⟨hn, .inl ⟨by omega, rfl, h3⟩⟩⟩)
      | none =>
        rw [hp] at hr
        have hle := List.getElem?_eq_none_iff.1 hp
        have hdrop : picks.drop K = [] := List.drop_eq_nil_of_le hle
        rw [hdrop] at h3
        have hz : (playG ts).picks (a, (K : Int)) [] = (a, (K : Int)) := rfl
        rw [hz] at h3
        dsimp only at hr
        cases drain with
        | false =>
          simp only [Bool.false_eq_true, if_false] at hr h3
          simp only [Prod.mk.injEq] at hr
          obtain ⟨rfl, rfl, rfl⟩ := hr
          exact .inl ⟨rfl, h3, rfl⟩
        | true =>
          simp only [if_true] at hr h3
          cases h3 with
          | stop h =>
            have h' : nx ((playG ts).alive a) ts.length ts.length 0 = none := h
            rw [h'] at hr
            simp only [Prod.mk.injEq] at hr
            obtain ⟨rfl, rfl, rfl⟩ := hr
            exact .inl ⟨rfl, rfl, rfl⟩
          | @go _ _ t _ h d =>
            have h' : nx ((playG ts).alive a) ts.length ts.length 0 = some t := h
            obtain ⟨b1, b2⟩ := nx_some hn h'
            rw [h'] at hr
            simp only [Prod.mk.injEq] at hr
            obtain ⟨rfl, rfl, rfl⟩ := hr
            exact .inr (.inr ⟨t, rfl, b1, b2, rfl, .inl ⟨hn, .inr ⟨by omega, rfl, Nat.mod_lt _ hn, d⟩⟩⟩)
    · subst h2
      rw [List.getElem?_eq_none h1] at hr
      simp only [if_true] at hr
      cases h4 with
      | stop h =>
        have h' : nx ((playG ts).alive a) ts.length ts.length nxt = none := h
        rw [h'] at hr
        simp only [Prod.mk.injEq] at hr
        obtain ⟨rfl, rfl, rfl⟩ := hr
        exact .inl ⟨rfl, rfl, rfl⟩
      | @go _ _ t _ h d =>
        have h' : nx ((playG ts).alive a) ts.length ts.length nxt = some t := h
        obtain ⟨b1, b2⟩ := nx_some h3 h'
        rw [h'] at hr
        simp only [Prod.mk.injEq] at hr
        obtain ⟨rfl, rfl, rfl⟩ := hr
        exact .inr (.inr ⟨t, rfl, b1, b2, rfl, .inl ⟨hn, .inr ⟨by omega, rfl, Nat.mod_lt _ hn, d⟩⟩⟩)
  · rw [if_pos hn] at hr
    simp only [Prod.mk.injEq] at hr
    obtain ⟨rfl, rfl, rfl⟩ := hr
    exact .inl ⟨rfl, rfl, rfl⟩
theorem rf_nxt {ts : List (List Op3)} {picks : List Int} {drain : Bool} {a : PA} {K nxt : Nat} {z : PA × Int} (h : RF ts picks drain a K nxt z) (hn : 0 < ts.length) : nxt < ts.length := by
  rcases h with ⟨_, ⟨_, rfl, _⟩ | ⟨_, _, h, _⟩⟩ | ⟨h, _⟩
  · exact hn
  · exact h
  · omega
theorem picks_k {ts : List (List Op3)} : ∀ (l : List Int) (a : PA × Int), ((playG ts).picks a l).2 = a.2 + l.length
  | [], a => by simp [Game.picks]
  | p :: l, a => by
    have e : (playG ts).picks a (p :: l) = (playG ts).picks ((playG ts).pk a (pickIx p (playG ts).n)) l := by
      unfold Game.picks
      rw [List.foldl_cons]
    rw [e, picks_k l]
    show a.2 + 1 + _ = _
    rw [List.length_cons]
    push_cast
    omega
theorem drn_k {ts : List (List Op3)} {a z : PA × Int} {x : Nat} (h : (playG ts).Drn a x z) : a.2 ≤ z.2 := by
  induction h with
  | stop _ => exact Int.le_refl _
  | go _ _ ih => dsimp only at ih; omega
theorem rf_le {ts : List (List Op3)} {picks : List Int} {drain : Bool} {a : PA} {K nxt : Nat} {z : PA × Int} (h : RF ts picks drain a K nxt z) : (K : Int) ≤ z.2 := by
  rcases h with ⟨_, ⟨_, _, h⟩ | ⟨_, _, _, h⟩⟩ | ⟨_, rfl⟩
  · have h1 := picks_k (ts := ts) (picks.drop K) (a, (K : Int))
    dsimp only at h1
    cases drain with
    | true =>
      simp only [if_true] at h
      have := drn_k h
      omega
    | false =>
      simp only [Bool.false_eq_true, if_false] at h
      rw [h]
      omega
  · exact drn_k h
  · exact Int.le_refl _
theorem info4 : ∃ i : TypeInfo, Try.prog.info? 4 = some i ∧ i.zero = some (.bool false) ∧ i.size = 1 ∧ i.bytes = 1 := by
  have h : (Try.prog.info? 4).isSome = true := by kernel_rfl
  obtain ⟨i, hi⟩ := Option.isSome_iff_exists.1 h
  have h2 : (Try.prog.info? 4).map (fun i => (i.zero, i.size, i.bytes)) = some (some (.bool false), 1, 1) := by kernel_rfl
  rw [hi] at h2
  simp only [Option.map_some, Option.some.injEq, Prod.mk.injEq] at h2
  exact ⟨i, hi, h2.1, h2.2.1, h2.2.2⟩
theorem made_b (n : Nat) : madeCells (Value.bool false).cells n = ((List.range n).map fun _ => Value.bool false).toArray := by
  apply Array.ext
  · simp [madeCells]
  · intro i h1 h2
    simp [madeCells, Value.cells, Nat.mod_one]
theorem make_b (n : Nat) (hn : n ≤ 8) (x : World) : (Instr.makeSlice 90 (.int .i64 (n : Int)) (.int .i64 (n : Int))).run Try.prog x = .ok (.slice (some ⟨x.heap.size, 0, none⟩) n n) (x.alloc (.cells ((List.range n).map fun _ => Value.bool false).toArray 4)) := by
  obtain ⟨i0, hi, hz, hs, hb⟩ := info4
  have h := run_makeSlice (P := Try.prog) (w := x) 90 4 i0 _ Try.underlying90 hi hz .i64 .i64 (n : Int) (n : Int) (by omega) (Int.le_refl _) (by rw [hs, Int.toNat_natCast]; omega) (by rw [hb]; push_cast; omega) (by omega)
  rw [Int.toNat_natCast, hs, Nat.mul_one, made_b n] at h
  exact h
theorem row_set {x : World} {b n t : Nat} {e : TypeId} {g g' : Nat → Value} {v : Value} (h : x.heap[b]? = some (.cells ((List.range n).map g).toArray e)) (ht : t < n) (h1 : g' t = v) (h2 : ∀ s, s ≠ t → g' s = g s) : (x.setCell ⟨b, t, none⟩ v).heap[b]? = some (.cells ((List.range n).map g').toArray e) := by
  have e1 : (x.setCell ⟨b, t, none⟩ v).heap[b]? = some (.cells ((((List.range n).map g).toArray).setIfInBounds t v) e) := heap_set (a := ⟨b, t, none⟩) (w := x) rfl h
  rw [e1]
  congr 2
  refine Array.ext_getElem? fun i => ?_
  rw [Array.getElem?_setIfInBounds]
  by_cases hi : t = i
  · subst hi
    simp [ht, h1]
  · rw [if_neg hi]
    by_cases hin : i < n
    · simp [hin, h2 i (fun e => hi e.symm)]
    · simp [hin]
theorem row_cell {x : World} {b n t : Nat} {e : TypeId} {g : Nat → Value} (h : x.heap[b]? = some (.cells ((List.range n).map g).toArray e)) (ht : t < n) : x.cell? ⟨b, t, none⟩ = some (g t) := by
  refine obj_cell h ?_
  simp [ht]
def NxtR (ts : List (List Op3)) (picks : List Int) (drain : Bool) (a : PA) (r : Int) (K nxt : Nat) (z : PA × Int) : Prop :=
  (r = -2 ∧ z = (a, (K : Int))) ∨ (r = -1 ∧ RF ts picks drain a K nxt z) ∨ ∃ t : Nat, r = (t : Int) ∧ t < ts.length ∧ (playG ts).alive a t = true ∧ RF ts picks drain ((playG ts).pick a t (K : Int)) K nxt z
def rWt : Value → Nat
  | .int _ i => if i = -2 then 0 else 1
  | _ => 0
theorem meas {z : PA × Int} {r2 : Int} {K K2 : Nat} (hk : r2 ≠ -2 → K2 = K + 1) (hk2 : K ≤ K2) (hle : (K : Int) ≤ z.2) : 2 * (z.2.toNat + 1 - K2) + rWt (.int .i64 r2) < 2 * (z.2.toNat + 1 - K) + 1 := by
  unfold rWt
  by_cases h : r2 = -2
  · dsimp only
    rw [if_pos h]
    omega
  · dsimp only
    rw [if_neg h, hk h]
    omega
def kOf (rb : Nat) (w : World) : Nat := natOfV ((w.cell? ⟨rb, 2, none⟩).getD undef)
theorem RP.kOf {B rb ab eb K nxt : Nat} {pv ov : Value} {ts : List (List Op3)} {drain : Bool} {a : PA} {x : World} (h : RP B rb ab eb pv drain ts a K nxt ov x) : Co.kOf rb x = K := by
  unfold Co.kOf
  rw [obj_cell h.run (o := 2) rfl]
  simp [natOfV]
theorem RP.next {B rb ab eb pcap pb po K nxt : Nat} {pa : Option Addr} {ts : List (List Op3)} {picks : List Int} {drain : Bool} {a : PA} {ov : Value} {x y : World} {z : PA × Int} (h : RP B rb ab eb (.slice pa picks.length pcap) drain ts a K nxt ov y) (hb : Below B x y) (hrb : B ≤ rb) (hf : RF ts picks drain a K nxt z) (hz2 : z.2 ≤ 100000000000000) (hn : ts.length ≤ 8) (hnp : picks.length ≤ 100000000000) (hp64 : ∀ p ∈ picks, -9223372036854775808 ≤ p ∧ p ≤ 9223372036854775807)
    (hpa : picks ≠ [] → pa = some ⟨pb, po, none⟩) (hps : ∀ i p, picks[i]? = some p → y.cell? ⟨pb, po + i, none⟩ = some (.int .i64 p)) (d1 : rb ≠ ab) (d2 : rb ≠ eb) :
    Calls Try.prog 66 #[.pointer (some ⟨rb, 0, none⟩), .slice (some ⟨eb, 0, none⟩) ts.length ts.length] y fun e y' => ∃ r K' nxt', e = .returned (.int .i64 r) ∧ RP B rb ab eb (.slice pa picks.length pcap) drain ts a K' nxt' ov y' ∧ NxtR ts picks drain a r K' nxt' z ∧ (r ≠ -2 → K' = K + 1) ∧ K ≤ K' ∧ Below B x y' ∧ y'.heap.size = y.heap.size := by
  have hle := rf_le hf
  refine (next_any (alive := (playG ts).alive a) hn (by omega) (by omega) hp64 (rf_nxt hf) h.run hpa hps (fun t ht => row_cell h.en ht) d2).mono ?_
  rintro e y' ⟨rfl, hr⟩
  obtain ⟨r, K', nxt', hres⟩ : ∃ r K' nxt', (r, K', nxt') = nextF picks drain ts.length ((playG ts).alive a) K nxt := ⟨_, _, _, rfl⟩
  rw [← hres] at hr ⊢
  have hs := rf_next hf hres
  refine ⟨r, K', nxt', rfl, ⟨hr.run, (hr.old ab (fun e => d1 e.symm)).trans h.at_, (hr.old eb (fun e => d2 e.symm)).trans h.en, ownsRow_same h.out (fun g hg => hr.old g (fun e => h.n1 (by rw [← e]; exact hg))), h.n1, h.n2, h.n3⟩, ?_, fun hne => ?_, ?_, ⟨?_, ?_, ?_, ?_, ?_⟩, hr.size⟩
  · rcases hs with ⟨e1, e2, e3⟩ | ⟨e1, _, _, e2⟩ | ⟨t, e1, e2, e3, e4, e5⟩
    · exact .inl ⟨e1, by rw [e2, e3]⟩
    · exact .inr (.inl ⟨e1, e2⟩)
    · refine .inr (.inr ⟨t, e1, e2, e3, ?_⟩)
      rw [e4] at e5 ⊢
      push_cast
      exact e5
  · rcases hs with ⟨e1, _⟩ | ⟨_, e2, _⟩ | ⟨t, _, _, _, e4, _⟩
    · exact absurd e1 hne
    · exact e2
    · exact e4
  · rcases hs with ⟨_, _, e3⟩ | ⟨_, e2, _⟩ | ⟨t, _, _, _, e4, _⟩ <;> omega
  · exact hr.io.1.trans hb.os
  · exact hr.io.2.1.trans hb.tape
  · exact hr.io.2.2.trans hb.output
  · have := hb.size
    have := hr.size
    omega
  · intro b hbb
    rw [hr.old b (by omega)]
    exact hb.block b hbb
def MksAt (x : World) (v : Value) (ms : List Mk) : Prop := ∃ (A : Option Addr) (g cap : Nat), v = .slice A ms.length cap ∧ (0 < ms.length → A = some ⟨g, 0, none⟩) ∧ ∀ i u, (mksV ms)[i]? = some u → x.cell? ⟨g, i, none⟩ = some u
theorem MksAt.same {x x' : World} {v : Value} {ms : List Mk} (h : MksAt x v ms) (hs : ∀ g, v.ownBlock = some g → x'.heap[g]? = x.heap[g]?) : MksAt x' v ms := by
  obtain ⟨A, g, cap, rfl, h1, h2⟩ := h
  refine ⟨A, g, cap, rfl, h1, fun i u hu => ?_⟩
  have hp : 0 < ms.length := by
    cases ms with
    | nil => cases i <;> cases hu
    | cons m ms => exact Nat.succ_pos _
  rw [h1 hp] at hs
  exact (World.cell?_of_block (hs g rfl)).trans (h2 i u hu)
theorem MksAt.of_owns {x : World} {B : Nat} {v : Value} {ms : List Mk} (h : x.ownsRow B 37 4 v ms.length (mksV ms)) : MksAt x v ms := by
  obtain ⟨h1, h2⟩ := h
  rcases h2 with ⟨rfl, h0⟩ | ⟨g, cap, cur, rfl, hb, hg, _, _, _, ht⟩
  · have : ms = [] := List.eq_nil_of_length_eq_zero h0
    subst this
    exact ⟨none, 0, 0, rfl, fun h => absurd h (Nat.lt_irrefl _), fun i u hu => by simp [mksV] at hu⟩
  · refine ⟨_, g, cap, rfl, fun _ => rfl, fun i u hu => ?_⟩
    rw [← ht] at hu
    refine obj_cell hg ?_
    rw [← Array.getElem?_toList]
    have hl : i < (cur.toList.take (ms.length * 4)).length := (List.getElem?_eq_some_iff.1 hu).1
    rw [List.getElem?_take] at hu
    split at hu
    · exact hu
    · cases hu
theorem MksAt.mark {x : World} {g : Nat} {ms : List Mk} (h : ∀ i u, (mksV ms)[i]? = some u → x.cell? ⟨g, i, none⟩ = some u) {i : Nat} {m : Mk} (hm : ms[i]? = some m) : x.cell? ⟨g, i * 4, none⟩ = some (.int .i64 m.1) ∧ x.cell? ⟨g, i * 4 + 1, none⟩ = some (.int .i64 m.2.1) ∧ x.cell? ⟨g, i * 4 + 2, none⟩ = some (.int .i64 m.2.2.1) ∧ x.cell? ⟨g, i * 4 + 3, none⟩ = some (.int .i64 m.2.2.2) := by
  have hmk : ∀ j, j < 4 → (mksV ms)[i * 4 + j]? = (mkV m)[j]? := fun j hj => mksV_get hm hj
  exact ⟨h _ _ (by have := hmk 0 (by decide); simpa [mkV] using this), h _ _ (by have := hmk 1 (by decide); simpa [mkV] using this), h _ _ (by have := hmk 2 (by decide); simpa [mkV] using this), h _ _ (by have := hmk 3 (by decide); simpa [mkV] using this)⟩
def IntsX (x : World) (v : Value) (ps : List Int) : Prop := ∃ (pa : Option Addr) (pb po cap : Nat), v = .slice pa ps.length cap ∧ (ps ≠ [] → pa = some ⟨pb, po, none⟩) ∧ ∀ i p, ps[i]? = some p → x.cell? ⟨pb, po + i, none⟩ = some (.int .i64 p)
def ownI (ps : List Int) : List Value := ps.map (fun p => .int .i64 p) ++ [.int .i64 (-91), .int .i64 (-92)]
theorem ownI_get {ps : List Int} {i : Nat} {p : Int} (h : ps[i]? = some p) : (ownI ps)[i]? = some (.int .i64 p) := by
  unfold ownI
  rw [List.getElem?_append_left (by simpa using (List.getElem?_eq_some_iff.1 h).1), List.getElem?_map, h]
  rfl
theorem ownI_91 (ps : List Int) : (ownI ps)[ps.length]? = some (.int .i64 (-91)) := by
  unfold ownI
  rw [List.getElem?_append_right (by simp)]
  simp
theorem ownI_92 (ps : List Int) : (ownI ps)[ps.length + 1]? = some (.int .i64 (-92)) := by
  unfold ownI
  rw [List.getElem?_append_right (by simp)]
  simp
set_option maxRecDepth 100000 in
set_option maxHeartbeats 4000000 in
theorem kept_wp {x : World} {pv : Value} {ps : List Int} {b : Nat} (hP : IntsX x pv ps) (hown : x.heap[b]? = some (.cells (ownI ps).toArray 3)) (hpl : ps.length ≤ 1000000000000) :
    Calls Try.prog 24 #[.slice (some ⟨b, 0, none⟩) ps.length (ps.length + 2), pv] x fun e x' => e = .returned (.bool true) ∧ ∃ k, x' = x.drewN k := by
  obtain ⟨pa, pb, po, cap, rfl, h1, h2⟩ := hP
  have oc : ∀ i u, (ownI ps)[i]? = some u → x.cell? ⟨b, i, none⟩ = some u := fun i u hu => obj_cell hown (by rw [← Array.getElem?_toList]; exact hu)
  replace h2 := Lib.hid h2
  replace oc := Lib.hid oc
  replace hown := Lib.hid hown
  have q1 : IntKind.i64.wrap ((ps.length : Int) + 2) = ((ps.length + 2 : Nat) : Int) := by rw [IntKind.wrap_i64]; omega
  have q2 : (0 : Int) ≤ ((ps.length + 2 : Nat) : Int) := by omega
  go_enter Try.func24, Try.ntmps24
  go_wp2
  go_loopw [6] (fun v wr => ∃ i : Nat, v = .int .i64 (i : Int) ∧ i ≤ ps.length ∧ ∃ k, wr = x.drewN k) (fun v _ => ps.length + 1 - natOfV v)
  case atStart => exact ⟨0, rfl, Nat.zero_le _, 0, rfl⟩
  case round =>
    obtain ⟨i, rfl, hi, k, rfl⟩ := hrel
    by_cases hlt : i < ps.length
    · obtain rfl := h1 (fun e => by rw [e] at hlt; exact absurd hlt (Nat.not_lt_zero _))
      obtain ⟨p, hp⟩ : ∃ p, ps[i]? = some p := ⟨_, List.getElem?_eq_getElem hlt⟩
      have c1 := oc.out i _ (ownI_get hp)
      have c2 := h2.out i p hp
      have g1 : (i : Int) < (ps.length : Int) := by omega
      have g2 : (0 : Int) ≤ (i : Int) := by omega
      have g3 : (i : Int) < ((ps.length + 2 : Nat) : Int) := by omega
      have g4 : (i : Int) < (ps.length : Int) + 2 := by omega
      have hiw : IntKind.i64.wrap ((i : Int) + 1) = ((i + 1 : Nat) : Int) := by rw [IntKind.wrap_i64]; omega
      go_wp2
      go_quiet (fail)
      go_wp2
      exact ⟨⟨i + 1, by rw [Int.natCast_add]; rfl, by omega, _, rfl⟩, by have e : natOfV (.int .i64 ((i : Int) + 1)) = i + 1 := by simp [natOfV]
                                                                         rw [e]; simp [natOfV]; omega⟩
    · obtain rfl : i = ps.length := by omega
      have c1 := oc.out _ _ (ownI_91 ps)
      have c2 := oc.out _ _ (ownI_92 ps)
      have g1 : ¬ (ps.length : Int) < (ps.length : Int) := by omega
      have g2 : (0 : Int) ≤ (ps.length : Int) := by omega
      have g3 : (ps.length : Int) < (ps.length : Int) + 2 := by omega
      have g4 : (ps.length : Int) + 1 < (ps.length : Int) + 2 := by omega
      have g5 : (0 : Int) ≤ (ps.length : Int) + 1 := by omega
      have g6 : ((ps.length : Int) + 1).toNat = ps.length + 1 := by omega
      have g7 : IntKind.i64.wrap ((ps.length : Int) + 1) = (ps.length : Int) + 1 := by rw [IntKind.wrap_i64]; omega
      go_wp2
      go_ret
      exact ⟨rfl, k, rfl⟩
theorem copy_run {P : Program} {w : World} {dT sT ty elem : TypeId} {g dLen dCap sLen sCap : Nat} {sp : Option Addr} {i : TypeInfo} {cur cs : List Value} {t : TypeId} (hu : P.underlying dT = some (.slice elem)) (hi : P.info? elem = some i)
    (hg : w.heap[g]? = some (.cells cur.toArray t (0, 0))) (hn : cs.length = Nat.min sLen dLen * i.size) (hnil : sp = none → cs = []) (hsrc : ∀ ad, sp = some ad → ∀ j v, cs[j]? = some v → w.cell? (ad.add j) = some v) (hfit : cs.length ≤ cur.length) (h1 : ∀ v ∈ cs, v.oneCell' = true) :
    (Builtin.copy_ #[dT, sT] ty #[.slice (some ⟨g, 0, none⟩) dLen dCap, .slice sp sLen sCap]).run P w = .ok (goInt (Nat.min sLen dLen : Nat)) (w.setRow g (cs ++ cur.drop cs.length).toArray) := by
  have hst := run_storeCells_at P g 0 t cs 0 cur.toArray w hg (by simpa using hfit) h1
  cases sp with
  | none =>
    obtain rfl := hnil rfl
    simp only [Nat.add_zero, List.take_zero, List.nil_append, Nat.zero_add, List.length_nil, List.drop_zero] at hst ⊢
    simp [Builtin.copy_, run_underlying hu, Builtin.lenOf, Builtin.firstCells, sizeOf, typeInfo, hi, hst]
  | some ad =>
    have hl := run_loadCells_list (P := P) w ad cs (hsrc ad rfl)
    simp only [Nat.add_zero, List.take_zero, List.nil_append, Nat.zero_add] at hst
    simp [Builtin.copy_, run_underlying hu, Builtin.lenOf, Builtin.firstCells, sizeOf, typeInfo, hi, ← hn, hl, hst]
set_option maxRecDepth 100000 in
set_option maxHeartbeats 4000000 in
theorem ints_wp {x : World} {pv : Value} {ps : List Int} (hP : IntsX x pv ps) (hpl : ps.length ≤ 1000000000000) :
    Calls Try.prog 19 #[pv] x fun e x' => e = .returned (.slice (some ⟨x.heap.size, 0, none⟩) ps.length (ps.length + 2)) ∧ Below x.heap.size x x' ∧ x'.heap[x.heap.size]? = some (.cells (ownI ps).toArray 3) := by
  obtain ⟨pa, pb, po, cap, rfl, h1, h2⟩ := hP
  replace h2 := Lib.hid h2
  obtain ⟨i0, hi, hz, hs, hb⟩ := info3
  obtain ⟨Z, hZ⟩ : ∃ Z, Z = List.replicate (ps.length + 2) (Value.int .i64 0) := ⟨_, rfl⟩
  have hm : ∀ x : World, (Instr.makeSlice 23 (.int .i64 ((ps.length : Int) + 2)) (.int .i64 ((ps.length : Int) + 2))).run Try.prog x = .ok (.slice (some ⟨x.heap.size, 0, none⟩) (ps.length + 2) (ps.length + 2)) (x.alloc (.cells Z.toArray 3)) := fun x => by
    have h := run_make (P := Try.prog) x 23 3 i0 _ Try.underlying23 hi hz .i64 .i64 ((ps.length : Int) + 2) ((ps.length : Int) + 2) (by omega) (Int.le_refl _) (by rw [hb]; push_cast; omega) (by omega)
    have e : ((ps.length : Int) + 2).toNat = ps.length + 2 := by omega
    rw [e, hs, Nat.mul_one] at h
    rw [h, hZ]
    congr 3
    apply Array.ext
    · simp [madeCells]
    · intro i h1 h2
      simp [madeCells, Value.cells, Nat.mod_one]
  have q1 : IntKind.i64.wrap ((ps.length : Int) + 2) = (ps.length : Int) + 2 := by rw [IntKind.wrap_i64]; omega
  have hZl : Z.length = ps.length + 2 := by rw [hZ, List.length_replicate]
  obtain ⟨X1, hX1⟩ : ∃ X1, X1 = ps.map (fun p => Value.int .i64 p) := ⟨_, rfl⟩
  have hX1l : X1.length = ps.length := by rw [hX1, List.length_map]
  have hX1g : ∀ j v, X1[j]? = some v → ∃ p, ps[j]? = some p ∧ v = Value.int .i64 p := fun j v h => by
    rw [hX1, List.getElem?_map] at h
    cases hp : ps[j]? with
    | none => rw [hp] at h; cases h
    | some p => rw [hp] at h; exact ⟨p, hp, (Option.some.inj h).symm⟩
  obtain ⟨B, hB⟩ : ∃ B, B = x.heap.size := ⟨_, rfl⟩
  rw [← hB]
  have hZ0 : (x.alloc (.cells Z.toArray 3)).heap[B]? = some (.cells Z.toArray 3) := by rw [hB]; exact alloc_new
  have hb0 : Below B x (x.alloc (.cells Z.toArray 3)) := (Below.refl _ _).alloc (by omega) _
  have hsrc : ∀ ad, pa = some ad → ∀ j v, X1[j]? = some v → (x.alloc (.cells Z.toArray 3)).cell? (ad.add j) = some v := fun ad ha j v hv => by
    obtain ⟨p, hp, hpv⟩ := hX1g j v hv
    subst hpv
    have := h1 (fun e => by rw [e] at hp; cases hp)
    rw [ha] at this
    cases this
    have e : (⟨pb, po, none⟩ : Addr).add j = ⟨pb, po + j, none⟩ := by unfold Addr.add; split <;> simp_all
    rw [e]
    have h := h2.out j p hp
    exact (World.cell?_alloc_some x _ _ (by rw [h]; rfl)).trans h
  have hrun := copy_run (P := Try.prog) (sT := 23) (ty := 3) (dLen := ps.length + 2) (dCap := ps.length + 2) (sLen := ps.length) (sCap := cap) (cs := X1) Try.underlying23 hi hZ0 (by rw [hX1l, hs, Nat.mul_one]; exact (Nat.min_eq_left (by omega)).symm) (fun e => by
    by_cases h : ps = []
    · exact List.eq_nil_of_length_eq_zero (by rw [hX1l, h]; rfl)
    · rw [h1 h] at e; cases e) hsrc (by omega) (fun v hv => by
    obtain ⟨j, hj⟩ := List.getElem?_of_mem hv
    obtain ⟨p, _, hpv⟩ := hX1g j v hj
    subst hpv
    rfl)
  obtain ⟨W2, hW2⟩ : ∃ W, W = (x.alloc (.cells Z.toArray 3)).setRow B (X1 ++ Z.drop X1.length).toArray := ⟨_, rfl⟩
  rw [← hW2] at hrun
  have hr2 : W2.heap[B]? = some (.cells (X1 ++ Z.drop X1.length).toArray 3) := by rw [hW2]; exact setRow_heap _ _ _ _ _ _ hZ0
  have hb2 : Below B x W2 := by rw [hW2]; exact below_setRow hb0 (Nat.le_refl _) _
  have hl2 : Z.drop X1.length = [.int .i64 0, .int .i64 0] := by
    rw [hX1l, hZ, List.drop_replicate]
    have : ps.length + 2 - ps.length = 2 := by omega
    rw [this]
    rfl
  rw [hl2] at hr2
  have hf1 := obj_thaw hr2 ps.length
  have hf2 := obj_thaw hr2 (ps.length + 1)
  have hc1 : W2.cell? ⟨B, ps.length, none⟩ = some (.int .i64 0) := obj_cell hr2 (by rw [← Array.getElem?_toList, List.getElem?_append_right (by omega), hX1l]; simp)
  have hc2 : W2.cell? ⟨B, ps.length + 1, none⟩ = some (.int .i64 0) := obj_cell hr2 (by rw [← Array.getElem?_toList, List.getElem?_append_right (by omega), hX1l]; simp)
  have hfin : ((W2.setCell ⟨B, ps.length, none⟩ (.int .i64 (-91))).setCell ⟨B, ps.length + 1, none⟩ (.int .i64 (-92))).heap[B]? = some (.cells (ownI ps).toArray 3) := by
    have e1 := heap_set (a := ⟨B, ps.length, none⟩) (v := .int .i64 (-91)) (w := W2) rfl hr2
    have e2 := heap_set (a := ⟨B, ps.length + 1, none⟩) (v := .int .i64 (-92)) (w := W2.setCell ⟨B, ps.length, none⟩ (.int .i64 (-91))) rfl e1
    rw [e2]
    congr 2
    unfold ownI
    rw [← hX1]
    apply Array.ext'
    simp only [Array.toList_setIfInBounds, List.toList_toArray]
    rw [← hX1l, List.set_append_right _ _ (Nat.le_refl _), Nat.sub_self, List.set_append_right _ _ (by omega)]
    have : X1.length + 1 - X1.length = 1 := by omega
    rw [this]
    rfl
  have hbf : Below B x ((W2.setCell ⟨B, ps.length, none⟩ (.int .i64 (-91))).setCell ⟨B, ps.length + 1, none⟩ (.int .i64 (-92))) := (hb2.setCell (Nat.le_refl _) _).setCell (Nat.le_refl _) _
  rw [hB] at hf1 hf2 hc1 hc2 hrun
  replace hfin := Lib.hid hfin
  replace hbf := Lib.hid hbf
  replace hr2 := Lib.hid hr2
  replace hb2 := Lib.hid hb2
  replace hW2 := Lib.hid hW2
  replace hB := Lib.hid hB
  replace hZ := Lib.hid hZ
  replace hX1 := Lib.hid hX1
  replace hZ0 := Lib.hid hZ0
  replace hb0 := Lib.hid hb0
  replace hsrc := Lib.hid hsrc
  replace hl2 := Lib.hid hl2
  have g2 : (0 : Int) ≤ (ps.length : Int) := by omega
  have g3 : (ps.length : Int) < (ps.length : Int) + 2 := by omega
  have g4 : (ps.length : Int) + 1 < (ps.length : Int) + 2 := by omega
  have g5 : (0 : Int) ≤ (ps.length : Int) + 1 := by omega
  have g6 : ((ps.length : Int) + 1).toNat = ps.length + 1 := by omega
  have g7 : IntKind.i64.wrap ((ps.length : Int) + 1) = (ps.length : Int) + 1 := by rw [IntKind.wrap_i64]; omega
  go_enter Try.func19, Try.ntmps19
  go_wp2
  go_ret
  have hf := hfin.out
  have hb := hbf.out
  rw [hB.out] at hf hb ⊢
  exact ⟨rfl, hb, hf⟩
def opV (o : Op3) : List Value := [.int .i64 o.1, .int .i64 o.2.1, .int .i64 o.2.2]
def opsV (l : List Op3) : List Value := (l.map opV).flatten
theorem opsV_len : ∀ l : List Op3, (opsV l).length = l.length * 3
  | [] => rfl
  | o :: l => by
    have e : opsV (o :: l) = opV o ++ opsV l := by simp [opsV]
    rw [e, List.length_append, opsV_len l, List.length_cons]
    show 3 + _ = _
    omega
theorem opsV_get : ∀ {l : List Op3} {i : Nat} {o : Op3}, l[i]? = some o → ∀ {j : Nat}, j < 3 → (opsV l)[i * 3 + j]? = (opV o)[j]?
  | [], i, o, h, j, hj => by simp at h
  | o0 :: l, 0, o, h, j, hj => by
    have e : opsV (o0 :: l) = opV o0 ++ opsV l := by simp [opsV]
    have h' : o0 = o := by simpa using h
    rw [e, h', Nat.zero_mul, Nat.zero_add, List.getElem?_append_left (by show j < 3; exact hj)]
  | o0 :: l, i + 1, o, h, j, hj => by
    have e : opsV (o0 :: l) = opV o0 ++ opsV l := by simp [opsV]
    have h' : l[i]? = some o := by simpa using h
    rw [e, List.getElem?_append_right (by show 3 ≤ _; omega), ← opsV_get h' hj]
    congr 1
    show (i + 1) * 3 + j - 3 = _
    omega
def ownO (l : List Op3) : List Value := opsV l ++ [.int .i64 91, .int .i64 0, .int .i64 0, .int .i64 92, .int .i64 0, .int .i64 0]
def rowO (LB : Nat → Nat) (ts : List (List Op3)) (n : Nat) : List Value := (List.range n).map fun i => .slice (some ⟨LB i, 0, none⟩) (lenOf ts i) (lenOf ts i + 2)
structure OwnT (B : Nat) (x : World) (ov : Value) (LB : Nat → Nat) (ts : List (List Op3)) (n : Nat) : Prop where
  row : x.ownsRow B 32 1 ov n (rowO LB ts n)
  up : ∀ i, i < n → B ≤ LB i
  ne : ∀ i, i < n → ov.ownBlock ≠ some (LB i)
  inj : ∀ i j, i < n → j < n → LB i = LB j → i = j
  ops : ∀ i l, i < n → ts[i]? = some l → x.heap[LB i]? = some (.cells (ownO l).toArray 34)
end Go.Proofs.Ytimlbbleblijnaa.Co
